/- DiskPrefix: the walk of the law. -/
import Derived.Test.YtmkfbedhmmijjaaPrefixP
import Derived.Test.YtmkfbedhmmijjaaPrefixF
import Derived.Test.YtmkfbedhmmijjaaOpenOne
import Derived.Deep.RegionWith
import Derived.Deep.RegionHeld3
import Derived.Deep.QuietTactic
import Derived.Deep.DeepCutAuto
import Derived.Deep.CutBlock
namespace Go.Proofs.Ytmkfbedhmmijjaa
open Go.RowKit
theorem map_text_set (xs : List (List UInt8)) (k : Nat) (t : List UInt8) : (xs.set k t).map text = (xs.map text).set k (text t) := by rw [List.map_set]
/-- One text of a list is replaced. -/
theorem TextsAt.set {w : World} {base g cap : Nat} {xs : List (List UInt8)} (h : TextsAt w base (.slice (some ⟨g, 0, none⟩) xs.length cap) xs) (k : Nat) (t : List UInt8) :
    TextsAt (w.setCell ⟨g, k, none⟩ (text t)) base (.slice (some ⟨g, 0, none⟩) (xs.set k t).length cap) (xs.set k t) := by
  obtain ⟨hl, h2⟩ := h
  rcases h2 with ⟨hx, _⟩ | ⟨g', cap', cur, hx, hb, hh, h3, h4, h5, h6⟩
  · cases hx
  · simp only [Value.slice.injEq, Option.some.injEq, Addr.mk.injEq, true_and, and_true] at hx
    obtain ⟨rfl, rfl⟩ := hx
    refine ⟨by simp, .inr ⟨g, cap, cur.setIfInBounds k (text t), by simp, hb, (Blk.set_ (show Blk w g 9 cur from hh) k _), by simpa using h3, h4, by simpa using h5, ?_⟩⟩
    rw [map_text_set, ← h6]
    simp [Array.toList_setIfInBounds, List.take_set]
/-- A text that stands there already is written into it, or into another block. -/
theorem TextsAt.still {w : World} {base g k : Nat} {v : Value} {xs : List (List UInt8)} {t : List UInt8} (h : TextsAt w base v xs) (hk : xs[k]? = some t) : TextsAt (w.setCell ⟨g, k, none⟩ (text t)) base v xs := by
  obtain ⟨hl, h2⟩ := h
  refine ⟨hl, ?_⟩
  rcases h2 with h0 | ⟨g', cap', cur, hx, hb, hh, h3, h4, h5, h6⟩
  · exact .inl h0
  · right
    by_cases e : g' = g
    · subst e
      refine ⟨g', cap', cur.setIfInBounds k (text t), hx, hb, (Blk.set_ (show Blk w g' 9 cur from hh) k _), h3, h4, by simpa using h5, ?_⟩
      have h7 : (xs.map text).set k (text t) = xs.map text := by
        rw [← map_text_set]
        congr 1
        obtain ⟨hlt, rfl⟩ := List.getElem?_eq_some_iff.1 hk
        exact List.set_getElem_self hlt
      rw [← h7, ← h6]
      simp [Array.toList_setIfInBounds, List.take_set]
    · exact ⟨g', cap', cur, hx, hb, (Blk.far (show Blk w g' 9 cur from hh) (p := ⟨g, k, none⟩) e _), h3, h4, h5, h6⟩
theorem OwnP.putr {w : World} {B d n g : Nat} {P : Nat → Prop} {D : Dsk} (h : OwnP w B P d n D) (hg : P g) (i : Nat) (u : Value) : OwnP (w.setCell ⟨g, i, none⟩ u) B P d n D := by
  have ho : Only (fun b => b = g) w (w.setCell ⟨g, i, none⟩ u) := (Only.refl (fun b => b = g) w).setCell (fun _ => rfl) _
  exact ⟨h.disk.keep ho (fun b hb e => hb.2 (by subst e; exact hg)), Nat.le_trans h.size ho.size, fun b hb => Nat.lt_of_lt_of_le (h.held b hb) ho.size⟩
/-- contents, and the new texts' block is a new one. -/
theorem ownp_contents_lo (B d n : Nat) (P : Nat → Prop) (D : Dsk) (w : World) (h : OwnP w B P d n D) (hoff : D.off = false) (hbig : D.q.length ≤ 1000000) : Calls Try.prog 21 #[.pointer (some ⟨d, 0, none⟩), .int .i64 (n : Int)] w fun e w' =>
    ∃ v Q, e = .returned (.tuple #[v, .bool true]) ∧ TextsAt w' 0 v (D.all n) ∧ (∀ k, v.ownBlock = some k → Q k) ∧ (∀ k, v.ownBlock = some k → B ≤ k) ∧ (∀ k, P k → Q k) ∧ OwnP w' B Q d n D ∧ Below w.heap.size w w' :=
  (contents_on _ d n D w h.disk hoff hbig).mono fun _ w' ⟨v, he, hT, hb⟩ => ⟨v, (fun b => P b ∨ (w.heap.size ≤ b ∧ b < w'.heap.size)), he, (by
    refine ⟨hT.1, ?_⟩
    rcases hT.2 with h2 | ⟨g, cap, cur, e, hg, r⟩
    · exact .inl h2
    · exact .inr ⟨g, cap, cur, e, Nat.zero_le _, r⟩), (fun k hk => .inr (World.ownsRow.lt hT k hk)), (fun k hk => Nat.le_trans h.size (World.ownsRow.lt hT k hk).1), (fun k hk => .inl hk), h.hold hb, hb⟩
theorem TextsAt.soft {w : World} {base g cap m : Nat} {xs : List (List UInt8)} (h : TextsAt w base (.slice (some ⟨g, 0, none⟩) m cap) xs) (i : Nat) : w.frozen? ⟨g, i, none⟩ = false := by
  obtain ⟨hl, h2⟩ := h
  rcases h2 with ⟨hx, _⟩ | ⟨g', cap', cur, hx, hb, hh, _⟩
  · cases hx
  · simp only [Value.slice.injEq, Option.some.injEq, Addr.mk.injEq, and_true] at hx
    obtain ⟨rfl, _, rfl⟩ := hx
    exact (show Blk w g 9 cur from hh).frozen i
theorem TextsAt.at_ {w : World} {base g cap m k : Nat} {xs : List (List UInt8)} {t : List UInt8} (h : TextsAt w base (.slice (some ⟨g, 0, none⟩) m cap) xs) (hm : xs.length = m) (hk : xs[k]? = some t) : w.cell? ⟨g, k, none⟩ = some (text t) := by
  subst hm
  obtain ⟨hlt, rfl⟩ := List.getElem?_eq_some_iff.1 hk
  exact h.cell hlt
theorem TextsAt.put_ {w : World} {base g cap m : Nat} {xs : List (List UInt8)} (h : TextsAt w base (.slice (some ⟨g, 0, none⟩) m cap) xs) (hm : xs.length = m) (k : Nat) (t : List UInt8) : TextsAt (w.setCell ⟨g, k, none⟩ (text t)) base (.slice (some ⟨g, 0, none⟩) m cap) (xs.set k t) := by
  subst hm
  have := h.set k t
  rw [List.length_set] at this
  exact this
theorem run_tail (s : ByteArray) (k : Nat) (hk : k ≤ s.size) (w : World) : (Instr.slice 9 (.string s) (some (.int .i64 (k : Int))) none none).run Try.prog w = .ok (.string (s.extract k s.size)) w := by
  simp [Instr.slice, run_underlying Try.underlying9, Instr.sliceBounds, Instr.sliceBound, asIntOf, hk]
theorem extract_tail (l : List UInt8) (k : Nat) : ((⟨l.toArray⟩ : ByteArray).extract k (⟨l.toArray⟩ : ByteArray).size).data.toList = l.drop k := by
  rw [Lib.extract_data]
  simp only [ByteArray.size, List.size_toArray]
  exact List.take_of_length_le (by rw [List.length_drop]; exact Nat.le_refl _)
set_option maxRecDepth 100000 in
set_option maxHeartbeats 20000000 in
theorem prefix_walk (r fi tn : Nat) (A A' : Option Addr) (c c' : Nat) (l l' : List AAct) (w : World) (hr : r < 256) (hfi : fi < 256) (hto : tn < 256) (h1 : ActsAt w A l) (h2 : ActsAt w A' l') (m1 : l.length ≤ 9223372036854775807) (m2 : l'.length ≤ 9223372036854775807)
    (k1 : ∀ a ∈ l, a.Ok) (k2 : ∀ a ∈ l', a.Ok) (o1 : okB l = true) (o2 : okB l' = true) :
    Calls Try.prog 5 #[.int .u8 (r : Int), .slice A l.length c, .slice A' l'.length c', .int .u8 (fi : Int), .int .u8 (tn : Int)] w fun e w' => e = .returned (.bool true) ∧ Below w.heap.size w w' := by
  have PF := Lib.hid (fun n m W (hn1 : 1 ≤ n) (hn12 : n ≤ 12) (hm : m ≤ 60) (hW : Below w.heap.size w W) => prefix_fn n A A' c c' l l' m W (h1.below hW rfl) (h2.below hW rfl) m2 k1 k2 o1 o2 hn1 hn12 hm)
  have H2 := Lib.hid h2
  have O2 := Lib.hid o2
  have K2 := Lib.hid k2
  have hl60' := (ok_spec o2).1
  obtain ⟨L', hL'⟩ : ∃ L, L = l'.length := ⟨_, rfl⟩
  have OK2 := Lib.hid (fun W (h : ActsAt W A' l') => ok_any A' c' l' W h m2)
  rw [← hL'] at m2 hl60' ⊢
  rw [o2, ← hL'] at OK2
  have HL' := Lib.hid hL'
  clear h2 o2 k2 hL'
  have H1 := Lib.hid h1
  have O1 := Lib.hid o1
  have K1 := Lib.hid k1
  have hl60 := (ok_spec o1).1
  obtain ⟨L, hL⟩ : ∃ L, L = l.length := ⟨_, rfl⟩
  rw [← hL] at PF
  have OK1 := Lib.hid (fun W (h : ActsAt W A l) => ok_any A c l W h m1)
  rw [← hL] at m1 hl60 ⊢
  rw [o1, ← hL] at OK1
  have HL := Lib.hid hL
  obtain ⟨n, hn⟩ : ∃ n, n = 1 + r % 12 := ⟨_, rfl⟩
  have SZ := Lib.hid (fun W => size_any r W hr)
  rw [← hn] at SZ
  have hn1 : 1 ≤ n := by omega
  have hn12 : n ≤ 12 := by omega
  have HN := Lib.hid hn
  have HB := Lib.hid (Below.refl w.heap.size w)
  clear h1 o1 k1 hL hn
  rw [← HL'.out] at PF
  obtain ⟨m, hm⟩ : ∃ m, m = fi % 61 := ⟨_, rfl⟩
  obtain ⟨t, ht⟩ : ∃ t, t = tn % 33 := ⟨_, rfl⟩
  have hm60 : m ≤ 60 := by omega
  have ht32 : t ≤ 32 := by omega
  have HM := Lib.hid hm
  have HT := Lib.hid ht
  clear hm ht
  go_enter Try.func5, Try.ntmps5
  go_wp2_with fail
  refine (head_any _).mono ?_
  rintro e w1 ⟨rfl, hb⟩
  have hB : Below w.heap.size w w1 := hb
  have HB1 := Lib.hid hB
  clear hb hB HB
  go_wp2_with fail
  refine (OK1.out _ (H1.out.below HB1.out rfl)).mono ?_
  rintro e _ ⟨rfl, rfl⟩
  go_wp2_with fail
  refine (OK2.out _ (H2.out.below HB1.out rfl)).mono ?_
  rintro e _ ⟨rfl, rfl⟩
  go_wp2_with fail
  refine (SZ.out _).mono ?_
  rintro e _ ⟨rfl, rfl⟩
  go_wp2_with fail
  rw [show ((fi : Int) % 61) = (m : Int) from by have := HM.out; omega, show ((tn : Int) % 33) = (t : Int) from by have := HT.out; omega]
  clear HM HT hfi hto
  go_wp2_with fail
  refine (own_new w.heap.size n _ HB1.out.size hn1 (by omega)).mono ?_
  rintro e w2 ⟨d, rfl, hO, hb⟩
  have hB : Below w.heap.size w w2 := HB1.out.trans (hb.mono HB1.out.size)
  have HB2 := Lib.hid hB
  have HO2 := Lib.hid hO
  clear hb hB hO
  go_wp2_with fail
  go_loopw [16] (fun i wr => ∃ k : Nat, k ≤ L ∧ i = .int .i64 (k : Int) ∧ Hid (Own wr w.heap.size d n ((Dsk.new n).run (l.take k))) ∧ Hid (Below w.heap.size w wr)) (fun i _ => L - (intOf i).toNat)
  case atStart => exact ⟨0, Nat.zero_le _, rfl, HO2.out, HB2.out⟩
  case round =>
    obtain ⟨k, hk, rfl, HO, HB⟩ := hrel
    by_cases hlt : k < L
    · have hkl : k < l.length := by rw [← HL.out]; exact hlt
      obtain ⟨b, off, hA, hb, hE⟩ := H1.out.elem hkl
      obtain ⟨a, ha⟩ : ∃ a, a = l[k] := ⟨_, rfl⟩
      rw [← ha] at hE
      have HEL := Lib.hid (fun W (hW : Below w.heap.size w W) => hE.below hW hb)
      have hao : a.Ok := by rw [ha]; exact K1.out _ (List.getElem_mem hkl)
      have hat : a.txt.size ≤ 100 := by rw [ha]; exact (ok_spec O1.out).2 _ (List.getElem_mem hkl)
      have hq := run_take_q n k l (by omega)
      have hnx : ((Dsk.new n).run (l.take (k + 1))) = (((Dsk.new n).run (l.take k)).act a).1 := by rw [List.take_succ_eq_append_getElem hkl, run_snoc, ← ha]
      have HAO := Lib.hid hao
      have HAT := Lib.hid hat
      have HQ := Lib.hid hq
      have HNX := Lib.hid hnx
      subst hA
      clear hao hat hq hnx ha hE hb
      obtain ⟨e0, e1, e2, e3, e4, e5⟩ := HEL.out wr HB.out
      go_wp2_with fail
      refine (own_do w.heap.size d n _ _ HO.out a (by have := HQ.out; omega) HAO.out HAT.out).mono ?_
      rintro e w3 ⟨rfl, hO3, hb3⟩
      rw [← HNX.out] at hO3
      have HO3 := Lib.hid hO3
      have HB3 := Lib.hid (HB.out.trans hb3)
      clear hO3 hb3 e0 e1 e2 e3 e4 e5
      go_wp2
      go_roundw
      case rel => exact ⟨k + 1, by omega, by go_num, HO3.out, HB3.out⟩
      case measure => simp [intOf]; omega
    · have hkL : l.take k = l := List.take_of_length_le (by rw [← HL.out]; omega)
      rw [hkL] at HO
      have hq60 : ((Dsk.new n).run l).q.length ≤ 60 := by have := run_q l (Dsk.new n); have := HL.out; simp [Dsk.new] at *; omega
      obtain ⟨D1, hD1⟩ : ∃ D1, D1 = ((Dsk.new n).run l) := ⟨_, rfl⟩
      rw [← hD1] at HO hq60
      have HD1 := Lib.hid hD1
      clear hD1 hkL HO2 HB2 HB1
      have HQ60 := Lib.hid hq60
      clear hq60
      go_wp2_with fail
      refine (own_start w.heap.size d n D1 _ HO.out).mono ?_
      rintro e w20 ⟨rfl, hO, hb⟩
      have hB := HB.out.trans hb
      clear HO HB hb
      have HO := Lib.hid hO
      have HB := Lib.hid hB
      clear hO hB
      go_wp2_with fail
      refine (own_sync w.heap.size d n D1.start _ HO.out (by have := HQ60.out; show D1.q.length ≤ 1000000; omega)).mono ?_
      rintro e w21 ⟨rfl, hO, hb⟩
      have hB := HB.out.trans hb
      clear HO HB hb
      have HO := Lib.hid hO
      have HB := Lib.hid hB
      clear hO hB
      have hc2 := calm_sync_calm (start_calm D1)
      obtain ⟨D2, hD2⟩ : ∃ D2, D2 = D1.start.sync.1 := ⟨_, rfl⟩
      have hok2 : D2.Ok n := by rw [hD2]; exact HO.out.ok
      rw [← hD2] at HO hc2
      have HC2 := Lib.hid hc2
      have HOK2 := Lib.hid hok2
      have HD2 := Lib.hid hD2
      clear hD2 hc2 hok2 HQ60
      go_wp2_with fail
      have hblk := Blk.new w21 34 (AAct.cells ⟨0, -1, 0, ⟨#[]⟩, false, 0⟩)
      have hO := HO.out.p.hold ((Below.refl _ _).alloc (Nat.le_refl _) (.cells (AAct.cells ⟨0, -1, 0, ⟨#[]⟩, false, 0⟩) 34))
      have hB := HB.out.alloc HB.out.size (.cells (AAct.cells ⟨0, -1, 0, ⟨#[]⟩, false, 0⟩) 34)
      obtain ⟨P, hP⟩ : ∃ P : Nat → Prop, P = fun b => False ∨ (w21.heap.size ≤ b ∧ b < (w21.alloc (.cells (AAct.cells ⟨0, -1, 0, ⟨#[]⟩, false, 0⟩) 34)).heap.size) := ⟨_, rfl⟩
      obtain ⟨g, hg⟩ : ∃ g, g = w21.heap.size := ⟨_, rfl⟩
      rw [← hP] at hO
      rw [← hg] at hblk
      have hPG : P g := by rw [hP, hg]; exact .inr ⟨Nat.le_refl _, by simp⟩
      have hglo : w.heap.size ≤ g := by rw [hg]; exact HB.out.size
      have HG := Lib.hid hg
      clear HO HB hP hg
      have HO := Lib.hid hO
      have HB := Lib.hid hB
      have HPG := Lib.hid hPG
      have HBK := Lib.hid hblk
      have HGLO := Lib.hid hglo
      clear hO hB hPG hblk hglo
      rw [← HG.out]
      have hst0 : { D2 with q := oks n (l'.take 0) } = D2 := by rw [show oks n (l'.take 0) = D2.q from HC2.out.2.symm]
      have HST0 := Lib.hid hst0
      clear hst0
      go_loopw [17, 19] (fun dn i wr => ∃ (k q : Nat) (x : AAct), k ≤ L' ∧ i = .int .i64 (k : Int) ∧ dn = .int .i64 (q : Int) ∧ q ≤ 60 ∧ Hid (q = (oks n (l'.take k)).length) ∧ Hid (NextIs m (oks n (l'.take k)) x) ∧ Hid (Blk wr g 34 x.cells) ∧ Hid (OwnP wr w.heap.size P d n { D2 with q := oks n (l'.take k) }) ∧ Hid (Below w.heap.size w wr)) (fun _ i _ => L' - (intOf i).toNat)
      case atStart => exact ⟨0, 0, _, Nat.zero_le _, rfl, rfl, Nat.zero_le _, rfl, next_start m, HBK.out, by rw [HST0.out]; exact HO.out, HB.out⟩
      case round =>
        clear HO HB HST0 HBK
        obtain ⟨k, q, x, hk, rfl, rfl, hq60, HQL, HNX, HBK, HR, HB⟩ := hrel
        by_cases hlt : k < L'
        · have _ := hlt
          have hkl : k < l'.length := by rw [← HL'.out]; exact hlt
          obtain ⟨b, off, hA, hb, hE⟩ := H2.out.elem hkl
          obtain ⟨a, ha⟩ : ∃ a, a = l'[k] := ⟨_, rfl⟩
          rw [← ha] at hE
          have HEL := Lib.hid (fun W (hW : Below w.heap.size w W) => hE.below hW hb)
          have hao : a.Ok := by rw [ha]; exact K2.out _ (List.getElem_mem hkl)
          have hat : a.txt.size ≤ 100 := by rw [ha]; exact (ok_spec O2.out).2 _ (List.getElem_mem hkl)
          have hsn : oks n (l'.take (k + 1)) = if okW n a = true then oks n (l'.take k) ++ [(a.sector.toNat, a.text)] else oks n (l'.take k) := by
            rw [List.take_succ_eq_append_getElem hkl, oks_snoc, ← ha]
          obtain ⟨Q3, hQ3⟩ : ∃ Q, Q = oks n (l'.take k) := ⟨_, rfl⟩
          obtain ⟨Q4, hQ4⟩ : ∃ Q, Q = oks n (l'.take (k + 1)) := ⟨_, rfl⟩
          have hq3 : Q3.length ≤ 60 := by
            have h5 := oks_length n (l'.take k)
            rw [← hQ3, List.length_take] at h5
            omega
          rw [← hQ3, ← hQ4] at hsn
          rw [← hQ3] at HR
          have hst : D2.st.length = n := HOK2.out.stl
          obtain ⟨T, hT⟩ : ∃ T, T = a.text := ⟨_, rfl⟩
          obtain ⟨E, hEE⟩ : ∃ E, E = okW n a := ⟨_, rfl⟩
          have hok : E = true → 0 ≤ a.sector ∧ a.sector < (n : Int) ∧ T.length = 64 := fun h => by rw [hT]; rw [hEE] at h; exact of_decide_eq_true h
          have hwr : Dsk.write { D2 with q := Q3 } a.sector T = ({ D2 with q := Q4 }, if E = true then 0 else 1) := by
            have hc3 : Dsk.Calm { D2 with q := Q3 } := ⟨HC2.out.1.on, HC2.out.1.un⟩
            rw [calm_write hc3, hsn, ← hEE, ← hT]
            show (if 0 ≤ a.sector ∧ a.sector < (D2.st.length : Int) ∧ T.length = 64 then _ else _) = _
            rw [hst]
            by_cases h : E = true
            · rw [if_pos (hok h), if_pos h, if_pos h]
            · rw [if_neg h, if_neg h, if_neg (fun h2 => h (by rw [hEE]; rw [hT] at h2; exact decide_eq_true h2))]
          obtain ⟨X, hX⟩ : ∃ X : Int, X = if E = true then 0 else 1 := ⟨_, rfl⟩
          have hXE : (X == 0) = E := by rw [hX]; cases E <;> rfl
          rw [← hX] at hwr
          have TX := Lib.hid (fun W => act_text a W hat)
          rw [← hT] at TX
          unfold text at TX
          have WX := Lib.hid (fun W {P} (hP : OwnP W w.heap.size P d n { D2 with q := Q3 }) => by
            have := ownp_write w.heap.size P d n { D2 with q := Q3 } W hP a.sector ⟨T.toArray⟩ (show Q3.length < 1000000 by omega) hao.s
            rw [show (⟨T.toArray⟩ : ByteArray).data.toList = T from by simp, hwr] at this
            exact this)
          have HSN := Lib.hid hsn
          have HEE := Lib.hid hEE
          have HTT := Lib.hid hT
          have HXE := Lib.hid hXE
          have HOKE := Lib.hid hok
          have HQ3 := Lib.hid hQ3
          have HQ4 := Lib.hid hQ4
          have HQ3L := Lib.hid hq3
          have HAO := Lib.hid hao
          have HAT := Lib.hid hat
          subst hA
          clear hao hat ha hE hb hT hst hwr hX hXE hok hsn hQ3 hQ4 hEE hq3 hkl
          obtain ⟨kd, sc, bt, tx, od, aft⟩ := a
          simp only at HOKE HSN WX
          unfold AAct.cells at TX
          simp only at TX WX
          obtain ⟨e0, e1, e2, e3, e4, e5⟩ := HEL.out _ HB.out
          simp only at e0 e1 e2 e3 e4 e5
          go_upto_region 19 with (fail)
          go_cut [79] (fun v wx => v = .bool E ∧ OwnP wx w.heap.size P d n { D2 with q := Q4 } ∧ Turned w.heap.size P wr wx)
          case first =>
            go_region_held3 (fun w' => w'.cell? ⟨b, off + k * 6, none⟩ = some (.int .i64 kd) ∧ w'.cell? ⟨b, off + k * 6 + 1, none⟩ = some (.int .i64 sc) ∧ w'.cell? ⟨b, off + k * 6 + 2, none⟩ = some (.int .i64 bt) ∧ w'.cell? ⟨b, off + k * 6 + 3, none⟩ = some (.string tx) ∧ w'.cell? ⟨b, off + k * 6 + 4, none⟩ = some (.bool od) ∧ w'.cell? ⟨b, off + k * 6 + 5, none⟩ = some (.int .i64 aft)) (first | exact ⟨e0, e1, e2, e3, e4, e5⟩ | exact ⟨i0, i1, i2, i3, i4, i5⟩ | exact ⟨j0, j1, j2, j3, j4, j5⟩)
              (first
              | (go_at_call 23; refine (TX.out _).mono ?_; rintro e w6 ⟨rfl, hb6⟩; have hO6 := (HR.out.drew).below hb6; have hU6 : Turned w.heap.size P wr w6 := (Turned.of_below (Below.refl _ _).drew).next (Turned.of_below hb6); have hB6 := (HB.out.drew).trans (hb6.mono (HB.out.drew).size); obtain ⟨i0, i1, i2, i3, i4, i5⟩ := HEL.out w6 hB6; simp only at i0 i1 i2 i3 i4 i5; have HO6 := Lib.hid hO6; have HU6 := Lib.hid hU6; have HB6 := Lib.hid hB6; clear hO6 hU6 hB6 hb6)
              | (go_at_call 22; refine (WX.out _ HO6.out).mono ?_; rintro e w7 ⟨rfl, hO7, hT7⟩; have hU7 := HU6.out.next hT7; have hB7 := HB6.out.trans (hT7.below HB6.out.size); obtain ⟨j0, j1, j2, j3, j4, j5⟩ := HEL.out w7 hB7; simp only at j0 j1 j2 j3 j4 j5; have HO7 := Lib.hid hO7; have HU7 := Lib.hid hU7; clear hO7 hU7 hT7 hB7))
            all_goals
              go_wp2_with fail
              go_meet
              case rel => exact ⟨by rw [HXE.out], HO7.out, HU7.out⟩
          case rest =>
            obtain ⟨rfl, hO, hT⟩ := hcut
            have hB := HB.out.trans (hT.below HB.out.size)
            have hbk := hT.blk HBK.out HPG.out
            have hq61 : (oks n (l'.take (k + 1))).length ≤ 60 := by
              have h5 := oks_length n (l'.take (k + 1))
              rw [List.length_take] at h5
              omega
            clear HR HB HBK WX e0 e1 e2 e3 e4 e5 hT
            have HR := Lib.hid hO
            have HB := Lib.hid hB
            have HBK := Lib.hid hbk
            clear hO hB hbk
            cases E with
            | true =>
              have hq4 : q + 1 = (oks n (l'.take (k + 1))).length := by
                rw [← HQ4.out, HSN.out, if_pos HEE.out.symm, List.length_append, HQ3.out, HQL.out]
                rfl
              have HQ5 := Lib.hid hq4
              have hq62 : q + 1 ≤ 60 := by omega
              clear hq4 hq61
              rw [HQ4.out] at HR
              by_cases hqm : q = m
              · have b1 : ((q : Int) == (m : Int)) = true := by simp; omega
                obtain ⟨e0, e1, e2, e3, e4, e5⟩ := HEL.out _ HB.out
                simp only at e0 e1 e2 e3 e4 e5
                have g0 : wc.cell? ⟨g, 0, none⟩ = some (.int .i64 x.kind) := HBK.out.cell 0
                have z0 : wc.frozen? ⟨g, 0, none⟩ = false := HBK.out.frozen 0
                have g1 : wc.cell? ⟨g, 1, none⟩ = some (.int .i64 x.sector) := HBK.out.cell 1
                have z1 : wc.frozen? ⟨g, 1, none⟩ = false := HBK.out.frozen 1
                have g2 : wc.cell? ⟨g, 2, none⟩ = some (.int .i64 x.bytes) := HBK.out.cell 2
                have z2 : wc.frozen? ⟨g, 2, none⟩ = false := HBK.out.frozen 2
                have g3 : wc.cell? ⟨g, 3, none⟩ = some (.string x.txt) := HBK.out.cell 3
                have z3 : wc.frozen? ⟨g, 3, none⟩ = false := HBK.out.frozen 3
                have g4 : wc.cell? ⟨g, 4, none⟩ = some (.bool x.odd) := HBK.out.cell 4
                have z4 : wc.frozen? ⟨g, 4, none⟩ = false := HBK.out.frozen 4
                have g5 : wc.cell? ⟨g, 5, none⟩ = some (.int .i64 x.after) := HBK.out.cell 5
                have z5 : wc.frozen? ⟨g, 5, none⟩ = false := HBK.out.frozen 5
                have hfin : Blk ((((((wc.setCell ⟨g, 0, none⟩ (.int .i64 kd)).setCell ⟨g, 1, none⟩ (.int .i64 sc)).setCell ⟨g, 2, none⟩ (.int .i64 bt)).setCell ⟨g, 3, none⟩ (.string tx)).setCell ⟨g, 4, none⟩ (.bool od)).setCell ⟨g, 5, none⟩ (.int .i64 aft)) g 34 (AAct.cells ⟨kd, sc, bt, tx, od, aft⟩) ∧ OwnP ((((((wc.setCell ⟨g, 0, none⟩ (.int .i64 kd)).setCell ⟨g, 1, none⟩ (.int .i64 sc)).setCell ⟨g, 2, none⟩ (.int .i64 bt)).setCell ⟨g, 3, none⟩ (.string tx)).setCell ⟨g, 4, none⟩ (.bool od)).setCell ⟨g, 5, none⟩ (.int .i64 aft)) w.heap.size P d n { D2 with q := oks n (l'.take (k + 1)) } ∧ Below w.heap.size w ((((((wc.setCell ⟨g, 0, none⟩ (.int .i64 kd)).setCell ⟨g, 1, none⟩ (.int .i64 sc)).setCell ⟨g, 2, none⟩ (.int .i64 bt)).setCell ⟨g, 3, none⟩ (.string tx)).setCell ⟨g, 4, none⟩ (.bool od)).setCell ⟨g, 5, none⟩ (.int .i64 aft)) :=
                  ⟨((((((HBK.out.set_ 0 (.int .i64 kd)).set_ 1 (.int .i64 sc)).set_ 2 (.int .i64 bt)).set_ 3 (.string tx)).set_ 4 (.bool od)).set_ 5 (.int .i64 aft)), ((((((HR.out.putr HPG.out 0 (.int .i64 kd)).putr HPG.out 1 (.int .i64 sc)).putr HPG.out 2 (.int .i64 bt)).putr HPG.out 3 (.string tx)).putr HPG.out 4 (.bool od)).putr HPG.out 5 (.int .i64 aft)), ((((((HB.out.setCell (p := ⟨g, 0, none⟩) HGLO.out (.int .i64 kd)).setCell (p := ⟨g, 1, none⟩) HGLO.out (.int .i64 sc)).setCell (p := ⟨g, 2, none⟩) HGLO.out (.int .i64 bt)).setCell (p := ⟨g, 3, none⟩) HGLO.out (.string tx)).setCell (p := ⟨g, 4, none⟩) HGLO.out (.bool od)).setCell (p := ⟨g, 5, none⟩) HGLO.out (.int .i64 aft))⟩
                have hnx : NextIs m (oks n (l'.take (k + 1))) ⟨kd, sc, bt, tx, od, aft⟩ := by
                  rw [← HQ4.out, HSN.out, if_pos HEE.out.symm]
                  exact next_put _ HAO.out HAT.out (HOKE.out rfl).1 (by rw [HQ3.out, ← HQL.out]; exact hqm)
                have HNX2 := Lib.hid hnx
                have HFIN := Lib.hid hfin
                clear hnx hfin
                go_wp2
                go_roundw
                case rel => exact ⟨k + 1, q + 1, ⟨kd, sc, bt, tx, od, aft⟩, by omega, by go_num, by go_num, hq62, HQ5.out, HNX2.out, HFIN.out⟩
                case measure => simp [intOf]; omega
              · have b1 : ((q : Int) == (m : Int)) = false := by simp; omega
                have hnx : NextIs m (oks n (l'.take (k + 1))) x := by
                  rw [← HQ4.out, HSN.out, if_pos HEE.out.symm]
                  have h1 := HNX.out
                  rw [← HQ3.out] at h1
                  exact next_same h1 _ (by rw [HQ3.out, ← HQL.out]; exact hqm)
                have HNX2 := Lib.hid hnx
                clear hnx
                go_wp2
                go_roundw
                case rel => exact ⟨k + 1, q + 1, x, by omega, by go_num, by go_num, hq62, HQ5.out, HNX2.out, HBK.out, HR.out, HB.out⟩
                case measure => simp [intOf]; omega
            | false =>
              have hqe : oks n (l'.take (k + 1)) = oks n (l'.take k) := by
                rw [← HQ4.out, HSN.out, if_neg (by rw [← HEE.out]; simp), HQ3.out]
              have hq4 : q = (oks n (l'.take (k + 1))).length := by rw [hqe]; exact HQL.out
              have hnx : NextIs m (oks n (l'.take (k + 1))) x := by rw [hqe]; exact HNX.out
              have HQ5 := Lib.hid hq4
              have HNX2 := Lib.hid hnx
              clear hq4 hqe hnx hq61
              rw [HQ4.out] at HR
              go_wp2
              go_roundw
              case rel => exact ⟨k + 1, q, x, by omega, by go_num, rfl, hq60, HQ5.out, HNX2.out, HBK.out, HR.out, HB.out⟩
              case measure => simp [intOf]; omega
        · have _ := hlt
          have hke : l'.take k = l' := List.take_of_length_le (by rw [← HL'.out]; omega)
          rw [hke] at HR HNX
          obtain ⟨Q, hQ⟩ : ∃ Q, Q = oks n l' := ⟨_, rfl⟩
          rw [← hQ] at HR HNX
          have hq64 : ∀ p ∈ Q, p.1 < n ∧ p.2.length = 64 := by rw [hQ]; exact oks_64 n l'
          have hql : Q.length ≤ 60 := by
            have h5 := oks_length n l'
            have h6 := HL'.out
            rw [← hQ] at h5
            omega
          have HQQ := Lib.hid hQ
          have HQ64 := Lib.hid hq64
          clear hke hQ hq64 HQL hq60
          go_wp2_with fail
          refine (ownp_fail w.heap.size P d n { D2 with q := Q } _ HR.out m t (by show Q.length ≤ 1000000; omega) (by unfold In64; omega) (by unfold In64; omega)).mono ?_
          rintro e w30 ⟨rfl, hO, hT⟩
          have hB := HB.out.trans (hT.below HB.out.size)
          have hbk := hT.blk HBK.out HPG.out
          clear HR HB HBK hT
          have HO := Lib.hid hO
          have HB := Lib.hid hB
          have HBK := Lib.hid hbk
          clear hO hB hbk
          go_wp2_with fail
          refine (ownp_start w.heap.size P d n _ _ HO.out).mono ?_
          rintro e w31 ⟨rfl, hO, hT⟩
          have hB := HB.out.trans (hT.below HB.out.size)
          have hbk := hT.blk HBK.out HPG.out
          clear HO HB HBK hT
          have HO := Lib.hid hO
          have HB := Lib.hid hB
          have HBK := Lib.hid hbk
          clear hO hB hbk
          go_wp2_with fail
          refine (ownp_contents w.heap.size P d n _ _ HO.out rfl (by have := back_q { D2 with q := Q } m t HC2.out.1.on; show (Dsk.back { D2 with q := Q } m t).q.length ≤ 1000000; rw [this]; simp)).mono ?_
          rintro e w32 ⟨v1, Q1, rfl, hV, _, _, _, hb⟩
          have hV1 : TextsAt w32 0 v1 ((Dsk.back { D2 with q := Q } m t).all n) := hV
          have hB := HB.out.trans (hb.mono HB.out.size)
          have hbk := HBK.out.below hb HBK.out.lt
          clear HO HB HBK hV hb
          have HV1 := Lib.hid hV1
          have HB := Lib.hid hB
          have HBK := Lib.hid hbk
          clear hB hbk hV1
          go_wp2_with fail
          refine (PF.out n m w32 hn1 hn12 hm60 HB.out).mono ?_
          rintro e w33 ⟨v2, rfl, hV, hb⟩
          rw [← HD1.out, ← HD2.out, ← HQQ.out] at hV
          have hV1 := HV1.out.below hb rfl
          have hB := HB.out.trans (hb.mono HB.out.size)
          have hbk := HBK.out.below hb HBK.out.lt
          have hlo : ∀ j, v2.ownBlock = some j → w.heap.size ≤ j := fun j hj => Nat.le_trans HB.out.size (hV.lt j hj).1
          have hV2 : TextsAt w33 0 v2 (Dsk.all { D2 with q := Q.take m } n) := by
            refine ⟨hV.1, ?_⟩
            rcases hV.2 with h2 | ⟨g, cap, cur, e, hg, r⟩
            · exact .inl h2
            · exact .inr ⟨g, cap, cur, e, Nat.zero_le _, r⟩
          clear HV1 HB HBK hV hb PF
          have HLO := Lib.hid hlo
          have HV1 := Lib.hid hV1
          have HV2 := Lib.hid hV2
          have HB := Lib.hid hB
          have HBK := Lib.hid hbk
          clear hB hbk hV1 hV2 hlo
          have g0 : w33.cell? ⟨g, 0, none⟩ = some (.int .i64 x.kind) := HBK.out.cell 0
          have g1 : w33.cell? ⟨g, 1, none⟩ = some (.int .i64 x.sector) := HBK.out.cell 1
          have g2 : w33.cell? ⟨g, 2, none⟩ = some (.int .i64 x.bytes) := HBK.out.cell 2
          have g3 : w33.cell? ⟨g, 3, none⟩ = some (.string x.txt) := HBK.out.cell 3
          have g4 : w33.cell? ⟨g, 4, none⟩ = some (.bool x.odd) := HBK.out.cell 4
          have g5 : w33.cell? ⟨g, 5, none⟩ = some (.int .i64 x.after) := HBK.out.cell 5
          obtain ⟨o, ho⟩ : ∃ o, o = Q[m]? := ⟨_, rfl⟩
          have his := HNX.out.is
          rw [← ho] at his
          have HOO := Lib.hid ho
          clear ho
          cases o with
          | none =>
            have hx1 : x.sector = -1 := his
            rw [hx1] at g1
            have hlaw := prefix_none HOK2.out HC2.out.1 HQ64.out m t (List.getElem?_eq_none_iff.1 HOO.out.symm)
            have HLAW := Lib.hid hlaw
            clear hlaw his hx1
            have b1 : ((-1 : Int) < (n : Int)) := by omega
            go_wp2_with fail
            refine (same_any 0 v1 v2 _ _ _ HV1.out HV2.out (by simp [Dsk.all]; omega)).mono ?_
            rintro e w34 ⟨rfl, hb⟩
            rw [decide_eq_true HLAW.out]
            have hB := HB.out.trans (hb.mono HB.out.size)
            clear HB hb HV1 HV2 HBK g0 g1 g2 g3 g4 g5
            have HB := Lib.hid hB
            clear hB
            go_wp2
            go_ret
            exact ⟨rfl, HB.out⟩
          | some p =>
            obtain ⟨s, T⟩ := p
            have hx1 : x.sector = (s : Int) ∧ x.text = T := his
            have hp := HQ64.out (s, T) (List.mem_of_getElem? HOO.out.symm)
            have hsn : s < n := hp.1
            have hlaw := prefix_some HOK2.out HC2.out.1 HQ64.out m t (by omega) (s, T) HOO.out.symm
            simp only at hlaw
            have TX := Lib.hid (fun W => act_text x W HNX.out.size)
            rw [hx1.2] at TX
            obtain ⟨Y, hY⟩ : ∃ Y, Y = Dsk.rd { D2 with q := Q.take m } s := ⟨_, rfl⟩
            obtain ⟨ys, hys⟩ : ∃ ys, ys = Dsk.all { D2 with q := Q.take m } n := ⟨_, rfl⟩
            have hyl : ys.length = n := by rw [hys]; simp [Dsk.all]
            have hyg : ys[s]? = some Y := by rw [hys, hY, all_get, if_pos hsn]
            have hok3 : Dsk.Ok n { D2 with q := Q.take m } := ⟨HOK2.out.lo, HOK2.out.hi, HOK2.out.stl, HOK2.out.ell, HOK2.out.st64, HOK2.out.el64, (fun p hp => HQ64.out p (List.mem_of_mem_take hp)), HOK2.out.arm⟩
            have hY64 : Y.length = 64 := by rw [hY]; exact hok3.rd64 hsn
            rw [← hY, ← hys] at hlaw
            have hv2 := HV2.out
            rw [← hys] at hv2
            obtain ⟨A2, c2, hv2e, hv2f⟩ := hv2.form
            rw [hyl] at hv2e hv2f
            obtain ⟨gt, hA2, _⟩ := hv2f (by omega)
            rw [hA2] at hv2e
            subst hv2e
            rw [hx1.1] at g1
            obtain ⟨XT, hXT⟩ : ∃ X : ByteArray, X = ⟨T.toArray⟩ := ⟨_, rfl⟩
            obtain ⟨YT, hYT⟩ : ∃ X : ByteArray, X = ⟨Y.toArray⟩ := ⟨_, rfl⟩
            have hXs : XT.size = 64 := by rw [hXT]; show T.toArray.size = 64; simpa using hp.2
            have hYs : YT.size = 64 := by rw [hYT]; show Y.toArray.size = 64; simpa using hY64
            obtain ⟨XA, hXA⟩ : ∃ X, X = XT.extract 0 t := ⟨_, rfl⟩
            obtain ⟨YA, hYA⟩ : ∃ X, X = YT.extract t YT.size := ⟨_, rfl⟩
            have sl1 := run_head XT t (by omega)
            have sl2 := run_tail YT t (by omega)
            have hXAs : XA.size ≤ 64 := by rw [hXA, ByteArray.size_extract]; omega
            have hYAs : YA.size ≤ 64 := by rw [hYA, ByteArray.size_extract]; omega
            rw [← hXA] at sl1
            rw [← hYA] at sl2
            have hput : Value.string (XA ++ YA) = text (T.take t ++ Y.drop t) := by
              refine text_of _ _ ?_
              rw [ByteArray.data_append, Array.toList_append, hXA, hYA, hXT, hYT, extract_list, extract_tail]
            have hTX : text T = .string XT := by rw [hXT]; rfl
            have hTY : text Y = .string YT := by rw [hYT]; rfl
            rw [hTX] at TX
            have HPUT := Lib.hid hput
            have HLAW := Lib.hid hlaw
            have HTY := Lib.hid hTY
            have HV2' := Lib.hid hv2
            have HYL := Lib.hid hyl
            have HYG := Lib.hid hyg
            have HLO2 := Lib.hid (HLO.out gt rfl)
            have HGG := Lib.hid (show g ≠ gt from fun e => by
              subst e
              have := own_blk_ne hv2 HBK.out (by decide)
              exact this rfl)
            have cY : w33.cell? ⟨gt, s, none⟩ = some (.string YT) := by rw [hv2.at_ hyl hyg, hTY]
            have fY : w33.frozen? ⟨gt, s, none⟩ = false := hv2.soft s
            clear hlaw his hp hY hys hyl hyg hok3 hY64 hv2 hA2 hv2f HLO HV2 hXT hYT hXs hYs hXA hYA hput hTX hTY
            have HX0 := Lib.hid hx1.1
            clear hx1
            obtain ⟨kd, sc, bt, tx, od, aft⟩ := x
            simp only at g0 g1 g2 g3 g4 g5 HX0
            have hx0 := HX0.out
            clear HX0
            subst hx0
            unfold AAct.cells at TX HBK
            simp only at TX HBK
            go_upto_region 30 with (fail)
            go_cut [] (fun wx => TextsAt wx 0 v1 ((Dsk.back { D2 with q := Q } m t).all n) ∧ Below w.heap.size w wx ∧ TextsAt wx 0 (.slice (some ⟨gt, 0, none⟩) n c2) (ys.set s (T.take t ++ Y.drop t)))
            case first =>
              go_region_with (first
                | (go_at_call 23; refine (TX.out _).mono ?_; rintro e w6 ⟨rfl, hb6⟩; have hB6 := (HB.out.drew).trans (hb6.mono (HB.out.drew).size); have hbk6 := (HBK.out.drew).below hb6 HBK.out.lt; have hv26 : TextsAt w6 0 (.slice (some ⟨gt, 0, none⟩) n c2) ys := TextsAt.below (w := w33.drew) HV2'.out hb6 rfl; have hv16 : TextsAt w6 0 v1 ((Dsk.back { D2 with q := Q } m t).all n) := TextsAt.below (w := w33.drew) HV1.out hb6 rfl; have i0 : w6.cell? ⟨g, 0, none⟩ = some (.int .i64 kd) := hbk6.cell 0; have i1 : w6.cell? ⟨g, 1, none⟩ = some (.int .i64 (s : Int)) := hbk6.cell 1; have i2 : w6.cell? ⟨g, 2, none⟩ = some (.int .i64 bt) := hbk6.cell 2; have i3 : w6.cell? ⟨g, 3, none⟩ = some (.string tx) := hbk6.cell 3; have i4 : w6.cell? ⟨g, 4, none⟩ = some (.bool od) := hbk6.cell 4; have i5 : w6.cell? ⟨g, 5, none⟩ = some (.int .i64 aft) := hbk6.cell 5; have cY6 : w6.cell? ⟨gt, s, none⟩ = some (.string YT) := (hv26.at_ HYL.out HYG.out).trans (congrArg some HTY.out); have fY6 : w6.frozen? ⟨gt, s, none⟩ = false := hv26.soft s; have HB6 := Lib.hid hB6; have HV16 := Lib.hid hv16; have HV26 := Lib.hid hv26; clear hB6 hbk6 hv26 hv16 hb6))
              all_goals
                have hN : TextsAt (w6.setCell ⟨gt, s, none⟩ (.string (XA ++ YA))) 0 (.slice (some ⟨gt, 0, none⟩) n c2) (ys.set s (T.take t ++ Y.drop t)) := by rw [HPUT.out]; exact HV26.out.put_ HYL.out s _
                have hS : TextsAt (w6.setCell ⟨gt, s, none⟩ (.string (XA ++ YA))) 0 v1 ((Dsk.back { D2 with q := Q } m t).all n) := by
                  rw [HPUT.out]
                  refine HV16.out.still ?_
                  rw [HLAW.out]
                  exact List.getElem?_set_self (by rw [HYL.out]; exact hsn)
                have HFIN := Lib.hid (show TextsAt (w6.setCell ⟨gt, s, none⟩ (.string (XA ++ YA))) 0 v1 ((Dsk.back { D2 with q := Q } m t).all n) ∧ Below w.heap.size w (w6.setCell ⟨gt, s, none⟩ (.string (XA ++ YA))) ∧ TextsAt (w6.setCell ⟨gt, s, none⟩ (.string (XA ++ YA))) 0 (.slice (some ⟨gt, 0, none⟩) n c2) (ys.set s (T.take t ++ Y.drop t)) from ⟨hS, HB6.out.setCell (p := ⟨gt, s, none⟩) HLO2.out _, hN⟩)
                clear hN hS
                go_wp2
                go_meet
                case rel => exact HFIN.out
            case rest =>
              obtain ⟨hT1, hB, hT2⟩ := hcut
              clear HB HV1 HV2' HBK g0 g1 g2 g3 g4 g5 cY fY TX sl1 sl2
              have T1 := Lib.hid hT1
              have T2 := Lib.hid hT2
              have HB := Lib.hid hB
              clear hT1 hT2 hB
              go_wp2_with fail
              refine (same_any 0 v1 _ _ _ _ T1.out T2.out (by simp [Dsk.all]; omega)).mono ?_
              rintro e w60 ⟨rfl, hb⟩
              rw [decide_eq_true HLAW.out]
              have hB := HB.out.trans (hb.mono HB.out.size)
              clear HB hb T1 T2
              have HB := Lib.hid hB
              clear hB
              go_wp2
              go_ret
              exact ⟨rfl, HB.out⟩
set_option maxRecDepth 100000 in
set_option maxHeartbeats 400000 in
theorem prefix_bad (r : Nat) (A A' : Option Addr) (c c' : Nat) (l l' : List AAct) (fi tn : Nat) (w : World) (h1 : ActsAt w A l) (h2 : ActsAt w A' l') (m1 : l.length ≤ 9223372036854775807) (m2 : l'.length ≤ 9223372036854775807)
    (o : okB l = false ∨ okB l' = false) :
    Calls Try.prog 5 #[.int .u8 (r : Int), .slice A l.length c, .slice A' l'.length c', .int .u8 (fi : Int), .int .u8 (tn : Int)] w fun e w' => e = .returned (.bool true) ∧ Below w.heap.size w w' := by
  have OK1 := Lib.hid (fun W (h : ActsAt W A l) => ok_any A c l W h m1)
  have OK2 := Lib.hid (fun W (h : ActsAt W A' l') => ok_any A' c' l' W h m2)
  have H1 := Lib.hid h1
  have H2 := Lib.hid h2
  clear h1 h2
  cases o1 : okB l with
  | false =>
    rw [o1] at OK1
    clear o o1
    go_enter Try.func5, Try.ntmps5
    go_wp2_with fail
    refine (head_any _).mono ?_
    rintro e w1 ⟨rfl, hb⟩
    have HB1 := Lib.hid hb
    clear hb
    go_wp2_with fail
    refine (OK1.out _ (H1.out.below HB1.out rfl)).mono ?_
    rintro e _ ⟨rfl, rfl⟩
    go_wp2
    go_ret
    exact ⟨rfl, HB1.out⟩
  | true =>
    have o2 : okB l' = false := by rcases o with o | o; rw [o1] at o; cases o; exact o
    rw [o1] at OK1
    rw [o2] at OK2
    clear o o1 o2
    go_enter Try.func5, Try.ntmps5
    go_wp2_with fail
    refine (head_any _).mono ?_
    rintro e w1 ⟨rfl, hb⟩
    have HB1 := Lib.hid hb
    clear hb
    go_wp2_with fail
    refine (OK1.out _ (H1.out.below HB1.out rfl)).mono ?_
    rintro e _ ⟨rfl, rfl⟩
    go_wp2_with fail
    refine (OK2.out _ (H2.out.below HB1.out rfl)).mono ?_
    rintro e _ ⟨rfl, rfl⟩
    go_wp2
    go_ret
    exact ⟨rfl, HB1.out⟩
theorem diskPrefix.law_walk {w : World} (r : Nat) (hr : r < 256) (A : Option Addr) (c : Nat) (l : List AAct) (h1 : ActsAt w A l) (m1 : l.length ≤ 9223372036854775807) (k1 : ∀ a ∈ l, a.Ok)
    (A' : Option Addr) (c' : Nat) (l' : List AAct) (h2 : ActsAt w A' l') (m2 : l'.length ≤ 9223372036854775807) (k2 : ∀ a ∈ l', a.Ok) (fi : Nat) (hfi : fi < 256) (tn : Nat) (htn : tn < 256) :
    Calls Try.prog 5 #[.int .u8 (r : Int), .slice A l.length c, .slice A' l'.length c', .int .u8 (fi : Int), .int .u8 (tn : Int)] w fun e w' => e = .returned (.bool true) ∧ Below w.heap.size w w' := by
  cases o1 : okB l with
  | false => exact prefix_bad r A A' c c' l l' fi tn w h1 h2 m1 m2 (.inl o1)
  | true =>
    cases o2 : okB l' with
    | false => exact prefix_bad r A A' c c' l l' fi tn w h1 h2 m1 m2 (.inr o2)
    | true => exact prefix_walk r fi tn A A' c c' l l' w hr hfi htn h1 h2 m1 m2 k1 k2 o1 o2
end Go.Proofs.Ytmkfbedhmmijjaa
