/- DiskStable: the walk. -/
import Derived.Test.YtmkfbedhmmijjaaOwnP
import Derived.Deep.RegionWith
import Derived.Deep.QuietTactic
namespace Go.Proofs.Ytmkfbedhmmijjaa
open Go.RowKit
theorem bool_info : (Try.prog.info? 4).map (fun i => (i.zero, i.size, i.bytes)) = some (some (.bool false), 1, 1) := by kernel_rfl
def bl (l : List Bool) : Array Value := (l.map Value.bool).toArray
theorem run_flags (n : Nat) (h2 : n ≤ 4000) (W : World) : (Instr.makeSlice 42 (.int .i64 (n : Int)) (.int .i64 (n : Int))).run Try.prog W =
    .ok (.slice (some ⟨W.heap.size, 0, none⟩) n n) (W.alloc (.cells (bl (List.replicate n false)) 4)) := by
  obtain ⟨i0, hi, hz0, hz1, hz2⟩ := info_parts bool_info
  rw [run_make (P := Try.prog) W 42 4 i0 (.bool false) Try.underlying42 hi hz0 .i64 .i64 _ _ (by omega) (Int.le_refl _) (by rw [hz2]; omega) (by omega)]
  have e2 : (Value.bool false).cells = #[.bool false] := rfl
  have e3 : madeCells #[.bool false] n = bl (List.replicate n false) := by
    apply Array.toList_inj.1
    rw [toList_madeCells_one]
    unfold bl
    rw [List.map_replicate]
  rw [e2, hz1, Nat.mul_one, Int.toNat_natCast, e3]
theorem OwnP.put {w : World} {B d n g : Nat} {P : Nat → Prop} {D : Dsk} (h : OwnP w B P d n D) (hg : P g) (i : Nat) (u : Value) : OwnP (w.setCell ⟨g, i, none⟩ u) B P d n D := by
  have ho : Only (fun b => b = g) w (w.setCell ⟨g, i, none⟩ u) := (Only.refl (fun b => b = g) w).setCell (fun _ => rfl) _
  exact ⟨h.disk.keep ho (fun b hb e => hb.2 (by subst e; exact hg)), Nat.le_trans h.size ho.size, fun b hb => Nat.lt_of_lt_of_le (h.held b hb) ho.size⟩
theorem TextsAt.put {w : World} {base g i : Nat} {t : TypeId} {cs : Array Value} {v u : Value} {xs : List (List UInt8)} (h : TextsAt w base v xs) (hb : Blk w g t cs) (ht : 9 ≠ t) : TextsAt (w.setCell ⟨g, i, none⟩ u) base v xs := by
  have ho : Only (fun b => b = g) w (w.setCell ⟨g, i, none⟩ u) := (Only.refl (fun b => b = g) w).setCell (fun _ => rfl) _
  have hne := own_blk_ne h hb ht
  exact ho.own h (fun k hk e => hne (by rw [hk, e]))
theorem bl_get (fl : List Bool) (s : Nat) : (bl fl)[s]? = fl[s]?.map Value.bool := by simp [bl]
theorem bl_set (fl : List Bool) (s : Nat) (x : Bool) : (bl fl).setIfInBounds s (.bool x) = bl (fl.set s x) := by simp [bl, List.map_set]
set_option maxRecDepth 100000 in
set_option maxHeartbeats 2000000 in
theorem stable_walk (r : Nat) (A A' : Option Addr) (c c' : Nat) (l l' : List AAct) (x y : Int) (w : World) (hr : r < 256) (h1 : ActsAt w A l) (h2 : ActsAt w A' l') (m1 : l.length ≤ 9223372036854775807) (m2 : l'.length ≤ 9223372036854775807)
    (k1 : ∀ a ∈ l, a.Ok) (k2 : ∀ a ∈ l', a.Ok) (hx : In64 x) (hy : In64 y) (o1 : okB l = true) (o2 : okB l' = true) :
    Calls Try.prog 4 #[.int .u8 (r : Int), .slice A l.length c, .slice A' l'.length c', .int .i64 x, .int .i64 y] w fun e w' => e = .returned (.bool true) ∧ Below w.heap.size w w' := by
  have H1 := Lib.hid h1
  have H2 := Lib.hid h2
  have O1 := Lib.hid o1
  have O2 := Lib.hid o2
  have K1 := Lib.hid k1
  have K2 := Lib.hid k2
  have hl60 := (ok_spec o1).1
  have hl60' := (ok_spec o2).1
  obtain ⟨L, hL⟩ : ∃ L, L = l.length := ⟨_, rfl⟩
  obtain ⟨L', hL'⟩ : ∃ L, L = l'.length := ⟨_, rfl⟩
  have OK1 := Lib.hid (fun W (h : ActsAt W A l) => ok_any A c l W h m1)
  have OK2 := Lib.hid (fun W (h : ActsAt W A' l') => ok_any A' c' l' W h m2)
  rw [← hL] at m1 hl60 ⊢
  rw [← hL'] at m2 hl60' ⊢
  rw [o1, ← hL] at OK1
  rw [o2, ← hL'] at OK2
  have HL := Lib.hid hL
  have HL' := Lib.hid hL'
  obtain ⟨n, hn⟩ : ∃ n, n = 1 + r % 12 := ⟨_, rfl⟩
  have SZ := Lib.hid (fun W => size_any r W hr)
  rw [← hn] at SZ
  have hn1 : 1 ≤ n := by omega
  have hn12 : n ≤ 12 := by omega
  have HN := Lib.hid hn
  have HX := Lib.hid hx
  have HY := Lib.hid hy
  have HB := Lib.hid (Below.refl w.heap.size w)
  clear h1 h2 o1 o2 k1 k2 hL hL' hn hx hy
  go_enter Try.func4, Try.ntmps4
  go_wp2_with fail
  refine (head_any _).mono ?_
  rintro e w1 ⟨rfl, hb⟩
  have hB : Below w.heap.size w w1 := hb
  have HB1 := Lib.hid hB
  clear hb hB HB
  go_wp2_with fail
  refine (OK1.out _ (H1.out.below HB1.out rfl)).mono ?_
  rintro e _ ⟨rfl, rfl⟩
  go_wp2_with fail
  refine (OK2.out _ (H2.out.below HB1.out rfl)).mono ?_
  rintro e _ ⟨rfl, rfl⟩
  go_wp2_with fail
  refine (SZ.out _).mono ?_
  rintro e _ ⟨rfl, rfl⟩
  go_wp2_with fail
  refine (own_new w.heap.size n _ HB1.out.size hn1 (by omega)).mono ?_
  rintro e w2 ⟨d, rfl, hO, hb⟩
  have hB : Below w.heap.size w w2 := HB1.out.trans (hb.mono HB1.out.size)
  have HB2 := Lib.hid hB
  have HO2 := Lib.hid hO
  clear hb hB hO
  go_wp2_with fail
  go_loopw [14] (fun i wr => ∃ k : Nat, k ≤ L ∧ i = .int .i64 (k : Int) ∧ Hid (Own wr w.heap.size d n ((Dsk.new n).run (l.take k))) ∧ Hid (Below w.heap.size w wr)) (fun i _ => L - (intOf i).toNat)
  case atStart => exact ⟨0, Nat.zero_le _, rfl, HO2.out, HB2.out⟩
  case round =>
    rename_i wr
    obtain ⟨k, hk, rfl, HO, HB⟩ := hrel
    by_cases hlt : k < L
    · have hkl : k < l.length := by rw [← HL.out]; exact hlt
      obtain ⟨b, off, hA, hb, hE⟩ := (H1.out.below HB.out rfl).elem hkl
      obtain ⟨a, ha⟩ : ∃ a, a = l[k] := ⟨_, rfl⟩
      rw [← ha] at hE
      have HA := Lib.hid ha
      have hao : a.Ok := by rw [ha]; exact K1.out _ (List.getElem_mem hkl)
      have hat : a.txt.size ≤ 100 := by rw [ha]; exact (ok_spec O1.out).2 _ (List.getElem_mem hkl)
      have hq := run_take_q n k l (by omega)
      have hnx : ((Dsk.new n).run (l.take (k + 1))) = (((Dsk.new n).run (l.take k)).act a).1 := by rw [List.take_succ_eq_append_getElem hkl, run_snoc, ← ha]
      have HAO := Lib.hid hao
      have HAT := Lib.hid hat
      have HQ := Lib.hid hq
      have HNX := Lib.hid hnx
      obtain ⟨e0, e1, e2, e3, e4, e5⟩ := hE
      subst hA
      clear hao hat hq hnx ha
      go_wp2_with fail
      refine (own_do w.heap.size d n _ _ HO.out a (by have := HQ.out; omega) HAO.out HAT.out).mono ?_
      rintro e w3 ⟨rfl, hO3, hb3⟩
      rw [← HNX.out] at hO3
      have HO3 := Lib.hid hO3
      have HB3 := Lib.hid (HB.out.trans hb3)
      clear hO3 hb3 e0 e1 e2 e3 e4 e5
      go_wp2
      go_roundw
      case rel => exact ⟨k + 1, by omega, by go_num, HO3.out, HB3.out⟩
      case measure => simp [intOf]; omega
    · have hkL : l.take k = l := List.take_of_length_le (by rw [← HL.out]; omega)
      rw [hkL] at HO
      clear hkL
      have hq60 : ((Dsk.new n).run l).q.length ≤ 60 := by have := run_q l (Dsk.new n); have := HL.out; simp [Dsk.new] at *; omega
      obtain ⟨D1, hD1⟩ : ∃ D1, D1 = ((Dsk.new n).run l) := ⟨_, rfl⟩
      rw [← hD1] at HO hq60
      clear hD1 HO2 HB2 HB1
      go_wp2_with fail
      refine (own_start w.heap.size d n D1 _ HO.out).mono ?_
      rintro e w3 ⟨rfl, hO3, hb3⟩
      have HO3 := Lib.hid hO3
      have HB3 := Lib.hid (HB.out.trans hb3)
      clear hO3 hb3 HO HB
      go_wp2_with fail
      refine (own_sync w.heap.size d n _ _ HO3.out (by show D1.q.length ≤ 1000000; omega)).mono ?_
      rintro e w4 ⟨rfl, hO4, hb4⟩
      have hs2 : D1.start.sync.2 = 0 := by rw [calm_sync (start_calm D1)]
      rw [hs2]
      have HC := Lib.hid (calm_sync_calm (start_calm D1))
      obtain ⟨D2, hD2⟩ : ∃ D2, D2 = D1.start.sync.1 := ⟨_, rfl⟩
      rw [← hD2] at hO4 HC
      have HO4 := Lib.hid hO4
      have HB4 := Lib.hid (HB3.out.trans hb4)
      clear hO4 hb4 HO3 HB3 hs2 hD2
      go_wp2_with fail
      refine (ownp_contents w.heap.size _ d n D2 _ HO4.out.p HC.out.1.on (by rw [HC.out.2]; simp)).mono ?_
      rintro e w5 ⟨v1, Q1, rfl, hT, hQv, _, hO5, hb5⟩
      have hB5 := HB4.out.trans (hb5.mono HB4.out.size)
      have hmk := run_flags n (by omega)
      obtain ⟨Z, hZ⟩ : ∃ Z, Z = bl (List.replicate n false) := ⟨_, rfl⟩
      rw [← hZ] at hmk
      have hbk : Blk (w5.alloc (.cells Z 4)) w5.heap.size 4 Z := Blk.new _ _ _
      have hal : Below w5.heap.size w5 (w5.alloc (.cells Z 4)) := (Below.refl _ _).alloc (Nat.le_refl _) _
      have hO6 := hO5.hold hal
      have hT6 := hT.below hal rfl
      obtain ⟨Q, hQ⟩ : ∃ Q : Nat → Prop, Q = fun b => Q1 b ∨ (w5.heap.size ≤ b ∧ b < (w5.alloc (.cells Z 4)).heap.size) := ⟨_, rfl⟩
      rw [← hQ] at hO6
      have hQg : Q w5.heap.size := by rw [hQ]; exact .inr ⟨Nat.le_refl _, by simp⟩
      have hQv' : ∀ k, v1.ownBlock = some k → Q k := by intro k hk; rw [hQ]; exact .inl (hQv k hk)
      have HQG := Lib.hid hQg
      have HB6' := Lib.hid (show w.heap.size ≤ w5.heap.size from hB5.size)
      have HQV := Lib.hid hQv'
      have HO6 := Lib.hid hO6
      have HT6 := Lib.hid hT6
      have HBK := Lib.hid hbk
      have HZ := Lib.hid hZ
      have HB6 := Lib.hid (hB5.trans (hal.mono hB5.size))
      clear hO5 hT hb5 HO4 HB4 hB5 hbk hal hO6 hT6 hQ hQg hQv' hQv hZ
      go_wp2_with fail
      go_loopw [18] (fun i wr => ∃ (k : Nat) (fl : List Bool), k ≤ L' ∧ i = .int .i64 (k : Int) ∧ Hid (OwnP wr w.heap.size Q d n (D2.writes (l'.take k))) ∧ Hid (Below w.heap.size w wr) ∧ Hid (TextsAt wr 0 v1 (D2.all n)) ∧
          Hid (Blk wr w5.heap.size 4 (bl fl)) ∧ Hid (Flags n fl (D2.writes (l'.take k)))) (fun i _ => L' - (intOf i).toNat)
      case atStart =>
        refine ⟨0, List.replicate n false, Nat.zero_le _, rfl, HO6.out, HB6.out, HT6.out, by rw [← HZ.out]; exact HBK.out, by simp, fun s _ p hp => ?_⟩
        have hp' : p ∈ D2.q := hp
        rw [HC.out.2] at hp'; cases hp'
      case round =>
        rename_i wr
        obtain ⟨k, fl, hk, rfl, HO, HB, HT, HF, HFL⟩ := hrel
        by_cases hlt : k < L'
        · have hkl : k < l'.length := by rw [← HL'.out]; exact hlt
          obtain ⟨b, off, hA, hb, hE⟩ := H2.out.elem hkl
          obtain ⟨a, ha⟩ : ∃ a, a = l'[k] := ⟨_, rfl⟩
          rw [← ha] at hE
          have HEL := Lib.hid (fun W (hW : Below w.heap.size w W) => hE.below hW hb)
          have hao : a.Ok := by rw [ha]; exact K2.out _ (List.getElem_mem hkl)
          have hat : a.txt.size ≤ 100 := by rw [ha]; exact (ok_spec O2.out).2 _ (List.getElem_mem hkl)
          obtain ⟨D3, hD3⟩ : ∃ D3, D3 = D2.writes (l'.take k) := ⟨_, rfl⟩
          have hnx : D2.writes (l'.take (k + 1)) = (D3.write a.sector a.text).1 := by rw [List.take_succ_eq_append_getElem hkl, writes_snoc, ← ha, hD3]
          have hwc := writes_calm HC.out.1 (l'.take k)
          have hq : D3.q.length ≤ 60 := by
            have := writes_q D2 (l'.take k)
            rw [← hD3, HC.out.2] at this
            have h5 : (l'.take k).length ≤ k := List.length_take_le _ _
            simp at this; omega
          rw [← hD3] at HO HFL hwc
          have HD3C := Lib.hid hwc.1
          have hst : D3.st.length = n := HO.out.ok.stl
          have HAO := Lib.hid hao
          have HAT := Lib.hid hat
          have HNX := Lib.hid hnx
          have HQL := Lib.hid hq
          have HST := Lib.hid hst
          obtain ⟨e0, e1, e2, e3, e4, e5⟩ := HEL.out wr HB.out
          subst hA
          obtain ⟨T, hT⟩ : ∃ T, T = a.text := ⟨_, rfl⟩
          have TX := Lib.hid (fun W => act_text a W hat)
          have WR := Lib.hid (fun W (hD : OwnP W w.heap.size Q d n D3) => ownp_write w.heap.size Q d n D3 W hD a.sector ⟨T.toArray⟩ (by omega) hao.s)
          rw [← hT] at TX
          unfold text at TX
          have h16 := calm_write HD3C.out a.sector T
          have HTT := Lib.hid hT
          clear hao hat hq hnx ha hD3 hwc hst hb hE hT
          clear e0 e1 e2 e3 e4 e5
          obtain ⟨kd, sc, bt, tx, od, af⟩ := a
          simp only at TX WR h16
          unfold AAct.cells at TX
          simp only at TX
          by_cases hok : 0 ≤ sc ∧ sc < n ∧ T.length = 64
          · obtain ⟨s, hs⟩ := Int.eq_ofNat_of_zero_le hok.1
            subst hs
            have hsn : s < n := by omega
            rw [if_pos ⟨hok.1, by rw [HST.out]; exact hok.2.1, hok.2.2⟩, Int.toNat_natCast] at h16
            simp only [h16] at WR
            have H16 := Lib.hid h16
            obtain ⟨e0, e1, e2, e3, e4, e5⟩ := HEL.out wr HB.out
            simp only at e0 e1 e2 e3 e4 e5
            clear h16 hok
            go_wp2_with fail
            go_region_with (first
              | (go_at_call 23; refine (TX.out _).mono ?_; rintro e w6 ⟨rfl, hb6⟩; have hO6 := (HO.out.drew).below hb6; have hB6 := (HB.out.drew).trans (hb6.mono (HB.out.drew).size); have e1' := (HEL.out w6 hB6).c1; simp only at e1'; have HO6 := Lib.hid hO6; have HB6 := Lib.hid hB6; have HB66 := Lib.hid hb6; clear hO6 hB6 hb6)
              | (go_at_call 22; refine (WR.out _ HO6.out).mono ?_; rintro e w7 ⟨rfl, hO7, hT7⟩; have HO7 := Lib.hid hO7; have HT7 := Lib.hid hT7; clear hO7 hT7))
            all_goals
              have hT67 := HT7.out
              have hsz6 : w.heap.size ≤ w6.heap.size := HB6.out.size
              have hB7 := HB6.out.trans (hT67.below hsz6)
              have e1'' := (HEL.out w7 hB7).c1
              simp only at e1''
              have hF6 : Blk w6 w5.heap.size 4 (bl fl) := HF.out.drew.below HB66.out HF.out.lt
              have hF7 : Blk w7 w5.heap.size 4 (bl fl) := hT67.blk hF6 HQG.out
              have hT6' : TextsAt w6 0 v1 (D2.all n) := TextsAt.below (w := wr.drew) HT.out HB66.out rfl
              have hT7' : TextsAt w7 0 v1 (D2.all n) := hT67.texts hT6' HQV.out
              obtain ⟨f0, hf0⟩ : ∃ f0, fl[s]? = some f0 := ⟨_, List.getElem?_eq_getElem (by rw [HFL.out.1]; exact hsn)⟩
              have cF : w7.cell? ⟨w5.heap.size, s, none⟩ = some (.bool f0) := by rw [hF7.cell, bl_get, hf0]; rfl
              have fF : w7.frozen? ⟨w5.heap.size, s, none⟩ = false := hF7.frozen s
              have hfin : OwnP (w7.setCell ⟨w5.heap.size, s, none⟩ (.bool true)) w.heap.size Q d n (D2.writes (l'.take (k + 1))) ∧ Below w.heap.size w (w7.setCell ⟨w5.heap.size, s, none⟩ (.bool true)) ∧
                  TextsAt (w7.setCell ⟨w5.heap.size, s, none⟩ (.bool true)) 0 v1 (D2.all n) ∧ Blk (w7.setCell ⟨w5.heap.size, s, none⟩ (.bool true)) w5.heap.size 4 (bl (fl.set s true)) ∧ Flags n (fl.set s true) (D2.writes (l'.take (k + 1))) := by
                have hn1 : D2.writes (l'.take (k + 1)) = { D3 with q := D3.q ++ [(s, T)] } := by
                  rw [HNX.out, ← HTT.out]; show (D3.write (s : Int) T).1 = _; rw [H16.out]
                rw [hn1]
                refine ⟨HO7.out.put HQG.out _ _, hB7.setCell (p := ⟨w5.heap.size, s, none⟩) (Nat.le_trans HB6'.out (Nat.le_refl _)) _, hT7'.put hF7 (by decide), ?_, flags_put HFL.out s T hsn⟩
                rw [← bl_set]
                exact hF7.set_ s _
              have HFIN := Lib.hid hfin
              clear hT67 hB7 hF6 hF7 hT6' hT7' hf0 hfin hsz6
              go_wp2
              go_roundw
              case rel => exact ⟨k + 1, fl.set s true, by omega, by go_num, HFIN.out⟩
              case measure => simp [intOf]; omega
          · rw [if_neg (fun h => hok ⟨h.1, by rw [← HST.out]; exact h.2.1, h.2.2⟩)] at h16
            simp only [h16] at WR
            have H16 := Lib.hid h16
            obtain ⟨e0, e1, e2, e3, e4, e5⟩ := HEL.out wr HB.out
            simp only at e0 e1 e2 e3 e4 e5
            clear h16 hok
            go_wp2_with fail
            go_region_with (first
              | (go_at_call 23; refine (TX.out _).mono ?_; rintro e w6 ⟨rfl, hb6⟩; have hO6 := (HO.out.drew).below hb6; have hB6 := (HB.out.drew).trans (hb6.mono (HB.out.drew).size); have e1' := (HEL.out w6 hB6).c1; simp only at e1'; have HO6 := Lib.hid hO6; have HB6 := Lib.hid hB6; have HB66 := Lib.hid hb6; clear hO6 hB6 hb6)
              | (go_at_call 22; refine (WR.out _ HO6.out).mono ?_; rintro e w7 ⟨rfl, hO7, hT7⟩; have HO7 := Lib.hid hO7; have HT7 := Lib.hid hT7; clear hO7 hT7))
            all_goals
              have hT67 := HT7.out
              have hsz6 : w.heap.size ≤ w6.heap.size := HB6.out.size
              have hB7 := HB6.out.trans (hT67.below hsz6)
              have hF6 : Blk w6 w5.heap.size 4 (bl fl) := HF.out.drew.below HB66.out HF.out.lt
              have hF7 : Blk w7 w5.heap.size 4 (bl fl) := hT67.blk hF6 HQG.out
              have hT6' : TextsAt w6 0 v1 (D2.all n) := TextsAt.below (w := wr.drew) HT.out HB66.out rfl
              have hT7' : TextsAt w7 0 v1 (D2.all n) := hT67.texts hT6' HQV.out
              have hfin : OwnP w7 w.heap.size Q d n (D2.writes (l'.take (k + 1))) ∧ Below w.heap.size w w7 ∧
                  TextsAt w7 0 v1 (D2.all n) ∧ Blk w7 w5.heap.size 4 (bl fl) ∧ Flags n fl (D2.writes (l'.take (k + 1))) := by
                have hn1 : D2.writes (l'.take (k + 1)) = D3 := by
                  rw [HNX.out, ← HTT.out]; show (D3.write sc T).1 = _; rw [H16.out]
                rw [hn1]
                exact ⟨HO7.out, hB7, hT7', hF7, HFL.out⟩
              have HFIN := Lib.hid hfin
              clear hT67 hB7 hF6 hF7 hT6' hT7' hfin hsz6
              go_wp2
              go_roundw
              case rel => exact ⟨k + 1, fl, by omega, by go_num, HFIN.out⟩
              case measure => simp [intOf]; omega
        · have hkL' : l'.take k = l' := List.take_of_length_le (by rw [← HL'.out]; omega)
          rw [hkL'] at HO HFL
          have hq : (D2.writes l').q.length ≤ 60 := by
            have := writes_q D2 l'
            rw [HC.out.2] at this
            have h5 := HL'.out
            simp at this; omega
          have hwc := writes_calm HC.out.1 l'
          obtain ⟨D3, hD3⟩ : ∃ D3, D3 = D2.writes l' := ⟨_, rfl⟩
          rw [← hD3] at HO HFL hq hwc
          have HWC := Lib.hid hwc
          clear hD3 hkL' hwc
          go_wp2_with fail
          refine (ownp_fail w.heap.size Q d n D3 _ HO.out x y (by omega) HX.out HY.out).mono ?_
          rintro e w8 ⟨rfl, hO8, hT8⟩
          have HO8 := Lib.hid hO8
          have HB8 := Lib.hid (HB.out.trans (hT8.below HB.out.size))
          have HT8 := Lib.hid (hT8.texts HT.out HQV.out)
          have HF8 := Lib.hid (hT8.blk HF.out HQG.out)
          clear hO8 hT8 HO HB HT HF
          go_wp2_with fail
          refine (ownp_start w.heap.size Q d n _ _ HO8.out).mono ?_
          rintro e w9 ⟨rfl, hO9, hT9⟩
          have HO9 := Lib.hid hO9
          have HB9 := Lib.hid (HB8.out.trans (hT9.below HB8.out.size))
          have HT9 := Lib.hid (hT9.texts HT8.out HQV.out)
          have HF9 := Lib.hid (hT9.blk HF8.out HQG.out)
          clear hO9 hT9 HO8 HB8 HT8 HF8
          go_wp2_with fail
          refine (ownp_contents w.heap.size Q d n _ _ HO9.out rfl (by have := back_q D3 x y HWC.out.1.on; show (D3.back x y).q.length ≤ 1000000; rw [this]; simp)).mono ?_
          rintro e w10 ⟨v2, Q2, rfl, hT, _, _, hO10, hb10⟩
          have hT1 := HT9.out.below hb10 rfl
          have hF1 := HF9.out.below hb10 HF9.out.lt
          have hB1 := HB9.out.trans (hb10.mono HB9.out.size)
          have HV1 := Lib.hid hT1
          have HV2 := Lib.hid hT
          have HF1 := Lib.hid hF1
          have HB1 := Lib.hid hB1
          have hpl : ∀ s, fl[s]? = some false → s < n → (D3.back x y).rd s = D2.rd s := by
            intro s hs hsn
            rw [back_other D3 x y s HWC.out.1.on (HFL.out.2 s hs), rd_nil D2 s HC.out.2, HWC.out.2.1]
          have HPL := Lib.hid hpl
          clear hT hO10 hb10 hT1 hF1 hB1 HO9 HB9 HT9 HF9 hpl hq
          have hlen2 : (D2.all n).length = n := by simp [Dsk.all]
          have hlen3 : ((D3.back x y).all n).length = n := by simp [Dsk.all]
          obtain ⟨A1, q1, hv1, f1⟩ := HV1.out.form
          obtain ⟨A2, q2, hv2, f2⟩ := HV2.out.form
          rw [hlen2] at hv1 f1
          rw [show ((D3.fail x y).start.all n).length = n from hlen3] at hv2 f2
          obtain ⟨g1, hg1, _⟩ := f1 (by omega)
          obtain ⟨g2, hg2, _⟩ := f2 (by omega)
          subst hg1 hg2
          subst hv1 hv2
          have c1 : ∀ W k, k < n → TextsAt W 0 (.slice (some ⟨g1, 0, none⟩) n q1) (D2.all n) → W.cell? ⟨g1, k, none⟩ = some (text (D2.rd k)) := by
            intro W k hk hW
            have hW' : TextsAt W 0 (.slice (some ⟨g1, 0, none⟩) (D2.all n).length q1) (D2.all n) := by rw [hlen2]; exact hW
            rw [hW'.cell (by rw [hlen2]; exact hk)]
            simp [Dsk.all]
          have c2 : ∀ W k, k < n → TextsAt W 0 (.slice (some ⟨g2, 0, none⟩) n q2) ((D3.fail x y).start.all n) → W.cell? ⟨g2, k, none⟩ = some (text ((D3.back x y).rd k)) := by
            intro W k hk hW
            have hW' : TextsAt W 0 (.slice (some ⟨g2, 0, none⟩) ((D3.back x y).all n).length q2) ((D3.back x y).all n) := by rw [hlen3]; exact hW
            rw [hW'.cell (by rw [hlen3]; exact hk)]
            simp [Dsk.all]
          have C1 := Lib.hid c1
          have C2 := Lib.hid c2
          clear c1 c2 hlen2 hlen3 f1 f2
          go_wp2_with fail
          go_loopw [22] (fun i wr => ∃ k : Nat, k ≤ n ∧ i = .int .i64 (k : Int) ∧ Hid (Below w.heap.size w wr ∧ Blk wr w5.heap.size 4 (bl fl) ∧ TextsAt wr 0 (.slice (some ⟨g1, 0, none⟩) n q1) (D2.all n) ∧
              TextsAt wr 0 (.slice (some ⟨g2, 0, none⟩) n q2) ((D3.fail x y).start.all n))) (fun i _ => n - (intOf i).toNat)
          case atStart => exact ⟨0, Nat.zero_le _, rfl, HB1.out, HF1.out, HV1.out, HV2.out⟩
          case round =>
            obtain ⟨k, hk, rfl, HH⟩ := hrel
            by_cases hlt : k < n
            · obtain ⟨f0, hf0⟩ : ∃ f0, fl[k]? = some f0 := ⟨_, List.getElem?_eq_getElem (by rw [HFL.out.1]; exact hlt)⟩
              have cF : wr.cell? ⟨w5.heap.size, k, none⟩ = some (.bool f0) := by rw [HH.out.2.1.cell, bl_get, hf0]; rfl
              have d1 := C1.out wr k hlt HH.out.2.2.1
              have d2 := C2.out wr k hlt HH.out.2.2.2
              obtain ⟨X, hX⟩ : ∃ X, X = D2.rd k := ⟨_, rfl⟩
              obtain ⟨Y, hY⟩ : ∃ Y, Y = (D3.back x y).rd k := ⟨_, rfl⟩
              have hXY : f0 = false → Y = X := by intro h; rw [hX, hY]; exact HPL.out k (by rw [hf0, h]) hlt
              rw [← hX] at d1
              rw [← hY] at d2
              clear hX hY hf0
              unfold text at d1 d2
              have hdr : ∀ nq, Below w.heap.size w (wr.drewN nq) ∧ Blk (wr.drewN nq) w5.heap.size 4 (bl fl) ∧ TextsAt (wr.drewN nq) 0 (.slice (some ⟨g1, 0, none⟩) n q1) (D2.all n) ∧
                  TextsAt (wr.drewN nq) 0 (.slice (some ⟨g2, 0, none⟩) n q2) ((D3.fail x y).start.all n) := fun nq => ⟨below_drewN' HH.out.1 nq, HH.out.2.1.drewN nq, HH.out.2.2.1, HH.out.2.2.2⟩
              have HDR := Lib.hid hdr
              clear hdr
              cases f0 with
              | true =>
                clear hXY d1 d2
                go_wp2_with fail
                go_quiet (fail)
                go_wp2
                go_roundw
                case rel => exact ⟨k + 1, by omega, by go_num, HDR.out _⟩
                case measure => simp [intOf]; omega
              | false =>
                have e := hXY rfl
                subst e
                clear hXY
                go_wp2_with fail
                go_quiet (fail)
                go_wp2
                go_roundw
                case rel => exact ⟨k + 1, by omega, by go_num, HDR.out _⟩
                case measure => simp [intOf]; omega
            · go_wp2
              go_ret
              exact ⟨rfl, HH.out.1⟩

set_option maxRecDepth 100000 in
set_option maxHeartbeats 400000 in
theorem stable_bad (r : Nat) (A A' : Option Addr) (c c' : Nat) (l l' : List AAct) (x y : Int) (w : World) (h1 : ActsAt w A l) (h2 : ActsAt w A' l') (m1 : l.length ≤ 9223372036854775807) (m2 : l'.length ≤ 9223372036854775807)
    (o : okB l = false ∨ okB l' = false) :
    Calls Try.prog 4 #[.int .u8 (r : Int), .slice A l.length c, .slice A' l'.length c', .int .i64 x, .int .i64 y] w fun e w' => e = .returned (.bool true) ∧ Below w.heap.size w w' := by
  have OK1 := Lib.hid (fun W (h : ActsAt W A l) => ok_any A c l W h m1)
  have OK2 := Lib.hid (fun W (h : ActsAt W A' l') => ok_any A' c' l' W h m2)
  have H1 := Lib.hid h1
  have H2 := Lib.hid h2
  clear h1 h2
  cases o1 : okB l with
  | false =>
    rw [o1] at OK1
    clear o o1
    go_enter Try.func4, Try.ntmps4
    go_wp2_with fail
    refine (head_any _).mono ?_
    rintro e w1 ⟨rfl, hb⟩
    have HB1 := Lib.hid hb
    clear hb
    go_wp2_with fail
    refine (OK1.out _ (H1.out.below HB1.out rfl)).mono ?_
    rintro e _ ⟨rfl, rfl⟩
    go_wp2
    go_ret
    exact ⟨rfl, HB1.out⟩
  | true =>
    have o2 : okB l' = false := by rcases o with o | o; rw [o1] at o; cases o; exact o
    rw [o1] at OK1
    rw [o2] at OK2
    clear o o1 o2
    go_enter Try.func4, Try.ntmps4
    go_wp2_with fail
    refine (head_any _).mono ?_
    rintro e w1 ⟨rfl, hb⟩
    have HB1 := Lib.hid hb
    clear hb
    go_wp2_with fail
    refine (OK1.out _ (H1.out.below HB1.out rfl)).mono ?_
    rintro e _ ⟨rfl, rfl⟩
    go_wp2_with fail
    refine (OK2.out _ (H2.out.below HB1.out rfl)).mono ?_
    rintro e _ ⟨rfl, rfl⟩
    go_wp2
    go_ret
    exact ⟨rfl, HB1.out⟩
theorem diskStable.law_walk {w : World} (r : Nat) (hr : r < 256) (A : Option Addr) (c : Nat) (l : List AAct) (h1 : ActsAt w A l) (m1 : l.length ≤ 9223372036854775807) (k1 : ∀ a ∈ l, a.Ok)
    (A' : Option Addr) (c' : Nat) (l' : List AAct) (h2 : ActsAt w A' l') (m2 : l'.length ≤ 9223372036854775807) (k2 : ∀ a ∈ l', a.Ok) (x : Int) (hx : In64 x) (y : Int) (hy : In64 y) :
    Calls Try.prog 4 #[.int .u8 (r : Int), .slice A l.length c, .slice A' l'.length c', .int .i64 x, .int .i64 y] w fun e w' => e = .returned (.bool true) ∧ Below w.heap.size w w' := by
  cases o1 : okB l with
  | false => exact stable_bad r A A' c c' l l' x y w h1 h2 m1 m2 (.inl o1)
  | true =>
    cases o2 : okB l' with
    | false => exact stable_bad r A A' c c' l l' x y w h1 h2 m1 m2 (.inr o2)
    | true => exact stable_walk r A A' c c' l l' x y w hr h1 h2 m1 m2 k1 k2 hx hy o1 o2
end Go.Proofs.Ytmkfbedhmmijjaa
