/- DiskReads: the walk. -/
import Derived.Test.YtmkfbedhmmijjaaReadsP
import Derived.Test.YtmkfbedhmmijjaaOpenOne
import Derived.Deep.RegionWith
import Derived.Deep.RegionHeld3
import Derived.Deep.QuietTactic
import Derived.Deep.DeepCutAuto
import Derived.Deep.CutBlock
namespace Go.Proofs.Ytmkfbedhmmijjaa
open Go.RowKit
theorem map_text_set (xs : List (List UInt8)) (k : Nat) (t : List UInt8) : (xs.set k t).map text = (xs.map text).set k (text t) := by rw [List.map_set]
/-- One text of a list is replaced. -/
theorem TextsAt.set {w : World} {base g cap : Nat} {xs : List (List UInt8)} (h : TextsAt w base (.slice (some ⟨g, 0, none⟩) xs.length cap) xs) (k : Nat) (t : List UInt8) :
    TextsAt (w.setCell ⟨g, k, none⟩ (text t)) base (.slice (some ⟨g, 0, none⟩) (xs.set k t).length cap) (xs.set k t) := by
  obtain ⟨hl, h2⟩ := h
  rcases h2 with ⟨hx, _⟩ | ⟨g', cap', cur, hx, hb, hh, h3, h4, h5, h6⟩
  · cases hx
  · simp only [Value.slice.injEq, Option.some.injEq, Addr.mk.injEq, true_and, and_true] at hx
    obtain ⟨rfl, rfl⟩ := hx
    refine ⟨by simp, .inr ⟨g, cap, cur.setIfInBounds k (text t), by simp, hb, (Blk.set_ (show Blk w g 9 cur from hh) k _), by simpa using h3, h4, by simpa using h5, ?_⟩⟩
    rw [map_text_set, ← h6]
    simp [Array.toList_setIfInBounds, List.take_set]
/-- A text that stands there already is written into it, or into another block. -/
theorem TextsAt.still {w : World} {base g k : Nat} {v : Value} {xs : List (List UInt8)} {t : List UInt8} (h : TextsAt w base v xs) (hk : xs[k]? = some t) : TextsAt (w.setCell ⟨g, k, none⟩ (text t)) base v xs := by
  obtain ⟨hl, h2⟩ := h
  refine ⟨hl, ?_⟩
  rcases h2 with h0 | ⟨g', cap', cur, hx, hb, hh, h3, h4, h5, h6⟩
  · exact .inl h0
  · right
    by_cases e : g' = g
    · subst e
      refine ⟨g', cap', cur.setIfInBounds k (text t), hx, hb, (Blk.set_ (show Blk w g' 9 cur from hh) k _), h3, h4, by simpa using h5, ?_⟩
      have h7 : (xs.map text).set k (text t) = xs.map text := by
        rw [← map_text_set]
        congr 1
        obtain ⟨hlt, rfl⟩ := List.getElem?_eq_some_iff.1 hk
        exact List.set_getElem_self hlt
      rw [← h7, ← h6]
      simp [Array.toList_setIfInBounds, List.take_set]
    · exact ⟨g', cap', cur, hx, hb, (Blk.far (show Blk w g' 9 cur from hh) (p := ⟨g, k, none⟩) e _), h3, h4, h5, h6⟩
theorem OwnP.putr {w : World} {B d n g : Nat} {P : Nat → Prop} {D : Dsk} (h : OwnP w B P d n D) (hg : P g) (i : Nat) (u : Value) : OwnP (w.setCell ⟨g, i, none⟩ u) B P d n D := by
  have ho : Only (fun b => b = g) w (w.setCell ⟨g, i, none⟩ u) := (Only.refl (fun b => b = g) w).setCell (fun _ => rfl) _
  exact ⟨h.disk.keep ho (fun b hb e => hb.2 (by subst e; exact hg)), Nat.le_trans h.size ho.size, fun b hb => Nat.lt_of_lt_of_le (h.held b hb) ho.size⟩
/-- contents, and the new texts' block is a new one. -/
theorem ownp_contents_lo (B d n : Nat) (P : Nat → Prop) (D : Dsk) (w : World) (h : OwnP w B P d n D) (hoff : D.off = false) (hbig : D.q.length ≤ 1000000) : Calls Try.prog 21 #[.pointer (some ⟨d, 0, none⟩), .int .i64 (n : Int)] w fun e w' =>
    ∃ v Q, e = .returned (.tuple #[v, .bool true]) ∧ TextsAt w' 0 v (D.all n) ∧ (∀ k, v.ownBlock = some k → Q k) ∧ (∀ k, v.ownBlock = some k → B ≤ k) ∧ (∀ k, P k → Q k) ∧ OwnP w' B Q d n D ∧ Below w.heap.size w w' :=
  (contents_on _ d n D w h.disk hoff hbig).mono fun _ w' ⟨v, he, hT, hb⟩ => ⟨v, (fun b => P b ∨ (w.heap.size ≤ b ∧ b < w'.heap.size)), he, (by
    refine ⟨hT.1, ?_⟩
    rcases hT.2 with h2 | ⟨g, cap, cur, e, hg, r⟩
    · exact .inl h2
    · exact .inr ⟨g, cap, cur, e, Nat.zero_le _, r⟩), (fun k hk => .inr (World.ownsRow.lt hT k hk)), (fun k hk => Nat.le_trans h.size (World.ownsRow.lt hT k hk).1), (fun k hk => .inl hk), h.hold hb, hb⟩
theorem TextsAt.soft {w : World} {base g cap m : Nat} {xs : List (List UInt8)} (h : TextsAt w base (.slice (some ⟨g, 0, none⟩) m cap) xs) (i : Nat) : w.frozen? ⟨g, i, none⟩ = false := by
  obtain ⟨hl, h2⟩ := h
  rcases h2 with ⟨hx, _⟩ | ⟨g', cap', cur, hx, hb, hh, _⟩
  · cases hx
  · simp only [Value.slice.injEq, Option.some.injEq, Addr.mk.injEq, and_true] at hx
    obtain ⟨rfl, _, rfl⟩ := hx
    exact (show Blk w g 9 cur from hh).frozen i
theorem TextsAt.at_ {w : World} {base g cap m k : Nat} {xs : List (List UInt8)} {t : List UInt8} (h : TextsAt w base (.slice (some ⟨g, 0, none⟩) m cap) xs) (hm : xs.length = m) (hk : xs[k]? = some t) : w.cell? ⟨g, k, none⟩ = some (text t) := by
  subst hm
  obtain ⟨hlt, rfl⟩ := List.getElem?_eq_some_iff.1 hk
  exact h.cell hlt
theorem TextsAt.put_ {w : World} {base g cap m : Nat} {xs : List (List UInt8)} (h : TextsAt w base (.slice (some ⟨g, 0, none⟩) m cap) xs) (hm : xs.length = m) (k : Nat) (t : List UInt8) : TextsAt (w.setCell ⟨g, k, none⟩ (text t)) base (.slice (some ⟨g, 0, none⟩) m cap) (xs.set k t) := by
  subst hm
  have := h.set k t
  rw [List.length_set] at this
  exact this
theorem elem_box (w : World) (x : AAct) (t : TypeId) : Elem (w.alloc (.cells x.cells t)) w.heap.size 0 x := by
  have g : ∀ (j : Nat) v, x.cells[j]? = some v → (w.alloc (.cells x.cells t)).cell? ⟨w.heap.size, j, none⟩ = some v := fun j v h => by
    simpa using h
  exact ⟨g 0 _ rfl, g 1 _ rfl, g 2 _ rfl, g 3 _ rfl, g 4 _ rfl, g 5 _ rfl⟩
theorem acts_box (w : World) (x : AAct) (t : TypeId) : ActsAt (w.alloc (.cells x.cells t)) (some ⟨w.heap.size, 0, none⟩) [x] := by
  intro _
  refine ⟨w.heap.size, 0, rfl, by simp, fun i hi j v hv => ?_⟩
  have : i = 0 := by simp at hi; exact hi
  subst this
  simpa using hv
set_option maxRecDepth 100000 in
set_option maxHeartbeats 20000000 in
theorem reads_walk (r : Nat) (A : Option Addr) (c : Nat) (l : List AAct) (x : AAct) (w : World) (hr : r < 256) (h1 : ActsAt w A l) (m1 : l.length ≤ 9223372036854775807) (k1 : ∀ a ∈ l, a.Ok) (hxo : x.Ok) (hxt : x.txt.size ≤ 100) (o1 : okB l = true) :
    Calls Try.prog 6 #[.int .u8 (r : Int), .slice A l.length c, .agg x.cells] w fun e w' => e = .returned (.bool true) ∧ Below w.heap.size w w' := by
  have EB := Lib.hid (elem_box w x 34)
  have h1 := h1.below ((Below.refl w.heap.size w).alloc (Nat.le_refl _) (.cells x.cells 34)) rfl
  have hbb := (Below.refl w.heap.size w).alloc (Nat.le_refl _) (.cells x.cells 34)
  obtain ⟨w0, hw0⟩ : ∃ w0, w0 = w.alloc (.cells x.cells 34) := ⟨_, rfl⟩
  have HBB := Lib.hid hbb
  have HW0 := Lib.hid hw0
  rw [← hw0] at h1 EB HBB
  have hlt0 : w.heap.size < w0.heap.size := by rw [hw0]; simp
  obtain ⟨bx, hbx⟩ : ∃ bx, bx = w.heap.size := ⟨_, rfl⟩
  rw [← hbx] at EB hlt0
  have HBX := Lib.hid hbx
  have HEL := Lib.hid (fun W (hW : Below w0.heap.size w0 W) => EB.out.below hW hlt0)
  have TX := Lib.hid (fun W => act_text x W hxt)
  have OKX := Lib.hid (fun W b (h : ActsAt W (some ⟨b, 0, none⟩) [x]) => ok_any (some ⟨b, 0, none⟩) 1 [x] W h (by simp))
  have okx : okB [x] = true := by unfold okB; simp [hxt]
  rw [okx] at OKX
  have HXS := Lib.hid hxo.s
  have AB := Lib.hid (fun W => acts_box W x 34)
  clear hw0 hbb hbx okx hxo
  obtain ⟨kd, sc, bt, tx, od, aft⟩ := x
  unfold AAct.cells at TX AB HW0 ⊢
  simp only at TX AB HW0 HXS
  simp only [List.length_cons, List.length_nil] at OKX
  have H1 := Lib.hid h1
  have O1 := Lib.hid o1
  have K1 := Lib.hid k1
  have hl60 := (ok_spec o1).1
  obtain ⟨L, hL⟩ : ∃ L, L = l.length := ⟨_, rfl⟩
  have OK1 := Lib.hid (fun W (h : ActsAt W A l) => ok_any A c l W h m1)
  rw [← hL] at m1 hl60 ⊢
  rw [o1, ← hL] at OK1
  have HL := Lib.hid hL
  obtain ⟨n, hn⟩ : ∃ n, n = 1 + r % 12 := ⟨_, rfl⟩
  have SZ := Lib.hid (fun W => size_any r W hr)
  rw [← hn] at SZ
  have hn1 : 1 ≤ n := by omega
  have hn12 : n ≤ 12 := by omega
  have HN := Lib.hid hn
  have HB := Lib.hid (Below.refl w0.heap.size w0)
  clear h1 o1 k1 hL hn
  have HW := Lib.hid (Below.refl w.heap.size w)
  go_enter Try.func6, Try.ntmps6
  go_wp2_with fail
  rw [← HW0.out, ← HBX.out]
  go_wp2_with fail
  refine (head_any _).mono ?_
  rintro e w1 ⟨rfl, hb⟩
  have hB : Below w0.heap.size w0 w1 := hb
  have HB1 := Lib.hid hB
  clear hb hB HB
  go_wp2_with fail
  refine (OK1.out _ (H1.out.below HB1.out rfl)).mono ?_
  rintro e _ ⟨rfl, rfl⟩
  obtain ⟨e0, e1, e2, e3, e4, e5⟩ := HEL.out _ HB1.out
  simp only at e0 e1 e2 e3 e4 e5
  go_wp2_with fail
  refine (OKX.out _ _ (AB.out _)).mono ?_
  rintro e _ ⟨rfl, rfl⟩
  have hB := HB1.out.alloc HB1.out.size (.cells #[.int .i64 kd, .int .i64 sc, .int .i64 bt, .string tx, .bool od, .int .i64 aft] 34)
  clear HB1 e0 e1 e2 e3 e4 e5 AB OKX
  obtain ⟨w9, hw9⟩ : ∃ w9, w9 = w1.alloc (.cells #[.int .i64 kd, .int .i64 sc, .int .i64 bt, .string tx, .bool od, .int .i64 aft] 34) := ⟨_, rfl⟩
  rw [← hw9] at hB ⊢
  have HB1 := Lib.hid hB
  clear hB hw9
  go_wp2_with fail
  refine (SZ.out _).mono ?_
  rintro e _ ⟨rfl, rfl⟩
  go_wp2_with fail
  refine (own_new w0.heap.size n _ HB1.out.size hn1 (by omega)).mono ?_
  rintro e w2 ⟨d, rfl, hO, hb⟩
  have hB : Below w0.heap.size w0 w2 := HB1.out.trans (hb.mono HB1.out.size)
  have HB2 := Lib.hid hB
  have HO2 := Lib.hid hO
  clear hb hB hO
  go_wp2_with fail
  go_loopw [10] (fun i wr => ∃ k : Nat, k ≤ L ∧ i = .int .i64 (k : Int) ∧ Hid (Own wr w0.heap.size d n ((Dsk.new n).run (l.take k))) ∧ Hid (Below w0.heap.size w0 wr)) (fun i _ => L - (intOf i).toNat)
  case atStart => exact ⟨0, Nat.zero_le _, rfl, HO2.out, HB2.out⟩
  case round =>
    obtain ⟨k, hk, rfl, HO, HB⟩ := hrel
    by_cases hlt : k < L
    · have hkl : k < l.length := by rw [← HL.out]; exact hlt
      obtain ⟨b, off, hA, hb, hE⟩ := H1.out.elem hkl
      obtain ⟨a, ha⟩ : ∃ a, a = l[k] := ⟨_, rfl⟩
      rw [← ha] at hE
      have HEL := Lib.hid (fun W (hW : Below w0.heap.size w0 W) => hE.below hW hb)
      have hao : a.Ok := by rw [ha]; exact K1.out _ (List.getElem_mem hkl)
      have hat : a.txt.size ≤ 100 := by rw [ha]; exact (ok_spec O1.out).2 _ (List.getElem_mem hkl)
      have hq := run_take_q n k l (by omega)
      have hnx : ((Dsk.new n).run (l.take (k + 1))) = (((Dsk.new n).run (l.take k)).act a).1 := by rw [List.take_succ_eq_append_getElem hkl, run_snoc, ← ha]
      have HAO := Lib.hid hao
      have HAT := Lib.hid hat
      have HQ := Lib.hid hq
      have HNX := Lib.hid hnx
      subst hA
      clear hao hat hq hnx ha hE hb
      obtain ⟨e0, e1, e2, e3, e4, e5⟩ := HEL.out wr HB.out
      go_wp2_with fail
      refine (own_do w0.heap.size d n _ _ HO.out a (by have := HQ.out; omega) HAO.out HAT.out).mono ?_
      rintro e w3 ⟨rfl, hO3, hb3⟩
      rw [← HNX.out] at hO3
      have HO3 := Lib.hid hO3
      have HB3 := Lib.hid (HB.out.trans hb3)
      clear hO3 hb3 e0 e1 e2 e3 e4 e5
      go_wp2
      go_roundw
      case rel => exact ⟨k + 1, by omega, by go_num, HO3.out, HB3.out⟩
      case measure => simp [intOf]; omega
    · have hkL : l.take k = l := List.take_of_length_le (by rw [← HL.out]; omega)
      rw [hkL] at HO
      have hq60 : ((Dsk.new n).run l).q.length ≤ 60 := by have := run_q l (Dsk.new n); have := HL.out; simp [Dsk.new] at *; omega
      obtain ⟨D1, hD1⟩ : ∃ D1, D1 = ((Dsk.new n).run l) := ⟨_, rfl⟩
      rw [← hD1] at HO hq60
      clear hD1 hkL HO2 HB2 HB1
      have HQ60 := Lib.hid hq60
      clear hq60 OK1 SZ H1 K1 O1
      go_wp2_with fail
      refine (own_start w0.heap.size d n D1 _ HO.out).mono ?_
      rintro e w20 ⟨rfl, hO, hb⟩
      have hB := HB.out.trans hb
      clear HO HB hb
      have HO := Lib.hid hO
      have HB := Lib.hid hB
      clear hO hB
      obtain ⟨D0, hD0⟩ : ∃ D0, D0 = D1.start := ⟨_, rfl⟩
      have hc0 : D0.Calm := by rw [hD0]; exact start_calm D1
      have hq0 : D0.q.length ≤ 60 := by rw [hD0]; exact HQ60.out
      rw [← hD0] at HO
      have HC0 := Lib.hid hc0
      have HQ0 := Lib.hid hq0
      clear hD0 hc0 hq0 HQ60
      have HO := Lib.hid HO.out.p
      go_wp2_with fail
      refine (ownp_contents_lo w0.heap.size d n _ D0 _ HO.out HC0.out.on (by have := HQ0.out; omega)).mono ?_
      rintro e w21 ⟨v1, Q1, rfl, hV, hQ, hLO, hPQ, hO, hb⟩
      have hB := HB.out.trans (hb.mono HB.out.size)
      clear HO HB hb 
      have T_v1 := Lib.hid hV
      have Q_v1 := Lib.hid hQ
      have HO := Lib.hid hO
      have HB := Lib.hid hB
      clear hV hQ hPQ hO hB 
      have LO := Lib.hid hLO
      clear hLO
      obtain ⟨T, hT⟩ : ∃ T, T = (AAct.text ⟨kd, sc, bt, tx, od, aft⟩) := ⟨_, rfl⟩
      rw [← hT] at TX
      unfold text at TX
      clear hT
      have WX := Lib.hid (fun W P (hP : OwnP W w0.heap.size P d n D0) => by
        have := ownp_write w0.heap.size P d n D0 W hP sc ⟨T.toArray⟩ (by have := HQ0.out; omega) HXS.out
        rw [show (⟨T.toArray⟩ : ByteArray).data.toList = T from by simp] at this
        exact this)
      obtain ⟨e0, e1, e2, e3, e4, e5⟩ := HEL.out _ HB.out
      simp only at e0 e1 e2 e3 e4 e5
      have hst : D0.st.length = n := HO.out.ok.stl
      have HST := Lib.hid hst
      clear hst
      go_upto_region 12 with (fail)
      go_cut [13] (fun v wx => v = .int .i64 (D0.write sc T).2 ∧ OwnP wx w0.heap.size Q1 d n (D0.write sc T).1 ∧ Turned w0.heap.size Q1 w21 wx)
      case first =>
        go_region_held3 (fun w' => w'.cell? ⟨bx, 0, none⟩ = some (.int .i64 kd) ∧ w'.cell? ⟨bx, 1, none⟩ = some (.int .i64 sc) ∧ w'.cell? ⟨bx, 2, none⟩ = some (.int .i64 bt) ∧ w'.cell? ⟨bx, 3, none⟩ = some (.string tx) ∧ w'.cell? ⟨bx, 4, none⟩ = some (.bool od) ∧ w'.cell? ⟨bx, 5, none⟩ = some (.int .i64 aft)) (first | exact ⟨e0, e1, e2, e3, e4, e5⟩ | exact ⟨i0, i1, i2, i3, i4, i5⟩ | exact ⟨j0, j1, j2, j3, j4, j5⟩)
          (first
          | (go_at_call 23; refine (TX.out _).mono ?_; rintro e w6 ⟨rfl, hb6⟩; have hO6 := (HO.out.drew).below hb6; have hU6 : Turned w0.heap.size Q1 w21 w6 := (Turned.of_below (Below.refl _ _).drew).next (Turned.of_below hb6); have hB6 := (HB.out.drew).trans (hb6.mono (HB.out.drew).size); obtain ⟨i0, i1, i2, i3, i4, i5⟩ := HEL.out w6 hB6; simp only at i0 i1 i2 i3 i4 i5; have HO6 := Lib.hid hO6; have HU6 := Lib.hid hU6; have HB6 := Lib.hid hB6; clear hO6 hU6 hB6 hb6)
          | (go_at_call 22; refine (WX.out _ _ HO6.out).mono ?_; rintro e w7 ⟨rfl, hO7, hT7⟩; have hU7 := HU6.out.next hT7; have hB7 := HB6.out.trans (hT7.below HB6.out.size); obtain ⟨j0, j1, j2, j3, j4, j5⟩ := HEL.out w7 hB7; simp only at j0 j1 j2 j3 j4 j5; have HO7 := Lib.hid hO7; have HU7 := Lib.hid hU7; clear hO7 hU7 hT7 hB7))
        all_goals
          go_wp2_with fail
          go_meet
          case rel => exact ⟨rfl, HO7.out, HU7.out⟩
      case rest =>
        obtain ⟨rfl, hO, hT⟩ := hcut
        have hB := HB.out.trans (hT.below HB.out.size)
        have hT_v1 := hT.texts T_v1.out Q_v1.out
        clear HO HB hT T_v1 WX e0 e1 e2 e3 e4 e5
        have T_v1 := Lib.hid hT_v1
        have HO := Lib.hid hO
        have HB := Lib.hid hB
        clear hO hB hT_v1
        have hw := calm_write HC0.out sc T
        rw [HST.out] at hw
        obtain ⟨D2, hD2⟩ : ∃ D2, D2 = (D0.write sc T).1 := ⟨_, rfl⟩
        obtain ⟨E, hE⟩ : ∃ E, E = (D0.write sc T).2 := ⟨_, rfl⟩
        have hc2 : D2.Calm := by rw [hD2]; exact (calm_write_calm HC0.out sc T).1
        have hq2 : D2.q.length ≤ 61 := by
          have := HQ0.out
          rw [hD2, hw]
          split
          · simp; omega
          · show D0.q.length ≤ 61; omega
        rw [← hD2] at HO
        rw [← hE]
        have HC2 := Lib.hid hc2
        have HQ2 := Lib.hid hq2
        have HW2 := Lib.hid (show (D2, E) = if 0 ≤ sc ∧ sc < (n : Int) ∧ T.length = 64 then ({ D0 with q := D0.q ++ [(sc.toNat, T)] }, 0) else (D0, 1) from by rw [hD2, hE, ← hw])
        clear hw hD2 hE hc2 hq2
        go_wp2_with fail
        refine (ownp_contents w0.heap.size _ d n D2 _ HO.out HC2.out.on (by have := HQ2.out; omega)).mono ?_
        rintro e w41 ⟨v2, Q2, rfl, hV, hQ, hPQ, hO, hb⟩
        have hB := HB.out.trans (hb.mono HB.out.size)
        have hT_v1 := T_v1.out.below hb rfl
        have hQ_v1 := fun k hk => hPQ k (Q_v1.out k hk)
        clear HO HB hb T_v1 Q_v1
        have T_v1 := Lib.hid hT_v1
        have Q_v1 := Lib.hid hQ_v1
        have T_v2 := Lib.hid hV
        have Q_v2 := Lib.hid hQ
        have HO := Lib.hid hO
        have HB := Lib.hid hB
        clear hV hQ hPQ hO hB hT_v1 hQ_v1
        go_wp2_with fail
        refine (ownp_contents w0.heap.size _ d n D2 _ HO.out HC2.out.on (by have := HQ2.out; omega)).mono ?_
        rintro e w42 ⟨v3, Q3, rfl, hV, hQ, hPQ, hO, hb⟩
        have hB := HB.out.trans (hb.mono HB.out.size)
        have hT_v1 := T_v1.out.below hb rfl
        have hQ_v1 := fun k hk => hPQ k (Q_v1.out k hk)
        have hT_v2 := T_v2.out.below hb rfl
        have hQ_v2 := fun k hk => hPQ k (Q_v2.out k hk)
        clear HO HB hb T_v1 Q_v1 T_v2 Q_v2
        have T_v1 := Lib.hid hT_v1
        have Q_v1 := Lib.hid hQ_v1
        have T_v2 := Lib.hid hT_v2
        have Q_v2 := Lib.hid hQ_v2
        have T_v3 := Lib.hid hV
        have Q_v3 := Lib.hid hQ
        have HO := Lib.hid hO
        have HB := Lib.hid hB
        clear hV hQ hPQ hO hB hT_v1 hQ_v1 hT_v2 hQ_v2
        go_wp2_with fail
        refine (same_any 0 v2 v3 _ _ _ T_v2.out T_v3.out (by simp [Dsk.all]; omega)).mono ?_
        rintro e w43 ⟨rfl, hb⟩
        rw [decide_eq_true rfl]
        have hB := HB.out.trans (hb.mono HB.out.size)
        have hO := HO.out.below hb
        have hT_v1 := T_v1.out.below hb rfl
        have hT_v2 := T_v2.out.below hb rfl
        have hT_v3 := T_v3.out.below hb rfl
        clear HO HB hb T_v1 T_v2 T_v3
        have T_v1 := Lib.hid hT_v1
        have T_v2 := Lib.hid hT_v2
        have T_v3 := Lib.hid hT_v3
        have HO := Lib.hid hO
        have HB := Lib.hid hB
        clear hO hB hT_v1 hT_v2 hT_v3
        by_cases hv : 0 ≤ sc ∧ sc < (n : Int) ∧ T.length = 64
        · have h2 := HW2.out
          rw [if_pos hv] at h2
          simp only [Prod.mk.injEq] at h2
          obtain ⟨hd2, rfl⟩ := h2
          have HD := Lib.hid hd2
          clear hd2
          obtain ⟨hs0, hsn, h64⟩ := hv
          obtain ⟨s, hs⟩ := Int.eq_ofNat_of_zero_le hs0
          have hsn2 : s < n := by omega
          have hall : (D0.all n).length = n := by simp [Dsk.all]
          obtain ⟨A1, c1, hv1, hf1⟩ := T_v1.out.form
          obtain ⟨g, hA1, hg⟩ := hf1 (by rw [hall]; omega)
          rw [hall, hA1] at hv1
          clear hf1 hA1 hg A1
          subst hs
          subst hv1
          clear HW2
          have HLOG := Lib.hid (LO.out g rfl)
          have HQG := Lib.hid (Q_v1.out g rfl)
          have hse : D2.all n = (D0.all n).set s T := by rw [HD.out, all_push]; simp
          have HSE := Lib.hid hse
          have HT0 := Lib.hid (show ((D0.all n)[s]? = some ((D0.all n)[s]'(by rw [hall]; exact hsn2))) from List.getElem?_eq_getElem _)
          clear hse h64 hs0 LO
          obtain ⟨t0, ht0⟩ : ∃ t0, (D0.all n)[s]? = some t0 := ⟨_, HT0.out⟩
          have HT1 := Lib.hid ht0
          have HALL := Lib.hid hall
          clear HT0 ht0 hall
          obtain ⟨e0, e1, e2, e3, e4, e5⟩ := HEL.out _ HB.out
          simp only at e0 e1 e2 e3 e4 e5
          go_upto_region 21 with (fail)
          go_cut [] (fun wx => OwnP wx w0.heap.size Q3 d n D2 ∧ Below w0.heap.size w0 wx ∧ TextsAt wx 0 (.slice (some ⟨g, 0, none⟩) n c1) (D2.all n) ∧ TextsAt wx 0 v2 (D2.all n))
          case first =>
            go_region_with (first
              | (go_at_call 23; refine (TX.out _).mono ?_; rintro e w6 ⟨rfl, hb6⟩; have hO6 := (HO.out.drew).below hb6; have hB6 := (HB.out.drew).trans (hb6.mono (HB.out.drew).size); obtain ⟨i0, i1, i2, i3, i4, i5⟩ := HEL.out w6 hB6; simp only at i0 i1 i2 i3 i4 i5; have HO6 := Lib.hid hO6; have HB6 := Lib.hid hB6; have HB66 := Lib.hid hb6; have hT8 : TextsAt w6 0 (.slice (some ⟨g, 0, none⟩) n c1) (D0.all n) := TextsAt.below (w := w43.drew) T_v1.out hb6 rfl; have cF : w6.cell? ⟨g, s, none⟩ = some (.string ⟨t0.toArray⟩) := hT8.at_ HALL.out HT1.out; have fF : w6.frozen? ⟨g, s, none⟩ = false := hT8.soft s; clear hT8; clear hO6 hB6 hb6))
            all_goals
              have hT1 : TextsAt w6 0 (.slice (some ⟨g, 0, none⟩) n c1) (D0.all n) := TextsAt.below (w := w43.drew) T_v1.out HB66.out rfl
              have hT2 : TextsAt w6 0 v2 (D2.all n) := TextsAt.below (w := w43.drew) T_v2.out HB66.out rfl
              have hN : TextsAt (w6.setCell ⟨g, s, none⟩ (text T)) 0 (.slice (some ⟨g, 0, none⟩) n c1) (D2.all n) := by rw [HSE.out]; exact hT1.put_ HALL.out s T
              have hS : TextsAt (w6.setCell ⟨g, s, none⟩ (text T)) 0 v2 (D2.all n) := hT2.still (by rw [HSE.out]; exact List.getElem?_set_self (by rw [HALL.out]; exact hsn2))
              have HFIN := Lib.hid (show OwnP (w6.setCell ⟨g, s, none⟩ (text T)) w0.heap.size Q3 d n D2 ∧ Below w0.heap.size w0 (w6.setCell ⟨g, s, none⟩ (text T)) ∧ TextsAt (w6.setCell ⟨g, s, none⟩ (text T)) 0 (.slice (some ⟨g, 0, none⟩) n c1) (D2.all n) ∧ TextsAt (w6.setCell ⟨g, s, none⟩ (text T)) 0 v2 (D2.all n) from ⟨HO6.out.putr HQG.out s _, HB6.out.setCell (p := ⟨g, s, none⟩) HLOG.out _, hN, hS⟩)
              clear hT1 hT2 hN hS
              go_wp2
              go_meet
              case rel => exact HFIN.out
          case rest =>
            obtain ⟨hO, hB, hT1, hT2⟩ := hcut
            clear HO HB T_v1 T_v2 T_v3 e0 e1 e2 e3 e4 e5
            have T1 := Lib.hid hT1
            have T2 := Lib.hid hT2
            have HO := Lib.hid hO
            have HB := Lib.hid hB
            clear hT1 hT2 hO hB
            go_wp2_with fail
            refine (same_any 0 _ v2 _ _ _ T1.out T2.out (by simp [Dsk.all]; omega)).mono ?_
            rintro e w60 ⟨rfl, hb⟩
            rw [decide_eq_true rfl]
            have hB := HB.out.trans (hb.mono HB.out.size)
            have hO := HO.out.below hb
            clear HO HB hb T1 T2
            have HO := Lib.hid hO
            have HB := Lib.hid hB
            clear hO hB
            go_wp2_with fail
            refine (ownp_fail w0.heap.size _ d n D2 _ HO.out 0 0 (by have := HQ2.out; omega) (by unfold In64; omega) (by unfold In64; omega)).mono ?_
            rintro e w61 ⟨rfl, hO, hT⟩
            have hB := HB.out.trans (hT.below HB.out.size)
            clear HO HB hT
            have HO := Lib.hid hO
            have HB := Lib.hid hB
            clear hO hB
            go_wp2_with fail
            refine (fill_any ⟨#[97]⟩ _ (by decide)).mono ?_
            rintro e w62 ⟨rfl, hb⟩
            have hB := HB.out.trans (hb.mono HB.out.size)
            have hO := HO.out.below hb
            clear HO HB hb
            have HO := Lib.hid hO
            have HB := Lib.hid hB
            clear hO hB
            have WF := ownp_write w0.heap.size _ d n _ _ HO.out 0 ⟨(AAct.text ⟨0, 0, 0, ⟨#[97]⟩, false, 0⟩).toArray⟩ (Nat.lt_of_le_of_lt (fail_q _ _ _) (by have := HQ2.out; omega)) (by unfold In64; omega)
            rw [(fail_off_write D2 HC2.out.on _).1] at WF
            simp only at WF
            have WF := Lib.hid WF
            clear HO
            go_wp2_with fail
            refine WF.out.mono ?_
            rintro e w63 ⟨rfl, hO, hT⟩
            have hB := HB.out.trans (hT.below HB.out.size)
            have RF := ownp_read w0.heap.size _ d n _ _ hO 0 (Nat.le_trans (fail_q _ _ _) (by have := HQ2.out; omega))
            rw [(fail_off_write D2 HC2.out.on []).2] at RF
            simp only at RF
            rw [show text [] = .string ⟨#[]⟩ from rfl] at RF
            have RF := Lib.hid RF
            clear HB hT hO WF
            have HB := Lib.hid hB
            clear hB
            go_wp2_with fail
            refine RF.out.mono ?_
            rintro e w64 ⟨rfl, hO, hT⟩
            have hB := HB.out.trans (hT.below HB.out.size)
            clear HB hO hT RF
            have HB := Lib.hid hB
            clear hB
            go_wp2
            go_ret
            exact ⟨rfl, by first | exact HBB.out.trans (HB.out.mono HBB.out.size) | (rw [HBX.out]; exact HBB.out.trans (HB.out.mono HBB.out.size))⟩
        · have h2 := HW2.out
          rw [if_neg hv] at h2
          simp only [Prod.mk.injEq] at h2
          obtain ⟨hd2, rfl⟩ := h2
          have HD := Lib.hid hd2
          clear hd2 HW2
          have hv3 : sc < 0 ∨ (¬ sc < 0 ∧ (n : Int) ≤ sc) ∨ (¬ sc < 0 ∧ ¬ (n : Int) ≤ sc ∧ T.length ≠ 64) := by omega
          clear hv
          rcases hv3 with h3 | ⟨h3, h4⟩ | ⟨h3, h4, h5⟩
          · obtain ⟨e0, e1, e2, e3, e4, e5⟩ := HEL.out _ HB.out
            simp only at e0 e1 e2 e3 e4 e5
            go_wp2_with fail
            refine (same_any 0 v1 v2 _ _ _ T_v1.out T_v2.out (by simp [Dsk.all]; omega)).mono ?_
            rintro e w44 ⟨rfl, hb⟩
            rw [decide_eq_true (by rw [HD.out])]
            have hB := HB.out.trans (hb.mono HB.out.size)
            have hO := HO.out.below hb
            have hT_v1 := T_v1.out.below hb rfl
            have hT_v2 := T_v2.out.below hb rfl
            have hT_v3 := T_v3.out.below hb rfl
            clear HO HB hb T_v1 T_v2 T_v3
            have T_v1 := Lib.hid hT_v1
            have T_v2 := Lib.hid hT_v2
            have T_v3 := Lib.hid hT_v3
            have HO := Lib.hid hO
            have HB := Lib.hid hB
            clear hO hB hT_v1 hT_v2 hT_v3
            clear e0 e1 e2 e3 e4 e5
            obtain ⟨e0, e1, e2, e3, e4, e5⟩ := HEL.out _ HB.out
            simp only at e0 e1 e2 e3 e4 e5
            go_wp2_with fail
            go_ret
            exact ⟨rfl, by first | exact HBB.out.trans (HB.out.mono HBB.out.size) | (rw [HBX.out]; exact HBB.out.trans (HB.out.mono HBB.out.size))⟩
          · obtain ⟨e0, e1, e2, e3, e4, e5⟩ := HEL.out _ HB.out
            simp only at e0 e1 e2 e3 e4 e5
            go_wp2_with fail
            refine (same_any 0 v1 v2 _ _ _ T_v1.out T_v2.out (by simp [Dsk.all]; omega)).mono ?_
            rintro e w44 ⟨rfl, hb⟩
            rw [decide_eq_true (by rw [HD.out])]
            have hB := HB.out.trans (hb.mono HB.out.size)
            have hO := HO.out.below hb
            have hT_v1 := T_v1.out.below hb rfl
            have hT_v2 := T_v2.out.below hb rfl
            have hT_v3 := T_v3.out.below hb rfl
            clear HO HB hb T_v1 T_v2 T_v3
            have T_v1 := Lib.hid hT_v1
            have T_v2 := Lib.hid hT_v2
            have T_v3 := Lib.hid hT_v3
            have HO := Lib.hid hO
            have HB := Lib.hid hB
            clear hO hB hT_v1 hT_v2 hT_v3
            clear e0 e1 e2 e3 e4 e5
            obtain ⟨e0, e1, e2, e3, e4, e5⟩ := HEL.out _ HB.out
            simp only at e0 e1 e2 e3 e4 e5
            go_wp2_with fail
            go_ret
            exact ⟨rfl, by first | exact HBB.out.trans (HB.out.mono HBB.out.size) | (rw [HBX.out]; exact HBB.out.trans (HB.out.mono HBB.out.size))⟩
          · obtain ⟨e0, e1, e2, e3, e4, e5⟩ := HEL.out _ HB.out
            simp only at e0 e1 e2 e3 e4 e5
            go_wp2_with fail
            refine (same_any 0 v1 v2 _ _ _ T_v1.out T_v2.out (by simp [Dsk.all]; omega)).mono ?_
            rintro e w44 ⟨rfl, hb⟩
            rw [decide_eq_true (by rw [HD.out])]
            have hB := HB.out.trans (hb.mono HB.out.size)
            have hO := HO.out.below hb
            have hT_v1 := T_v1.out.below hb rfl
            have hT_v2 := T_v2.out.below hb rfl
            have hT_v3 := T_v3.out.below hb rfl
            clear HO HB hb T_v1 T_v2 T_v3
            have T_v1 := Lib.hid hT_v1
            have T_v2 := Lib.hid hT_v2
            have T_v3 := Lib.hid hT_v3
            have HO := Lib.hid hO
            have HB := Lib.hid hB
            clear hO hB hT_v1 hT_v2 hT_v3
            clear e0 e1 e2 e3 e4 e5
            obtain ⟨e0, e1, e2, e3, e4, e5⟩ := HEL.out _ HB.out
            simp only at e0 e1 e2 e3 e4 e5
            go_wp2_with fail
            refine (TX.out _).mono ?_
            rintro e w50 ⟨rfl, hb⟩
            have hB := HB.out.trans (hb.mono HB.out.size)
            clear HB
            have HB := Lib.hid hB
            clear hB hb
            have b5 : ((T.length : Int) == 64) = false := by simp; omega
            go_wp2
            go_ret
            exact ⟨by first | rfl | (simp; omega), by first | exact HBB.out.trans (HB.out.mono HBB.out.size) | (rw [HBX.out]; exact HBB.out.trans (HB.out.mono HBB.out.size))⟩
set_option maxRecDepth 100000 in
set_option maxHeartbeats 4000000 in
theorem reads_bad (r : Nat) (A : Option Addr) (c : Nat) (l : List AAct) (x : AAct) (w : World) (h1 : ActsAt w A l) (m1 : l.length ≤ 9223372036854775807) (o : okB l = false ∨ okB [x] = false) :
    Calls Try.prog 6 #[.int .u8 (r : Int), .slice A l.length c, .agg x.cells] w fun e w' => e = .returned (.bool true) ∧ Below w.heap.size w w' := by
  have EB := Lib.hid (elem_box w x 34)
  have h1 := h1.below ((Below.refl w.heap.size w).alloc (Nat.le_refl _) (.cells x.cells 34)) rfl
  have hbb := (Below.refl w.heap.size w).alloc (Nat.le_refl _) (.cells x.cells 34)
  obtain ⟨w0, hw0⟩ : ∃ w0, w0 = w.alloc (.cells x.cells 34) := ⟨_, rfl⟩
  have HBB := Lib.hid hbb
  have HW0 := Lib.hid hw0
  rw [← hw0] at h1 EB HBB
  have hlt0 : w.heap.size < w0.heap.size := by rw [hw0]; simp
  obtain ⟨bx, hbx⟩ : ∃ bx, bx = w.heap.size := ⟨_, rfl⟩
  rw [← hbx] at EB hlt0
  have HBX := Lib.hid hbx
  have HEL := Lib.hid (fun W (hW : Below w0.heap.size w0 W) => EB.out.below hW hlt0)
  have OK1 := Lib.hid (fun W (h : ActsAt W A l) => ok_any A c l W h m1)
  have OKX := Lib.hid (fun W b (h : ActsAt W (some ⟨b, 0, none⟩) [x]) => ok_any (some ⟨b, 0, none⟩) 1 [x] W h (by simp))
  have AB := Lib.hid (fun W => acts_box W x 34)
  have H1 := Lib.hid h1
  have O := Lib.hid o
  obtain ⟨L, hL⟩ : ∃ L, L = l.length := ⟨_, rfl⟩
  rw [← hL] at m1 OK1 ⊢
  obtain ⟨p, hp⟩ : ∃ p, p = okB l := ⟨_, rfl⟩
  obtain ⟨q, hq⟩ : ∃ q, q = okB [x] := ⟨_, rfl⟩
  rw [← hp] at OK1 O
  rw [← hq] at OKX O
  clear hw0 hbb hbx o hL h1 hp hq
  obtain ⟨kd, sc, bt, tx, od, aft⟩ := x
  unfold AAct.cells at AB HW0 ⊢
  simp only at AB HW0
  simp only [List.length_cons, List.length_nil] at OKX
  go_enter Try.func6, Try.ntmps6
  go_wp2_with fail
  rw [← HW0.out, ← HBX.out]
  refine (head_any _).mono ?_
  rintro e w1 ⟨rfl, hb⟩
  have hB : Below w0.heap.size w0 w1 := hb
  have HB := Lib.hid hB
  clear hb hB
  go_wp2_with fail
  refine (OK1.out _ (H1.out.below HB.out rfl)).mono ?_
  rintro e _ ⟨rfl, rfl⟩
  cases p with
  | false =>
    go_wp2
    go_ret
    exact ⟨rfl, by first | exact HBB.out.trans (HB.out.mono HBB.out.size) | (rw [HBX.out]; exact HBB.out.trans (HB.out.mono HBB.out.size))⟩
  | true =>
    have hq : q = false := by rcases O.out with h | h; cases h; exact h
    subst hq
    obtain ⟨e0, e1, e2, e3, e4, e5⟩ := HEL.out _ HB.out
    simp only at e0 e1 e2 e3 e4 e5
    go_wp2_with fail
    refine (OKX.out _ _ (AB.out _)).mono ?_
    rintro e _ ⟨rfl, rfl⟩
    have hB := HB.out.alloc HB.out.size (.cells #[.int .i64 kd, .int .i64 sc, .int .i64 bt, .string tx, .bool od, .int .i64 aft] 34)
    have HB2 := Lib.hid hB
    clear hB e0 e1 e2 e3 e4 e5
    go_wp2
    go_ret
    exact ⟨rfl, by first | exact HBB.out.trans (HB2.out.mono HBB.out.size) | (rw [HBX.out]; exact HBB.out.trans (HB2.out.mono HBB.out.size))⟩
theorem diskReads.law_walk {w : World} (r : Nat) (hr : r < 256) (A : Option Addr) (c : Nat) (l : List AAct) (h1 : ActsAt w A l) (m1 : l.length ≤ 9223372036854775807) (k1 : ∀ a ∈ l, a.Ok) (x : AAct) (hxo : x.Ok) :
    Calls Try.prog 6 #[.int .u8 (r : Int), .slice A l.length c, .agg x.cells] w fun e w' => e = .returned (.bool true) ∧ Below w.heap.size w w' := by
  cases o1 : okB l with
  | false => exact reads_bad r A c l x w h1 m1 (.inl o1)
  | true =>
    cases o2 : okB [x] with
    | false => exact reads_bad r A c l x w h1 m1 (.inr o2)
    | true => exact reads_walk r A c l x w hr h1 m1 k1 hxo ((ok_spec o2).2 x (by simp)) o1
end Go.Proofs.Ytmkfbedhmmijjaa
