/- The reference's disk: Read and Stale. -/
import Derived.Test.YtmkfbedhmmijjaaRWrite
namespace Go.Proofs.Ytmkfbedhmmijjaa
open Go.RowKit
theorem ret_two {a b : Value} (h : a = b) (c : Value) : Ending.returned (.tuple #[a, c]) = .returned (.tuple #[b, c]) := by rw [h]
set_option maxHeartbeats 1000000 in
theorem rread_ok (F : Nat → Prop) (d n k : Nat) (D : Dsk) (w : World) (h : Ref w F d n D) (hoff : D.off = false) (hk : k < n) (hbig : D.q.length ≤ 1000000) :
    Calls Try.prog 18 #[.pointer (some ⟨d, 0, none⟩), .int .i64 (k : Int)] w fun e w' => e = .returned (.tuple #[text (D.rd k), .int .i64 0]) ∧ w = w' := by
  obtain ⟨bs, be, cs, ce, qv, am, f, x, y, hD, h1, h2, h3, h4⟩ := h
  obtain ⟨A, c, hqv⟩ := qv_form hD.q
  have hqs : 0 < D.q.length → ∃ g, A = some ⟨g, 0, none⟩ := fun h0 => by
    obtain ⟨g, cap, e⟩ := qv_some hD.q h0
    rw [hqv] at e
    simp only [Value.slice.injEq] at e
    exact ⟨g, e.1⟩
  have c0 : w.cell? ⟨d, 0, none⟩ = some (.slice (some ⟨bs, 0, none⟩) n cs) := hD.blk.cell 0
  have c2 : w.cell? ⟨d, 2, none⟩ = some (.slice A D.q.length c) := by have := hD.blk.cell 2; rw [hqv] at this; exact this
  have c3 : w.cell? ⟨d, 3, none⟩ = some (.bool true) := by rw [hD.blk.cell 3, hoff]; rfl
  obtain ⟨Y, hY⟩ : ∃ Y : ByteArray, Value.string Y = text (D.st.getD k []) := ⟨_, rfl⟩
  have ck : w.cell? ⟨bs, k, none⟩ = some (.string Y) := by rw [hY]; exact rt_at hD.st hD.ok.stl hk
  have hdl : d < w.heap.size := hD.blk.lt
  have p1 : decide ((k : Int) < 0) = false := by simp
  have p2 : decide (n ≤ k) = false := by simp; omega
  have p4 : (k : Int) < (n : Int) := by omega
  have HY := Lib.hid hY
  have HD := Lib.hid hD
  have HQV := Lib.hid hqv
  have HQS := Lib.hid hqs
  obtain ⟨L, hL⟩ : ∃ L, L = D.q.length := ⟨_, rfl⟩
  rw [← hL] at c2
  have hLb : L ≤ 1000000 := by rw [hL]; exact hbig
  have HL := Lib.hid hL
  clear hY hD hqv hqs hoff hL hbig
  go_enter Try.func18, Try.ntmps18
  go_wp2_with fail
  go_loop [6, 7] (fun v i => ∃ (j : Nat) (Z : ByteArray), j ≤ L ∧ i = .int .i64 (j : Int) ∧ v = .string Z ∧ Hid (Value.string Z = text ((lastIn (D.q.take j) k).getD (D.st.getD k [])))) (fun _ i => L - (intOf i).toNat)
  case atStart => exact ⟨0, Y, Nat.zero_le _, rfl, rfl, HY.out⟩
  case round =>
    obtain ⟨j, Z, hj, rfl, rfl, HZ⟩ := hrel
    by_cases hlt : j < L
    · have hjq : j < D.q.length := by rw [← HL.out]; exact hlt
      obtain ⟨g, hg⟩ := HQS.out (by omega)
      subst hg
      have hq := qr_get D.q j hjq
      have hown := HD.out.q
      rw [HQV.out] at hown
      have e0 := own_cell hown hq.1
      have e1 := own_cell hown hq.2
      obtain ⟨s, T, hst⟩ : ∃ s T, D.q[j] = (s, T) := ⟨_, _, rfl⟩
      rw [hst] at e0 e1
      simp only at e0 e1
      unfold text at e1
      have hsn : lastIn (D.q.take (j + 1)) k = if s = k then some T else lastIn (D.q.take j) k := by
        rw [List.take_succ_eq_append_getElem hjq, lastIn_snoc, hst]
      have HSN := Lib.hid hsn
      clear hq hown hst hsn
      by_cases hsk : s = k
      · subst hsk
        have b1 : ((s : Int) == (s : Int)) = true := by simp
        have HZ2 := Lib.hid (show Value.string ⟨T.toArray⟩ = text ((lastIn (D.q.take (j + 1)) s).getD (D.st.getD s [])) from by rw [HSN.out, if_pos rfl]; rfl)
        go_wp2
        go_round
        case rel => exact ⟨j + 1, _, by omega, by go_num, rfl, HZ2.out⟩
        case measure => simp [intOf]; omega
      · have b1 : ((s : Int) == (k : Int)) = false := by simp; omega
        have HZ2 := Lib.hid (show Value.string Z = text ((lastIn (D.q.take (j + 1)) k).getD (D.st.getD k [])) from by rw [HSN.out, if_neg hsk]; exact HZ.out)
        clear hsk
        go_wp2
        go_round
        case rel => exact ⟨j + 1, Z, by omega, by go_num, rfl, HZ2.out⟩
        case measure => simp [intOf]; omega
    · have hz := HZ.out
      rw [List.take_of_length_le (by rw [← HL.out]; omega)] at hz
      have HZ2 := Lib.hid (show Value.string Z = text (D.rd k) from hz)
      clear hz
      go_wp2
      go_ret2
      exact ⟨ret_two HZ2.out _, rfl⟩
theorem rread_any (F : Nat → Prop) (d n : Nat) (s : Int) (D : Dsk) (w : World) (h : Ref w F d n D) (hbig : D.q.length ≤ 1000000) :
    Calls Try.prog 18 #[.pointer (some ⟨d, 0, none⟩), .int .i64 s] w fun e w' => e = .returned (.tuple #[text (D.read s).1, .int .i64 (D.read s).2]) ∧ w = w' := by
  obtain ⟨bs, be, cs, ce, qv, am, f, x, y, hD, h1, h2, h3, h4⟩ := id h
  have c0 : w.cell? ⟨d, 0, none⟩ = some (.slice (some ⟨bs, 0, none⟩) n cs) := hD.blk.cell 0
  cases hoff : D.off with
  | true =>
    have e1 : D.read s = ([], 25) := by unfold Dsk.read; rw [hoff]; rfl
    rw [e1]
    have c3 : w.cell? ⟨d, 3, none⟩ = some (.bool false) := by rw [hD.blk.cell 3, hoff]; rfl
    clear h hD hoff e1
    go_enter Try.func18, Try.ntmps18
    go_wp2
    go_ret2
    exact ⟨rfl, rfl⟩
  | false =>
    have c3 : w.cell? ⟨d, 3, none⟩ = some (.bool true) := by rw [hD.blk.cell 3, hoff]; rfl
    by_cases hok : 0 ≤ s ∧ s < (n : Int)
    · obtain ⟨k, rfl⟩ := Int.eq_ofNat_of_zero_le hok.1
      have e1 : D.read (k : Int) = (D.rd k, 0) := by
        unfold Dsk.read
        rw [hoff, if_neg (by simp), if_pos ⟨by omega, by rw [hD.ok.stl]; omega⟩]
        simp
      rw [e1]
      exact rread_ok F d n k D w h hoff (by omega) hbig
    · have e1 : D.read s = ([], 1) := by
        unfold Dsk.read
        rw [hoff, if_neg (by simp), if_neg (by rintro ⟨h6, h7⟩; rw [hD.ok.stl] at h7; exact hok ⟨h6, h7⟩)]
      rw [e1]
      clear hD h hoff e1
      rcases Int.lt_or_le s 0 with h0 | h0
      · go_enter Try.func18, Try.ntmps18
        go_wp2
        go_ret2
        exact ⟨rfl, rfl⟩
      · have h5 : (n : Int) ≤ s := by omega
        clear hok
        go_enter Try.func18, Try.ntmps18
        go_wp2
        go_ret2
        exact ⟨rfl, rfl⟩
theorem RefAt.staled {w : World} {d n bs be cs ce : Nat} {qv : Value} {am : Bool} {f x y : Int} {D : Dsk} (h : RefAt w d n bs be cs ce qv am f x y D) {k : Nat} (_hk : k < n) {t : List UInt8} (ht : t.length = 64) :
    RefAt (w.setCell ⟨bs, k, none⟩ (text t)) d n bs be cs ce qv am f x y { D with st := D.st.set k t } ∧ Only (fun b => b = bs) w (w.setCell ⟨bs, k, none⟩ (text t)) := by
  have hb := h.blk_st h.blk (by decide)
  have ho : Only (fun b => b = bs) w (w.setCell ⟨bs, k, none⟩ (text t)) := (Only.refl (fun b => b = bs) w).setCell (p := ⟨bs, k, none⟩) (fun _ => rfl) _
  exact ⟨⟨⟨h.ok.lo, h.ok.hi, by simp [h.ok.stl], h.ok.ell, set64 h.ok.st64 ht, h.ok.el64, h.ok.q64, h.ok.arm⟩, ho.blk h.blk hb.1, rt_put h.st h.ok.stl k t, rt_far h.el (by simpa [Value.ownBlock] using fun e => h.ne e.symm) _, h.ne, ho.own h.q (fun j hj e => by subst e; exact h.q_ne.1 hj), h.arm⟩, ho⟩
set_option maxHeartbeats 400000 in
theorem rstale_any (F : Nat → Prop) (d n : Nat) (s : Int) (D : Dsk) (w : World) (h : Ref w F d n D) :
    Calls Try.prog 38 #[.pointer (some ⟨d, 0, none⟩), .int .i64 s] w fun e w' => e = .returned (.tuple #[]) ∧ Ref w' (After F w w') d n (D.stale s) ∧ Only F w w' := by
  obtain ⟨bs, be, cs, ce, qv, am, f, x, y, hD, h1, h2, h3, h4⟩ := id h
  have c0 : w.cell? ⟨d, 0, none⟩ = some (.slice (some ⟨bs, 0, none⟩) n cs) := hD.blk.cell 0
  have c1 : w.cell? ⟨d, 1, none⟩ = some (.slice (some ⟨be, 0, none⟩) n ce) := hD.blk.cell 1
  have hdl : d < w.heap.size := hD.blk.lt
  by_cases hok : 0 ≤ s ∧ s < (n : Int)
  · obtain ⟨k, rfl⟩ := Int.eq_ofNat_of_zero_le hok.1
    have hk : k < n := by omega
    have e1 : D.stale (k : Int) = { D with st := D.st.set k (D.el.getD k []) } := by
      unfold Dsk.stale
      rw [if_pos ⟨by omega, by rw [hD.ok.stl]; omega⟩]
      simp
    rw [e1]
    have p1 : decide ((0 : Int) ≤ (k : Int)) = true := by simp
    have p2 : decide (k < n) = true := by simp; omega
    have p4 : (k : Int) < (n : Int) := by omega
    obtain ⟨Y, hY⟩ : ∃ Y : ByteArray, Value.string Y = text (D.el.getD k []) := ⟨_, rfl⟩
    have hst := hD.staled hk (mem64 hD.ok.el64 (s := k) (by rw [hD.ok.ell]; exact hk))
    have HD := Lib.hid hD
    have HY := Lib.hid hY
    clear h hok e1 hY hst hD
    go_enter Try.func38, Try.ntmps38
    go_wp2_with fail
    refine region_tail 13 (fun W => (W.cell? ⟨d, 0, none⟩ = some (.slice (some ⟨bs, 0, none⟩) n cs) ∧ W.cell? ⟨d, 1, none⟩ = some (.slice (some ⟨be, 0, none⟩) n ce) ∧ W.cell? ⟨be, k, none⟩ = some (.string Y)) ∧ W = w.drew) ?_ (by kernel_rfl) (by kernel_rfl) ?_
    · have hD := HD.out.drew
      exact ⟨⟨hD.blk.cell 0, hD.blk.cell 1, by rw [HY.out]; exact rt_at hD.el hD.ok.ell hk⟩, rfl⟩
    · intro W ⟨⟨e0, e1, e2⟩, hW⟩
      have HW := Lib.hid hW
      have hD : RefAt W d n bs be cs ce qv am f x y D := by rw [hW]; exact HD.out.drew
      have f2 : W.frozen? ⟨bs, k, none⟩ = false := rt_soft hD.st k
      have g2 : W.cell? ⟨bs, k, none⟩ = some (text (D.st.getD k [])) := rt_at hD.st hD.ok.stl hk
      have HD2 := Lib.hid hD
      clear hW hD c0 c1
      unfold text at g2
      simp only [List.take_succ_cons, List.take_zero, List.drop_succ_cons, List.drop_zero]
      repeat still_step
      refine wpStill_nil ?_
      go_wp2
      go_end0
      have hfin := HD2.out.staled hk (mem64 HD2.out.ok.el64 (s := k) (by rw [HD2.out.ok.ell]; exact hk))
      rw [← HY.out] at hfin
      have hw : Only F w W := by rw [HW.out]; exact (Only.refl _ w).drew
      exact ⟨rfl, Ref.of hfin.1 h1 h2 h3 h4, hw.trans hfin.2 (fun _ _ h => by subst h; exact h2)⟩
  · have e1 : D.stale s = D := by
      unfold Dsk.stale
      rw [if_neg (by rintro ⟨h6, h7⟩; rw [hD.ok.stl] at h7; exact hok ⟨h6, h7⟩)]
    rw [e1]
    have H := Lib.hid h
    clear hD h e1
    rcases Int.lt_or_le s 0 with h0 | h0
    · go_enter Try.func38, Try.ntmps38
      go_wp2
      go_end0
      exact ⟨rfl, H.out.mono (fun _ _ h => .inl h), Only.refl _ _⟩
    · have h5 : (n : Int) ≤ s := by omega
      clear hok
      go_enter Try.func38, Try.ntmps38
      go_wp2
      go_end0
      exact ⟨rfl, H.out.mono (fun _ _ h => .inl h), Only.refl _ _⟩
end Go.Proofs.Ytmkfbedhmmijjaa
