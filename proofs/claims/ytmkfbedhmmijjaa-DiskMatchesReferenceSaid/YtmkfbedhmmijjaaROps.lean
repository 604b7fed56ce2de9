/- The reference's disk: Fail by its footprint, count, Start, Arm, Sync. -/
import Derived.Test.YtmkfbedhmmijjaaRFail
namespace Go.Proofs.Ytmkfbedhmmijjaa
open Go.RowKit
section
variable {w w' : World} {d n : Nat} {D D' : Dsk} {F F' : Nat → Prop}
theorem Ref.mono (h : Ref w F d n D) (hF : ∀ b, b < w.heap.size → F b → F' b) : Ref w F' d n D := by
  obtain ⟨bs, be, cs, ce, qv, am, f, x, y, hD, h1, h2, h3, h4⟩ := h
  have hn := hD.ok.lo
  exact ⟨bs, be, cs, ce, qv, am, f, x, y, hD, hF _ hD.blk.lt h1, hF _ (rt_lt hD.st hD.ok.stl (by omega)) h2, hF _ (rt_lt hD.el hD.ok.ell (by omega)) h3, fun k hk => hF _ (own_lt hD.q hk) (h4 k hk)⟩
theorem Ref.keep (h : Ref w F d n D) (ho : Only F' w w') (hF : ∀ b, F b → ¬ F' b) : Ref w' F d n D := by
  obtain ⟨bs, be, cs, ce, qv, am, f, x, y, hD, h1, h2, h3, h4⟩ := h
  exact ⟨bs, be, cs, ce, qv, am, f, x, y, hD.keep ho (hF _ h1) (hF _ h2) (hF _ h3) (fun k hk => hF _ (h4 k hk)), h1, h2, h3, h4⟩
theorem Ref.ok (h : Ref w F d n D) : D.Ok n := by
  obtain ⟨bs, be, cs, ce, qv, am, f, x, y, hD, _⟩ := h
  exact hD.ok
theorem Ref.after (h : Ref w F d n D) (ho : Only (fun _ => False) w w') : Ref w' (After F w w') d n D := (h.keep ho (fun _ _ => id)).mono fun _ _ hb => .inl hb
theorem Ref.below (h : Ref w F d n D) (hb : Below w.heap.size w w') : Ref w' F d n D := h.keep (Only.of_below hb (fun _ => False)) (fun _ _ => id)
theorem Ref.alloc (h : Ref w F d n D) (o : Obj) : Ref (w.alloc o) F d n D := h.keep ((Only.refl (fun _ => False) w).alloc o) (fun _ _ => id)
theorem Ref.drew (h : Ref w F d n D) : Ref w.drew F d n D := h.keep ((Only.refl (fun _ => False) w).drew) (fun _ _ => id)
theorem Ref.later {w1 w2 : World} (h : Ref w2 (After F w1 w2) d n D) (hb : w.heap.size ≤ w1.heap.size) : Ref w2 (After F w w2) d n D :=
  h.mono (fun b _ hF => by rcases hF with hF | hF; exact .inl hF; exact .inr ⟨Nat.le_trans hb hF.1, hF.2⟩)
/-- The footprint is what it was. -/
theorem Ref.of {bs be cs ce : Nat} {qv : Value} {am : Bool} {f x y : Int} (hD : RefAt w' d n bs be cs ce qv am f x y D) (h1 : F d) (h2 : F bs) (h3 : F be) (h4 : ∀ k, qv.ownBlock = some k → F k) : Ref w' (After F w w') d n D :=
  ⟨bs, be, cs, ce, qv, am, f, x, y, hD, .inl h1, .inl h2, .inl h3, fun k hk => .inl (h4 k hk)⟩
end

theorem rfail_any (F : Nat → Prop) (d n : Nat) (a b : Int) (D : Dsk) (w : World) (h : Ref w F d n D) (hbig : D.q.length ≤ 1000000) (ha : In64 a) (hb : In64 b) :
    Calls Try.prog 34 #[.pointer (some ⟨d, 0, none⟩), .int .i64 a, .int .i64 b] w fun e w' => e = .returned (.tuple #[]) ∧ Ref w' (After F w w') d n (D.fail a b) ∧ Only F w w' := by
  obtain ⟨bs, be, cs, ce, qv, am, f, x, y, hD, h1, h2, h3, h4⟩ := id h
  cases hoff : D.off with
  | true =>
    have e1 : D.fail a b = D := by unfold Dsk.fail; rw [hoff]; rfl
    rw [e1]
    have c3 : w.cell? ⟨d, 3, none⟩ = some (.bool false) := by rw [hD.blk.cell 3, hoff]; rfl
    have H := Lib.hid h
    clear h hD hoff e1
    go_enter Try.func34, Try.ntmps34
    go_wp2
    exact bodyPost_ret (results_none rfl _ _ _) rfl ⟨rfl, H.out.mono (fun _ _ h => .inl h), Only.refl _ _⟩
  | false =>
    refine (rfail_on d n bs be cs ce qv am f x y a b D w hD hoff hbig ha hb).mono fun e w' ⟨he, hD', hO⟩ => ?_
    refine ⟨he, Ref.of hD' h1 h2 h3 (fun k hk => by simp [Value.ownBlock] at hk), hO.mono (fun k _ hk => ?_)⟩
    rcases hk with rfl | rfl | rfl
    · exact h1
    · exact h2
    · exact h3

set_option maxHeartbeats 400000 in
theorem rcount_any (F : Nat → Prop) (d n : Nat) (D : Dsk) (w : World) (h : Ref w F d n D) (hbig : D.q.length ≤ 1000000) :
    Calls Try.prog 44 #[.pointer (some ⟨d, 0, none⟩)] w fun e w' => e = .returned (.int .i64 D.count.2) ∧ Ref w' (After F w w') d n D.count.1 ∧ Only F w w' := by
  obtain ⟨bs, be, cs, ce, qv, am, f, x, y, hD, h1, h2, h3, h4⟩ := id h
  have c4 : w.cell? ⟨d, 4, none⟩ = some (.bool am) := hD.blk.cell 4
  have c5 : w.cell? ⟨d, 5, none⟩ = some (.int .i64 f) := hD.blk.cell 5
  have c6 : w.cell? ⟨d, 6, none⟩ = some (.int .i64 x) := hD.blk.cell 6
  have c7 : w.cell? ⟨d, 7, none⟩ = some (.int .i64 y) := hD.blk.cell 7
  have f5 : w.frozen? ⟨d, 5, none⟩ = false := hD.blk.frozen 5
  have hdl : d < w.heap.size := hD.blk.lt
  obtain ⟨⟨hf, hx, hy⟩, harm⟩ := hD.arm
  have H := Lib.hid h
  have HD := Lib.hid hD
  clear h hD
  rcases harm with ⟨rfl, ha⟩ | ⟨rfl, hf0, ha⟩
  · have e1 : D.count = (D, 0) := by unfold Dsk.count; rw [ha]
    rw [e1]
    clear ha e1 c5 c6 c7
    go_enter Try.func44, Try.ntmps44
    go_wp2
    go_ret
    exact ⟨rfl, H.out.mono (fun _ _ h => .inl h), Only.refl _ _⟩
  · obtain ⟨k, rfl⟩ := Int.eq_ofNat_of_zero_le hf0
    cases k with
    | zero =>
      have e1 : D.count = (D.fail x y, 25) := by unfold Dsk.count; rw [ha]; rfl
      rw [e1]
      clear ha e1 hf0
      have HX := Lib.hid hx
      have HY := Lib.hid hy
      clear hx hy
      go_enter Try.func44, Try.ntmps44
      go_wp2_with fail
      refine region_tail 9 (fun W => (W.cell? ⟨d, 6, none⟩ = some (.int .i64 x) ∧ W.cell? ⟨d, 7, none⟩ = some (.int .i64 y)) ∧ W = w.drew) ⟨⟨c6, c7⟩, rfl⟩ (by kernel_rfl) (by kernel_rfl) ?_
      intro W ⟨⟨e0, e1⟩, hW⟩
      have HW := Lib.hid hW
      have hdW : d < W.heap.size := by rw [hW]; exact hdl
      clear hW c4 c5 c6 c7 f5
      simp only [List.take_succ_cons, List.take_zero, List.drop_succ_cons, List.drop_zero]
      repeat still_step
      refine wpStill_nil ?_
      go_wp2_with fail
      refine (rfail_any F d n x y D W (by rw [HW.out]; exact H.out.drew) hbig HX.out HY.out).mono ?_
      rintro e w2 ⟨rfl, hD2, hO2⟩
      have hD3 : Ref w2 (After F w w2) d n (D.fail x y) := hD2.later (by rw [HW.out]; exact Nat.le_refl _)
      have hO3 : Only F w w2 := by rw [HW.out] at hO2; exact ((Only.refl F w).drew).trans hO2 (fun _ _ h => h)
      have HD3 := Lib.hid hD3
      have HO3 := Lib.hid hO3
      clear hD2 hO2 hD3 hO3 e0 e1
      go_wp2
      go_ret
      exact ⟨rfl, HD3.out, HO3.out⟩
    | succ k =>
      have e1 : D.count = ({ D with arm := some (k, x, y) }, 0) := by unfold Dsk.count; rw [ha]; rfl
      rw [e1]
      obtain ⟨j, hj⟩ : ∃ j : Int, j = ((k + 1 : Nat) : Int) := ⟨_, rfl⟩
      rw [← hj] at hf c5 HD
      have hj0 : 0 < j := by omega
      have hj2 := hf.2
      have b1 : (j == 0) = false := by simp; omega
      have hjk : (j - 1).toNat = k := by omega
      have HJK := Lib.hid hjk
      have HX := Lib.hid hx
      have HY := Lib.hid hy
      clear ha e1 hf0 c6 c7 hf hx hy hj hjk
      have hr : RefAt (w.setCell ⟨d, 5, none⟩ (.int .i64 (j - 1))) d n bs be cs ce qv true (j - 1) x y { D with arm := some (k, x, y) } := by
        have hb := HD.out.blk.set_ 5 (.int .i64 (j - 1))
        have e := HD.out.blk_st HD.out.blk (by decide)
        refine ⟨⟨HD.out.ok.lo, HD.out.ok.hi, HD.out.ok.stl, HD.out.ok.ell, HD.out.ok.st64, HD.out.ok.el64, HD.out.ok.q64, ?_⟩, hb, rt_far HD.out.st (by simpa [Value.ownBlock] using fun h => e.1 h.symm) _, rt_far HD.out.el (by simpa [Value.ownBlock] using fun h => e.2 h.symm) _, HD.out.ne, ?_, ⟨⟨by unfold In64; omega, HX.out, HY.out⟩, .inr ⟨rfl, by omega, by rw [HJK.out]⟩⟩⟩
        · intro k' a' b' h
          injection h with h
          injection h with h h'
          injection h' with h' h''
          subst h h' h''
          have h6 := HX.out
          have h7 := HY.out
          have h8 := HJK.out
          exact ⟨by omega, h6, h7⟩
        · exact ((Only.refl (fun b => b = d) w).setCell (p := ⟨d, 5, none⟩) (fun _ => rfl) _).own HD.out.q (fun b hb e => own_blk_ne HD.out.q HD.out.blk (by decide) (by rw [hb, e]))
      have hR : Ref (w.setCell ⟨d, 5, none⟩ (.int .i64 (j - 1))) (After F w (w.setCell ⟨d, 5, none⟩ (.int .i64 (j - 1)))) d n { D with arm := some (k, x, y) } := Ref.of hr h1 h2 h3 h4
      have hO : Only F w (w.setCell ⟨d, 5, none⟩ (.int .i64 (j - 1))) := (Only.refl F w).setCell (p := ⟨d, 5, none⟩) (fun _ => h1) _
      have HR := Lib.hid hR
      have HO := Lib.hid hO
      clear hr hR hO
      go_enter Try.func44, Try.ntmps44
      go_wp2
      go_ret
      exact ⟨rfl, HR.out, HO.out⟩
end Go.Proofs.Ytmkfbedhmmijjaa
