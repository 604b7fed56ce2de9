/- The reference's disk: Start, Arm, Sync. -/
import Derived.Test.YtmkfbedhmmijjaaROps
namespace Go.Proofs.Ytmkfbedhmmijjaa
open Go.RowKit
/-- Only the header has turned. -/
theorem RefAt.head {w w' : World} {d n bs be cs ce : Nat} {qv : Value} {am am' off' : Bool} {f x y f' x' y' : Int} {D : Dsk} {a' : Option (Nat × Int × Int)} (h : RefAt w d n bs be cs ce qv am f x y D)
    (ho : Only (fun b => b = d) w w') (hb : Blk w' d 64 (hdrR n bs be cs ce qv (!off') am' f' x' y')) (harm : ArmR am' f' x' y' a') : RefAt w' d n bs be cs ce qv am' f' x' y' { D with off := off', arm := a' } := by
  have e := h.blk_st h.blk (by decide)
  refine ⟨⟨h.ok.lo, h.ok.hi, h.ok.stl, h.ok.ell, h.ok.st64, h.ok.el64, h.ok.q64, ?_⟩, hb, ho.own h.st (fun k hk => ?_), ho.own h.el (fun k hk => ?_), h.ne, ho.own h.q (fun k hk e => own_blk_ne h.q h.blk (by decide) (by rw [hk, e])), harm⟩
  · intro k a b hk
    obtain ⟨⟨hf, hx, hy⟩, h2⟩ := harm
    rcases h2 with ⟨_, h2⟩ | ⟨_, h0, h2⟩
    · simp only at hk; rw [h2] at hk; cases hk
    · simp only at hk; rw [h2] at hk
      injection hk with hk
      injection hk with hk hk'
      injection hk' with hk' hk''
      subst hk hk' hk''
      have := hf.2
      exact ⟨by omega, hx, hy⟩
  · have e2 : bs = k := by simpa [Value.ownBlock] using hk
    subst e2
    exact fun e3 => e.1 e3.symm
  · have e2 : be = k := by simpa [Value.ownBlock] using hk
    subst e2
    exact fun e3 => e.2 e3.symm

theorem rstart_any (F : Nat → Prop) (d n : Nat) (D : Dsk) (w : World) (h : Ref w F d n D) :
    Calls Try.prog 35 #[.pointer (some ⟨d, 0, none⟩)] w fun e w' => e = .returned (.tuple #[]) ∧ Ref w' (After F w w') d n D.start ∧ Only F w w' := by
  obtain ⟨bs, be, cs, ce, qv, am, f, x, y, hD, h1, h2, h3, h4⟩ := h
  have c3 : w.cell? ⟨d, 3, none⟩ = some (.bool (!D.off)) := hD.blk.cell 3
  have c4 : w.cell? ⟨d, 4, none⟩ = some (.bool am) := hD.blk.cell 4
  have f3 : w.frozen? ⟨d, 3, none⟩ = false := hD.blk.frozen 3
  have f4 : w.frozen? ⟨d, 4, none⟩ = false := hD.blk.frozen 4
  have hdl : d < w.heap.size := hD.blk.lt
  obtain ⟨w2, hw2⟩ : ∃ w2, w2 = (w.setCell ⟨d, 3, none⟩ (.bool true)).setCell ⟨d, 4, none⟩ (.bool false) := ⟨_, rfl⟩
  have ho : Only (fun b => b = d) w w2 := by rw [hw2]; exact ((Only.refl (fun b => b = d) w).setCell (p := ⟨d, 3, none⟩) (fun _ => rfl) _).setCell (p := ⟨d, 4, none⟩) (fun _ => rfl) _
  have hb : Blk w2 d 64 (hdrR n bs be cs ce qv (!false) false f x y) := by rw [hw2]; exact (hD.blk.set_ 3 (.bool true)).set_ 4 (.bool false)
  have hr := hD.head ho hb (a' := none) ⟨hD.arm.1, .inl ⟨rfl, rfl⟩⟩
  have hR : Ref w2 (After F w w2) d n D.start := Ref.of hr h1 h2 h3 h4
  have hO : Only F w w2 := ho.mono (fun k _ e => by subst e; exact h1)
  have HR := Lib.hid hR
  have HO := Lib.hid hO
  have HW := Lib.hid hw2
  clear ho hb hr hR hO hD hw2
  go_enter Try.func35, Try.ntmps35
  go_wp2
  go_end0
  rw [← HW.out]
  exact ⟨rfl, HR.out, HO.out⟩

theorem rarm_any (F : Nat → Prop) (d n : Nat) (a b c : Int) (D : Dsk) (w : World) (h : Ref w F d n D) (ha : In64 a) (hb : In64 b) (hc : In64 c) :
    Calls Try.prog 36 #[.pointer (some ⟨d, 0, none⟩), .int .i64 a, .int .i64 b, .int .i64 c] w fun e w' => e = .returned (.tuple #[]) ∧ Ref w' (After F w w') d n (D.arming a b c) ∧ Only F w w' := by
  obtain ⟨bs, be, cs, ce, qv, am, f, x, y, hD, h1, h2, h3, h4⟩ := id h
  cases hoff : D.off with
  | true =>
    have e1 : D.arming a b c = D := by unfold Dsk.arming; rw [hoff]; rfl
    rw [e1]
    have c3 : w.cell? ⟨d, 3, none⟩ = some (.bool false) := by rw [hD.blk.cell 3, hoff]; rfl
    have H := Lib.hid h
    clear h hD hoff e1
    go_enter Try.func36, Try.ntmps36
    go_wp2
    exact bodyPost_ret (results_none rfl _ _ _) rfl ⟨rfl, H.out.mono (fun _ _ h => .inl h), Only.refl _ _⟩
  | false =>
    have c3 : w.cell? ⟨d, 3, none⟩ = some (.bool true) := by rw [hD.blk.cell 3, hoff]; rfl
    have c4 : w.cell? ⟨d, 4, none⟩ = some (.bool am) := hD.blk.cell 4
    have c5 : w.cell? ⟨d, 5, none⟩ = some (.int .i64 f) := hD.blk.cell 5
    have c6 : w.cell? ⟨d, 6, none⟩ = some (.int .i64 x) := hD.blk.cell 6
    have c7 : w.cell? ⟨d, 7, none⟩ = some (.int .i64 y) := hD.blk.cell 7
    have f4 : w.frozen? ⟨d, 4, none⟩ = false := hD.blk.frozen 4
    have f5 : w.frozen? ⟨d, 5, none⟩ = false := hD.blk.frozen 5
    have f6 : w.frozen? ⟨d, 6, none⟩ = false := hD.blk.frozen 6
    have f7 : w.frozen? ⟨d, 7, none⟩ = false := hD.blk.frozen 7
    have hdl : d < w.heap.size := hD.blk.lt
    have key : ∀ p : Bool, p = decide (0 ≤ a) → Ref ((((w.setCell ⟨d, 4, none⟩ (.bool p)).setCell ⟨d, 5, none⟩ (.int .i64 a)).setCell ⟨d, 6, none⟩ (.int .i64 b)).setCell ⟨d, 7, none⟩ (.int .i64 c))
        (After F w ((((w.setCell ⟨d, 4, none⟩ (.bool p)).setCell ⟨d, 5, none⟩ (.int .i64 a)).setCell ⟨d, 6, none⟩ (.int .i64 b)).setCell ⟨d, 7, none⟩ (.int .i64 c))) d n (D.arming a b c) ∧
        Only F w ((((w.setCell ⟨d, 4, none⟩ (.bool p)).setCell ⟨d, 5, none⟩ (.int .i64 a)).setCell ⟨d, 6, none⟩ (.int .i64 b)).setCell ⟨d, 7, none⟩ (.int .i64 c)) := by
      intro p hp
      have ho : Only (fun b => b = d) w ((((w.setCell ⟨d, 4, none⟩ (.bool p)).setCell ⟨d, 5, none⟩ (.int .i64 a)).setCell ⟨d, 6, none⟩ (.int .i64 b)).setCell ⟨d, 7, none⟩ (.int .i64 c)) :=
        ((((Only.refl (fun b => b = d) w).setCell (p := ⟨d, 4, none⟩) (fun _ => rfl) _).setCell (p := ⟨d, 5, none⟩) (fun _ => rfl) _).setCell (p := ⟨d, 6, none⟩) (fun _ => rfl) _).setCell (p := ⟨d, 7, none⟩) (fun _ => rfl) _
      have hbl := (((hD.blk.set_ 4 (.bool p)).set_ 5 (.int .i64 a)).set_ 6 (.int .i64 b)).set_ 7 (.int .i64 c)
      rw [hoff] at hbl
      have hr := hD.head (am' := p) (off' := false) (f' := a) (x' := b) (y' := c) (a' := if 0 ≤ a then some (a.toNat, b, c) else none) ho hbl ⟨⟨ha, hb, hc⟩, by
        by_cases h0 : 0 ≤ a
        · right; exact ⟨by rw [hp]; exact decide_eq_true h0, h0, by rw [if_pos h0]⟩
        · left; exact ⟨by rw [hp]; exact decide_eq_false h0, by rw [if_neg h0]⟩⟩
      have e1 : D.arming a b c = { D with off := false, arm := if 0 ≤ a then some (a.toNat, b, c) else none } := by unfold Dsk.arming; rw [hoff]; cases D; simp_all
      rw [e1]
      exact ⟨Ref.of hr h1 h2 h3 h4, ho.mono (fun k _ e => by subst e; exact h1)⟩
    have KEY := Lib.hid key
    clear key hD h hoff ha hb hc
    by_cases h0 : 0 ≤ a
    · have hfin := KEY.out true (decide_eq_true h0).symm
      have HF := Lib.hid hfin
      clear hfin
      go_enter Try.func36, Try.ntmps36
      go_wp2
      go_end0
      exact ⟨rfl, HF.out⟩
    · have hfin := KEY.out false (decide_eq_false h0).symm
      have HF := Lib.hid hfin
      have h0' : a < 0 := by omega
      clear hfin
      go_enter Try.func36, Try.ntmps36
      go_wp2
      go_end0
      exact ⟨rfl, HF.out⟩
end Go.Proofs.Ytmkfbedhmmijjaa
