/- Disk.place, Disk.at, Disk.count: where a sector lies; whether a call is the one at which an armed disk turns off. -/
import Derived.Test.YtmkfbedhmmijjaaFail
namespace Go.Proofs.Ytmkfbedhmmijjaa
open Go.RowKit
def noSpot (b : Value) : Value := .tuple #[.agg #[.int .i64 0, .int .i64 0], b]
def aSpot (k : Nat) (b : Value) : Value := .tuple #[.agg #[.int .i64 ((k : Int) * 64), .int .i64 (((k : Int) + 1) * 64)], b]

theorem place_nil (s : Int) (w : World) :
    Calls Try.prog 43 #[.pointer none, .int .i64 s] w fun e w' => e = .returned (noSpot (.bool false)) ∧ Below w.heap.size w w' := by
  go_enter Try.func43, Try.ntmps43
  go_wp2
  exact bodyPost_ret (v := noSpot (.bool false)) (by simp [results, Try.results43, go_sem, noSpot]) rfl ⟨rfl, (Below.refl _ _).alloc (Nat.le_refl _) _⟩

theorem place_yes (d n bs be k : Nat) (qv av : Value) (D : Dsk) (w : World) (h : DiskAt w d n bs be qv av D) (hk : k < n) :
    Calls Try.prog 43 #[.pointer (some ⟨d, 0, none⟩), .int .i64 (k : Int)] w fun e w' => e = .returned (aSpot k (.bool true)) ∧ Below w.heap.size w w' := by
  have c0 : w.cell? ⟨d, 0, none⟩ = some (.slice (some ⟨bs, 0, none⟩) (64 * n) (64 * n)) := h.blk.cell 0
  have hd := h.blk.lt
  have hn := h.ok.hi
  clear h
  go_enter Try.func43, Try.ntmps43
  go_wp2
  exact bodyPost_ret (v := aSpot k (.bool true)) (by simp [results, Try.results43, go_sem, aSpot]) rfl ⟨rfl, (Below.refl _ _).alloc (Nat.le_refl _) _⟩

theorem place_no (d n bs be : Nat) (s : Int) (qv av : Value) (D : Dsk) (w : World) (h : DiskAt w d n bs be qv av D) (hs : s < 0 ∨ (n : Int) ≤ s) :
    Calls Try.prog 43 #[.pointer (some ⟨d, 0, none⟩), .int .i64 s] w fun e w' => e = .returned (noSpot (.bool false)) ∧ Below w.heap.size w w' := by
  have c0 : w.cell? ⟨d, 0, none⟩ = some (.slice (some ⟨bs, 0, none⟩) (64 * n) (64 * n)) := h.blk.cell 0
  have hd := h.blk.lt
  have hn := h.ok.hi
  clear h
  by_cases h0 : s < 0
  all_goals
    try replace hs : (n : Int) ≤ s := by omega
    go_enter Try.func43, Try.ntmps43
    go_wp2
    exact bodyPost_ret (v := noSpot (.bool false)) (by simp [results, Try.results43, go_sem, noSpot]) rfl ⟨rfl, (Below.refl _ _).alloc (Nat.le_refl _) _⟩


theorem at_nil (s : Int) (w : World) :
    Calls Try.prog 39 #[.pointer none, .int .i64 s] w fun e w' => e = .returned (noSpot (.int .i64 1)) ∧ Below w.heap.size w w' := by
  go_enter Try.func39, Try.ntmps39
  go_wp2_with fail
  refine (place_nil s _).mono ?_
  unfold noSpot
  rintro e w1 ⟨rfl, hb⟩
  have hb0 : Blk w1 w.heap.size 67 #[.int .i64 0, .int .i64 0] := (Blk.new w 67 _).below hb (by simp)
  have c0 := hb0.cell 0
  have c1 := hb0.cell 1
  have f0 := hb0.frozen 0
  have f1 := hb0.frozen 1
  have hB := ((hb0.set_ 0 (.int .i64 0)).set_ 1 (.int .i64 0)).alloc (.cells #[.int .i64 0, .int .i64 0] 67)
  have e0 := hB.cell 0
  have e1 := hB.cell 1
  have hz := hb0.lt
  have hbel : Below w.heap.size w ((((w1.setCell ⟨w.heap.size, 0, none⟩ (.int .i64 0)).setCell ⟨w.heap.size, 1, none⟩ (.int .i64 0)).alloc (.cells #[.int .i64 0, .int .i64 0] 67))) :=
    (((((Below.refl _ _).alloc (Nat.le_refl _) _).trans (hb.mono (by simp))).setCell (Nat.le_refl _) _).setCell (Nat.le_refl _) _).alloc (by simp; omega) _
  have HB := Lib.hid hbel
  clear hb hb0 hbel hB
  go_wp2
  exact bodyPost_ret (v := .tuple #[.agg #[.int .i64 0, .int .i64 0], .int .i64 1]) (by simp [results, Try.results39, go_sem, e0, e1]) rfl ⟨rfl, HB.out⟩
theorem at_off (d n bs be : Nat) (s : Int) (qv av : Value) (D : Dsk) (w : World) (h : DiskAt w d n bs be qv av D) (hoff : D.off = true) :
    Calls Try.prog 39 #[.pointer (some ⟨d, 0, none⟩), .int .i64 s] w fun e w' => e = .returned (noSpot (.int .i64 25)) ∧ Below w.heap.size w w' := by
  have c3 : w.cell? ⟨d, 3, none⟩ = some (.bool true) := by rw [h.blk.cell 3, hoff]; rfl
  have hd := h.blk.lt
  clear h hoff
  go_enter Try.func39, Try.ntmps39
  go_wp2
  exact bodyPost_ret (v := noSpot (.int .i64 25)) (by simp [results, Try.results39, go_sem, noSpot]) rfl ⟨rfl, (Below.refl _ _).alloc (Nat.le_refl _) _⟩

theorem at_bad (d n bs be : Nat) (s : Int) (qv av : Value) (D : Dsk) (w : World) (h : DiskAt w d n bs be qv av D) (hoff : D.off = false) (hs : s < 0 ∨ (n : Int) ≤ s) :
    Calls Try.prog 39 #[.pointer (some ⟨d, 0, none⟩), .int .i64 s] w fun e w' => e = .returned (noSpot (.int .i64 1)) ∧ Below w.heap.size w w' := by
  have c3 : w.cell? ⟨d, 3, none⟩ = some (.bool false) := by rw [h.blk.cell 3, hoff]; rfl
  have hd := h.blk.lt
  have H := Lib.hid h
  clear h hoff
  go_enter Try.func39, Try.ntmps39
  go_wp2_with fail
  refine (place_no d n bs be s qv av D _ (H.out.alloc _) hs).mono ?_
  unfold noSpot
  rintro e w1 ⟨rfl, hb⟩
  have hb0 : Blk w1 w.heap.size 67 #[.int .i64 0, .int .i64 0] := (Blk.new w 67 _).below hb (by simp)
  have c0 := hb0.cell 0
  have c1 := hb0.cell 1
  have f0 := hb0.frozen 0
  have f1 := hb0.frozen 1
  have hB := ((hb0.set_ 0 (.int .i64 0)).set_ 1 (.int .i64 0)).alloc (.cells #[.int .i64 0, .int .i64 0] 67)
  have e0 := hB.cell 0
  have e1 := hB.cell 1
  have hz := hb0.lt
  have hbel : Below w.heap.size w ((((w1.setCell ⟨w.heap.size, 0, none⟩ (.int .i64 0)).setCell ⟨w.heap.size, 1, none⟩ (.int .i64 0)).alloc (.cells #[.int .i64 0, .int .i64 0] 67))) :=
    (((((Below.refl _ _).alloc (Nat.le_refl _) _).trans (hb.mono (by simp))).setCell (Nat.le_refl _) _).setCell (Nat.le_refl _) _).alloc (by simp; omega) _
  have HB := Lib.hid hbel
  clear hb hb0 hbel hB
  go_wp2
  exact bodyPost_ret (v := .tuple #[.agg #[.int .i64 0, .int .i64 0], .int .i64 1]) (by simp [results, Try.results39, go_sem, e0, e1]) rfl ⟨rfl, HB.out⟩

theorem at_ok (d n bs be k : Nat) (qv av : Value) (D : Dsk) (w : World) (h : DiskAt w d n bs be qv av D) (hoff : D.off = false) (hk : k < n) :
    Calls Try.prog 39 #[.pointer (some ⟨d, 0, none⟩), .int .i64 (k : Int)] w fun e w' => e = .returned (aSpot k (.int .i64 0)) ∧ Below w.heap.size w w' := by
  have c3 : w.cell? ⟨d, 3, none⟩ = some (.bool false) := by rw [h.blk.cell 3, hoff]; rfl
  have hd := h.blk.lt
  have H := Lib.hid h
  clear h hoff
  go_enter Try.func39, Try.ntmps39
  go_wp2_with fail
  refine (place_yes d n bs be k qv av D _ (H.out.alloc _) hk).mono ?_
  unfold aSpot
  rintro e w1 ⟨rfl, hb⟩
  have hb0 : Blk w1 w.heap.size 67 #[.int .i64 0, .int .i64 0] := (Blk.new w 67 _).below hb (by simp)
  have c0 := hb0.cell 0
  have c1 := hb0.cell 1
  have f0 := hb0.frozen 0
  have f1 := hb0.frozen 1
  have hB := ((hb0.set_ 0 (.int .i64 ((k : Int) * 64))).set_ 1 (.int .i64 (((k : Int) + 1) * 64))).alloc (.cells #[.int .i64 ((k : Int) * 64), .int .i64 (((k : Int) + 1) * 64)] 67)
  have e0 := hB.cell 0
  have e1 := hB.cell 1
  have hz := hb0.lt
  have hbel : Below w.heap.size w ((((w1.setCell ⟨w.heap.size, 0, none⟩ (.int .i64 ((k : Int) * 64))).setCell ⟨w.heap.size, 1, none⟩ (.int .i64 (((k : Int) + 1) * 64))).alloc (.cells #[.int .i64 ((k : Int) * 64), .int .i64 (((k : Int) + 1) * 64)] 67))) :=
    (((((Below.refl _ _).alloc (Nat.le_refl _) _).trans (hb.mono (by simp))).setCell (Nat.le_refl _) _).setCell (Nat.le_refl _) _).alloc (by simp; omega) _
  have HB := Lib.hid hbel
  clear hb hb0 hbel hB
  go_wp2
  exact bodyPost_ret (v := .tuple #[.agg #[.int .i64 ((k : Int) * 64), .int .i64 (((k : Int) + 1) * 64)], .int .i64 0]) (by simp [results, Try.results39, go_sem, e0, e1]) rfl ⟨rfl, HB.out⟩

/-! ### count -/
theorem count_none (d n bs be : Nat) (qv av : Value) (D : Dsk) (w : World) (h : DiskAt w d n bs be qv av D) (ha : D.arm = none) :
    Calls Try.prog 40 #[.pointer (some ⟨d, 0, none⟩)] w fun e w' => e = .returned (.int .i64 0) ∧ w = w' := by
  have hav : av = .pointer none := by have := h.arm; rw [ha] at this; exact this
  have c4 : w.cell? ⟨d, 4, none⟩ = some (.pointer none) := by rw [h.blk.cell 4, hav]; rfl
  clear h ha hav
  go_enter Try.func40, Try.ntmps40
  go_wp2
  go_ret
  exact ⟨rfl, rfl⟩

theorem count_down (d n bs be ba k : Nat) (x y : Int) (qv : Value) (D : Dsk) (w : World) (h : DiskAt w d n bs be qv (.pointer (some ⟨ba, 0, none⟩)) D) (ha : D.arm = some (k + 1, x, y)) :
    Calls Try.prog 40 #[.pointer (some ⟨d, 0, none⟩)] w fun e w' => e = .returned (.int .i64 0) ∧ DiskAt w' d n bs be qv (.pointer (some ⟨ba, 0, none⟩)) { D with arm := some (k, x, y) } ∧ Only (fun b => b = ba) w w' := by
  have hb : Blk w ba 77 #[.int .i64 ((k + 1 : Nat) : Int), .int .i64 x, .int .i64 y] := by
    have := h.arm
    rw [ha] at this
    obtain ⟨ba', e, hb⟩ := this
    injection e with e; injection e with e; injection e with e _ _
    subst e; exact hb
  have hbd := h.ok.arm _ _ _ ha
  have hk1 : (k : Int) + 1 ≤ 9223372036854775807 := by have := hbd.1; omega
  have c4 : w.cell? ⟨d, 4, none⟩ = some (.pointer (some ⟨ba, 0, none⟩)) := h.blk.cell 4
  have b0 : w.cell? ⟨ba, 0, none⟩ = some (.int .i64 ((k : Int) + 1)) := by rw [hb.cell 0]; rfl
  have f0 := hb.frozen 0
  have hfin : DiskAt (w.setCell ⟨ba, 0, none⟩ (.int .i64 (k : Int))) d n bs be qv (.pointer (some ⟨ba, 0, none⟩)) { D with arm := some (k, x, y) } := by
    have n1 : d ≠ ba := h.blk.ne_ hb (by decide)
    have n2 : bs ≠ ba := h.st.ne_ hb (by decide)
    have n3 : be ≠ ba := h.el.ne_ hb (by decide)
    have ho : Only (fun b => b = ba) w (w.setCell ⟨ba, 0, none⟩ (.int .i64 (k : Int))) := (Only.refl (fun b => b = ba) w).setCell (fun _ => rfl) _
    have n4 := own_blk_ne h.q hb (by decide)
    refine ⟨⟨h.ok.lo, h.ok.hi, h.ok.stl, h.ok.ell, h.ok.st64, h.ok.el64, h.ok.q64, ?_⟩, ho.blk h.blk n1, ho.blk h.st n2, ho.blk h.el n3, h.ne, ho.own h.q (fun j hj e => n4 (by rw [hj, e])), ba, rfl, hb.set_ 0 _⟩
    intro k' x' y' e
    simp only [Option.some.injEq, Prod.mk.injEq] at e
    obtain ⟨rfl, rfl, rfl⟩ := e
    exact ⟨Int.le_trans (Int.le_of_lt (Int.lt_succ _)) hk1, hbd.2⟩
  have HFIN := Lib.hid hfin
  clear hfin h hb ha hbd
  go_enter Try.func40, Try.ntmps40
  go_wp2
  go_ret
  exact ⟨rfl, by simpa using HFIN.out, by simpa using (Only.refl (fun b => b = ba) w).setCell (p := ⟨ba, 0, none⟩) (fun _ => rfl) _⟩
theorem count_fire (F : Nat → Prop) (d n bs be ba : Nat) (x y : Int) (qv : Value) (D : Dsk) (w : World) (hdisk : Disk w F d n D) (h : DiskAt w d n bs be qv (.pointer (some ⟨ba, 0, none⟩)) D) (ha : D.arm = some (0, x, y)) (hbig : D.q.length ≤ 1000000) :
    Calls Try.prog 40 #[.pointer (some ⟨d, 0, none⟩)] w fun e w' => e = .returned (.int .i64 25) ∧ Disk w' (After F w w') d n (D.fail x y) ∧ Only F w w' := by
  have hb : Blk w ba 77 #[.int .i64 ((0 : Nat) : Int), .int .i64 x, .int .i64 y] := by
    have := h.arm
    rw [ha] at this
    obtain ⟨ba', e, hb⟩ := this
    injection e with e; injection e with e; injection e with e _ _
    subst e; exact hb
  have hbd := h.ok.arm _ _ _ ha
  have c4 : w.cell? ⟨d, 4, none⟩ = some (.pointer (some ⟨ba, 0, none⟩)) := h.blk.cell 4
  have b0 : w.cell? ⟨ba, 0, none⟩ = some (.int .i64 0) := by rw [hb.cell 0]; rfl
  have b1 : w.cell? ⟨ba, 1, none⟩ = some (.int .i64 x) := by rw [hb.cell 1]; rfl
  have b2 : w.cell? ⟨ba, 2, none⟩ = some (.int .i64 y) := by rw [hb.cell 2]; rfl
  have HBD := Lib.hid hbd
  have HB := Lib.hid hb
  have H := Lib.hid hdisk
  clear h ha hdisk hb hbd
  go_enter Try.func40, Try.ntmps40
  go_wp2_with fail
  refine region_tail 15 (fun W => (W.cell? ⟨d, 4, none⟩ = some (.pointer (some ⟨ba, 0, none⟩)) ∧ W.cell? ⟨ba, 0, none⟩ = some (.int .i64 0) ∧ W.cell? ⟨ba, 1, none⟩ = some (.int .i64 x) ∧ W.cell? ⟨ba, 2, none⟩ = some (.int .i64 y)) ∧ W = w.drew) ⟨⟨c4, b0, b1, b2⟩, rfl⟩ (by kernel_rfl) (by kernel_rfl) ?_
  intro W ⟨⟨e0, e1, e2, e3⟩, hW⟩
  have HW := Lib.hid hW
  clear hW c4 b0 b1 b2
  simp only [List.take_succ_cons, List.take_zero, List.drop_succ_cons, List.drop_zero]
  repeat still_step
  refine wpStill_nil ?_
  go_wp2_with fail
  have hDW : Disk W F d n D := by rw [HW.out]; exact H.out.keep ((Only.refl (fun _ => False) w).drew) (fun _ _ => id)
  refine (fail_any F d n x y D _ hDW hbig HBD.out.2.1 HBD.out.2.2).mono ?_
  rintro e w1 ⟨rfl, hD1, hO1⟩
  rw [HW.out] at hD1 hO1
  have HD1 := Lib.hid hD1
  have HO1 := Lib.hid hO1
  clear hD1 hO1 hDW
  go_wp2
  go_ret
  exact ⟨rfl, HD1.out, ⟨HO1.out.os, HO1.out.tape, HO1.out.output, HO1.out.size, HO1.out.block⟩⟩

/-- A call of an armed disk is counted. -/
theorem count_any (F : Nat → Prop) (d n : Nat) (D : Dsk) (w : World) (h : Disk w F d n D) (hbig : D.q.length ≤ 1000000) :
    Calls Try.prog 40 #[.pointer (some ⟨d, 0, none⟩)] w fun e w' => e = .returned (.int .i64 D.count.2) ∧ Disk w' (After F w w') d n D.count.1 ∧ Only F w w' := by
  obtain ⟨bs, be, qv, av, hD, h1, h2, h3, h4, h5⟩ := id h
  match ha : D.arm with
  | none =>
    have e1 : D.count = (D, 0) := by unfold Dsk.count; rw [ha]
    rw [e1]
    refine (count_none d n bs be qv av D w hD ha).mono fun e w' ⟨he, hw⟩ => ?_
    subst hw
    exact ⟨he, h.mono (fun _ _ hb => .inl hb), Only.refl _ _⟩
  | some (0, x, y) =>
    have e1 : D.count = (D.fail x y, 25) := by unfold Dsk.count; rw [ha]
    rw [e1]
    have hav := hD.arm
    rw [ha] at hav
    obtain ⟨ba, rfl, _⟩ := hav
    exact count_fire F d n bs be ba x y qv D w h hD ha hbig
  | some (k + 1, x, y) =>
    have e1 : D.count = ({ D with arm := some (k, x, y) }, 0) := by unfold Dsk.count; rw [ha]
    rw [e1]
    have hav := hD.arm
    rw [ha] at hav
    obtain ⟨ba, rfl, _⟩ := hav
    refine (count_down d n bs be ba k x y qv D w hD ha).mono fun e w' ⟨he, hD', hO⟩ => ⟨he, ⟨bs, be, qv, _, hD', .inl h1, .inl h2, .inl h3, fun k hk => .inl (h4 k hk), fun k hk => .inl (h5 k hk)⟩, hO.mono (fun k _ hk => ?_)⟩
    subst hk
    exact h5 _ rfl
end Go.Proofs.Ytmkfbedhmmijjaa
