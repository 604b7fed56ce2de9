/- Disk.Sync, Disk.Arm, Disk.Start, Disk.Rot, Disk.Stale, New. -/
import Derived.Test.YtmkfbedhmmijjaaRead
namespace Go.Proofs.Ytmkfbedhmmijjaa
open Go.RowKit

/-! ### Sync -/
theorem sync_nil (w : World) : Calls Try.prog 20 #[.pointer none] w fun e w' => e = .returned (.int .i64 1) ∧ w = w' := by
  go_enter Try.func20, Try.ntmps20
  go_wp2
  go_ret
  exact ⟨rfl, rfl⟩

theorem sync_off (d n bs be : Nat) (qv av : Value) (D : Dsk) (w : World) (h : DiskAt w d n bs be qv av D) (hoff : D.off = true) :
    Calls Try.prog 20 #[.pointer (some ⟨d, 0, none⟩)] w fun e w' => e = .returned (.int .i64 25) ∧ w = w' := by
  have c3 : w.cell? ⟨d, 3, none⟩ = some (.bool true) := by rw [h.blk.cell 3, hoff]; rfl
  clear h hoff
  go_enter Try.func20, Try.ntmps20
  go_wp2
  go_ret
  exact ⟨rfl, rfl⟩
theorem count_two (D : Dsk) : D.count.2 = 0 ∨ D.count.2 = 25 := by
  unfold Dsk.count
  split <;> simp
theorem count_q {D : Dsk} (h : D.count.2 = 0) : D.count.1.q = D.q ∧ D.count.1.off = D.off := by
  unfold Dsk.count at h ⊢
  split at h <;> simp_all
theorem DiskAt.cleared {w : World} {d n bs be : Nat} {qv av : Value} {D : Dsk} (h : DiskAt w d n bs be qv av D) :
    DiskAt (w.setCell ⟨d, 2, none⟩ (.slice none 0 0)) d n bs be (.slice none 0 0) av { D with q := [] } ∧ Only (fun b => b = d) w (w.setCell ⟨d, 2, none⟩ (.slice none 0 0)) := by
  have e1 : bs ≠ d := fun e => h.blk.ne_ h.st (by decide) e.symm
  have e2 : be ≠ d := fun e => h.blk.ne_ h.el (by decide) e.symm
  have ho : Only (fun b => b = d) w (w.setCell ⟨d, 2, none⟩ (.slice none 0 0)) := (Only.refl (fun b => b = d) w).setCell (fun _ => rfl) _
  refine ⟨⟨⟨h.ok.lo, h.ok.hi, h.ok.stl, h.ok.ell, h.ok.st64, h.ok.el64, (fun _ hp => by cases hp), h.ok.arm⟩, h.blk.set_ 2 _, h.st.far e1 _, h.el.far e2 _, h.ne, World.ownsRow_nil _ _ _ _, ?_⟩, ho⟩
  refine ho.armAt h.arm (fun b hb => ?_)
  obtain ⟨cs, hbk⟩ := h.arm_blk hb
  exact hbk.ne_ h.blk (by decide)

set_option maxHeartbeats 400000 in
theorem sync_on (F : Nat → Prop) (d n : Nat) (D : Dsk) (w : World) (h : Disk w F d n D) (hoff : D.off = false) (hbig : D.q.length ≤ 1000000) :
    Calls Try.prog 20 #[.pointer (some ⟨d, 0, none⟩)] w fun e w' => e = .returned (.int .i64 D.sync.2) ∧ Disk w' (After F w w') d n D.sync.1 ∧ Only F w w' := by
  have c3 : w.cell? ⟨d, 3, none⟩ = some (.bool false) := by
    obtain ⟨bs, be, qv, av, hD, _⟩ := h
    rw [hD.blk.cell 3, hoff]; rfl
  have H := Lib.hid h
  rcases count_two D with h0 | h0
  · have e1 : D.sync = ({ D.count.1.settle D.count.1.q with q := [] }, 0) := by unfold Dsk.sync; rw [hoff, if_neg (by simp), if_pos h0]
    have hq := count_q h0
    have HQ := Lib.hid hq
    have E1 := Lib.hid e1
    have H0 := Lib.hid h0
    clear h hoff e1 h0 hq
    go_enter Try.func20, Try.ntmps20
    go_wp2_with fail
    refine (count_any F d n D _ H.out hbig).mono ?_
    rintro e w1 ⟨rfl, hD1, hO1⟩
    obtain ⟨bs, be, qv, av, hD, h1, h2, h3, h4, h5⟩ := hD1
    rw [H0.out]
    have c2 : w1.cell? ⟨d, 2, none⟩ = some qv := hD.blk.cell 2
    obtain ⟨A, L, c, hA, hL⟩ : ∃ A L c, qv = .slice A L c ∧ L = D.count.1.q.length ∧ (0 < L → ∃ g, A = some ⟨g, 0, none⟩) := by
      rcases hD.q.2 with ⟨hx, h0⟩ | ⟨g, cap, cur, hx, _⟩
      · exact ⟨none, 0, 0, hx, h0.symm, fun h => absurd h (by omega)⟩
      · exact ⟨_, _, _, hx, rfl, fun _ => ⟨g, rfl⟩⟩
    rw [hA] at c2
    have HL := Lib.hid hL
    have HA := Lib.hid hA
    have HD := Lib.hid hD
    have HO1 := Lib.hid hO1
    clear hD hO1 hL hA c3
    go_wp2_with fail
    refine (settle_any d n bs be L c A qv av D.count.1 _ HD.out (by rw [HL.out.1]; exact Nat.le_refl _) (by rw [HQ.out.1]; exact hbig) (fun hp => ?_)).mono ?_
    · obtain ⟨g, hg⟩ := HL.out.2 hp
      exact ⟨g, c, hg, by rw [HA.out, hg, HL.out.1]⟩
    · rintro e w2 ⟨rfl, hD2, hO2⟩
      rw [HL.out.1, List.take_length] at hD2
      have g2 : w2.cell? ⟨d, 2, none⟩ = some qv := hD2.blk.cell 2
      have f2 : w2.frozen? ⟨d, 2, none⟩ = false := hD2.blk.frozen 2
      have hC := hD2.cleared
      have HC := Lib.hid hC
      have HO2 := Lib.hid hO2
      have hd2 : d < w2.heap.size := hD2.blk.lt
      clear hC hO2 hD2 c2
      go_wp2
      go_ret
      have hsz : (w2.setCell ⟨d, 2, none⟩ (.slice none 0 0)).heap.size = w2.heap.size := by simp [World.setCell]
      have hO3 : Only F w (w2.setCell ⟨d, 2, none⟩ (.slice none 0 0)) := by
        refine (HO1.out.trans HO2.out (fun b hb hF => ?_)).trans HC.out.2 (fun b hb hF => ?_)
        · rcases hF with rfl | rfl
          · rcases h2 with h2 | h2; exact h2; omega
          · rcases h3 with h3 | h3; exact h3; omega
        · subst hF; rcases h1 with h1 | h1; exact h1; omega
      have hmono : ∀ b, After F w w1 b → After F w (w2.setCell ⟨d, 2, none⟩ (.slice none 0 0)) b := by
        intro b hb
        have := HO2.out.size
        rcases hb with hb | hb
        · exact .inl hb
        · exact .inr ⟨hb.1, by rw [hsz]; omega⟩
      refine ⟨by rw [E1.out]; rfl, ?_, hO3⟩
      rw [E1.out]
      exact ⟨bs, be, _, av, HC.out.1, hmono _ h1, hmono _ h2, hmono _ h3, fun b hb => by simp [Value.ownBlock] at hb, fun b hb => hmono _ (h5 b hb)⟩
  · have e1 : D.sync = D.count := by unfold Dsk.sync; rw [hoff, if_neg (by simp), if_neg (by rw [h0]; decide)]
    have E1 := Lib.hid e1
    have H0 := Lib.hid h0
    clear h hoff e1 h0
    go_enter Try.func20, Try.ntmps20
    go_wp2_with fail
    refine (count_any F d n D _ H.out hbig).mono ?_
    rintro e w1 ⟨rfl, hD1, hO1⟩
    rw [H0.out]
    have HD1 := Lib.hid hD1
    have HO1 := Lib.hid hO1
    clear hD1 hO1
    go_wp2
    go_ret
    rw [E1.out, H0.out]
    exact ⟨rfl, HD1.out, HO1.out⟩

/-- Sync. -/
theorem sync_any (F : Nat → Prop) (d n : Nat) (D : Dsk) (w : World) (h : Disk w F d n D) (hbig : D.q.length ≤ 1000000) :
    Calls Try.prog 20 #[.pointer (some ⟨d, 0, none⟩)] w fun e w' => e = .returned (.int .i64 D.sync.2) ∧ Disk w' (After F w w') d n D.sync.1 ∧ Only F w w' := by
  cases hoff : D.off with
  | true =>
    have e1 : D.sync = (D, 25) := by unfold Dsk.sync; rw [hoff]; rfl
    obtain ⟨bs, be, qv, av, hD, h1, h2, h3, h4, h5⟩ := id h
    rw [e1]
    refine (sync_off d n bs be qv av D w hD hoff).mono fun e w' ⟨he, hw⟩ => ?_
    subst hw
    exact ⟨he, h.mono (fun _ _ hb => .inl hb), Only.refl _ _⟩
  | false => exact sync_on F d n D w h hoff hbig

/-! ### Start -/
theorem start_nil (w : World) : Calls Try.prog 19 #[.pointer none] w fun e w' => e = .returned (.tuple #[]) ∧ w = w' := by
  go_enter Try.func19, Try.ntmps19
  go_wp2
  go_end0
  exact ⟨rfl, rfl⟩
theorem start_any (F : Nat → Prop) (d n : Nat) (D : Dsk) (w : World) (h : Disk w F d n D) :
    Calls Try.prog 19 #[.pointer (some ⟨d, 0, none⟩)] w fun e w' => e = .returned (.tuple #[]) ∧ Disk w' (After F w w') d n D.start ∧ Only F w w' := by
  obtain ⟨bs, be, qv, av, hD, h1, h2, h3, h4, h5⟩ := h
  have c3 : w.cell? ⟨d, 3, none⟩ = some (.bool D.off) := hD.blk.cell 3
  have c4 : w.cell? ⟨d, 4, none⟩ = some av := hD.blk.cell 4
  have f3 := hD.blk.frozen 3
  have f4 := hD.blk.frozen 4
  have hfin : DiskAt ((w.setCell ⟨d, 3, none⟩ (.bool false)).setCell ⟨d, 4, none⟩ (.pointer none)) d n bs be qv (.pointer none) D.start ∧ Only F w ((w.setCell ⟨d, 3, none⟩ (.bool false)).setCell ⟨d, 4, none⟩ (.pointer none)) := by
    have e1 : bs ≠ d := fun e => hD.blk.ne_ hD.st (by decide) e.symm
    have e2 : be ≠ d := fun e => hD.blk.ne_ hD.el (by decide) e.symm
    have ho : Only (fun b => b = d) w ((w.setCell ⟨d, 3, none⟩ (.bool false)).setCell ⟨d, 4, none⟩ (.pointer none)) :=
      ((Only.refl (fun b => b = d) w).setCell (p := ⟨d, 3, none⟩) (fun _ => rfl) _).setCell (p := ⟨d, 4, none⟩) (fun _ => rfl) _
    have n1 := own_blk_ne hD.q hD.blk (by decide)
    exact ⟨⟨hD.ok.start, (hD.blk.set_ 3 _).set_ 4 _, (hD.st.far e1 _).far e1 _, (hD.el.far e2 _).far e2 _, hD.ne, ho.own hD.q (fun k hk e => n1 (by rw [hk, e])), rfl⟩, ho.mono (fun k _ hk => by subst hk; exact h1)⟩
  have HF := Lib.hid hfin
  clear hfin hD
  go_enter Try.func19, Try.ntmps19
  go_wp2
  go_end0
  exact ⟨rfl, ⟨bs, be, qv, _, HF.out.1, .inl h1, .inl h2, .inl h3, fun k hk => .inl (h4 k hk), fun k hk => by simp at hk⟩, HF.out.2⟩
/-! ### Arm -/
theorem arm_nil (a b c : Int) (w : World) : Calls Try.prog 28 #[.pointer none, .int .i64 a, .int .i64 b, .int .i64 c] w fun e w' => e = .returned (.tuple #[]) ∧ w = w' := by
  go_enter Try.func28, Try.ntmps28
  go_wp2
  exact bodyPost_ret (results_none rfl _ _ _) rfl ⟨rfl, rfl⟩
theorem arm_off (d n bs be : Nat) (a b c : Int) (qv av : Value) (D : Dsk) (w : World) (h : DiskAt w d n bs be qv av D) (hoff : D.off = true) :
    Calls Try.prog 28 #[.pointer (some ⟨d, 0, none⟩), .int .i64 a, .int .i64 b, .int .i64 c] w fun e w' => e = .returned (.tuple #[]) ∧ w = w' := by
  have c3 : w.cell? ⟨d, 3, none⟩ = some (.bool true) := by rw [h.blk.cell 3, hoff]; rfl
  clear h hoff
  go_enter Try.func28, Try.ntmps28
  go_wp2
  exact bodyPost_ret (results_none rfl _ _ _) rfl ⟨rfl, rfl⟩
theorem DiskAt.disarmed {w : World} {d n bs be : Nat} {qv av : Value} {D : Dsk} (h : DiskAt w d n bs be qv av D) :
    DiskAt (w.setCell ⟨d, 4, none⟩ (.pointer none)) d n bs be qv (.pointer none) { D with arm := none } ∧ Only (fun b => b = d) w (w.setCell ⟨d, 4, none⟩ (.pointer none)) := by
  have e1 : bs ≠ d := fun e => h.blk.ne_ h.st (by decide) e.symm
  have e2 : be ≠ d := fun e => h.blk.ne_ h.el (by decide) e.symm
  have ho : Only (fun b => b = d) w (w.setCell ⟨d, 4, none⟩ (.pointer none)) := (Only.refl (fun b => b = d) w).setCell (fun _ => rfl) _
  have n1 := own_blk_ne h.q h.blk (by decide)
  exact ⟨⟨⟨h.ok.lo, h.ok.hi, h.ok.stl, h.ok.ell, h.ok.st64, h.ok.el64, h.ok.q64, (fun _ _ _ he => by cases he)⟩, h.blk.set_ 4 _, h.st.far e1 _, h.el.far e2 _, h.ne, ho.own h.q (fun k hk e => n1 (by rw [hk, e])), rfl⟩, ho⟩
theorem DiskAt.armed {w : World} {d n bs be ba k : Nat} {a b : Int} {qv av : Value} {D : Dsk} (h : DiskAt w d n bs be qv av D) (hb : Blk w ba 77 #[.int .i64 (k : Int), .int .i64 a, .int .i64 b])
    (hk : (k : Int) ≤ 9223372036854775807) (ha : -9223372036854775808 ≤ a ∧ a ≤ 9223372036854775807) (hbb : -9223372036854775808 ≤ b ∧ b ≤ 9223372036854775807) :
    DiskAt (w.setCell ⟨d, 4, none⟩ (.pointer (some ⟨ba, 0, none⟩))) d n bs be qv (.pointer (some ⟨ba, 0, none⟩)) { D with arm := some (k, a, b) } ∧ Only (fun b => b = d) w (w.setCell ⟨d, 4, none⟩ (.pointer (some ⟨ba, 0, none⟩))) := by
  have e1 : bs ≠ d := fun e => h.blk.ne_ h.st (by decide) e.symm
  have e2 : be ≠ d := fun e => h.blk.ne_ h.el (by decide) e.symm
  have e3 : ba ≠ d := fun e => h.blk.ne_ hb (by decide) e.symm
  have ho : Only (fun b => b = d) w (w.setCell ⟨d, 4, none⟩ (.pointer (some ⟨ba, 0, none⟩))) := (Only.refl (fun b => b = d) w).setCell (fun _ => rfl) _
  have n1 := own_blk_ne h.q h.blk (by decide)
  refine ⟨⟨⟨h.ok.lo, h.ok.hi, h.ok.stl, h.ok.ell, h.ok.st64, h.ok.el64, h.ok.q64, ?_⟩, h.blk.set_ 4 _, h.st.far e1 _, h.el.far e2 _, h.ne, ho.own h.q (fun k hk e => n1 (by rw [hk, e])), ba, rfl, hb.far e3 _⟩, ho⟩
  intro k' x' y' e
  simp only [Option.some.injEq, Prod.mk.injEq] at e
  obtain ⟨rfl, rfl, rfl⟩ := e
  exact ⟨hk, ha, hbb⟩

set_option maxHeartbeats 400000 in
theorem arm_any (F : Nat → Prop) (d n : Nat) (a b c : Int) (D : Dsk) (w : World) (h : Disk w F d n D)
    (ha : a ≤ 9223372036854775807) (hb : -9223372036854775808 ≤ b ∧ b ≤ 9223372036854775807) (hc : -9223372036854775808 ≤ c ∧ c ≤ 9223372036854775807) :
    Calls Try.prog 28 #[.pointer (some ⟨d, 0, none⟩), .int .i64 a, .int .i64 b, .int .i64 c] w fun e w' => e = .returned (.tuple #[]) ∧ Disk w' (After F w w') d n (D.arming a b c) ∧ Only F w w' := by
  obtain ⟨bs, be, qv, av, hD, h1, h2, h3, h4, h5⟩ := id h
  cases hoff : D.off with
  | true =>
    have e1 : D.arming a b c = D := by unfold Dsk.arming; rw [hoff]; rfl
    rw [e1]
    refine (arm_off d n bs be a b c qv av D w hD hoff).mono fun e w' ⟨he, hw⟩ => ?_
    subst hw
    exact ⟨he, h.mono (fun _ _ hb => .inl hb), Only.refl _ _⟩
  | false =>
    have c3 : w.cell? ⟨d, 3, none⟩ = some (.bool false) := by rw [hD.blk.cell 3, hoff]; rfl
    have c4 : w.cell? ⟨d, 4, none⟩ = some av := hD.blk.cell 4
    have f4 := hD.blk.frozen 4
    have hd := hD.blk.lt
    have hdis := hD.disarmed
    have HDIS := Lib.hid hdis
    have HOFF := Lib.hid hoff
    clear hD h hoff hdis
    by_cases ha0 : 0 ≤ a
    · obtain ⟨k, rfl⟩ := Int.eq_ofNat_of_zero_le ha0
      have e1 : D.arming (k : Int) b c = { D with arm := some (k, b, c) } := by unfold Dsk.arming; rw [HOFF.out, if_neg (by simp), if_pos ha0]; rfl
      have E1 := Lib.hid e1
      have hbk : Blk ((w.setCell ⟨d, 4, none⟩ (.pointer none)).alloc (.cells #[.int .i64 (k : Int), .int .i64 b, .int .i64 c] 77)) w.heap.size 77 #[.int .i64 (k : Int), .int .i64 b, .int .i64 c] := by
        have := Blk.new (w.setCell ⟨d, 4, none⟩ (.pointer none)) 77 #[.int .i64 (k : Int), .int .i64 b, .int .i64 c]
        simpa [World.setCell] using this
      have hfin := (HDIS.out.1.alloc (.cells #[.int .i64 (k : Int), .int .i64 b, .int .i64 c] 77)).armed hbk ha hb hc
      rw [World.setCell_alloc_past _ _ _ _ (by simp [World.setCell]; omega)] at hfin
      have HF := Lib.hid hfin
      have hne : d ≠ w.heap.size := by omega
      have g4 : (((w.setCell ⟨d, 4, none⟩ (.pointer none)).alloc (.cells #[.int .i64 (k : Int), .int .i64 b, .int .i64 c] 77))).cell? ⟨d, 4, none⟩ = some (.pointer none) := (HDIS.out.1.alloc _).blk.cell 4
      clear e1 hbk hfin
      go_enter Try.func28, Try.ntmps28
      go_wp2
      go_end0
      rw [E1.out]
      have hsz : (((w.setCell ⟨d, 4, none⟩ (.pointer none)).setCell ⟨d, 4, none⟩ (.pointer (some ⟨w.heap.size, 0, none⟩))).alloc (.cells #[.int .i64 (k : Int), .int .i64 b, .int .i64 c] 77)).heap.size = w.heap.size + 1 := by simp [World.setCell]
      have hO : Only F w (((w.setCell ⟨d, 4, none⟩ (.pointer none)).setCell ⟨d, 4, none⟩ (.pointer (some ⟨w.heap.size, 0, none⟩))).alloc (.cells #[.int .i64 (k : Int), .int .i64 b, .int .i64 c] 77)) :=
        (((Only.refl F w).setCell (p := ⟨d, 4, none⟩) (fun _ => h1) _).setCell (p := ⟨d, 4, none⟩) (fun _ => h1) _).alloc _
      refine ⟨rfl, ⟨bs, be, qv, _, HF.out.1, .inl h1, .inl h2, .inl h3, fun k hk => .inl (h4 k hk), fun j hj => ?_⟩, hO⟩
      have : w.heap.size = j := by simpa using hj
      subst this
      exact .inr ⟨Nat.le_refl _, by rw [hsz]; omega⟩
    · have e1 : D.arming a b c = { D with arm := none } := by unfold Dsk.arming; rw [HOFF.out, if_neg (by simp), if_neg ha0]
      have E1 := Lib.hid e1
      clear e1
      go_enter Try.func28, Try.ntmps28
      go_wp2
      go_end0
      rw [E1.out]
      refine ⟨rfl, ⟨bs, be, qv, _, HDIS.out.1, .inl h1, .inl h2, .inl h3, fun k hk => .inl (h4 k hk), fun k hk => by simp at hk⟩, HDIS.out.2.mono (fun k _ hk => by subst hk; exact h1)⟩
/-! ### Rot -/
theorem rot_err (d : Option Addr) (s a m : Int) (w : World)
    (hat : Calls Try.prog 43 #[.pointer d, .int .i64 s] w fun e w' => e = .returned (noSpot (.bool false)) ∧ Below w.heap.size w w') :
    Calls Try.prog 29 #[.pointer d, .int .i64 s, .int .i64 a, .int .i64 m] w fun e w' => e = .returned (.tuple #[]) ∧ Below w.heap.size w w' := by
  have HAT := Lib.hid hat
  clear hat
  unfold noSpot at HAT
  go_enter Try.func29, Try.ntmps29
  go_wp2_with fail
  refine HAT.out.mono ?_
  rintro e w1 ⟨rfl, hb⟩
  have HB := Lib.hid hb
  clear hb
  go_wp2
  go_end0
  exact ⟨rfl, HB.out.alloc HB.out.size _⟩
theorem rot_bad (d n bs be k : Nat) (a m : Int) (qv av : Value) (D : Dsk) (w : World) (h : DiskAt w d n bs be qv av D) (hk : k < n) (hbad : ¬ ((0 ≤ a ∧ a < 64) ∧ (0 < m ∧ m < 256))) :
    Calls Try.prog 29 #[.pointer (some ⟨d, 0, none⟩), .int .i64 (k : Int), .int .i64 a, .int .i64 m] w fun e w' => e = .returned (.tuple #[]) ∧ Below w.heap.size w w' := by
  have HP := Lib.hid (place_yes d n bs be k qv av D w h hk)
  clear h
  unfold aSpot at HP
  by_cases h1 : 0 ≤ a
  · by_cases h2 : a < 64
    · by_cases h3 : 0 < m
      · have h4 : ¬ m < 256 := by omega
        go_enter Try.func29, Try.ntmps29
        go_wp2_with fail
        refine HP.out.mono ?_
        rintro e w1 ⟨rfl, hb⟩
        have HB := Lib.hid hb
        clear hb
        go_wp2
        go_end0
        exact ⟨rfl, HB.out.alloc HB.out.size _⟩
      · go_enter Try.func29, Try.ntmps29
        go_wp2_with fail
        refine HP.out.mono ?_
        rintro e w1 ⟨rfl, hb⟩
        have HB := Lib.hid hb
        clear hb
        go_wp2
        go_end0
        exact ⟨rfl, HB.out.alloc HB.out.size _⟩
    · go_enter Try.func29, Try.ntmps29
      go_wp2_with fail
      refine HP.out.mono ?_
      rintro e w1 ⟨rfl, hb⟩
      have HB := Lib.hid hb
      clear hb
      go_wp2
      go_end0
      exact ⟨rfl, HB.out.alloc HB.out.size _⟩
  · go_enter Try.func29, Try.ntmps29
    go_wp2_with fail
    refine HP.out.mono ?_
    rintro e w1 ⟨rfl, hb⟩
    have HB := Lib.hid hb
    clear hb
    go_wp2
    go_end0
    exact ⟨rfl, HB.out.alloc HB.out.size _⟩

theorem flat_put (l : List (List UInt8)) (h : ∀ x ∈ l, x.length = 64) (s a : Nat) (hs : s < l.length) (ha : a < 64) (v : UInt8) :
    (l.set s ((l.getD s []).set a v)).flatten = l.flatten.set (s * 64 + a) v ∧ l.flatten[s * 64 + a]? = (l.getD s [])[a]? := by
  obtain ⟨e1, l1⟩ := flat_split l h s hs
  have h64 := mem64 h hs
  have h2 := flat_set l h s hs ((l.getD s []).set a v)
  constructor
  · rw [h2]
    conv => rhs; rw [e1]
    rw [List.set_append, if_neg (by omega), List.set_append, if_pos (by omega), l1, show s * 64 + a - 64 * s = a from by omega]
    have e3 : l.flatten.take (64 * s) = (l.take s).flatten := by rw [e1, ← l1, List.take_left]
    have e4 : l.flatten.drop (64 * s + 64) = (l.drop (s + 1)).flatten := by
      rw [e1, ← List.drop_drop (i := 64) (j := 64 * s), ← l1, List.drop_left, ← h64, List.drop_left]
    rw [e3, e4]
  · rw [e1, List.getElem?_append_right (by omega), List.getElem?_append_left (by omega), l1, show s * 64 + a - 64 * s = a from by omega]
theorem DiskAt.rotted {w : World} {d n bs be k a m : Nat} {c : UInt8} {qv av : Value} {D : Dsk} (h : DiskAt w d n bs be qv av D) (hk : k < n) (ha : a < 64) (hm0 : 0 < m) (hm : m < 256) (hc : D.st.flatten[k * 64 + a]? = some c) :
    DiskAt (w.setCell ⟨bs, k * 64 + a, none⟩ (.int .u8 (bits BinOp.xor IntKind.u8 (c.toNat : Int) (m : Int)))) d n bs be qv av (D.rot k a m) ∧
      Only (fun b => b = bs ∨ b = be) w (w.setCell ⟨bs, k * 64 + a, none⟩ (.int .u8 (bits BinOp.xor IntKind.u8 (c.toNat : Int) (m : Int)))) := by
  have hkl : k < D.st.length := by rw [h.ok.stl]; exact hk
  have e64 := mem64 h.ok.st64 hkl
  have hsec : (D.st.getD k []).getD a 0 = c := by
    have := (flat_put D.st h.ok.st64 k a hkl ha 0).2
    rw [hc] at this
    rw [List.getD_eq_getElem?_getD, ← this]; rfl
  have e1 : D.rot k a m = { D with st := D.st.set k ((D.st.getD k []).set a (c ^^^ UInt8.ofNat m)) } := by
    unfold Dsk.rot
    rw [if_pos ⟨⟨by omega, by omega⟩, ⟨by omega, by omega⟩, ⟨by omega, by omega⟩⟩]
    simp only [Int.toNat_natCast]
    rw [hsec]
  have e2 : bits BinOp.xor IntKind.u8 (c.toNat : Int) (m : Int) = (((c ^^^ UInt8.ofNat m).toNat : Nat) : Int) := by
    rw [u8_xor_nat _ _ c.toNat_lt hm, UInt8.toNat_xor, UInt8.toNat_ofNat', Nat.mod_eq_of_lt hm]
  have ho : Only (fun b => b = bs ∨ b = be) w (w.setCell ⟨bs, k * 64 + a, none⟩ (.int .u8 (bits BinOp.xor IntKind.u8 (c.toNat : Int) (m : Int)))) := (Only.refl (fun b => b = bs ∨ b = be) w).setCell (fun _ => Or.inl rfl) _
  refine ⟨h.rows ho ?_ ?_ ?_ (by rw [e1]) (by rw [e1]) (by rw [e1]), ho⟩
  · rw [e1]
    exact ⟨h.ok.lo, h.ok.hi, by simp [h.ok.stl], h.ok.ell, set64 h.ok.st64 (by rw [List.length_set]; exact e64), h.ok.el64, h.ok.q64, h.ok.arm⟩
  · have hb := h.st.set_ (k * 64 + a) (.int .u8 (bits BinOp.xor IntKind.u8 (c.toNat : Int) (m : Int)))
    rw [e2] at hb ⊢
    rw [e1]
    show Blk _ bs 5 (u8 (D.st.set k ((D.st.getD k []).set a (c ^^^ UInt8.ofNat m))).flatten).toArray
    rw [(flat_put D.st h.ok.st64 k a hkl ha _).1]
    have : (u8 D.st.flatten).toArray.setIfInBounds (k * 64 + a) (.int .u8 (((c ^^^ UInt8.ofNat m).toNat : Nat) : Int)) = (u8 (D.st.flatten.set (k * 64 + a) (c ^^^ UInt8.ofNat m))).toArray := by
      rw [List.setIfInBounds_toArray]; unfold u8; rw [List.map_set]
    rw [← this]; exact hb
  · rw [e1]
    exact h.el.far (fun e => h.ne e.symm) _

set_option maxRecDepth 100000 in
set_option maxHeartbeats 400000 in
theorem rot_ok (F : Nat → Prop) (d n k a m : Nat) (D : Dsk) (w : World) (h : Disk w F d n D) (hk : k < n) (ha : a < 64) (hm0 : 0 < m) (hm : m < 256) :
    Calls Try.prog 29 #[.pointer (some ⟨d, 0, none⟩), .int .i64 (k : Int), .int .i64 (a : Int), .int .i64 (m : Int)] w fun e w' => e = .returned (.tuple #[]) ∧ Disk w' (After F w w') d n (D.rot k a m) ∧ Only F w w' := by
  obtain ⟨bs, be, qv, av, hD, h1, h2, h3, h4, h5⟩ := h
  have HP := Lib.hid (place_yes d n bs be k qv av D w hD hk)
  have hn := hD.ok.hi
  have HD := Lib.hid hD
  clear hD
  unfold aSpot at HP
  go_enter Try.func29, Try.ntmps29
  go_wp2_with fail
  refine HP.out.mono ?_
  rintro e w1 ⟨rfl, hb⟩
  have hD1 := HD.out.keep (Only.of_below hb (fun _ => False)) id id id (fun _ _ => id) (fun _ _ => id)
  have HD1 := Lib.hid hD1
  have HB := Lib.hid hb
  clear hb hD1
  go_wp2_with fail
  obtain ⟨W2, hW2⟩ : ∃ W2, W2 = w1.alloc (.cells #[.int .i64 ((k : Int) * 64), .int .i64 (((k : Int) + 1) * 64)] 67) := ⟨_, rfl⟩
  have hDW : DiskAt W2 d n bs be qv av D := by rw [hW2]; exact HD1.out.alloc _
  have hBW : Blk W2 w1.heap.size 67 #[.int .i64 ((k : Int) * 64), .int .i64 (((k : Int) + 1) * 64)] := by rw [hW2]; exact Blk.new _ _ _
  have hOW : Only (fun _ => False) w W2 := by rw [hW2]; exact (Only.of_below HB.out _).alloc _
  rw [← hW2]
  obtain ⟨c, hc⟩ : ∃ c : UInt8, D.st.flatten[k * 64 + a]? = some c := by
    have : k * 64 + a < D.st.flatten.length := by rw [flat_length _ HD.out.ok.st64, HD.out.ok.stl]; omega
    exact ⟨_, List.getElem?_eq_getElem this⟩
  have hcell : W2.cell? ⟨bs, k * 64 + a, none⟩ = some (.int .u8 (c.toNat : Int)) := by
    rw [hDW.st.cell, List.getElem?_toArray]; unfold u8; rw [List.getElem?_map, hc]; rfl
  have hfr : W2.frozen? ⟨bs, k * 64 + a, none⟩ = false := hDW.st.frozen _
  have hcb : c.toNat < 256 := c.toNat_lt
  have HC := Lib.hid hc
  have e0 : W2.cell? ⟨d, 0, none⟩ = some (.slice (some ⟨bs, 0, none⟩) (64 * n) (64 * n)) := hDW.blk.cell 0
  have b0 : W2.cell? ⟨w1.heap.size, 0, none⟩ = some (.int .i64 ((k : Int) * 64)) := hBW.cell 0
  have HDW := Lib.hid hDW
  have HOW := Lib.hid hOW
  clear hDW hBW hOW hW2 hc
  refine region_tail 14 (fun W => (W.cell? ⟨d, 0, none⟩ = some (.slice (some ⟨bs, 0, none⟩) (64 * n) (64 * n)) ∧ W.cell? ⟨w1.heap.size, 0, none⟩ = some (.int .i64 ((k : Int) * 64)) ∧ W.cell? ⟨bs, k * 64 + a, none⟩ = some (.int .u8 (c.toNat : Int)) ∧ W.frozen? ⟨bs, k * 64 + a, none⟩ = false) ∧ W = W2.drew) ⟨⟨e0, b0, hcell, hfr⟩, rfl⟩ (by kernel_rfl) (by kernel_rfl) ?_
  intro W ⟨⟨g0, g1, g2, g3⟩, hW⟩
  have HW := Lib.hid hW
  clear hW e0 b0 hcell hfr
  simp only [List.take_succ_cons, List.take_zero, List.drop_succ_cons, List.drop_zero]
  have s1 : IntKind.i64.wrap ((k : Int) * 64 + (a : Int)) = (k : Int) * 64 + (a : Int) := IntWalk.i64_in _ (by omega)
  have s2 : ((k : Int) * 64 + (a : Int)).toNat = k * 64 + a := by omega
  have s3 : 0 ≤ (k : Int) * 64 + (a : Int) := by omega
  have s4 : (k : Int) * 64 + (a : Int) < 64 * (n : Int) := by omega
  repeat still_step
  refine wpStill_nil ?_
  go_wp2
  go_end0
  have hDW : DiskAt W d n bs be qv av D := by rw [HW.out]; exact HDW.out.drew
  have hR := hDW.rotted hk ha hm0 hm HC.out
  have hO : Only F w (W.setCell ⟨bs, k * 64 + a, none⟩ (.int .u8 (bits BinOp.xor IntKind.u8 (c.toNat : Int) (m : Int)))) := by
    refine Only.trans (w' := W) ?_ hR.2 (fun b _ hb => by rcases hb with rfl | rfl; exact h2; exact h3)
    rw [HW.out]; exact (HOW.out.mono (fun _ _ h => False.elim h)).drew
  exact ⟨rfl, ⟨bs, be, qv, av, hR.1, .inl h1, .inl h2, .inl h3, fun k hk => .inl (h4 k hk), fun k hk => .inl (h5 k hk)⟩, hO⟩
/-- Rot. -/
theorem rot_any (F : Nat → Prop) (d n : Nat) (s a m : Int) (D : Dsk) (w : World) (h : Disk w F d n D) :
    Calls Try.prog 29 #[.pointer (some ⟨d, 0, none⟩), .int .i64 s, .int .i64 a, .int .i64 m] w fun e w' => e = .returned (.tuple #[]) ∧ Disk w' (After F w w') d n (D.rot s a m) ∧ Only F w w' := by
  by_cases hs : 0 ≤ s ∧ s < (n : Int)
  · obtain ⟨k, rfl⟩ := Int.eq_ofNat_of_zero_le hs.1
    have hk : k < n := by omega
    by_cases ham : (0 ≤ a ∧ a < 64) ∧ (0 < m ∧ m < 256)
    · obtain ⟨a, rfl⟩ := Int.eq_ofNat_of_zero_le ham.1.1
      obtain ⟨m, rfl⟩ := Int.eq_ofNat_of_zero_le (Int.le_of_lt ham.2.1)
      exact rot_ok F d n k a m D w h hk (by omega) (by omega) (by omega)
    · have e1 : D.rot (k : Int) a m = D := by unfold Dsk.rot; rw [if_neg (fun h6 => ham h6.2)]
      rw [e1]
      obtain ⟨bs, be, qv, av, hD, _⟩ := id h
      exact (rot_bad d n bs be k a m qv av D w hD hk ham).mono fun e w' ⟨he, hb⟩ => ⟨he, h.after (Only.of_below hb _), Only.of_below hb _⟩
  · have e1 : D.rot s a m = D := by unfold Dsk.rot; rw [if_neg (fun h6 => hs (by have := h.ok.stl; omega))]
    rw [e1]
    obtain ⟨bs, be, qv, av, hD, _⟩ := id h
    exact (rot_err (some ⟨d, 0, none⟩) s a m w (place_no d n bs be s qv av D w hD (by omega))).mono fun e w' ⟨he, hb⟩ => ⟨he, h.after (Only.of_below hb _), Only.of_below hb _⟩
theorem rot_nil (s a m : Int) (w : World) : Calls Try.prog 29 #[.pointer none, .int .i64 s, .int .i64 a, .int .i64 m] w fun e w' => e = .returned (.tuple #[]) ∧ Below w.heap.size w w' :=
  rot_err none s a m w (place_nil s w)

/-! ### Stale -/
theorem stale_err (d : Option Addr) (s : Int) (w : World)
    (hat : Calls Try.prog 43 #[.pointer d, .int .i64 s] w fun e w' => e = .returned (noSpot (.bool false)) ∧ Below w.heap.size w w') :
    Calls Try.prog 30 #[.pointer d, .int .i64 s] w fun e w' => e = .returned (.tuple #[]) ∧ Below w.heap.size w w' := by
  have HAT := Lib.hid hat
  clear hat
  unfold noSpot at HAT
  go_enter Try.func30, Try.ntmps30
  go_wp2_with fail
  refine HAT.out.mono ?_
  rintro e w1 ⟨rfl, hb⟩
  have HB := Lib.hid hb
  clear hb
  go_wp2
  go_end0
  exact ⟨rfl, HB.out.alloc HB.out.size _⟩
theorem stale_cells {n : Nat} {D : Dsk} (h : D.Ok n) {k : Nat} (hk : k < n) :
    ((u8 D.st.flatten).toArray.toList.take (64 * k) ++ ((((u8 D.el.flatten).drop (64 * k)).take 64) ++ (u8 D.st.flatten).toArray.toList.drop (64 * k + ((((u8 D.el.flatten).drop (64 * k)).take 64)).length))) = u8 (D.stale k).st.flatten := by
  have e := flat_sector D.el h.el64 k (by rw [h.ell]; exact hk)
  have e64 := mem64 h.el64 (s := k) (by rw [h.ell]; exact hk)
  have e1 : D.stale k = { D with st := D.st.set k (D.el.getD k []) } := by
    unfold Dsk.stale; rw [if_pos ⟨by omega, by rw [h.stl]; omega⟩]; simp
  have e3 : ((u8 D.el.flatten).drop (64 * k)).take 64 = u8 (D.el.getD k []) := by rw [u8_drop, u8_take, e]
  rw [e3, u8_length, e64, e1]
  show _ = u8 (D.st.set k (D.el.getD k [])).flatten
  rw [flat_set _ h.st64 k (by rw [h.stl]; exact hk), u8_append, u8_append]
  simp [u8, List.map_take, List.map_drop]
theorem Dsk.Ok.stale {n : Nat} {D : Dsk} (h : D.Ok n) {k : Nat} (hk : k < n) : (D.stale k).Ok n := by
  have e1 : D.stale k = { D with st := D.st.set k (D.el.getD k []) } := by
    unfold Dsk.stale; rw [if_pos ⟨by omega, by rw [h.stl]; omega⟩]; simp
  rw [e1]
  exact ⟨h.lo, h.hi, by simp [h.stl], h.ell, set64 h.st64 (mem64 h.el64 (by rw [h.ell]; exact hk)), h.el64, h.q64, h.arm⟩

set_option maxHeartbeats 400000 in
theorem stale_ok (F : Nat → Prop) (d n k : Nat) (D : Dsk) (w : World) (h : Disk w F d n D) (hk : k < n) :
    Calls Try.prog 30 #[.pointer (some ⟨d, 0, none⟩), .int .i64 (k : Int)] w fun e w' => e = .returned (.tuple #[]) ∧ Disk w' (After F w w') d n (D.stale k) ∧ Only F w w' := by
  obtain ⟨bs, be, qv, av, hD, h1, h2, h3, h4, h5⟩ := h
  have HP := Lib.hid (place_yes d n bs be k qv av D w hD hk)
  have hn := hD.ok.hi
  have hsl := fun g => run_cut g (64 * n) (64 * n) (64 * k) (64 * k + 64) ((k : Int) * 64) (((k : Int) + 1) * 64) (by omega) (by omega) (by omega) (by omega) (by omega)
  have HD := Lib.hid hD
  clear hD
  unfold aSpot at HP
  go_enter Try.func30, Try.ntmps30
  go_wp2_with fail
  refine HP.out.mono ?_
  rintro e w1 ⟨rfl, hb⟩
  have hD1 := HD.out.keep (Only.of_below hb (fun _ => False)) id id id (fun _ _ => id) (fun _ _ => id)
  have HD1 := Lib.hid hD1
  have HB := Lib.hid hb
  clear hb hD1
  go_wp2_with fail
  obtain ⟨W2, hW2⟩ : ∃ W2, W2 = w1.alloc (.cells #[.int .i64 ((k : Int) * 64), .int .i64 (((k : Int) + 1) * 64)] 67) := ⟨_, rfl⟩
  have hDW : DiskAt W2 d n bs be qv av D := by rw [hW2]; exact HD1.out.alloc _
  have hBW : Blk W2 w1.heap.size 67 #[.int .i64 ((k : Int) * 64), .int .i64 (((k : Int) + 1) * 64)] := by rw [hW2]; exact Blk.new _ _ _
  have hOW : Only (fun _ => False) w W2 := by rw [hW2]; exact (Only.of_below HB.out _).alloc _
  rw [← hW2]
  have hle : (u8 D.st.flatten).length = 64 * n := by rw [u8_length, flat_length _ HD.out.ok.st64, HD.out.ok.stl]
  have hlel : (u8 D.el.flatten).length = 64 * n := by rw [u8_length, flat_length _ HD.out.ok.el64, HD.out.ok.ell]
  have hlen : (((u8 D.el.flatten).drop (64 * k)).take 64).length = 64 := by rw [List.length_take, List.length_drop, hlel]; omega
  have e0 : W2.cell? ⟨d, 0, none⟩ = some (.slice (some ⟨bs, 0, none⟩) (64 * n) (64 * n)) := hDW.blk.cell 0
  have e1 : W2.cell? ⟨d, 1, none⟩ = some (.slice (some ⟨be, 0, none⟩) (64 * n) (64 * n)) := hDW.blk.cell 1
  have b0 : W2.cell? ⟨w1.heap.size, 0, none⟩ = some (.int .i64 ((k : Int) * 64)) := hBW.cell 0
  have b1 : W2.cell? ⟨w1.heap.size, 1, none⟩ = some (.int .i64 (((k : Int) + 1) * 64)) := hBW.cell 1
  have HL := Lib.hid hle
  have HLEN := Lib.hid hlen
  have HDW := Lib.hid hDW
  have HOW := Lib.hid hOW
  clear hDW hBW hOW hW2 hle hlel hlen
  refine region_tail 18 (fun W => (W.cell? ⟨d, 0, none⟩ = some (.slice (some ⟨bs, 0, none⟩) (64 * n) (64 * n)) ∧ W.cell? ⟨d, 1, none⟩ = some (.slice (some ⟨be, 0, none⟩) (64 * n) (64 * n)) ∧
    W.cell? ⟨w1.heap.size, 0, none⟩ = some (.int .i64 ((k : Int) * 64)) ∧ W.cell? ⟨w1.heap.size, 1, none⟩ = some (.int .i64 (((k : Int) + 1) * 64))) ∧ W = W2.drew) ⟨⟨e0, e1, b0, b1⟩, rfl⟩ (by kernel_rfl) (by kernel_rfl) ?_
  intro W ⟨⟨g0, g1, g2, g3⟩, hW⟩
  have HW := Lib.hid hW
  clear hW e0 e1 b0 b1
  simp only [List.take_succ_cons, List.take_zero, List.drop_succ_cons, List.drop_zero]
  repeat still_step
  refine wpStill_nil ?_
  have hDD : DiskAt W d n bs be qv av D := by rw [HW.out]; exact HDW.out.drew
  have HDD := Lib.hid hDD
  clear hDD
  refine wpList_copy_blk rfl (.tmp 21) (.tmp 30) 57 57 rfl 5 Try.underlying57 byte_size bs (64 * k) _ _ _ _ _ rfl rfl _ 5 HDD.out.st (((u8 D.el.flatten).drop (64 * k)).take 64) ?_ (src_cells HDD.out.el _ _) ?_ ?_ ?_
  · rw [HLEN.out]; rfl
  · rw [HLEN.out, List.size_toArray, HL.out]; omega
  · intro v hv; exact u8_one _ v (List.mem_of_mem_drop (List.mem_of_mem_take hv))
  · intro w' q1 q2
    rw [stale_cells HD.out.ok hk] at q1
    have hR : DiskAt w' d n bs be qv av (D.stale k) := by
      have e : D.stale k = { D with st := (D.stale k).st } := by
        unfold Dsk.stale; split <;> rfl
      refine HDD.out.rows (q2.mono (fun _ _ h => Or.inl h)) (HD.out.ok.stale hk) q1 ?_ (by rw [e]) (by rw [e]) (by rw [e])
      rw [e]
      exact q2.blk HDD.out.el (fun e => HDD.out.ne e.symm)
    have hO : Only F w w' := by
      refine Only.trans (w' := W) ?_ q2 (fun b _ hb => by subst hb; exact h2)
      rw [HW.out]; exact (HOW.out.mono (fun _ _ h => False.elim h)).drew
    have HR := Lib.hid hR
    have HO := Lib.hid hO
    clear q1 q2 hR hO
    go_wp2
    go_end0
    exact ⟨rfl, ⟨bs, be, qv, av, HR.out, .inl h1, .inl h2, .inl h3, fun k hk => .inl (h4 k hk), fun k hk => .inl (h5 k hk)⟩, HO.out⟩

/-- Stale. -/
theorem stale_any (F : Nat → Prop) (d n : Nat) (s : Int) (D : Dsk) (w : World) (h : Disk w F d n D) :
    Calls Try.prog 30 #[.pointer (some ⟨d, 0, none⟩), .int .i64 s] w fun e w' => e = .returned (.tuple #[]) ∧ Disk w' (After F w w') d n (D.stale s) ∧ Only F w w' := by
  by_cases hs : 0 ≤ s ∧ s < (n : Int)
  · obtain ⟨k, rfl⟩ := Int.eq_ofNat_of_zero_le hs.1
    exact stale_ok F d n k D w h (by omega)
  · have e1 : D.stale s = D := by unfold Dsk.stale; rw [if_neg (fun h6 => hs (by have := h.ok.stl; omega))]
    rw [e1]
    obtain ⟨bs, be, qv, av, hD, _⟩ := id h
    exact (stale_err (some ⟨d, 0, none⟩) s w (place_no d n bs be s qv av D w hD (by omega))).mono fun e w' ⟨he, hb⟩ => ⟨he, h.after (Only.of_below hb _), Only.of_below hb _⟩
theorem stale_nil (s : Int) (w : World) : Calls Try.prog 30 #[.pointer none, .int .i64 s] w fun e w' => e = .returned (.tuple #[]) ∧ Below w.heap.size w w' :=
  stale_err none s w (place_nil s w)

/-! ### New -/
theorem new_bad (s : Int) (w : World) (hs : s < 1 ∨ 4000 < s) : Calls Try.prog 12 #[.int .i64 s] w fun e w' => e = .returned (.pointer none) ∧ w = w' := by
  by_cases h1 : s < 1
  · go_enter Try.func12, Try.ntmps12
    go_wp2
    go_ret
    exact ⟨rfl, rfl⟩
  · have h2 : 4000 < s := by omega
    go_enter Try.func12, Try.ntmps12
    go_wp2
    go_ret
    exact ⟨rfl, rfl⟩
theorem byte_info : (Try.prog.info? 5).map (fun i => (i.zero, i.size, i.bytes)) = some (some (.int .u8 0), 1, 1) := by kernel_rfl

theorem run_zeroes (n : Nat) (h2 : n ≤ 4000) (W : World) : (Instr.makeSlice 57 (.int .i64 ((n : Int) * 64)) (.int .i64 ((n : Int) * 64))).run Try.prog W =
    .ok (.slice (some ⟨W.heap.size, 0, none⟩) (64 * n) (64 * n)) (W.alloc (.cells (u8 (Dsk.new n).st.flatten).toArray 5)) := by
  obtain ⟨i0, hi, hz0, hz1, hz2⟩ := info_parts byte_info
  rw [run_make (P := Try.prog) W 57 5 i0 (.int .u8 0) Try.underlying57 hi hz0 .i64 .i64 _ _ (by omega) (Int.le_refl _) (by rw [hz2]; omega) (by omega)]
  have e1 : ((n : Int) * 64).toNat = 64 * n := by omega
  have e2 : (Value.int .u8 0).cells = #[.int .u8 0] := rfl
  have e3 : madeCells #[.int .u8 0] (64 * n) = (u8 (Dsk.new n).st.flatten).toArray := by
    apply Array.toList_inj.1
    rw [toList_madeCells_one]
    show _ = u8 (List.replicate n (List.replicate 64 0)).flatten
    rw [List.flatten_replicate_replicate, Nat.mul_comm n 64]
    unfold u8
    rw [List.map_replicate]; rfl
  rw [e1, e2, hz1, Nat.mul_one, e3]

set_option maxHeartbeats 400000 in
theorem new_ok (n : Nat) (w : World) (h1 : 1 ≤ n) (h2 : n ≤ 4000) :
    Calls Try.prog 12 #[.int .i64 (n : Int)] w fun e w' => ∃ d, e = .returned (.pointer (some ⟨d, 0, none⟩)) ∧ w.heap.size ≤ d ∧ Disk w' (fun b => w.heap.size ≤ b) d n (Dsk.new n) ∧ Below w.heap.size w w' := by
  have hw : IntKind.i64.wrap ((n : Int) * 64) = (n : Int) * 64 := IntWalk.i64_in _ (by omega)
  obtain ⟨Z, hZ⟩ : ∃ Z, Z = (u8 (Dsk.new n).st.flatten).toArray := ⟨_, rfl⟩
  have hmk := run_zeroes n h2
  rw [← hZ] at hmk
  have HZ := Lib.hid hZ
  clear hZ
  have fin : ∀ bs be : Nat, (bs = w.heap.size ∧ be = w.heap.size + 1 ∨ bs = w.heap.size + 1 ∧ be = w.heap.size) → ∀ W, W = (((w.alloc (.cells Z 5)).alloc (.cells Z 5)).alloc (.cells (hdr n bs be (.slice none 0 0) (.pointer none) false) 61)).drew →
      Disk W (fun b => w.heap.size ≤ b) (w.heap.size + 1 + 1) n (Dsk.new n) ∧ Below w.heap.size w W := by
    intro bs be hbe W hW
    have z1 : Blk (w.alloc (.cells Z 5)) w.heap.size 5 Z := Blk.new _ _ _
    have z2 : Blk ((w.alloc (.cells Z 5)).alloc (.cells Z 5)) (w.heap.size + 1) 5 Z := by simpa using Blk.new (w.alloc (.cells Z 5)) 5 Z
    have z3 : Blk (((w.alloc (.cells Z 5)).alloc (.cells Z 5)).alloc (.cells (hdr n bs be (.slice none 0 0) (.pointer none) false) 61)) (w.heap.size + 1 + 1) 61 (hdr n bs be (.slice none 0 0) (.pointer none) false) := by
      simpa using Blk.new ((w.alloc (.cells Z 5)).alloc (.cells Z 5)) 61 (hdr n bs be (.slice none 0 0) (.pointer none) false)
    have y1 : Blk W w.heap.size 5 Z := by rw [hW]; exact ((z1.alloc _).alloc _).drew
    have y2 : Blk W (w.heap.size + 1) 5 Z := by rw [hW]; exact (z2.alloc _).drew
    have y3 : Blk W (w.heap.size + 1 + 1) 61 (hdr n bs be (.slice none 0 0) (.pointer none) false) := by rw [hW]; exact z3.drew
    have hbel : Below w.heap.size w W := by
      rw [hW]; exact ((((Below.refl _ _).alloc (Nat.le_refl _) _).alloc (by simp) _).alloc (by simp; omega) _).drew
    have zb : Blk W bs 5 Z ∧ Blk W be 5 Z ∧ bs ≠ be ∧ w.heap.size ≤ bs ∧ w.heap.size ≤ be := by
      rcases hbe with ⟨rfl, rfl⟩ | ⟨rfl, rfl⟩
      · exact ⟨y1, y2, by omega, by omega, by omega⟩
      · exact ⟨y2, y1, by omega, by omega, by omega⟩
    rw [HZ.out] at zb
    exact ⟨⟨bs, be, _, _, ⟨Dsk.Ok.new h1 h2, y3, zb.1, zb.2.1, zb.2.2.1, World.ownsRow_nil _ _ _ _, rfl⟩, by omega, zb.2.2.2.1, zb.2.2.2.2, fun k hk => by simp [Value.ownBlock] at hk, fun k hk => by simp at hk⟩, hbel⟩
  have FIN := Lib.hid fin
  clear fin
  go_enter Try.func12, Try.ntmps12
  go_wp2_with fail
  go_region
  · have hf := FIN.out w.heap.size (w.heap.size + 1) (.inl ⟨rfl, rfl⟩) _ rfl
    have HF := Lib.hid hf
    clear hf
    go_wp2
    go_ret
    exact ⟨_, rfl, by omega, HF.out⟩
  · have hf := FIN.out (w.heap.size + 1) w.heap.size (.inr ⟨rfl, rfl⟩) _ rfl
    have HF := Lib.hid hf
    clear hf
    go_wp2
    go_ret
    exact ⟨_, rfl, by omega, HF.out⟩
end Go.Proofs.Ytmkfbedhmmijjaa
