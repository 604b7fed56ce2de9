/- Disk.Fail: the power fails; the first pending writes reach the disk, and one more may be torn. -/
import Derived.Test.YtmkfbedhmmijjaaSettle
import Derived.Deep.DeepCutAuto
namespace Go.Proofs.Ytmkfbedhmmijjaa
open Go.RowKit
section
variable {w w' : World} {d n bs be : Nat} {qv av : Value} {D D' : Dsk} {F : Nat → Prop}
theorem DiskAt.quiet (h : DiskAt w d n bs be qv av D) :
    DiskAt (((w.setCell ⟨d, 2, none⟩ (.slice none 0 0)).setCell ⟨d, 3, none⟩ (.bool true)).setCell ⟨d, 4, none⟩ (.pointer none)) d n bs be (.slice none 0 0) (.pointer none) { D with q := [], off := true, arm := none } ∧
    Only (fun b => b = d) w (((w.setCell ⟨d, 2, none⟩ (.slice none 0 0)).setCell ⟨d, 3, none⟩ (.bool true)).setCell ⟨d, 4, none⟩ (.pointer none)) := by
  have hb := ((h.blk.set_ 2 (.slice none 0 0)).set_ 3 (.bool true)).set_ 4 (.pointer none)
  have e1 : bs ≠ d := fun e => h.blk.ne_ h.st (by decide) e.symm
  have e2 : be ≠ d := fun e => h.blk.ne_ h.el (by decide) e.symm
  refine ⟨⟨h.ok.quiet, hb, ((h.st.far e1 _).far e1 _).far e1 _, ((h.el.far e2 _).far e2 _).far e2 _, h.ne, World.ownsRow_nil _ _ _ _, rfl⟩, ?_⟩
  exact (((Only.refl (fun b => b = d) w).setCell (p := ⟨d, 2, none⟩) (fun _ => rfl) _).setCell (p := ⟨d, 3, none⟩) (fun _ => rfl) _).setCell (p := ⟨d, 4, none⟩) (fun _ => rfl) _
theorem run_head (s : ByteArray) (k : Nat) (hk : k ≤ s.size) (w : World) : (Instr.slice 9 (.string s) none (some (.int .i64 (k : Int))) none).run Try.prog w = .ok (.string (s.extract 0 k)) w := by
  simp [Instr.slice, run_underlying Try.underlying9, Instr.sliceBounds, Instr.sliceBound, asIntOf, hk]
theorem extract_list (l : List UInt8) (k : Nat) : ((⟨l.toArray⟩ : ByteArray).extract 0 k).data.toList = l.take k := by
  rw [Lib.extract_data]; simp
end

set_option maxHeartbeats 1000000 in
theorem fail_some (d n bs be g cap : Nat) (a b : Int) (av : Value) (D : Dsk) (w : World) (h : DiskAt w d n bs be (.slice (some ⟨g, 0, none⟩) D.q.length cap) av D) (hoff : D.off = false) (hbig : D.q.length ≤ 1000000)
    (ha : -9223372036854775808 ≤ a ∧ a ≤ 9223372036854775807) (hb : -9223372036854775808 ≤ b ∧ b ≤ 9223372036854775807) :
    Calls Try.prog 24 #[.pointer (some ⟨d, 0, none⟩), .int .i64 a, .int .i64 b] w fun e w' => e = .returned (.tuple #[]) ∧
      DiskAt w' d n bs be (.slice none 0 0) (.pointer none) (D.fail a b) ∧ Only (fun b => b = d ∨ b = bs ∨ b = be) w w' := by
  have c2 : w.cell? ⟨d, 2, none⟩ = some (.slice (some ⟨g, 0, none⟩) D.q.length cap) := h.blk.cell 2
  have c3 : w.cell? ⟨d, 3, none⟩ = some (.bool false) := by rw [h.blk.cell 3, hoff]; rfl
  obtain ⟨N, hN⟩ : ∃ N, N = min a.toNat D.q.length := ⟨_, rfl⟩
  have hNl : N ≤ D.q.length := by omega
  have hcap : D.q.length ≤ cap := by
    rcases h.q.2 with ⟨hx, _⟩ | ⟨g', cap', cur, hx, _, _, hc, _⟩
    · cases hx
    · injection hx with _ _ hx; omega
  have htake : D.q.take a.toNat = D.q.take N := by rw [hN, List.take_eq_take_iff]; omega
  have hdrop : D.q.drop a.toNat = D.q.drop N := by
    rcases Nat.le_total a.toNat D.q.length with h1 | h1
    · rw [show N = a.toNat by omega]
    · rw [show N = D.q.length by omega, List.drop_length, List.drop_eq_nil_of_le h1]
  have hfin : D.fail a b = { (D.settle (D.q.take N)).tear (D.q.drop N) b with q := [], off := true, arm := none } := by
    unfold Dsk.fail; rw [hoff, htake, hdrop]; rfl
  have HFIN := Lib.hid hfin
  have HN := Lib.hid hN
  have H := Lib.hid h
  have HOFF := Lib.hid hoff
  clear h hoff hN htake hdrop hfin
  obtain ⟨w0, hw0⟩ : ∃ w0 : World, w0 = w := ⟨_, rfl⟩
  have HW0 := Lib.hid hw0
  clear hw0
  go_enter Try.func24, Try.ntmps24
  go_upto_region 1 with (fail)
  go_cut [6] (fun v wx => v = .int .i64 (N : Int) ∧ wx = w)
  case first =>
    go_wp2_with fail
    all_goals
      go_meet
      case rel => exact ⟨by have := HN.out; go_num, rfl⟩
  case rest =>
    obtain ⟨rfl, rfl⟩ := hcut
    go_wp2_with fail
    refine (settle_any d n bs be N _ _ _ av D _ H.out hNl hbig (fun _ => ⟨g, cap, rfl, rfl⟩)).mono ?_
    rintro e w1 ⟨rfl, hD1, hO1⟩
    have ea := settle_arm (D.q.take N) D
    have d2 : w1.cell? ⟨d, 2, none⟩ = some (.slice (some ⟨g, 0, none⟩) D.q.length cap) := hD1.blk.cell 2
    have f2 : w1.frozen? ⟨d, 2, none⟩ = false := hD1.blk.frozen 2
    have f3 : w1.frozen? ⟨d, 3, none⟩ = false := hD1.blk.frozen 3
    have f4 : w1.frozen? ⟨d, 4, none⟩ = false := hD1.blk.frozen 4
    have d3 : w1.cell? ⟨d, 3, none⟩ = some (.bool (D.settle (D.q.take N)).off) := hD1.blk.cell 3
    have d4 : w1.cell? ⟨d, 4, none⟩ = some av := hD1.blk.cell 4
    have hown := hD1.q
    rw [ea.2.1] at hown
    have hd1 : d < w1.heap.size := hD1.blk.lt
    have HD1 := Lib.hid hD1
    have HO1 := Lib.hid hO1
    clear hD1 hO1 ea c2 c3
    by_cases hlt : N < D.q.length
    · have hq := qc_get D.q N hlt
      have c0 := own_cell hown hq.1
      have c1 := own_cell hown hq.2.1
      have c2 := own_cell hown hq.2.2
      have hq64 := H.out.ok.q64 _ (List.getElem_mem hlt)
      have HQ := Lib.hid hq64
      have htear : (D.settle (D.q.take N)).tear (D.q.drop N) b = if 0 < cap64 b then (D.settle (D.q.take N)).set D.q[N].1 (D.q[N].2.take (cap64 b)) else D.settle (D.q.take N) := by
        rw [List.drop_eq_getElem_cons hlt]; rfl
      have HT := Lib.hid htear
      clear hq hown hq64 htear
      obtain ⟨k, hk⟩ : ∃ k, k = cap64 b := ⟨_, rfl⟩
      have hk' : k = min b.toNat 64 := hk
      have hk64 : k ≤ 64 := by omega
      rw [← hk] at HT
      have HK := Lib.hid hk'
      clear hk hk'
      have hsz : k ≤ (⟨D.q[N].2.toArray⟩ : ByteArray).size := by show k ≤ D.q[N].2.toArray.size; rw [List.size_toArray, HQ.out.2]; exact hk64
      have hsl := run_head ⟨D.q[N].2.toArray⟩ k hsz
      go_upto_region 5 with (fail)
      go_cut [8] (fun v wx => v = .int .i64 (k : Int) ∧ wx = w1.alloc (.cells #[.int .i64 ((D.q[N].1 : Int) * 64), .int .i64 (((D.q[N].1 : Int) + 1) * 64), .string ⟨D.q[N].2.toArray⟩] 71))
      case first =>
        go_wp2_with fail
        all_goals
          go_meet
          case rel => exact ⟨by have := HK.out; go_num, rfl⟩
      case rest =>
        obtain ⟨rfl, rfl⟩ := hcut
        by_cases hk0 : 0 < k
        · go_wp2_with fail
          obtain ⟨wb, hwb⟩ : ∃ wb, wb = w1.alloc (.cells #[.int .i64 ((D.q[N].1 : Int) * 64), .int .i64 (((D.q[N].1 : Int) + 1) * 64), .string ⟨D.q[N].2.toArray⟩] 71) := ⟨_, rfl⟩
          have hDb : DiskAt wb d n bs be (.slice (some ⟨g, 0, none⟩) D.q.length cap) av (D.settle (D.q.take N)) := by rw [hwb]; exact HD1.out.alloc _
          have hOb : Only (fun b => b = bs ∨ b = be) w0 wb := by rw [hwb, HW0.out]; exact HO1.out.alloc _
          have hbb : Blk wb w1.heap.size 71 #[.int .i64 ((D.q[N].1 : Int) * 64), .int .i64 (((D.q[N].1 : Int) + 1) * 64), .string ⟨D.q[N].2.toArray⟩] := by rw [hwb]; exact Blk.new _ _ _
          rw [← hwb]
          have HDB := Lib.hid hDb
          have HOB := Lib.hid hOb
          have HBB := Lib.hid hbb
          clear hDb hOb hbb hwb
          refine region_tail 7 (fun W => (W.cell? ⟨w1.heap.size, 0, none⟩ = some (.int .i64 ((D.q[N].1 : Int) * 64)) ∧ W.cell? ⟨w1.heap.size, 1, none⟩ = some (.int .i64 (((D.q[N].1 : Int) + 1) * 64)) ∧
             W.cell? ⟨w1.heap.size, 2, none⟩ = some (.string ⟨D.q[N].2.toArray⟩)) ∧ W = wb.drew) ⟨⟨HBB.out.cell 0, HBB.out.cell 1, HBB.out.cell 2⟩, rfl⟩ (by kernel_rfl) (by kernel_rfl) ?_
          intro W ⟨⟨e0, e1, e2⟩, hW⟩
          have HW := Lib.hid hW
          clear hW c0 c1 c2 d2 d3 d4 f2 f3 f4
          simp only [List.take_succ_cons, List.take_zero, List.drop_succ_cons, List.drop_zero]
          repeat still_step
          refine wpStill_nil ?_
          go_wp2_with fail
          have hx : ((⟨D.q[N].2.toArray⟩ : ByteArray).extract 0 k).data.toList = D.q[N].2.take k := extract_list _ _
          have hDW : DiskAt W d n bs be (.slice (some ⟨g, 0, none⟩) D.q.length cap) av (D.settle (D.q.take N)) := by rw [HW.out]; exact HDB.out.drew
          have hsz2 : ((⟨D.q[N].2.toArray⟩ : ByteArray).extract 0 k).size ≤ 64 := by rw [ByteArray.size_extract]; omega
          refine (set_any _ d n bs be _ av _ _ _ hDW HQ.out.1 hsz2).mono ?_
          rintro e w2 ⟨rfl, hD2, hO2⟩
          rw [hx] at hD2
          have g2 : w2.cell? ⟨d, 2, none⟩ = some (.slice (some ⟨g, 0, none⟩) D.q.length cap) := hD2.blk.cell 2
          have g3 : w2.cell? ⟨d, 3, none⟩ = some (.bool ((D.settle (D.q.take N)).set D.q[N].1 (D.q[N].2.take k)).off) := hD2.blk.cell 3
          have g4 : w2.cell? ⟨d, 4, none⟩ = some av := hD2.blk.cell 4
          have f2 : w2.frozen? ⟨d, 2, none⟩ = false := hD2.blk.frozen 2
          have f3 : w2.frozen? ⟨d, 3, none⟩ = false := hD2.blk.frozen 3
          have f4 : w2.frozen? ⟨d, 4, none⟩ = false := hD2.blk.frozen 4
          have hd2 : d < w2.heap.size := hD2.blk.lt
          have HD2 := Lib.hid hD2
          have HO2 := Lib.hid hO2
          clear hD2 hO2 hDW hx hsz2 e0 e1 e2
          go_wp2
          go_end0
          refine ⟨rfl, ?_, ?_⟩
          · rw [HFIN.out, HT.out, if_pos hk0]; exact HD2.out.quiet.1
          · have h1 := HO2.out
            rw [HW.out] at h1
            rw [← HW0.out]
            exact ((HOB.out.drew.trans h1 (fun _ _ h => h)).mono (fun _ _ h => Or.inr h)).trans HD2.out.quiet.2 (fun _ _ h => Or.inl h)
        · have hk0' : k = 0 := by omega
          have HK0 := Lib.hid hk0
          clear hk0'
          go_wp2
          go_end0
          refine ⟨rfl, ?_, ?_⟩
          · rw [HFIN.out, HT.out, if_neg HK0.out]; exact HD1.out.quiet.1.alloc _
          · exact ((HO1.out.mono (fun _ _ h => Or.inr h)).trans HD1.out.quiet.2 (fun _ _ h => Or.inl h)).alloc _
    · have hdr : D.q.drop N = [] := List.drop_eq_nil_of_le (by omega)
      have HDR := Lib.hid hdr
      clear hdr hown
      go_wp2
      go_end0
      refine ⟨rfl, ?_, ?_⟩
      · rw [HFIN.out, HDR.out]; exact HD1.out.quiet.1
      · exact (HO1.out.mono (fun _ _ h => Or.inr h)).trans HD1.out.quiet.2 (fun _ _ h => Or.inl h)
set_option maxHeartbeats 400000 in
theorem fail_nil (d n bs be : Nat) (a b : Int) (av : Value) (D : Dsk) (w : World) (h : DiskAt w d n bs be (.slice none 0 0) av D) (hoff : D.off = false) (hq : D.q = [])
    (ha : -9223372036854775808 ≤ a ∧ a ≤ 9223372036854775807) (_hb : -9223372036854775808 ≤ b ∧ b ≤ 9223372036854775807) :
    Calls Try.prog 24 #[.pointer (some ⟨d, 0, none⟩), .int .i64 a, .int .i64 b] w fun e w' => e = .returned (.tuple #[]) ∧
      DiskAt w' d n bs be (.slice none 0 0) (.pointer none) (D.fail a b) ∧ Only (fun b => b = d ∨ b = bs ∨ b = be) w w' := by
  have c2 : w.cell? ⟨d, 2, none⟩ = some (.slice none 0 0) := h.blk.cell 2
  have c3 : w.cell? ⟨d, 3, none⟩ = some (.bool false) := by rw [h.blk.cell 3, hoff]; rfl
  have hfin : D.fail a b = { D with q := [], off := true, arm := none } := by
    unfold Dsk.fail; rw [hoff, hq]; simp [Dsk.settle, Dsk.tear]
  have HFIN := Lib.hid hfin
  have H := Lib.hid h
  clear h hoff hfin hq
  go_enter Try.func24, Try.ntmps24
  go_upto_region 1 with (fail)
  go_cut [6] (fun v wx => v = .int .i64 0 ∧ wx = w)
  case first =>
    go_wp2_with fail
    all_goals
      go_meet
      case rel => exact ⟨by go_num, rfl⟩
  case rest =>
    obtain ⟨rfl, rfl⟩ := hcut
    go_wp2_with fail
    refine (settle_none d n bs be _ _ _ av D _ H.out).mono ?_
    rintro e w1 ⟨rfl, hD1, hO1⟩
    have d2 : w1.cell? ⟨d, 2, none⟩ = some (.slice none 0 0) := hD1.blk.cell 2
    have f2 : w1.frozen? ⟨d, 2, none⟩ = false := hD1.blk.frozen 2
    have f3 : w1.frozen? ⟨d, 3, none⟩ = false := hD1.blk.frozen 3
    have f4 : w1.frozen? ⟨d, 4, none⟩ = false := hD1.blk.frozen 4
    have d3 : w1.cell? ⟨d, 3, none⟩ = some (.bool D.off) := hD1.blk.cell 3
    have d4 : w1.cell? ⟨d, 4, none⟩ = some av := hD1.blk.cell 4
    have HD1 := Lib.hid hD1
    have HO1 := Lib.hid hO1
    clear hD1 hO1 c2 c3
    go_wp2
    go_end0
    refine ⟨rfl, ?_, ?_⟩
    · rw [HFIN.out]; exact HD1.out.quiet.1
    · exact (HO1.out.mono (fun _ _ h => Or.inr h)).trans HD1.out.quiet.2 (fun _ _ h => Or.inl h)

theorem fail_off (d n bs be : Nat) (a b : Int) (qv av : Value) (D : Dsk) (w : World) (h : DiskAt w d n bs be qv av D) (hoff : D.off = true) :
    Calls Try.prog 24 #[.pointer (some ⟨d, 0, none⟩), .int .i64 a, .int .i64 b] w fun e w' => e = .returned (.tuple #[]) ∧ w = w' := by
  have c3 : w.cell? ⟨d, 3, none⟩ = some (.bool true) := by rw [h.blk.cell 3, hoff]; rfl
  clear h hoff
  go_enter Try.func24, Try.ntmps24
  go_wp2
  exact bodyPost_ret (results_none rfl _ _ _) rfl ⟨rfl, rfl⟩

/-- No disk: nothing happens. -/
theorem fail_none (a b : Int) (w : World) : Calls Try.prog 24 #[.pointer none, .int .i64 a, .int .i64 b] w fun e w' => e = .returned (.tuple #[]) ∧ w = w' := by
  go_enter Try.func24, Try.ntmps24
  go_wp2
  exact bodyPost_ret (results_none rfl _ _ _) rfl ⟨rfl, rfl⟩

/-! ### Disks by their footprint -/
/-- A disk lies at block d, and its blocks are in F. -/
def Disk (w : World) (F : Nat → Prop) (d n : Nat) (D : Dsk) : Prop :=
  ∃ bs be qv av, DiskAt w d n bs be qv av D ∧ F d ∧ F bs ∧ F be ∧ (∀ k, qv.ownBlock = some k → F k) ∧ (∀ k, av = .pointer (some ⟨k, 0, none⟩) → F k)
/-- F with the blocks that were made between w and w'. -/
def After (F : Nat → Prop) (w w' : World) : Nat → Prop := fun b => F b ∨ (w.heap.size ≤ b ∧ b < w'.heap.size)

section
variable {w w' : World} {d n bs be : Nat} {qv av : Value} {D D' : Dsk} {F F' : Nat → Prop}
theorem own_lt {base : Nat} {e : TypeId} {size n : Nat} {v : Value} {xs : List Value} (h : w.ownsRow base e size v n xs) {k : Nat} (hk : v.ownBlock = some k) : k < w.heap.size := (h.lt k hk).2
theorem Disk.mono (h : Disk w F d n D) (hF : ∀ b, b < w.heap.size → F b → F' b) : Disk w F' d n D := by
  obtain ⟨bs, be, qv, av, hD, h1, h2, h3, h4, h5⟩ := h
  refine ⟨bs, be, qv, av, hD, hF _ hD.blk.lt h1, hF _ hD.st.lt h2, hF _ hD.el.lt h3, fun k hk => hF _ (own_lt hD.q hk) (h4 k hk), fun k hk => ?_⟩
  obtain ⟨cs, hb⟩ := hD.arm_blk hk
  exact hF _ hb.lt (h5 k hk)
theorem Disk.keep (h : Disk w F d n D) (ho : Only F' w w') (hF : ∀ b, F b → ¬ F' b) : Disk w' F d n D := by
  obtain ⟨bs, be, qv, av, hD, h1, h2, h3, h4, h5⟩ := h
  exact ⟨bs, be, qv, av, hD.keep ho (hF _ h1) (hF _ h2) (hF _ h3) (fun k hk => hF _ (h4 k hk)) (fun k hk => hF _ (h5 k hk)), h1, h2, h3, h4, h5⟩
theorem Disk.ok (h : Disk w F d n D) : D.Ok n := by
  obtain ⟨bs, be, qv, av, hD, _⟩ := h
  exact hD.ok
theorem Disk.lt (h : Disk w F d n D) : d < w.heap.size := by
  obtain ⟨bs, be, qv, av, hD, _⟩ := h
  exact hD.blk.lt
theorem Disk.after (h : Disk w F d n D) (ho : Only (fun _ => False) w w') : Disk w' (After F w w') d n D := (h.keep ho (fun _ _ => id)).mono fun _ _ hb => .inl hb
end

/-- The power fails. -/
theorem fail_any (F : Nat → Prop) (d n : Nat) (a b : Int) (D : Dsk) (w : World) (h : Disk w F d n D) (hbig : D.q.length ≤ 1000000)
    (ha : -9223372036854775808 ≤ a ∧ a ≤ 9223372036854775807) (hb : -9223372036854775808 ≤ b ∧ b ≤ 9223372036854775807) :
    Calls Try.prog 24 #[.pointer (some ⟨d, 0, none⟩), .int .i64 a, .int .i64 b] w fun e w' => e = .returned (.tuple #[]) ∧ Disk w' (After F w w') d n (D.fail a b) ∧ Only F w w' := by
  obtain ⟨bs, be, qv, av, hD, h1, h2, h3, h4, h5⟩ := h
  have key : ∀ e w', (e = .returned (.tuple #[]) ∧ DiskAt w' d n bs be (.slice none 0 0) (.pointer none) (D.fail a b) ∧ Only (fun b => b = d ∨ b = bs ∨ b = be) w w') →
      e = Ending.returned (.tuple #[]) ∧ Disk w' (After F w w') d n (D.fail a b) ∧ Only F w w' := by
    intro e w' ⟨he, hD', hO⟩
    refine ⟨he, ⟨bs, be, _, _, hD', .inl h1, .inl h2, .inl h3, fun k hk => ?_, fun k hk => ?_⟩, hO.mono (fun k _ hk => ?_)⟩
    · simp [Value.ownBlock] at hk
    · simp at hk
    · rcases hk with rfl | rfl | rfl
      · exact h1
      · exact h2
      · exact h3
  cases hoff : D.off with
  | true =>
    refine (fail_off d n bs be a b qv av D w hD hoff).mono fun e w' ⟨he, hw⟩ => ?_
    subst hw
    have : D.fail a b = D := by unfold Dsk.fail; rw [hoff]; rfl
    rw [this]
    exact ⟨he, ⟨bs, be, qv, av, hD, .inl h1, .inl h2, .inl h3, fun k hk => .inl (h4 k hk), fun k hk => .inl (h5 k hk)⟩, Only.refl _ _⟩
  | false =>
    rcases hD.q.2 with ⟨hx, hl⟩ | ⟨g, cap, cur, hx, _⟩
    · subst hx
      exact (fail_nil d n bs be a b av D w hD hoff (List.eq_nil_of_length_eq_zero hl) ha hb).mono key
    · subst hx
      exact (fail_some d n bs be g cap a b av D w hD hoff hbig ha hb).mono key
end Go.Proofs.Ytmkfbedhmmijjaa
