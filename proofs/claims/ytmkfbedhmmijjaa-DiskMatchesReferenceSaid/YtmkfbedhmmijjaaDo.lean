/- do: an operation on a disk. -/
import Derived.Test.YtmkfbedhmmijjaaAct
import Derived.Deep.RegionWith
import Derived.Deep.RegionHeld3
namespace Go.Proofs.Ytmkfbedhmmijjaa
open Go.RowKit

/-- An operation on a disk as data: the disk, the text and the number that come back. -/
def Dsk.act (D : Dsk) (a : AAct) : Dsk × List UInt8 × Int :=
  if a.kind = 0 then ((D.write a.sector a.text).1, [], (D.write a.sector a.text).2)
  else if a.kind = 1 then (D, (D.read a.sector).1, (D.read a.sector).2)
  else if a.kind = 2 then (D.sync.1, [], D.sync.2)
  else if a.kind = 3 then (D.fail a.sector a.bytes, [], 0)
  else if a.kind = 4 then (D.start, [], 0)
  else if a.kind = 5 then (D.arming a.after a.sector a.bytes, [], 0)
  else if a.kind = 6 then (D.rot a.sector a.bytes a.after, [], 0)
  else if a.kind = 7 then (D.stale a.sector, [], 0)
  else (D, [], 0)

theorem Disk.alloc {w : World} {F : Nat → Prop} {d n : Nat} {D : Dsk} (h : Disk w F d n D) (o : Obj) : Disk (w.alloc o) F d n D := h.keep ((Only.refl (fun _ => False) w).alloc o) (fun _ _ => id)
theorem Disk.drewN {w : World} {F : Nat → Prop} {d n : Nat} {D : Dsk} (h : Disk w F d n D) (k : Nat) : Disk (w.drewN k) F d n D := h.keep ((Only.refl (fun _ => False) w).drewN k) (fun _ _ => id)
theorem Disk.drew {w : World} {F : Nat → Prop} {d n : Nat} {D : Dsk} (h : Disk w F d n D) : Disk w.drew F d n D := h.drewN 1

set_option maxHeartbeats 1000000 in
theorem do_write (F : Nat → Prop) (d n : Nat) (sector bytes after : Int) (t : ByteArray) (odd : Bool) (D : Dsk) (w : World) (h : Disk w F d n D) (hbig : D.q.length < 1000000) (hs : In64 sector) (ht : t.size ≤ 100) :
    Calls Try.prog 15 #[.pointer (some ⟨d, 0, none⟩), .agg (AAct.cells ⟨0, sector, bytes, t, odd, after⟩)] w fun e w' => e = .returned (.tuple #[text [], .int .i64 (D.write sector (AAct.text ⟨0, sector, bytes, t, odd, after⟩)).2]) ∧
      Disk w' (After F w w') d n (D.write sector (AAct.text ⟨0, sector, bytes, t, odd, after⟩)).1 ∧ Only F w w' := by
  have HT := Lib.hid (fun W => act_text ⟨0, sector, bytes, t, odd, after⟩ W ht)
  unfold AAct.cells at HT ⊢
  obtain ⟨T, hT⟩ : ∃ T, T = AAct.text ⟨0, sector, bytes, t, odd, after⟩ := ⟨_, rfl⟩
  rw [← hT] at HT ⊢
  clear hT
  simp only at HT ⊢
  unfold text at HT
  have HW := Lib.hid (fun W (hD : Disk W F d n D) => write_any F d n sector ⟨T.toArray⟩ D W hD hbig hs)
  have H := Lib.hid h
  have keepD : ∀ W W', Disk W F d n D → Below W.heap.size W W' → Disk W' F d n D := fun W W' h hb => h.below hb
  have KD := Lib.hid keepD
  clear h keepD
  go_enter Try.func15, Try.ntmps15
  go_wp2_with fail
  have hB : Blk (w.alloc (.cells #[.int .i64 0, .int .i64 sector, .int .i64 bytes, .string t, .bool odd, .int .i64 after] 34)) w.heap.size 34 #[.int .i64 0, .int .i64 sector, .int .i64 bytes, .string t, .bool odd, .int .i64 after] := Blk.new _ _ _
  have hDa := H.out.alloc (.cells #[.int .i64 0, .int .i64 sector, .int .i64 bytes, .string t, .bool odd, .int .i64 after] 34)
  have HB := Lib.hid hB
  have HDA := Lib.hid hDa
  clear hB hDa
  go_region_with (first
    | (go_at_call 23; refine (HT.out _).mono ?_; rintro e w1 ⟨rfl, hb⟩; have hc := (HB.out.drew.below hb (by simp)).cell 1; have hD1 := KD.out _ _ HDA.out.drew hb; have HD1 := Lib.hid hD1; have HB1 := Lib.hid hb; clear hD1 hb)
    | (go_at_call 22; refine (HW.out _ HD1.out).mono ?_; rintro e w2 ⟨rfl, hD2, hO2⟩; have HD2 := Lib.hid hD2; have HO2 := Lib.hid hO2; clear hD2 hO2))
  all_goals
    have hO1 : Only (fun _ => False) w w1 := (((Only.refl (fun _ => False) w).alloc _).drew).trans (Only.of_below HB1.out (fun _ => False)) (fun _ _ h => h)
    have hO : Only F w w2 := (hO1.mono (fun _ _ h => False.elim h)).trans HO2.out (fun _ _ h => h)
    have hD : Disk w2 (After F w w2) d n (D.write sector T).1 := HD2.out.mono (fun b _ hF => by rcases hF with hF | hF; exact .inl hF; exact .inr ⟨Nat.le_trans hO1.size hF.1, hF.2⟩)
    have HO := Lib.hid hO
    have HD := Lib.hid hD
    clear hO1 hO hD hc
    go_wp2
    go_ret2
    exact ⟨rfl, HD.out, HO.out⟩

theorem int_cases (k : Int) : k = 0 ∨ k = 1 ∨ k = 2 ∨ k = 3 ∨ k = 4 ∨ k = 5 ∨ k = 6 ∨ k = 7 ∨ (k ≠ 0 ∧ k ≠ 1 ∧ k ≠ 2 ∧ k ≠ 3 ∧ k ≠ 4 ∧ k ≠ 5 ∧ k ≠ 6 ∧ k ≠ 7) := by omega
theorem Disk.later {w w1 w2 : World} {F : Nat → Prop} {d n : Nat} {D : Dsk} (h : Disk w2 (After F w1 w2) d n D) (hb : w.heap.size ≤ w1.heap.size) : Disk w2 (After F w w2) d n D :=
  h.mono (fun b _ hF => by rcases hF with hF | hF; exact .inl hF; exact .inr ⟨Nat.le_trans hb hF.1, hF.2⟩)
theorem In64.lo {x : Int} (h : In64 x) : -9223372036854775808 ≤ x ∧ x ≤ 9223372036854775807 := h

set_option maxHeartbeats 2000000 in
/-- An operation on a disk. -/
theorem do_any (F : Nat → Prop) (d n : Nat) (a : AAct) (D : Dsk) (w : World) (h : Disk w F d n D) (hbig : D.q.length < 1000000) (ha : a.Ok) (ht : a.txt.size ≤ 100) :
    Calls Try.prog 15 #[.pointer (some ⟨d, 0, none⟩), .agg a.cells] w fun e w' => e = .returned (.tuple #[text (D.act a).2.1, .int .i64 (D.act a).2.2]) ∧ Disk w' (After F w w') d n (D.act a).1 ∧ Only F w w' := by
  obtain ⟨kind, sector, bytes, t, odd, after⟩ := a
  obtain ⟨hk, hs, hb, hf⟩ := ha
  simp only at hk hs hb hf ht
  have H := Lib.hid h
  rcases int_cases kind with rfl | rfl | rfl | rfl | rfl | rfl | rfl | rfl | hno
  · exact do_write F d n sector bytes after t odd D w h hbig hs ht
  · have e1 : D.act ⟨1, sector, bytes, t, odd, after⟩ = (D, (D.read sector).1, (D.read sector).2) := rfl
    rw [e1]
    have HR := Lib.hid (fun W (hD : Disk W F d n D) => read_any F d n sector D W hD (Nat.le_of_lt hbig))
    unfold text at HR ⊢
    clear h e1
    unfold AAct.cells
    simp only
    go_enter Try.func15, Try.ntmps15
    go_wp2_with fail
    refine (HR.out _ (H.out.alloc _)).mono ?_
    rintro e w1 ⟨rfl, hD, hb⟩
    have hO : Only F w w1 := ((Only.refl F w).alloc _).trans (Only.of_below hb F) (fun _ _ h => h)
    have HD := Lib.hid hD
    have HO := Lib.hid hO
    clear hD hb hO
    go_wp2
    go_ret2
    exact ⟨rfl, HD.out.mono (fun _ _ h => .inl h), HO.out⟩
  · have e1 : D.act ⟨2, sector, bytes, t, odd, after⟩ = (D.sync.1, [], D.sync.2) := rfl
    rw [e1]
    have HR := Lib.hid (fun W (hD : Disk W F d n D) => sync_any F d n D W hD (Nat.le_of_lt hbig))
    clear h e1
    unfold AAct.cells
    simp only
    go_enter Try.func15, Try.ntmps15
    go_wp2_with fail
    refine (HR.out _ (H.out.alloc _)).mono ?_
    rintro e w1 ⟨rfl, hD, hO⟩
    have hD2 := hD.later (w := w) (by simp)
    have hO2 : Only F w w1 := ((Only.refl F w).alloc _).trans hO (fun _ _ h => h)
    have HD := Lib.hid hD2
    have HO := Lib.hid hO2
    clear hD hO hD2 hO2
    go_wp2
    go_ret2
    exact ⟨rfl, HD.out, HO.out⟩
  · have e1 : D.act ⟨3, sector, bytes, t, odd, after⟩ = (D.fail sector bytes, [], 0) := rfl
    rw [e1]
    have HR := Lib.hid (fun W (hD : Disk W F d n D) => fail_any F d n sector bytes D W hD (Nat.le_of_lt hbig) hs.lo hb.lo)
    clear h e1
    unfold AAct.cells
    simp only
    go_enter Try.func15, Try.ntmps15
    go_wp2_with fail
    refine (HR.out _ (H.out.alloc _)).mono ?_
    rintro e w1 ⟨rfl, hD, hO⟩
    have hD2 := hD.later (w := w) (by simp)
    have hO2 : Only F w w1 := ((Only.refl F w).alloc _).trans hO (fun _ _ h => h)
    have HD := Lib.hid hD2
    have HO := Lib.hid hO2
    clear hD hO hD2 hO2
    go_wp2
    go_ret2
    exact ⟨rfl, HD.out, HO.out⟩
  · have e1 : D.act ⟨4, sector, bytes, t, odd, after⟩ = (D.start, [], 0) := rfl
    rw [e1]
    have HR := Lib.hid (fun W (hD : Disk W F d n D) => start_any F d n D W hD)
    clear h e1
    unfold AAct.cells
    simp only
    go_enter Try.func15, Try.ntmps15
    go_wp2_with fail
    refine (HR.out _ (H.out.alloc _)).mono ?_
    rintro e w1 ⟨rfl, hD, hO⟩
    have hD2 := hD.later (w := w) (by simp)
    have hO2 : Only F w w1 := ((Only.refl F w).alloc _).trans hO (fun _ _ h => h)
    have HD := Lib.hid hD2
    have HO := Lib.hid hO2
    clear hD hO hD2 hO2
    go_wp2
    go_ret2
    exact ⟨rfl, HD.out, HO.out⟩
  · have e1 : D.act ⟨5, sector, bytes, t, odd, after⟩ = (D.arming after sector bytes, [], 0) := rfl
    rw [e1]
    have HR := Lib.hid (fun W (hD : Disk W F d n D) => arm_any F d n after sector bytes D W hD hf.lo.2 hs.lo hb.lo)
    clear h e1
    unfold AAct.cells
    simp only
    go_enter Try.func15, Try.ntmps15
    go_wp2_with fail
    refine (HR.out _ (H.out.alloc _)).mono ?_
    rintro e w1 ⟨rfl, hD, hO⟩
    have hD2 := hD.later (w := w) (by simp)
    have hO2 : Only F w w1 := ((Only.refl F w).alloc _).trans hO (fun _ _ h => h)
    have HD := Lib.hid hD2
    have HO := Lib.hid hO2
    clear hD hO hD2 hO2
    go_wp2
    go_ret2
    exact ⟨rfl, HD.out, HO.out⟩
  · have e1 : D.act ⟨6, sector, bytes, t, odd, after⟩ = (D.rot sector bytes after, [], 0) := rfl
    rw [e1]
    have HR := Lib.hid (fun W (hD : Disk W F d n D) => rot_any F d n sector bytes after D W hD)
    clear h e1
    unfold AAct.cells
    simp only
    go_enter Try.func15, Try.ntmps15
    go_wp2_with fail
    refine (HR.out _ (H.out.alloc _)).mono ?_
    rintro e w1 ⟨rfl, hD, hO⟩
    have hD2 := hD.later (w := w) (by simp)
    have hO2 : Only F w w1 := ((Only.refl F w).alloc _).trans hO (fun _ _ h => h)
    have HD := Lib.hid hD2
    have HO := Lib.hid hO2
    clear hD hO hD2 hO2
    go_wp2
    go_ret2
    exact ⟨rfl, HD.out, HO.out⟩
  · have e1 : D.act ⟨7, sector, bytes, t, odd, after⟩ = (D.stale sector, [], 0) := rfl
    rw [e1]
    have HR := Lib.hid (fun W (hD : Disk W F d n D) => stale_any F d n sector D W hD)
    clear h e1
    unfold AAct.cells
    simp only
    go_enter Try.func15, Try.ntmps15
    go_wp2_with fail
    refine (HR.out _ (H.out.alloc _)).mono ?_
    rintro e w1 ⟨rfl, hD, hO⟩
    have hD2 := hD.later (w := w) (by simp)
    have hO2 : Only F w w1 := ((Only.refl F w).alloc _).trans hO (fun _ _ h => h)
    have HD := Lib.hid hD2
    have HO := Lib.hid hO2
    clear hD hO hD2 hO2
    go_wp2
    go_ret2
    exact ⟨rfl, HD.out, HO.out⟩
  · obtain ⟨k0, k1, k2, k3, k4, k5, k6, k7⟩ := hno
    have e1 : D.act ⟨kind, sector, bytes, t, odd, after⟩ = (D, [], 0) := by
      unfold Dsk.act; simp only [if_neg k0, if_neg k1, if_neg k2, if_neg k3, if_neg k4, if_neg k5, if_neg k6, if_neg k7]
    rw [e1]
    have b0 : (kind == 0) = false := beq_eq_false_iff_ne.2 k0
    have b1 : (kind == 1) = false := beq_eq_false_iff_ne.2 k1
    have b2 : (kind == 2) = false := beq_eq_false_iff_ne.2 k2
    have b3 : (kind == 3) = false := beq_eq_false_iff_ne.2 k3
    have b4 : (kind == 4) = false := beq_eq_false_iff_ne.2 k4
    have b5 : (kind == 5) = false := beq_eq_false_iff_ne.2 k5
    have b6 : (kind == 6) = false := beq_eq_false_iff_ne.2 k6
    have b7 : (kind == 7) = false := beq_eq_false_iff_ne.2 k7
    clear h e1 k0 k1 k2 k3 k4 k5 k6 k7
    unfold AAct.cells
    simp only
    go_enter Try.func15, Try.ntmps15
    go_wp2
    go_ret2
    exact ⟨rfl, (H.out.alloc _).mono (fun _ _ h => .inl h), (Only.refl F w).alloc _⟩
end Go.Proofs.Ytmkfbedhmmijjaa
