/- want: an operation on the reference's disk. -/
import Derived.Test.YtmkfbedhmmijjaaRNew
import Derived.Deep.RegionWith
namespace Go.Proofs.Ytmkfbedhmmijjaa
open Go.RowKit
set_option maxHeartbeats 1000000 in
theorem want_write (F : Nat → Prop) (d n : Nat) (sector bytes after : Int) (t : ByteArray) (odd : Bool) (D : Dsk) (w : World) (h : Ref w F d n D) (hbig : D.q.length < 1000000) (ht : t.size ≤ 100) :
    Calls Try.prog 16 #[.pointer (some ⟨d, 0, none⟩), .agg (AAct.cells ⟨0, sector, bytes, t, odd, after⟩)] w fun e w' => e = .returned (.tuple #[text [], .int .i64 (D.write sector (AAct.text ⟨0, sector, bytes, t, odd, after⟩)).2]) ∧
      Ref w' (After F w w') d n (D.write sector (AAct.text ⟨0, sector, bytes, t, odd, after⟩)).1 ∧ Only F w w' := by
  have HT := Lib.hid (fun W => act_text ⟨0, sector, bytes, t, odd, after⟩ W ht)
  unfold AAct.cells at HT ⊢
  obtain ⟨T, hT⟩ : ∃ T, T = AAct.text ⟨0, sector, bytes, t, odd, after⟩ := ⟨_, rfl⟩
  rw [← hT] at HT ⊢
  clear hT
  simp only at HT ⊢
  unfold text at HT
  have HW := Lib.hid (fun W (hD : Ref W F d n D) => rwrite_any F d n sector ⟨T.toArray⟩ D W hD hbig)
  have H := Lib.hid h
  have keepD : ∀ W W', Ref W F d n D → Below W.heap.size W W' → Ref W' F d n D := fun W W' h hb => h.below hb
  have KD := Lib.hid keepD
  clear h keepD
  go_enter Try.func16, Try.ntmps16
  go_wp2_with fail
  have hB : Blk (w.alloc (.cells #[.int .i64 0, .int .i64 sector, .int .i64 bytes, .string t, .bool odd, .int .i64 after] 34)) w.heap.size 34 #[.int .i64 0, .int .i64 sector, .int .i64 bytes, .string t, .bool odd, .int .i64 after] := Blk.new _ _ _
  have hDa := H.out.alloc (.cells #[.int .i64 0, .int .i64 sector, .int .i64 bytes, .string t, .bool odd, .int .i64 after] 34)
  have HB := Lib.hid hB
  have HDA := Lib.hid hDa
  clear hB hDa
  go_region_with (first
    | (go_at_call 23; refine (HT.out _).mono ?_; rintro e w1 ⟨rfl, hb⟩; have hc := (HB.out.drew.below hb (by simp)).cell 1; have hD1 := KD.out _ _ HDA.out.drew hb; have HD1 := Lib.hid hD1; have HB1 := Lib.hid hb; clear hD1 hb)
    | (go_at_call 32; refine (HW.out _ HD1.out).mono ?_; rintro e w2 ⟨rfl, hD2, hO2⟩; have HD2 := Lib.hid hD2; have HO2 := Lib.hid hO2; clear hD2 hO2))
  all_goals
    have hO1 : Only (fun _ => False) w w1 := (((Only.refl (fun _ => False) w).alloc _).drew).trans (Only.of_below HB1.out (fun _ => False)) (fun _ _ h => h)
    have hO : Only F w w2 := (hO1.mono (fun _ _ h => False.elim h)).trans HO2.out (fun _ _ h => h)
    have hD : Ref w2 (After F w w2) d n (D.write sector T).1 := HD2.out.mono (fun b _ hF => by rcases hF with hF | hF; exact .inl hF; exact .inr ⟨Nat.le_trans hO1.size hF.1, hF.2⟩)
    have HO := Lib.hid hO
    have HD := Lib.hid hD
    clear hO1 hO hD hc
    go_wp2
    go_ret2
    exact ⟨rfl, HD.out, HO.out⟩

set_option maxHeartbeats 2000000 in
/-- An operation on the reference's disk. -/
theorem want_any (F : Nat → Prop) (d n : Nat) (a : AAct) (D : Dsk) (w : World) (h : Ref w F d n D) (hbig : D.q.length < 1000000) (ha : a.Ok) (ht : a.txt.size ≤ 100) :
    Calls Try.prog 16 #[.pointer (some ⟨d, 0, none⟩), .agg a.cells] w fun e w' => e = .returned (.tuple #[text (D.act a).2.1, .int .i64 (D.act a).2.2]) ∧ Ref w' (After F w w') d n (D.act a).1 ∧ Only F w w' := by
  obtain ⟨kind, sector, bytes, t, odd, after⟩ := a
  obtain ⟨hk, hs, hb, hf⟩ := ha
  simp only at hk hs hb hf ht
  have H := Lib.hid h
  rcases int_cases kind with rfl | rfl | rfl | rfl | rfl | rfl | rfl | rfl | hno
  · exact want_write F d n sector bytes after t odd D w h hbig ht
  · have e1 : D.act ⟨1, sector, bytes, t, odd, after⟩ = (D, (D.read sector).1, (D.read sector).2) := rfl
    rw [e1]
    have HR := Lib.hid (fun W (hD : Ref W F d n D) => rread_any F d n sector D W hD (Nat.le_of_lt hbig))
    unfold text at HR ⊢
    clear h e1
    unfold AAct.cells
    simp only
    go_enter Try.func16, Try.ntmps16
    go_wp2_with fail
    refine (HR.out _ (H.out.alloc _)).mono ?_
    rintro e w1 ⟨rfl, hw1⟩
    have hD : Ref w1 F d n D := by rw [← hw1]; exact H.out.alloc _
    have hO : Only F w w1 := by rw [← hw1]; exact (Only.refl F w).alloc _
    have HD := Lib.hid hD
    have HO := Lib.hid hO
    clear hD hO hw1
    go_wp2
    go_ret2
    exact ⟨rfl, HD.out.mono (fun _ _ h => .inl h), HO.out⟩
  · have e1 : D.act ⟨2, sector, bytes, t, odd, after⟩ = (D.sync.1, [], D.sync.2) := rfl
    rw [e1]
    have HR := Lib.hid (fun W (hD : Ref W F d n D) => rsync_any F d n D W hD (Nat.le_of_lt hbig))
    clear h e1
    unfold AAct.cells
    simp only
    go_enter Try.func16, Try.ntmps16
    go_wp2_with fail
    refine (HR.out _ (H.out.alloc _)).mono ?_
    rintro e w1 ⟨rfl, hD, hO⟩
    have hD2 := hD.later (w := w) (by simp)
    have hO2 : Only F w w1 := ((Only.refl F w).alloc _).trans hO (fun _ _ h => h)
    have HD := Lib.hid hD2
    have HO := Lib.hid hO2
    clear hD hO hD2 hO2
    go_wp2
    go_ret2
    exact ⟨rfl, HD.out, HO.out⟩
  · have e1 : D.act ⟨3, sector, bytes, t, odd, after⟩ = (D.fail sector bytes, [], 0) := rfl
    rw [e1]
    have HR := Lib.hid (fun W (hD : Ref W F d n D) => rfail_any F d n sector bytes D W hD (Nat.le_of_lt hbig) hs hb)
    clear h e1
    unfold AAct.cells
    simp only
    go_enter Try.func16, Try.ntmps16
    go_wp2_with fail
    refine (HR.out _ (H.out.alloc _)).mono ?_
    rintro e w1 ⟨rfl, hD, hO⟩
    have hD2 := hD.later (w := w) (by simp)
    have hO2 : Only F w w1 := ((Only.refl F w).alloc _).trans hO (fun _ _ h => h)
    have HD := Lib.hid hD2
    have HO := Lib.hid hO2
    clear hD hO hD2 hO2
    go_wp2
    go_ret2
    exact ⟨rfl, HD.out, HO.out⟩
  · have e1 : D.act ⟨4, sector, bytes, t, odd, after⟩ = (D.start, [], 0) := rfl
    rw [e1]
    have HR := Lib.hid (fun W (hD : Ref W F d n D) => rstart_any F d n D W hD)
    clear h e1
    unfold AAct.cells
    simp only
    go_enter Try.func16, Try.ntmps16
    go_wp2_with fail
    refine (HR.out _ (H.out.alloc _)).mono ?_
    rintro e w1 ⟨rfl, hD, hO⟩
    have hD2 := hD.later (w := w) (by simp)
    have hO2 : Only F w w1 := ((Only.refl F w).alloc _).trans hO (fun _ _ h => h)
    have HD := Lib.hid hD2
    have HO := Lib.hid hO2
    clear hD hO hD2 hO2
    go_wp2
    go_ret2
    exact ⟨rfl, HD.out, HO.out⟩
  · have e1 : D.act ⟨5, sector, bytes, t, odd, after⟩ = (D.arming after sector bytes, [], 0) := rfl
    rw [e1]
    have HR := Lib.hid (fun W (hD : Ref W F d n D) => rarm_any F d n after sector bytes D W hD hf hs hb)
    clear h e1
    unfold AAct.cells
    simp only
    go_enter Try.func16, Try.ntmps16
    go_wp2_with fail
    refine (HR.out _ (H.out.alloc _)).mono ?_
    rintro e w1 ⟨rfl, hD, hO⟩
    have hD2 := hD.later (w := w) (by simp)
    have hO2 : Only F w w1 := ((Only.refl F w).alloc _).trans hO (fun _ _ h => h)
    have HD := Lib.hid hD2
    have HO := Lib.hid hO2
    clear hD hO hD2 hO2
    go_wp2
    go_ret2
    exact ⟨rfl, HD.out, HO.out⟩
  · have e1 : D.act ⟨6, sector, bytes, t, odd, after⟩ = (D.rot sector bytes after, [], 0) := rfl
    rw [e1]
    have HR := Lib.hid (fun W (hD : Ref W F d n D) => rrot_any F d n sector bytes after D W hD)
    clear h e1
    unfold AAct.cells
    simp only
    go_enter Try.func16, Try.ntmps16
    go_wp2_with fail
    refine (HR.out _ (H.out.alloc _)).mono ?_
    rintro e w1 ⟨rfl, hD, hO⟩
    have hD2 := hD.later (w := w) (by simp)
    have hO2 : Only F w w1 := ((Only.refl F w).alloc _).trans hO (fun _ _ h => h)
    have HD := Lib.hid hD2
    have HO := Lib.hid hO2
    clear hD hO hD2 hO2
    go_wp2
    go_ret2
    exact ⟨rfl, HD.out, HO.out⟩
  · have e1 : D.act ⟨7, sector, bytes, t, odd, after⟩ = (D.stale sector, [], 0) := rfl
    rw [e1]
    have HR := Lib.hid (fun W (hD : Ref W F d n D) => rstale_any F d n sector D W hD)
    clear h e1
    unfold AAct.cells
    simp only
    go_enter Try.func16, Try.ntmps16
    go_wp2_with fail
    refine (HR.out _ (H.out.alloc _)).mono ?_
    rintro e w1 ⟨rfl, hD, hO⟩
    have hD2 := hD.later (w := w) (by simp)
    have hO2 : Only F w w1 := ((Only.refl F w).alloc _).trans hO (fun _ _ h => h)
    have HD := Lib.hid hD2
    have HO := Lib.hid hO2
    clear hD hO hD2 hO2
    go_wp2
    go_ret2
    exact ⟨rfl, HD.out, HO.out⟩
  · obtain ⟨k0, k1, k2, k3, k4, k5, k6, k7⟩ := hno
    have e1 : D.act ⟨kind, sector, bytes, t, odd, after⟩ = (D, [], 0) := by
      unfold Dsk.act; simp only [if_neg k0, if_neg k1, if_neg k2, if_neg k3, if_neg k4, if_neg k5, if_neg k6, if_neg k7]
    rw [e1]
    have b0 : (kind == 0) = false := beq_eq_false_iff_ne.2 k0
    have b1 : (kind == 1) = false := beq_eq_false_iff_ne.2 k1
    have b2 : (kind == 2) = false := beq_eq_false_iff_ne.2 k2
    have b3 : (kind == 3) = false := beq_eq_false_iff_ne.2 k3
    have b4 : (kind == 4) = false := beq_eq_false_iff_ne.2 k4
    have b5 : (kind == 5) = false := beq_eq_false_iff_ne.2 k5
    have b6 : (kind == 6) = false := beq_eq_false_iff_ne.2 k6
    have b7 : (kind == 7) = false := beq_eq_false_iff_ne.2 k7
    clear h e1 k0 k1 k2 k3 k4 k5 k6 k7
    unfold AAct.cells
    simp only
    go_enter Try.func16, Try.ntmps16
    go_wp2
    go_ret2
    exact ⟨rfl, (H.out.alloc _).mono (fun _ _ h => .inl h), (Only.refl F w).alloc _⟩
end Go.Proofs.Ytmkfbedhmmijjaa
