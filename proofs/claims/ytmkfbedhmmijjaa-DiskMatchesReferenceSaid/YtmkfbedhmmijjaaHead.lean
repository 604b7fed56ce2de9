/- head: the fixed examples come out as they are known to. -/
import Derived.Test.YtmkfbedhmmijjaaHeadSteps
namespace Go.Proofs.Ytmkfbedhmmijjaa
open Go.RowKit
set_option maxRecDepth 100000 in
set_option maxHeartbeats 4000000 in
theorem head_any (w : World) : Calls Try.prog 10 #[] w fun e w' => e = .returned (.bool true) ∧ Below w.heap.size w w' := by
  have HB := Lib.hid (Below.refl w.heap.size w)
  go_enter Try.func10, Try.ntmps10
  go_wp2_with fail
  refine (own_new w.heap.size 2 _ HB.out.size (by decide) (by decide)).mono ?_
  rintro e w1 ⟨d1, rfl, hO, hb⟩
  have hB : Below w.heap.size w w1 := HB.out.trans (hb.mono HB.out.size)
  clear HB hb
  have HO := Lib.hid hO
  have HB := Lib.hid hB
  clear hO hB
  go_wp2_with fail
  refine (fill_a _).mono ?_
  rintro e w2 ⟨rfl, hb⟩
  have hB : Below w.heap.size w w2 := HB.out.trans (hb.mono HB.out.size)
  have hO := HO.out.below hb
  clear HO HB hb
  have HO := Lib.hid hO
  have HB := Lib.hid hB
  clear hB hO
  go_wp2_with fail
  refine (hd_s1 _ _ _ HO.out).mono ?_
  rintro e w3 ⟨rfl, hO, hb⟩
  have hB : Below w.heap.size w w3 := HB.out.trans hb
  clear HO HB hb
  have HO := Lib.hid hO
  have HB := Lib.hid hB
  clear hO hB
  go_wp2_with fail
  refine (hd_s2 _ _ _ HO.out).mono ?_
  rintro e w4 ⟨rfl, hO, hb⟩
  have hB : Below w.heap.size w w4 := HB.out.trans hb
  clear HO HB hb
  have HO := Lib.hid hO
  have HB := Lib.hid hB
  clear hO hB
  go_wp2_with fail
  refine (fill_b _).mono ?_
  rintro e w5 ⟨rfl, hb⟩
  have hB : Below w.heap.size w w5 := HB.out.trans (hb.mono HB.out.size)
  have hO := HO.out.below hb
  clear HO HB hb
  have HO := Lib.hid hO
  have HB := Lib.hid hB
  clear hB hO
  go_wp2_with fail
  refine (hd_s3 _ _ _ HO.out).mono ?_
  rintro e w6 ⟨rfl, hO, hb⟩
  have hB : Below w.heap.size w w6 := HB.out.trans hb
  clear HO HB hb
  have HO := Lib.hid hO
  have HB := Lib.hid hB
  clear hO hB
  go_wp2_with fail
  refine (hd_s4 _ _ _ HO.out).mono ?_
  rintro e w7 ⟨rfl, hO, hb⟩
  have hB : Below w.heap.size w w7 := HB.out.trans hb
  clear HO HB hb
  have HO := Lib.hid hO
  have HB := Lib.hid hB
  clear hO hB
  go_wp2_with fail
  refine (hd_s5 _ _ _ HO.out).mono ?_
  rintro e w8 ⟨rfl, hO, hb⟩
  have hB : Below w.heap.size w w8 := HB.out.trans hb
  clear HO HB hb
  have HO := Lib.hid hO
  have HB := Lib.hid hB
  clear hO hB
  go_wp2_with fail
  refine (hd_s6 _ _ _ HO.out).mono ?_
  rintro e w9 ⟨rfl, hO, hb⟩
  have hB : Below w.heap.size w w9 := HB.out.trans hb
  clear HO HB hb
  have HO := Lib.hid hO
  have HB := Lib.hid hB
  clear hO hB
  go_wp2_with fail
  refine (hd_s7 _ _ _ HO.out).mono ?_
  rintro e w10 ⟨rfl, hO, hb⟩
  have hB : Below w.heap.size w w10 := HB.out.trans hb
  clear HO HB hb
  have HO := Lib.hid hO
  have HB := Lib.hid hB
  clear hO hB
  go_wp2_with fail
  refine (hd_s8 _ _ _ HO.out).mono ?_
  rintro e w11 ⟨rfl, hO, hb⟩
  have hB : Below w.heap.size w w11 := HB.out.trans hb
  clear HO HB hb
  have HO := Lib.hid hO
  have HB := Lib.hid hB
  clear hO hB
  go_wp2_with fail
  refine (hd_s9 _ _ _ HO.out).mono ?_
  rintro e w12 ⟨rfl, hO, hb⟩
  have hB : Below w.heap.size w w12 := HB.out.trans hb
  clear HO HB hb
  have HO := Lib.hid hO
  have HB := Lib.hid hB
  clear hO hB
  go_wp2_with fail
  refine (hd_s10 _ _ _ HO.out).mono ?_
  rintro e w13 ⟨rfl, hO, hb⟩
  have hB : Below w.heap.size w w13 := HB.out.trans hb
  clear HO HB hb
  have HO := Lib.hid hO
  have HB := Lib.hid hB
  clear hO hB
  go_wp2_with fail
  refine (hd_s11 _ _ _ HO.out).mono ?_
  rintro e w14 ⟨rfl, hO, hb⟩
  have hB : Below w.heap.size w w14 := HB.out.trans hb
  clear HO HB hb
  have HO := Lib.hid hO
  have HB := Lib.hid hB
  clear hO hB
  go_wp2_with fail
  refine (fail_none 1 1 _).mono ?_
  rintro e _ ⟨rfl, rfl⟩
  go_wp2_with fail
  refine (start_nil _).mono ?_
  rintro e _ ⟨rfl, rfl⟩
  go_wp2_with fail
  refine (arm_nil 0 1 1 _).mono ?_
  rintro e _ ⟨rfl, rfl⟩
  go_wp2_with fail
  refine (rot_nil 0 0 1 _).mono ?_
  rintro e w15 ⟨rfl, hb⟩
  have hB : Below w.heap.size w w15 := HB.out.trans (hb.mono HB.out.size)
  have hO := HO.out.below hb
  clear HO HB hb
  have HO := Lib.hid hO
  have HB := Lib.hid hB
  clear hB hO
  go_wp2_with fail
  refine (stale_nil 0 _).mono ?_
  rintro e w16 ⟨rfl, hb⟩
  have hB : Below w.heap.size w w16 := HB.out.trans (hb.mono HB.out.size)
  have hO := HO.out.below hb
  clear HO HB hb
  have HO := Lib.hid hO
  have HB := Lib.hid hB
  clear hB hO
  go_wp2_with fail
  refine (own_new w.heap.size 1 _ HB.out.size (by decide) (by decide)).mono ?_
  rintro e w17 ⟨d17, rfl, hO, hb⟩
  have hB : Below w.heap.size w w17 := HB.out.trans (hb.mono HB.out.size)
  clear HO HB hb
  have HO := Lib.hid hO
  have HB := Lib.hid hB
  clear hO hB
  go_wp2_with fail
  refine (fill_a _).mono ?_
  rintro e w18 ⟨rfl, hb⟩
  have hB : Below w.heap.size w w18 := HB.out.trans (hb.mono HB.out.size)
  have hO := HO.out.below hb
  clear HO HB hb
  have HO := Lib.hid hO
  have HB := Lib.hid hB
  clear hB hO
  go_wp2_with fail
  refine (he_s1 _ _ _ HO.out).mono ?_
  rintro e w19 ⟨rfl, hO, hb⟩
  have hB : Below w.heap.size w w19 := HB.out.trans hb
  clear HO HB hb
  have HO := Lib.hid hO
  have HB := Lib.hid hB
  clear hO hB
  go_wp2_with fail
  refine (he_s2 _ _ _ HO.out).mono ?_
  rintro e w20 ⟨rfl, hO, hb⟩
  have hB : Below w.heap.size w w20 := HB.out.trans hb
  clear HO HB hb
  have HO := Lib.hid hO
  have HB := Lib.hid hB
  clear hO hB
  go_wp2_with fail
  refine (he_s3 _ _ _ HO.out).mono ?_
  rintro e w21 ⟨rfl, hO, hb⟩
  have hB : Below w.heap.size w w21 := HB.out.trans hb
  clear HO HB hb
  have HO := Lib.hid hO
  have HB := Lib.hid hB
  clear hO hB
  go_wp2_with fail
  refine (he_s4 _ _ _ HO.out).mono ?_
  rintro e w22 ⟨rfl, hO, hb⟩
  have hB : Below w.heap.size w w22 := HB.out.trans hb
  clear HO HB hb
  have HO := Lib.hid hO
  have HB := Lib.hid hB
  clear hO hB
  go_wp2_with fail
  refine (he_s5 _ _ _ HO.out).mono ?_
  rintro e w23 ⟨rfl, hO, hb⟩
  have hB : Below w.heap.size w w23 := HB.out.trans hb
  clear HO HB hb
  have HO := Lib.hid hO
  have HB := Lib.hid hB
  clear hO hB
  go_wp2_with fail
  refine (he_s6 _ _ _ HO.out).mono ?_
  rintro e w24 ⟨rfl, hO, hb⟩
  have hB : Below w.heap.size w w24 := HB.out.trans hb
  clear HO HB hb
  have HO := Lib.hid hO
  have HB := Lib.hid hB
  clear hO hB
  go_wp2_with fail
  refine (fill_a _).mono ?_
  rintro e w25 ⟨rfl, hb⟩
  have hB : Below w.heap.size w w25 := HB.out.trans (hb.mono HB.out.size)
  have hO := HO.out.below hb
  clear HO HB hb
  have HO := Lib.hid hO
  have HB := Lib.hid hB
  clear hB hO
  go_wp2_with fail
  refine (fill_z _).mono ?_
  rintro e w26 ⟨rfl, hb⟩
  have hB : Below w.heap.size w w26 := HB.out.trans (hb.mono HB.out.size)
  have hO := HO.out.below hb
  clear HO HB hb
  have HO := Lib.hid hO
  have HB := Lib.hid hB
  clear hB hO
  go_wp2_with fail
  refine (own_new w.heap.size 1 _ HB.out.size (by decide) (by decide)).mono ?_
  rintro e w27 ⟨d27, rfl, hO, hb⟩
  have hB : Below w.heap.size w w27 := HB.out.trans (hb.mono HB.out.size)
  clear HO HB hb
  have HO := Lib.hid hO
  have HB := Lib.hid hB
  clear hO hB
  go_wp2_with fail
  refine (hk_s1 _ _ _ HO.out).mono ?_
  rintro e w28 ⟨rfl, hO, hb⟩
  have hB : Below w.heap.size w w28 := HB.out.trans hb
  clear HO HB hb
  have HO := Lib.hid hO
  have HB := Lib.hid hB
  clear hO hB
  go_wp2_with fail
  refine (fill_a _).mono ?_
  rintro e w29 ⟨rfl, hb⟩
  have hB : Below w.heap.size w w29 := HB.out.trans (hb.mono HB.out.size)
  have hO := HO.out.below hb
  clear HO HB hb
  have HO := Lib.hid hO
  have HB := Lib.hid hB
  clear hB hO
  go_wp2_with fail
  refine (hk_s2 _ _ _ HO.out).mono ?_
  rintro e w30 ⟨rfl, hO, hb⟩
  have hB : Below w.heap.size w w30 := HB.out.trans hb
  clear HO HB hb
  have HO := Lib.hid hO
  have HB := Lib.hid hB
  clear hO hB
  go_wp2_with fail
  refine (fill_b _).mono ?_
  rintro e w31 ⟨rfl, hb⟩
  have hB : Below w.heap.size w w31 := HB.out.trans (hb.mono HB.out.size)
  have hO := HO.out.below hb
  clear HO HB hb
  have HO := Lib.hid hO
  have HB := Lib.hid hB
  clear hB hO
  go_wp2_with fail
  refine (hk_s3 _ _ _ HO.out).mono ?_
  rintro e w32 ⟨rfl, hO, hb⟩
  have hB : Below w.heap.size w w32 := HB.out.trans hb
  clear HO HB hb
  have HO := Lib.hid hO
  have HB := Lib.hid hB
  clear hO hB
  go_wp2_with fail
  refine (hk_s4 _ _ _ HO.out).mono ?_
  rintro e w33 ⟨rfl, hO, hb⟩
  have hB : Below w.heap.size w w33 := HB.out.trans hb
  clear HO HB hb
  have HO := Lib.hid hO
  have HB := Lib.hid hB
  clear hO hB
  go_wp2_with fail
  refine (hk_s5 _ _ _ HO.out).mono ?_
  rintro e w34 ⟨rfl, hO, hb⟩
  have hB : Below w.heap.size w w34 := HB.out.trans hb
  clear HO HB hb
  have HO := Lib.hid hO
  have HB := Lib.hid hB
  clear hO hB
  go_wp2_with fail
  refine (fill_a _).mono ?_
  rintro e w35 ⟨rfl, hb⟩
  have hB : Below w.heap.size w w35 := HB.out.trans (hb.mono HB.out.size)
  have hO := HO.out.below hb
  clear HO HB hb
  have HO := Lib.hid hO
  have HB := Lib.hid hB
  clear hB hO
  go_wp2_with fail
  refine (fill_b _).mono ?_
  rintro e w36 ⟨rfl, hb⟩
  have hB : Below w.heap.size w w36 := HB.out.trans (hb.mono HB.out.size)
  have hO := HO.out.below hb
  clear HO HB hb
  have HO := Lib.hid hO
  have HB := Lib.hid hB
  clear hB hO
  go_wp2_with fail
  refine (fill_a _).mono ?_
  rintro e w37 ⟨rfl, hb⟩
  have hB : Below w.heap.size w w37 := HB.out.trans (hb.mono HB.out.size)
  have hO := HO.out.below hb
  clear HO HB hb
  have HO := Lib.hid hO
  have HB := Lib.hid hB
  clear hB hO
  go_wp2_with fail
  refine (fill_z _).mono ?_
  rintro e w38 ⟨rfl, hb⟩
  have hB : Below w.heap.size w w38 := HB.out.trans (hb.mono HB.out.size)
  have hO := HO.out.below hb
  clear HO HB hb
  have HO := Lib.hid hO
  have HB := Lib.hid hB
  clear hB hO
  go_wp2_with fail
  refine (sync_nil _).mono ?_
  rintro e _ ⟨rfl, rfl⟩
  go_wp2_with fail
  refine (fill_a _).mono ?_
  rintro e w39 ⟨rfl, hb⟩
  have hB : Below w.heap.size w w39 := HB.out.trans (hb.mono HB.out.size)
  have hO := HO.out.below hb
  clear HO HB hb
  have HO := Lib.hid hO
  have HB := Lib.hid hB
  clear hB hO
  go_wp2_with fail
  refine (write_nil 0 _ _).mono ?_
  rintro e w40 ⟨rfl, hb⟩
  have hB : Below w.heap.size w w40 := HB.out.trans (hb.mono HB.out.size)
  have hO := HO.out.below hb
  clear HO HB hb
  have HO := Lib.hid hO
  have HB := Lib.hid hB
  clear hB hO
  go_wp2_with fail
  refine (new_bad 0 _ (by decide)).mono ?_
  rintro e _ ⟨rfl, rfl⟩
  go_wp2_with fail
  refine (new_bad 4001 _ (by decide)).mono ?_
  rintro e _ ⟨rfl, rfl⟩
  go_wp2
  go_ret
  exact ⟨rfl, HB.out⟩
end Go.Proofs.Ytmkfbedhmmijjaa
