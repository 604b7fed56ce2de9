/- The reference's disk: settle and Fail. -/
import Derived.Test.YtmkfbedhmmijjaaRBase
import Derived.Deep.DeepCutAuto
import Derived.Deep.CutBlock
namespace Go.Proofs.Ytmkfbedhmmijjaa
open Go.RowKit
theorem qr_get (q : List (Nat × List UInt8)) (i : Nat) (hi : i < q.length) : (qr q)[i * 2]? = some (.int .i64 (q[i].1 : Int)) ∧ (qr q)[i * 2 + 1]? = some (text q[i].2) := by
  induction q generalizing i with
  | nil => exact absurd hi (by simp)
  | cons p q ih =>
    cases i with
    | zero => exact ⟨rfl, rfl⟩
    | succ i =>
      have := ih i (by simpa using hi)
      have e : qr (p :: q) = [.int .i64 (p.1 : Int), text p.2] ++ qr q := rfl
      rw [e, show (i + 1) * 2 = i * 2 + 1 + 1 from by omega]
      simpa using this
theorem qr_length (q : List (Nat × List UInt8)) : (qr q).length = q.length * 2 := by
  induction q with
  | nil => rfl
  | cons p q ih =>
    have e : qr (p :: q) = [.int .i64 (p.1 : Int), text p.2] ++ qr q := rfl
    rw [e, List.length_append, ih]
    simp
    omega
theorem qv_some {w : World} {qv : Value} {q : List (Nat × List UInt8)} (h : w.ownsRow 0 73 2 qv q.length (qr q)) (h0 : 0 < q.length) : ∃ g cap, qv = .slice (some ⟨g, 0, none⟩) q.length cap := by
  rcases h.2 with ⟨_, hl⟩ | ⟨g, cap, cur, hx, _⟩
  · omega
  · exact ⟨g, cap, hx⟩

set_option maxHeartbeats 1000000 in
theorem rsettle_any (m d n bs be cs ce : Nat) (qv : Value) (am : Bool) (f x y : Int) (D : Dsk) (w : World) (h : RefAt w d n bs be cs ce qv am f x y D) (hm : m ≤ D.q.length) (hbig : D.q.length ≤ 1000000) :
    Calls Try.prog 45 #[.pointer (some ⟨d, 0, none⟩), .int .i64 (m : Int)] w fun e w' => e = .returned (.tuple #[]) ∧
      RefAt w' d n bs be cs ce qv am f x y (D.settle (D.q.take m)) ∧ Only (fun b => b = bs ∨ b = be) w w' := by
  have H := Lib.hid h
  clear h
  go_enter Try.func45, Try.ntmps45
  go_wp2_with fail
  go_loopw [4] (fun i wr => ∃ k : Nat, k ≤ m ∧ i = .int .i64 (k : Int) ∧ Hid (RefAt wr d n bs be cs ce qv am f x y (D.settle (D.q.take k))) ∧ Hid (Only (fun b => b = bs ∨ b = be) w wr)) (fun i _ => m - (intOf i).toNat)
  case atStart => exact ⟨0, Nat.zero_le _, rfl, by show RefAt _ _ _ _ _ _ _ _ _ _ _ _ (D.settle (D.q.take 0)); simpa [Dsk.settle] using H.out, Only.refl _ _⟩
  case round =>
    obtain ⟨k, hk, rfl, HD, HO⟩ := hrel
    by_cases hlt : k < m
    · have hkq : k < D.q.length := by omega
      obtain ⟨g, cap, hqv⟩ := qv_some H.out.q (by omega)
      have hq64 := H.out.ok.q64 _ (List.getElem_mem hkq)
      obtain ⟨s, T, hst⟩ : ∃ s T, D.q[k] = (s, T) := ⟨_, _, rfl⟩
      obtain ⟨X, hX⟩ : ∃ X : ByteArray, Value.string X = text T := ⟨_, rfl⟩
      have hXT : X.data.toList = T := by
        unfold text at hX
        injection hX with hX
        rw [hX]
      rw [hst] at hq64
      have hstep : D.settle (D.q.take (k + 1)) = (D.settle (D.q.take k)).set s T := by
        rw [List.take_succ_eq_append_getElem hkq, settle_snoc, hst]
      have HSTEP := Lib.hid hstep
      have HQ := Lib.hid hq64
      have HXT := Lib.hid hXT
      have hX64 : X.size = 64 := by have : X.data.toList.length = 64 := by rw [hXT]; exact hq64.2
                                    simpa using this
      have HX64 := Lib.hid hX64
      have hget := qr_get D.q k hkq
      rw [hst] at hget
      have HG := Lib.hid hget
      have HX := Lib.hid hX
      have HQV := Lib.hid hqv
      clear hq64 hst hstep hXT hX64 hX hget hqv
      go_wp2_with fail
      refine region_tail 17 (fun W => (W.cell? ⟨d, 2, none⟩ = some (.slice (some ⟨g, 0, none⟩) D.q.length cap) ∧ W.cell? ⟨g, k * 2, none⟩ = some (.int .i64 (s : Int)) ∧ W.cell? ⟨g, k * 2 + 1, none⟩ = some (.string X)) ∧ W = wr.drew) ?_ (by kernel_rfl) (by kernel_rfl) ?_
      · have hD := HD.out.drew
        have hown := hD.q
        have ea := settle_arm (D.q.take k) D
        rw [ea.2.1, HQV.out] at hown
        exact ⟨⟨by have := hD.blk.cell 2; rw [HQV.out] at this; exact this, own_cell hown HG.out.1, by rw [HX.out]; exact own_cell hown HG.out.2⟩, rfl⟩
      · intro W ⟨⟨c0, c1, c2⟩, hW⟩
        have HW := Lib.hid hW
        have hd : d < W.heap.size := by rw [hW]; exact HD.out.drew.blk.lt
        clear hW
        simp only [List.take_succ_cons, List.take_zero, List.drop_succ_cons, List.drop_zero]
        repeat still_step
        refine wpStill_nil ?_
        go_wp2_with fail
        refine (rset_any s d n bs be cs ce qv am f x y X _ _ (by rw [HW.out]; exact HD.out.drew) HQ.out.1 HX64.out).mono ?_
        rintro e w' ⟨rfl, hD', hO'⟩
        rw [HXT.out, ← HSTEP.out] at hD'
        have hO2 : Only (fun b => b = bs ∨ b = be) w w' := by rw [HW.out] at hO'; exact HO.out.drew.trans hO' (fun _ _ h => h)
        have HD2 := Lib.hid hD'
        have HO2 := Lib.hid hO2
        clear hD' hO' hO2 c0 c1 c2
        go_wp2
        go_roundw
        case rel => exact ⟨k + 1, by omega, by go_num, HD2.out, HO2.out⟩
        case measure => simp [intOf]; omega
    · have : k = m := by omega
      subst this
      go_wp2
      go_end0
      exact ⟨rfl, HD.out, HO.out⟩
end Go.Proofs.Ytmkfbedhmmijjaa
