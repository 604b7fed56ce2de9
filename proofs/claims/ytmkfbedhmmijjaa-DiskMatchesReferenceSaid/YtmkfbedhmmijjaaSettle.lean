/- Disk.settle: some pending writes become stable. -/
import Derived.Test.YtmkfbedhmmijjaaSet
namespace Go.Proofs.Ytmkfbedhmmijjaa
open Go.RowKit

theorem qc_length (q : List (Nat × List UInt8)) : (qc q).length = q.length * 3 := by
  induction q with
  | nil => rfl
  | cons p q ih => simp only [qc, List.flatMap_cons, List.length_append] at *; rw [ih]; simp; omega
theorem qc_get (q : List (Nat × List UInt8)) (i : Nat) (hi : i < q.length) :
    (qc q)[i * 3]? = some (.int .i64 ((q[i].1 : Int) * 64)) ∧ (qc q)[i * 3 + 1]? = some (.int .i64 (((q[i].1 : Int) + 1) * 64)) ∧ (qc q)[i * 3 + 2]? = some (.string ⟨q[i].2.toArray⟩) := by
  induction q generalizing i with
  | nil => exact absurd hi (by simp)
  | cons p q ih =>
    cases i with
    | zero => exact ⟨rfl, rfl, rfl⟩
    | succ i =>
      have := ih i (by simpa using hi)
      have e : qc (p :: q) = [.int .i64 ((p.1 : Int) * 64), .int .i64 (((p.1 : Int) + 1) * 64), .string ⟨p.2.toArray⟩] ++ qc q := rfl
      rw [e, show (i + 1) * 3 = i * 3 + 1 + 1 + 1 from by omega]
      simpa using this
theorem own_cell {w : World} {base : Nat} {e : TypeId} {size n g cap j : Nat} {xs : List Value} {u : Value} (h : w.ownsRow base e size (.slice (some ⟨g, 0, none⟩) n cap) n xs) (hj : xs[j]? = some u) : w.cell? ⟨g, j, none⟩ = some u := by
  have := h.cells (g := g) rfl j u hj
  rwa [add_spot, Nat.zero_add] at this

theorem DiskAt.alloc {w : World} {d n bs be : Nat} {qv av : Value} {D : Dsk} (h : DiskAt w d n bs be qv av D) (o : Obj) : DiskAt (w.alloc o) d n bs be qv av D :=
  h.keep ((Only.refl (fun _ => False) w).alloc o) id id id (fun _ _ => id) (fun _ _ => id)
theorem DiskAt.drewN {w : World} {d n bs be : Nat} {qv av : Value} {D : Dsk} (h : DiskAt w d n bs be qv av D) (k : Nat) : DiskAt (w.drewN k) d n bs be qv av D :=
  h.keep ((Only.refl (fun _ => False) w).drewN k) id id id (fun _ _ => id) (fun _ _ => id)
theorem DiskAt.drew {w : World} {d n bs be : Nat} {qv av : Value} {D : Dsk} (h : DiskAt w d n bs be qv av D) : DiskAt w.drew d n bs be qv av D := h.drewN 1

set_option maxHeartbeats 400000 in
theorem settle_some (d n bs be g m c cap : Nat) (av : Value) (D : Dsk) (w : World) (h : DiskAt w d n bs be (.slice (some ⟨g, 0, none⟩) D.q.length cap) av D) (hm : m ≤ D.q.length) (hbig : D.q.length ≤ 1000000) :
    Calls Try.prog 41 #[.pointer (some ⟨d, 0, none⟩), .slice (some ⟨g, 0, none⟩) m c] w fun e w' => e = .returned (.tuple #[]) ∧
      DiskAt w' d n bs be (.slice (some ⟨g, 0, none⟩) D.q.length cap) av (D.settle (D.q.take m)) ∧ Only (fun b => b = bs ∨ b = be) w w' := by
  have H := Lib.hid h
  clear h
  go_enter Try.func41, Try.ntmps41
  go_wp2
  go_loopw [8] (fun i wr => ∃ k : Nat, k ≤ m ∧ i = .int .i64 (k : Int) ∧ DiskAt wr d n bs be (.slice (some ⟨g, 0, none⟩) D.q.length cap) av (D.settle (D.q.take k)) ∧ Only (fun b => b = bs ∨ b = be) w wr) (fun i _ => m - (intOf i).toNat)
  case atStart => exact ⟨0, Nat.zero_le _, rfl, by simpa [Dsk.settle] using H.out, Only.refl _ _⟩
  case round =>
    rename_i wr
    obtain ⟨k, hk, rfl, hD, hO⟩ := hrel
    by_cases hlt : k < m
    · have hq := qc_get D.q k (by omega)
      have ea := settle_arm (D.q.take k) D
      have hown := hD.q
      rw [ea.2.1] at hown
      have c0 := own_cell hown hq.1
      have c1 := own_cell hown hq.2.1
      have c2 := own_cell hown hq.2.2
      have HD := Lib.hid hD
      have HO := Lib.hid hO
      clear hD hO hq ea hown
      go_wp2_with fail
      have hq64 := H.out.ok.q64 _ (List.getElem_mem (show k < D.q.length by omega))
      have HQ := Lib.hid hq64
      clear hq64
      refine (set_any _ d n bs be _ av _ _ _ (HD.out.alloc _) HQ.out.1 (by show D.q[k].2.toArray.size ≤ 64; rw [List.size_toArray, HQ.out.2]; omega)).mono ?_
      rintro e w' ⟨rfl, hD', hO'⟩
      have hD2 : DiskAt w' d n bs be (.slice (some ⟨g, 0, none⟩) D.q.length cap) av (D.settle (D.q.take (k + 1))) := by
        rw [List.take_succ_eq_append_getElem (by omega), settle_snoc]; exact hD'
      have hO2 : Only (fun b => b = bs ∨ b = be) w w' := (HO.out.alloc _).trans hO' (fun _ _ h => h)
      have HD2 := Lib.hid hD2
      have HO2 := Lib.hid hO2
      clear hD' hO' hD2 hO2
      go_wp2
      go_roundw
      case rel => exact ⟨k + 1, by omega, by go_num, HD2.out, HO2.out⟩
      case measure => simp [intOf]; omega
    · have HD := Lib.hid hD
      have HO := Lib.hid hO
      clear hD hO
      have : k = m := by omega
      subst this
      go_wp2
      go_end0
      exact ⟨rfl, HD.out, HO.out⟩
set_option maxHeartbeats 400000 in
theorem settle_none (d n bs be c : Nat) (A : Option Addr) (qv av : Value) (D : Dsk) (w : World) (h : DiskAt w d n bs be qv av D) :
    Calls Try.prog 41 #[.pointer (some ⟨d, 0, none⟩), .slice A 0 c] w fun e w' => e = .returned (.tuple #[]) ∧ DiskAt w' d n bs be qv av D ∧ Only (fun b => b = bs ∨ b = be) w w' := by
  have H := Lib.hid h
  clear h
  go_enter Try.func41, Try.ntmps41
  go_wp2
  refine wp_loop_rounds 1 ?_
  rw [rounds_succ]
  go_wp2
  go_end0
  exact ⟨rfl, H.out, Only.refl _ _⟩

/-- Some pending writes become stable. -/
theorem settle_any (d n bs be m c : Nat) (A : Option Addr) (qv av : Value) (D : Dsk) (w : World) (h : DiskAt w d n bs be qv av D) (hm : m ≤ D.q.length) (hbig : D.q.length ≤ 1000000)
    (hA : 0 < m → ∃ g cap, A = some ⟨g, 0, none⟩ ∧ qv = .slice (some ⟨g, 0, none⟩) D.q.length cap) :
    Calls Try.prog 41 #[.pointer (some ⟨d, 0, none⟩), .slice A m c] w fun e w' => e = .returned (.tuple #[]) ∧ DiskAt w' d n bs be qv av (D.settle (D.q.take m)) ∧ Only (fun b => b = bs ∨ b = be) w w' := by
  rcases Nat.eq_zero_or_pos m with rfl | h0
  · exact settle_none d n bs be c A qv av D w h
  · obtain ⟨g, cap, rfl, rfl⟩ := hA h0
    exact settle_some d n bs be g m c cap av D w h hm hbig
end Go.Proofs.Ytmkfbedhmmijjaa
