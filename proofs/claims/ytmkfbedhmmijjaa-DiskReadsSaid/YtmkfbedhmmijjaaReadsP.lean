/- P45.5 as plain data. -/
import Derived.Test.YtmkfbedhmmijjaaOwnP
namespace Go.Proofs.Ytmkfbedhmmijjaa
theorem rd_push (D : Dsk) (k s : Nat) (t : List UInt8) : Dsk.rd { D with q := D.q ++ [(k, t)] } s = if k = s then t else D.rd s := by
  unfold Dsk.rd
  simp only
  rw [lastIn_snoc]
  split <;> rfl
theorem all_push (D : Dsk) (n k : Nat) (t : List UInt8) : Dsk.all { D with q := D.q ++ [(k, t)] } n = (D.all n).set k t := by
  unfold Dsk.all
  apply List.ext_getElem
  · simp
  · intro i h1 h2
    simp only [List.getElem_map, List.getElem_range, rd_push, List.getElem_set]
theorem fail_off_write (D : Dsk) (h : D.off = false) (t : List UInt8) : (D.fail 0 0).write 0 t = (D.fail 0 0, 25) ∧ (D.fail 0 0).read 0 = ([], 25) := by
  have : (D.fail 0 0).off = true := by unfold Dsk.fail; rw [if_neg (by rw [h]; simp)]
  exact ⟨by unfold Dsk.write; rw [if_pos this], by unfold Dsk.read; rw [if_pos this]⟩
end Go.Proofs.Ytmkfbedhmmijjaa
