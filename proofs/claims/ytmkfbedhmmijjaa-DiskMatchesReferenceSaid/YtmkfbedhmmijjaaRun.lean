/- Operations one after the other, as plain data; a list of operations read element by element. -/
import Derived.Test.YtmkfbedhmmijjaaOpen
namespace Go.Proofs.Ytmkfbedhmmijjaa
open Go.RowKit
def Dsk.run (D : Dsk) (l : List AAct) : Dsk := l.foldl (fun D a => (D.act a).1) D
theorem run_snoc (D : Dsk) (l : List AAct) (a : AAct) : D.run (l ++ [a]) = ((D.run l).act a).1 := by simp [Dsk.run, List.foldl_append]
theorem settle_q (l : List (Nat × List UInt8)) (D : Dsk) : (D.settle l).q = D.q := (settle_arm l D).2.1
theorem fail_q (D : Dsk) (a b : Int) : (D.fail a b).q.length ≤ D.q.length := by
  unfold Dsk.fail
  split
  · exact Nat.le_refl _
  · exact Nat.zero_le _
theorem count_q_le (D : Dsk) : D.count.1.q.length ≤ D.q.length := by
  unfold Dsk.count
  split
  · exact Nat.le_refl _
  · exact Nat.le_refl _
  · exact fail_q _ _ _
theorem write_q (D : Dsk) (s : Int) (t : List UInt8) : (D.write s t).1.q.length ≤ D.q.length + 1 := by
  unfold Dsk.write
  split
  · exact Nat.le_succ _
  · split
    · exact Nat.le_trans (count_q_le _) (by simp)
    · exact Nat.le_succ _
theorem sync_q (D : Dsk) : D.sync.1.q.length ≤ D.q.length := by
  unfold Dsk.sync
  split
  · exact Nat.le_refl _
  · split
    · exact Nat.zero_le _
    · exact count_q_le _
theorem act_q (D : Dsk) (a : AAct) : (D.act a).1.q.length ≤ D.q.length + 1 := by
  unfold Dsk.act
  split
  · exact write_q _ _ _
  · split
    · exact Nat.le_succ _
    · split
      · exact Nat.le_trans (sync_q _) (Nat.le_succ _)
      · split
        · exact Nat.le_trans (fail_q _ _ _) (Nat.le_succ _)
        · split
          · exact Nat.le_succ _
          · split
            · unfold Dsk.arming; split <;> exact Nat.le_succ _
            · split
              · unfold Dsk.rot; split <;> exact Nat.le_succ _
              · split
                · unfold Dsk.stale; split <;> exact Nat.le_succ _
                · exact Nat.le_succ _
theorem run_q (l : List AAct) (D : Dsk) : (D.run l).q.length ≤ D.q.length + l.length := by
  induction l using snoc_ind with
  | h0 => simp [Dsk.run]
  | h1 l a ih => rw [run_snoc, List.length_append]; have := act_q (D.run l) a; simp; omega
theorem run_take_q (n k : Nat) (l : List AAct) (hk : k ≤ l.length) : ((Dsk.new n).run (l.take k)).q.length ≤ k := by
  have := run_q (l.take k) (Dsk.new n)
  simp only [Dsk.new, List.length_nil, List.length_take, Nat.zero_add] at this ⊢
  omega
theorem ok_spec {l : List AAct} (h : okB l = true) : l.length ≤ 60 ∧ ∀ a ∈ l, a.txt.size ≤ 100 := by
  unfold okB at h
  rw [Bool.and_eq_true, List.all_eq_true] at h
  exact ⟨of_decide_eq_true h.2, fun a ha => of_decide_eq_true (h.1 a ha)⟩

/-- One element of a list of operations: its cells as the walk reads them. -/
structure Elem (w : World) (b o : Nat) (a : AAct) : Prop where
  c0 : w.cell? ⟨b, o, none⟩ = some (.int .i64 a.kind)
  c1 : w.cell? ⟨b, o + 1, none⟩ = some (.int .i64 a.sector)
  c2 : w.cell? ⟨b, o + 2, none⟩ = some (.int .i64 a.bytes)
  c3 : w.cell? ⟨b, o + 3, none⟩ = some (.string a.txt)
  c4 : w.cell? ⟨b, o + 4, none⟩ = some (.bool a.odd)
  c5 : w.cell? ⟨b, o + 5, none⟩ = some (.int .i64 a.after)
theorem Elem.below {w w' : World} {B b o : Nat} {a : AAct} (h : Elem w b o a) (hb : Below B w w') (hlt : b < B) : Elem w' b o a := by
  have g : ∀ j, w'.cell? ⟨b, j, none⟩ = w.cell? ⟨b, j, none⟩ := fun j => hb.cell (p := ⟨b, j, none⟩) hlt
  exact ⟨(g _).trans h.c0, (g _).trans h.c1, (g _).trans h.c2, (g _).trans h.c3, (g _).trans h.c4, (g _).trans h.c5⟩
theorem ActsAt.elem {w : World} {A : Option Addr} {l : List AAct} (h : ActsAt w A l) {k : Nat} (hk : k < l.length) : ∃ b off, A = some ⟨b, off, none⟩ ∧ b < w.heap.size ∧ Elem w b (off + k * 6) l[k] := by
  obtain ⟨b, off, hA, hb, hc⟩ := h (by omega)
  have g : ∀ j v, l[k].cells[j]? = some v → w.cell? ⟨b, off + k * 6 + j, none⟩ = some v := fun j v hv => by rw [Nat.add_assoc]; exact hc k hk j v hv
  exact ⟨b, off, hA, hb, g 0 _ rfl, g 1 _ rfl, g 2 _ rfl, g 3 _ rfl, g 4 _ rfl, g 5 _ rfl⟩
end Go.Proofs.Ytmkfbedhmmijjaa
