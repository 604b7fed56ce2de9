/- P45.2 as plain data: what was synchronized stays where nothing is written after it. -/
import Derived.Test.YtmkfbedhmmijjaaRun
namespace Go.Proofs.Ytmkfbedhmmijjaa
theorem set_st_other (D : Dsk) (k s : Nat) (t : List UInt8) (h : k ≠ s) : (D.set k t).st.getD s [] = D.st.getD s [] := by
  simp only [Dsk.set, List.getD_eq_getElem?_getD, List.getElem?_set_ne h]
theorem settle_st_other (s : Nat) (l : List (Nat × List UInt8)) : ∀ D : Dsk, (∀ p ∈ l, p.1 ≠ s) → (D.settle l).st.getD s [] = D.st.getD s [] := by
  induction l with
  | nil => intro D _; rfl
  | cons p l ih =>
    intro D h
    have := ih (D.set p.1 p.2) (fun q hq => h q (by simp [hq]))
    exact this.trans (set_st_other D p.1 s p.2 (h p (by simp)))
theorem tear_st_other (s : Nat) (l : List (Nat × List UInt8)) (D : Dsk) (b : Int) (h : ∀ p ∈ l, p.1 ≠ s) : (D.tear l b).st.getD s [] = D.st.getD s [] := by
  cases l with
  | nil => rfl
  | cons p l =>
    unfold Dsk.tear
    simp only
    split
    · exact set_st_other _ _ _ _ (h p (by simp))
    · rfl
theorem tear_rest (D : Dsk) (l : List (Nat × List UInt8)) (b : Int) : (D.tear l b).q = D.q ∧ (D.tear l b).off = D.off ∧ (D.tear l b).arm = D.arm := by
  cases l with
  | nil => exact ⟨rfl, rfl, rfl⟩
  | cons p l => unfold Dsk.tear; simp only; split <;> exact ⟨rfl, rfl, rfl⟩
theorem rd_nil (D : Dsk) (s : Nat) (h : D.q = []) : D.rd s = D.st.getD s [] := by unfold Dsk.rd; rw [h]; rfl
/-- The disk behind a failure and a start. -/
def Dsk.back (D : Dsk) (a b : Int) : Dsk := (D.fail a b).start
theorem back_q (D : Dsk) (a b : Int) (h : D.off = false) : (D.back a b).q = [] := by unfold Dsk.back Dsk.start Dsk.fail; rw [h]; rfl
theorem back_other (D : Dsk) (a b : Int) (s : Nat) (hoff : D.off = false) (h : ∀ p ∈ D.q, p.1 ≠ s) : (D.back a b).rd s = D.st.getD s [] := by
  rw [rd_nil _ s (back_q D a b hoff)]
  unfold Dsk.back Dsk.start Dsk.fail
  rw [hoff]
  show ((D.settle (D.q.take a.toNat)).tear (D.q.drop a.toNat) b).st.getD s [] = _
  rw [tear_st_other s _ _ _ (fun p hp => h p (List.mem_of_mem_drop hp)), settle_st_other s _ _ (fun p hp => h p (List.mem_of_mem_take hp))]
/-- A disk that is on, not armed. -/
structure Dsk.Calm (D : Dsk) : Prop where
  on : D.off = false
  un : D.arm = none
theorem start_calm (D : Dsk) : D.start.Calm := ⟨rfl, rfl⟩
theorem calm_count {D : Dsk} (h : D.Calm) : D.count = (D, 0) := by unfold Dsk.count; rw [h.un]
theorem calm_sync {D : Dsk} (h : D.Calm) : D.sync = ({ D.settle D.q with q := [] }, 0) := by
  unfold Dsk.sync
  rw [h.on, if_neg (by simp), calm_count h, if_pos rfl]
theorem calm_sync_calm {D : Dsk} (h : D.Calm) : D.sync.1.Calm ∧ D.sync.1.q = [] := by
  rw [calm_sync h]
  exact ⟨⟨(settle_arm D.q D).2.2.trans h.on, (settle_arm D.q D).1.trans h.un⟩, rfl⟩
theorem calm_write {D : Dsk} (h : D.Calm) (s : Int) (t : List UInt8) :
    D.write s t = if 0 ≤ s ∧ s < D.st.length ∧ t.length = 64 then ({ D with q := D.q ++ [(s.toNat, t)] }, 0) else (D, 1) := by
  unfold Dsk.write
  rw [if_neg (by rw [h.on]; simp)]
  split
  · exact calm_count (D := { D with q := D.q ++ [(s.toNat, t)] }) ⟨h.on, h.un⟩
  · rfl
theorem calm_write_calm {D : Dsk} (h : D.Calm) (s : Int) (t : List UInt8) : (D.write s t).1.Calm ∧ (D.write s t).1.st = D.st ∧ (D.write s t).1.el = D.el := by
  rw [calm_write h]
  split
  · exact ⟨⟨h.on, h.un⟩, rfl, rfl⟩
  · exact ⟨h, rfl, rfl⟩
def Dsk.writes (D : Dsk) (l : List AAct) : Dsk := l.foldl (fun D a => (D.write a.sector a.text).1) D
theorem writes_snoc (D : Dsk) (l : List AAct) (a : AAct) : D.writes (l ++ [a]) = ((D.writes l).write a.sector a.text).1 := by simp [Dsk.writes, List.foldl_append]
theorem writes_calm {D : Dsk} (h : D.Calm) (l : List AAct) : (D.writes l).Calm ∧ (D.writes l).st = D.st ∧ (D.writes l).el = D.el := by
  induction l using snoc_ind with
  | h0 => exact ⟨h, rfl, rfl⟩
  | h1 l a ih =>
    rw [writes_snoc]
    have := calm_write_calm ih.1 a.sector a.text
    exact ⟨this.1, this.2.1.trans ih.2.1, this.2.2.trans ih.2.2⟩
theorem writes_q (D : Dsk) (l : List AAct) : (D.writes l).q.length ≤ D.q.length + l.length := by
  induction l using snoc_ind with
  | h0 => simp [Dsk.writes]
  | h1 l a ih => rw [writes_snoc, List.length_append]; have := write_q (D.writes l) a.sector a.text; simp; omega
/-- Flags: a sector whose flag is down has no pending write. -/
def Flags (n : Nat) (fl : List Bool) (D : Dsk) : Prop := fl.length = n ∧ ∀ s, fl[s]? = some false → ∀ p ∈ D.q, p.1 ≠ s
theorem flags_put {n : Nat} {fl : List Bool} {D : Dsk} (h : Flags n fl D) (k : Nat) (t : List UInt8) (hk : k < n) : Flags n (fl.set k true) { D with q := D.q ++ [(k, t)] } := by
  refine ⟨by simp [h.1], fun s hs p hp => ?_⟩
  by_cases e : k = s
  · subst e
    rw [List.getElem?_set_self (by rw [h.1]; exact hk)] at hs
    cases hs
  · rw [List.getElem?_set_ne e] at hs
    simp only [List.mem_append, List.mem_singleton] at hp
    rcases hp with hp | rfl
    · exact h.2 s hs p hp
    · exact e
end Go.Proofs.Ytmkfbedhmmijjaa
