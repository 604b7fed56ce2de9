/- P45.8 as plain data. -/
import Derived.Test.YtmkfbedhmmijjaaOwnP
namespace Go.Proofs.Ytmkfbedhmmijjaa
theorem rot_rest (D : Dsk) (s a m : Int) : (D.rot s a m).q = D.q ∧ (D.rot s a m).off = D.off ∧ (D.rot s a m).arm = D.arm ∧ (D.rot s a m).el = D.el ∧ (D.rot s a m).st.length = D.st.length := by
  unfold Dsk.rot
  split
  · exact ⟨rfl, rfl, rfl, rfl, by simp⟩
  · exact ⟨rfl, rfl, rfl, rfl, rfl⟩
theorem stale_rest (D : Dsk) (s : Int) : (D.stale s).q = D.q ∧ (D.stale s).off = D.off ∧ (D.stale s).arm = D.arm ∧ (D.stale s).el = D.el ∧ (D.stale s).st.length = D.st.length := by
  unfold Dsk.stale
  split
  · exact ⟨rfl, rfl, rfl, rfl, by simp⟩
  · exact ⟨rfl, rfl, rfl, rfl, rfl⟩
def Valid (n : Nat) (s a m : Int) : Prop := (0 ≤ s ∧ s < n) ∧ (0 ≤ a ∧ a < 64) ∧ (0 < m ∧ m < 256)
instance (n : Nat) (s a m : Int) : Decidable (Valid n s a m) := by unfold Valid; infer_instance
theorem getD_get {α : Type} (l : List α) (k : Nat) (x : α) (h : k < l.length) : l.getD k x = l[k] := by simp [List.getD_eq_getElem?_getD, h]
theorem getD_set_self (l : List (List UInt8)) (k : Nat) (x : List UInt8) (h : k < l.length) : (l.set k x).getD k [] = x := by
  simp [List.getD_eq_getElem?_getD, h]
theorem getD_set_ne' (l : List (List UInt8)) (k j : Nat) (x : List UInt8) (h : k ≠ j) : (l.set k x).getD j [] = l.getD j [] := by
  simp [List.getD_eq_getElem?_getD, List.getElem?_set_ne h]
/-- What the law says of a disk that was synchronized. -/
structure Damage (n : Nat) (D : Dsk) (s a m : Int) : Prop where
  off1 : (D.rot s a m).off = false
  q1 : (D.rot s a m).q = []
  off2 : ((D.rot s a m).rot s a m).off = false
  q2 : ((D.rot s a m).rot s a m).q = []
  back : D.all n = ((D.rot s a m).rot s a m).all n
  bits : ∀ i k : Nat, i < n → k < 64 → ∃ x y : UInt8, (D.rd i)[k]? = some x ∧ ((D.rot s a m).rd i)[k]? = some y ∧ ((x ^^^ y).toNat : Int) = if Valid n s a m ∧ (i : Int) = s ∧ (k : Int) = a then m else 0
  off3 : (((D.rot s a m).rot s a m).stale s).off = false
  q3 : (((D.rot s a m).rot s a m).stale s).q = []
  off4 : ((((D.rot s a m).rot s a m).stale s).stale s).off = false
  q4 : ((((D.rot s a m).rot s a m).stale s).stale s).q = []
  again : (((D.rot s a m).rot s a m).stale s).all n = ((((D.rot s a m).rot s a m).stale s).stale s).all n
  other : ∀ i : Nat, i < n → (i : Int) ≠ s → (((D.rot s a m).rot s a m).stale s).rd i = D.rd i
theorem rot_valid {n : Nat} {D : Dsk} (h : D.Ok n) {s a m : Nat} (hs : s < n) (ha : a < 64) (h0 : 0 < m) (hm : m < 256) :
    D.rot s a m = { D with st := D.st.set s ((D.st.getD s []).set a ((D.st.getD s []).getD a 0 ^^^ UInt8.ofNat m)) } := by
  unfold Dsk.rot
  rw [if_pos ⟨⟨by omega, by rw [h.stl]; omega⟩, ⟨by omega, by omega⟩, ⟨by omega, by omega⟩⟩]
  simp
theorem rot_invalid {n : Nat} {D : Dsk} (h : D.Ok n) {s a m : Int} (hv : ¬ Valid n s a m) : D.rot s a m = D := by
  unfold Dsk.rot
  rw [if_neg]
  rintro ⟨⟨h1, h2⟩, h3⟩
  exact hv ⟨⟨h1, by rw [h.stl] at h2; exact h2⟩, h3⟩
theorem rot_twice {n : Nat} {D : Dsk} (h : D.Ok n) (s a m : Int) : (D.rot s a m).rot s a m = D := by
  by_cases hv : Valid n s a m
  · obtain ⟨⟨h1, h2⟩, ⟨h3, h4⟩, h5, h6⟩ := hv
    obtain ⟨s, rfl⟩ := Int.eq_ofNat_of_zero_le h1
    obtain ⟨a, rfl⟩ := Int.eq_ofNat_of_zero_le h3
    obtain ⟨m, rfl⟩ := Int.eq_ofNat_of_zero_le (Int.le_of_lt h5)
    have hs : s < n := by omega
    have hsl : s < D.st.length := by rw [h.stl]; exact hs
    have e64 := mem64 h.st64 hsl
    have hal : a < (D.st.getD s []).length := by rw [e64]; omega
    have e1 := rot_valid h hs (a := a) (m := m) (by omega) (by omega) (by omega)
    have ok1 : (D.rot s a m).Ok n := by
      rw [e1]
      exact ⟨h.lo, h.hi, by simp [h.stl], h.ell, set64 h.st64 (by rw [List.length_set]; exact e64), h.el64, h.q64, h.arm⟩
    rw [rot_valid ok1 hs (a := a) (m := m) (by omega) (by omega) (by omega), e1]
    simp only
    rw [getD_set_self _ _ _ hsl]
    have e2 : ((D.st.getD s []).set a ((D.st.getD s []).getD a 0 ^^^ UInt8.ofNat m)).getD a 0 = (D.st.getD s []).getD a 0 ^^^ UInt8.ofNat m := by
      simp only [List.getD_eq_getElem?_getD, List.getElem?_set_self (by simpa [List.getD_eq_getElem?_getD] using hal), Option.getD_some]
    have e3 : ∀ x y : UInt8, x ^^^ y ^^^ y = x := by intro x y; rw [UInt8.xor_assoc, UInt8.xor_self, UInt8.xor_zero]
    rw [e2, e3, List.set_set, List.set_set]
    have e4 : (D.st.getD s []).set a ((D.st.getD s []).getD a 0) = D.st.getD s [] := by
      rw [getD_get _ _ _ hal, List.set_getElem_self]
    rw [e4]
    have e5 : D.st.set s (D.st.getD s []) = D.st := by rw [getD_get _ _ _ hsl, List.set_getElem_self]
    rw [e5]
  · rw [rot_invalid h hv, rot_invalid h hv]
theorem stale_twice (D : Dsk) (s : Int) : (D.stale s).stale s = D.stale s := by
  by_cases hs : 0 ≤ s ∧ s < D.st.length
  · have e1 : D.stale s = { D with st := D.st.set s.toNat (D.el.getD s.toNat []) } := by unfold Dsk.stale; rw [if_pos hs]
    rw [e1]
    unfold Dsk.stale
    rw [if_pos (by simpa using hs)]
    simp
  · have e1 : D.stale s = D := by unfold Dsk.stale; rw [if_neg hs]
    rw [e1, e1]
theorem damage_law (n : Nat) (D : Dsk) (s a m : Int) (hc : D.Calm) (hq : D.q = []) (h : D.Ok n) : Damage n D s a m := by
  have e1 := rot_rest D s a m
  have e2 := rot_twice h s a m
  have e3 := stale_rest D s
  have e4 := stale_twice D s
  refine ⟨e1.2.1.trans hc.on, e1.1.trans hq, by rw [e2]; exact hc.on, by rw [e2]; exact hq, by rw [e2], ?_, by rw [e2]; exact e3.2.1.trans hc.on, by rw [e2]; exact e3.1.trans hq, by rw [e2, e4]; exact e3.2.1.trans hc.on, by rw [e2, e4]; exact e3.1.trans hq, by rw [e2, e4], ?_⟩
  · intro i k hi hk
    have hil : i < D.st.length := by rw [h.stl]; exact hi
    have e64 := mem64 h.st64 hil
    have hkl : k < (D.st.getD i []).length := by rw [e64]; exact hk
    rw [rd_nil D i hq, rd_nil _ i (e1.1.trans hq)]
    by_cases hv : Valid n s a m
    · obtain ⟨⟨h1, h2⟩, ⟨h3, h4⟩, h5, h6⟩ := id hv
      obtain ⟨s, rfl⟩ := Int.eq_ofNat_of_zero_le h1
      obtain ⟨a, rfl⟩ := Int.eq_ofNat_of_zero_le h3
      obtain ⟨m, rfl⟩ := Int.eq_ofNat_of_zero_le (Int.le_of_lt h5)
      rw [rot_valid h (s := s) (a := a) (m := m) (by omega) (by omega) (by omega) (by omega)]
      simp only
      by_cases his : s = i
      · subst his
        rw [getD_set_self _ _ _ hil]
        by_cases hka : a = k
        · subst hka
          refine ⟨_, _, List.getElem?_eq_getElem hkl, List.getElem?_set_self hkl, ?_⟩
          rw [if_pos ⟨hv, rfl, rfl⟩, getD_get _ _ _ hkl, ← UInt8.xor_assoc, UInt8.xor_self, UInt8.zero_xor, UInt8.toNat_ofNat', Nat.mod_eq_of_lt (by omega)]
        · refine ⟨_, _, List.getElem?_eq_getElem hkl, by rw [List.getElem?_set_ne hka]; exact List.getElem?_eq_getElem hkl, ?_⟩
          rw [if_neg (by rintro ⟨_, _, e⟩; exact hka (by omega)), UInt8.xor_self]; rfl
      · rw [getD_set_ne' _ _ _ _ his]
        refine ⟨_, _, List.getElem?_eq_getElem hkl, List.getElem?_eq_getElem hkl, ?_⟩
        rw [if_neg (by rintro ⟨_, e, _⟩; exact his (by omega)), UInt8.xor_self]; rfl
    · rw [rot_invalid h hv]
      refine ⟨_, _, List.getElem?_eq_getElem hkl, List.getElem?_eq_getElem hkl, ?_⟩
      rw [if_neg (fun e => hv e.1), UInt8.xor_self]; rfl
  · intro i hi hne
    rw [e2, rd_nil _ i (e3.1.trans hq), rd_nil D i hq]
    unfold Dsk.stale
    split
    · rename_i hs
      exact getD_set_ne' _ _ _ _ (by omega)
    · rfl
end Go.Proofs.Ytmkfbedhmmijjaa
