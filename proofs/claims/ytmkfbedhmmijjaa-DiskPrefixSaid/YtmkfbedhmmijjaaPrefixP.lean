/- P45.3 and P45.4 as plain data: a failure leaves the first writes, and a torn next one. -/
import Derived.Test.YtmkfbedhmmijjaaStableP
namespace Go.Proofs.Ytmkfbedhmmijjaa
def okW (n : Nat) (a : AAct) : Bool := decide (0 ≤ a.sector ∧ a.sector < (n : Int) ∧ a.text.length = 64)
/-- The writes that succeed. -/
def oks (n : Nat) (l : List AAct) : List (Nat × List UInt8) := l.filterMap fun a => if okW n a = true then some (a.sector.toNat, a.text) else none
theorem oks_append (n : Nat) (l m : List AAct) : oks n (l ++ m) = oks n l ++ oks n m := by simp [oks]
theorem oks_snoc (n : Nat) (l : List AAct) (a : AAct) : oks n (l ++ [a]) = if okW n a = true then oks n l ++ [(a.sector.toNat, a.text)] else oks n l := by
  rw [oks_append]
  unfold oks
  rw [List.filterMap_cons]
  split <;> rename_i h
  · split at h
    · cases h
    · rename_i h2; rw [if_neg h2]; simp
  · split at h
    · rename_i h2; cases h; rw [if_pos h2]; simp
    · cases h
theorem oks_length (n : Nat) (l : List AAct) : (oks n l).length ≤ l.length := List.length_filterMap_le _ _
theorem oks_64 (n : Nat) (l : List AAct) : ∀ p ∈ oks n l, p.1 < n ∧ p.2.length = 64 := by
  intro p hp
  unfold oks at hp
  rw [List.mem_filterMap] at hp
  obtain ⟨a, _, h⟩ := hp
  split at h
  · rename_i h2
    cases h
    have := of_decide_eq_true h2
    exact ⟨by simp only; omega, this.2.2⟩
  · cases h
theorem writes_oks {D : Dsk} {n : Nat} (hc : D.Calm) (hn : D.st.length = n) (hq : D.q = []) (l : List AAct) : D.writes l = { D with q := oks n l } := by
  induction l using snoc_ind with
  | h0 => show D = _; rw [show oks n [] = D.q from hq.symm]
  | h1 l a ih =>
    rw [writes_snoc, ih, calm_write (D := { D with q := oks n l }) ⟨hc.on, hc.un⟩, oks_snoc]
    simp only [hn]
    by_cases h : okW n a = true
    · rw [if_pos h, if_pos (of_decide_eq_true h)]
    · rw [if_neg h, if_neg (fun h2 => h (decide_eq_true h2))]
/-- The writes of a part of the list are the first ones of the whole list. -/
theorem oks_take (n k : Nat) (l : List AAct) : oks n (l.take k) = (oks n l).take (oks n (l.take k)).length := by
  have h : oks n l = oks n (l.take k) ++ oks n (l.drop k) := by rw [← oks_append, List.take_append_drop]
  rw [h, List.take_left]
theorem set_st_self (D : Dsk) (s : Nat) (t : List UInt8) (hs : s < D.st.length) : (D.set s t).st.getD s [] = t ++ (D.st.getD s []).drop t.length := by
  simp only [Dsk.set, List.getD_eq_getElem?_getD]
  rw [List.getElem?_set_self hs]
  rfl
theorem settle_rd (n s : Nat) (hs : s < n) (q : List (Nat × List UInt8)) (D : Dsk) (h : D.Ok n) (hq : ∀ p ∈ q, p.1 < n ∧ p.2.length = 64) :
    (D.settle q).st.getD s [] = (lastIn q s).getD (D.st.getD s []) := by
  induction q using snoc_ind with
  | h0 => rfl
  | h1 q p ih =>
    have ih := ih (fun x hx => hq x (by simp [hx]))
    have hp := hq p (by simp)
    have hk := Dsk.Ok.settle q h (fun x hx => hq x (by simp [hx]))
    rw [settle_snoc, lastIn_snoc]
    by_cases e : p.1 = s
    · subst e
      rw [if_pos rfl, set_st_self _ _ _ (by rw [hk.stl]; exact hp.1), List.drop_of_length_le (by rw [mem64 hk.st64 (by rw [hk.stl]; exact hp.1)]; omega)]
      simp
    · rw [if_neg e, set_st_other _ _ _ _ e]
      exact ih
theorem all_get (D : Dsk) (n s : Nat) : (D.all n)[s]? = if s < n then some (D.rd s) else none := by
  unfold Dsk.all
  simp only [List.getElem?_map]
  by_cases h : s < n
  · rw [if_pos h, List.getElem?_range h]; rfl
  · rw [if_neg h, List.getElem?_eq_none (by simpa using h)]; rfl
theorem cap_nat (b : Nat) (hb : b ≤ 64) : cap64 (b : Int) = b := by unfold cap64; omega
section
variable {n : Nat} {D : Dsk} {Q : List (Nat × List UInt8)}
theorem back_rd (hc : D.Calm) (w b s : Nat) :
    (Dsk.back { D with q := Q } w b).rd s = ((D.settle (Q.take w)).tear (Q.drop w) b).st.getD s [] := by
  rw [rd_nil _ _ (back_q { D with q := Q } w b hc.on)]
  unfold Dsk.back Dsk.start Dsk.fail
  rw [if_neg (by simp [hc.on])]
  have e : ∀ (l : List (Nat × List UInt8)) (D : Dsk), (Dsk.settle { D with q := Q } l) = { D.settle l with q := Q } := by
    intro l
    induction l with
    | nil => intro D; rfl
    | cons p l ih => intro D; exact ih (D.set p.1 p.2)
  have e2 : ∀ (l : List (Nat × List UInt8)) (D : Dsk) (b : Int), (Dsk.tear { D with q := Q } l b) = { D.tear l b with q := Q } := by
    intro l D b
    cases l with
    | nil => rfl
    | cons p l => unfold Dsk.tear; simp only; split <;> rfl
  simp only [e, e2, Int.toNat_natCast]
/-- All writes that are left reach the disk. -/
theorem prefix_none (hk : D.Ok n) (hc : D.Calm) (hq : ∀ p ∈ Q, p.1 < n ∧ p.2.length = 64) (w b : Nat) (hw : Q.length ≤ w) :
    (Dsk.back { D with q := Q } w b).all n = (Dsk.all { D with q := Q.take w } n) := by
  apply List.ext_getElem?
  intro s
  rw [all_get, all_get]
  by_cases hs : s < n
  · rw [if_pos hs, if_pos hs, back_rd hc w b s, List.drop_of_length_le hw]
    show some ((D.settle (Q.take w)).st.getD s []) = _
    rw [settle_rd n s hs _ D hk (fun p hp => hq p (List.mem_of_mem_take hp))]
    rfl
  · rw [if_neg hs, if_neg hs]
theorem prefix_some (hk : D.Ok n) (hc : D.Calm) (hq : ∀ p ∈ Q, p.1 < n ∧ p.2.length = 64) (w b : Nat) (hb : b ≤ 64) (p : Nat × List UInt8) (hw : Q[w]? = some p) :
    (Dsk.back { D with q := Q } w b).all n = (Dsk.all { D with q := Q.take w } n).set p.1 (p.2.take b ++ (Dsk.rd { D with q := Q.take w } p.1).drop b) := by
  obtain ⟨hlt, he⟩ := List.getElem?_eq_some_iff.1 hw
  have hp : p.1 < n ∧ p.2.length = 64 := hq p (by rw [← he]; exact List.getElem_mem hlt)
  have hd : Q.drop w = p :: Q.drop (w + 1) := by rw [List.drop_eq_getElem_cons hlt, he]
  have hr : ∀ s, s < n → (D.settle (Q.take w)).st.getD s [] = Dsk.rd { D with q := Q.take w } s := fun s hs => by
    rw [settle_rd n s hs _ D hk (fun p hp => hq p (List.mem_of_mem_take hp))]
    rfl
  have hok := Dsk.Ok.settle (Q.take w) hk (fun p hp => hq p (List.mem_of_mem_take hp))
  apply List.ext_getElem?
  intro s
  rw [all_get]
  by_cases hs : s < n
  · rw [if_pos hs, back_rd hc w b s, hd]
    unfold Dsk.tear
    simp only
    rw [cap_nat b hb]
    by_cases e : p.1 = s
    · subst e
      rw [List.getElem?_set_self (by unfold Dsk.all; simp; exact hs)]
      by_cases hb0 : 0 < b
      · rw [if_pos hb0, set_st_self _ _ _ (by rw [hok.stl]; exact hs), hr _ hs, List.length_take, hp.2, Nat.min_eq_left hb]
      · have : b = 0 := by omega
        subst this
        rw [if_neg hb0, hr _ hs]
        simp
    · rw [List.getElem?_set_ne e, all_get, if_pos hs]
      split
      · rw [set_st_other _ _ _ _ e, hr _ hs]
      · rw [hr _ hs]
  · rw [if_neg hs, List.getElem?_eq_none]
    rw [List.length_set]
    unfold Dsk.all
    simp
    omega
end
/-- What the loop keeps in 'next': the write behind the first w ones, or none. -/
structure NextIs (w : Nat) (Q : List (Nat × List UInt8)) (x : AAct) : Prop where
  ok : x.Ok
  size : x.txt.size ≤ 100
  is : match Q[w]? with
    | none => x.sector = -1
    | some p => x.sector = (p.1 : Int) ∧ x.text = p.2
theorem next_start (w : Nat) : NextIs w [] ⟨0, -1, 0, ByteArray.empty, false, 0⟩ := by
  refine ⟨?_, by decide, ?_⟩
  · constructor <;> (simp only; unfold In64; omega)
  · simp
theorem next_same {w : Nat} {Q : List (Nat × List UInt8)} {x : AAct} (h : NextIs w Q x) (p : Nat × List UInt8) (hne : Q.length ≠ w) : NextIs w (Q ++ [p]) x := by
  refine ⟨h.ok, h.size, ?_⟩
  have e : (Q ++ [p])[w]? = Q[w]? := by
    rcases Nat.lt_or_ge w Q.length with hl | hl
    · rw [List.getElem?_append_left hl]
    · rw [List.getElem?_eq_none hl, List.getElem?_eq_none (by simp; omega)]
  rw [e]
  exact h.is
theorem next_put {w : Nat} {Q : List (Nat × List UInt8)} (x : AAct) (hx : x.Ok) (ht : x.txt.size ≤ 100) (h0 : 0 ≤ x.sector) (he : Q.length = w) : NextIs w (Q ++ [(x.sector.toNat, x.text)]) x := by
  refine ⟨hx, ht, ?_⟩
  subst he
  rw [List.getElem?_append_right (Nat.le_refl _)]
  simp
  omega
end Go.Proofs.Ytmkfbedhmmijjaa
