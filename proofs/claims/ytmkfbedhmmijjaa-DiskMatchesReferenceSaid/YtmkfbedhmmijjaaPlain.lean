/- The disk as plain data: what each operation does to stable contents, elder contents, pending writes, power and alarm. Nothing of the program. -/
namespace Go.Proofs.Ytmkfbedhmmijjaa

/-- A disk: stable and elder contents sector by sector, pending writes (sector, text), whether it is off, and its alarm (calls left, writes, bytes). -/
structure Dsk where
  st : List (List UInt8)
  el : List (List UInt8)
  q : List (Nat × List UInt8)
  off : Bool
  arm : Option (Nat × Int × Int)

structure Dsk.Ok (n : Nat) (D : Dsk) : Prop where
  lo : 1 ≤ n
  hi : n ≤ 4000
  stl : D.st.length = n
  ell : D.el.length = n
  st64 : ∀ x ∈ D.st, x.length = 64
  el64 : ∀ x ∈ D.el, x.length = 64
  q64 : ∀ p ∈ D.q, p.1 < n ∧ p.2.length = 64
  arm : ∀ k a b, D.arm = some (k, a, b) → (k : Int) ≤ 9223372036854775807 ∧ (-9223372036854775808 ≤ a ∧ a ≤ 9223372036854775807) ∧ (-9223372036854775808 ≤ b ∧ b ≤ 9223372036854775807)

/-- The first bytes of a sector are replaced. -/
def Dsk.set (D : Dsk) (s : Nat) (t : List UInt8) : Dsk := { D with el := D.el.set s (D.st.getD s []), st := D.st.set s (t ++ (D.st.getD s []).drop t.length) }
def Dsk.settle (D : Dsk) (l : List (Nat × List UInt8)) : Dsk := l.foldl (fun D p => D.set p.1 p.2) D
def cap64 (b : Int) : Nat := min b.toNat 64
/-- The next pending write is torn. -/
def Dsk.tear (D : Dsk) (l : List (Nat × List UInt8)) (bytes : Int) : Dsk :=
  match l with
  | [] => D
  | p :: _ => if 0 < cap64 bytes then D.set p.1 (p.2.take (cap64 bytes)) else D
def Dsk.fail (D : Dsk) (writes bytes : Int) : Dsk :=
  if D.off then D else
    { (D.settle (D.q.take writes.toNat)).tear (D.q.drop writes.toNat) bytes with q := [], off := true, arm := none }
def Dsk.start (D : Dsk) : Dsk := { D with off := false, arm := none }
def Dsk.arming (D : Dsk) (after writes bytes : Int) : Dsk :=
  if D.off then D else { D with arm := if 0 ≤ after then some (after.toNat, writes, bytes) else none }
/-- A call of an armed disk is counted: the state and the answer. -/
def Dsk.count (D : Dsk) : Dsk × Int :=
  match D.arm with
  | none => (D, 0)
  | some (k + 1, a, b) => ({ D with arm := some (k, a, b) }, 0)
  | some (0, a, b) => (D.fail a b, 25)
def Dsk.write (D : Dsk) (s : Int) (t : List UInt8) : Dsk × Int :=
  if D.off then (D, 25) else if 0 ≤ s ∧ s < D.st.length ∧ t.length = 64 then Dsk.count { D with q := D.q ++ [(s.toNat, t)] } else (D, 1)
def Dsk.sync (D : Dsk) : Dsk × Int :=
  if D.off then (D, 25) else if D.count.2 = 0 then ({ D.count.1.settle D.count.1.q with q := [] }, 0) else D.count
/-- The text of the last write to a sector. -/
def lastIn (q : List (Nat × List UInt8)) (s : Nat) : Option (List UInt8) := q.foldl (fun o p => if p.1 = s then some p.2 else o) none
def Dsk.rd (D : Dsk) (s : Nat) : List UInt8 := (lastIn D.q s).getD (D.st.getD s [])
def Dsk.read (D : Dsk) (s : Int) : List UInt8 × Int :=
  if D.off then ([], 25) else if 0 ≤ s ∧ s < D.st.length then (D.rd s.toNat, 0) else ([], 1)
def Dsk.rot (D : Dsk) (s a m : Int) : Dsk :=
  if (0 ≤ s ∧ s < D.st.length) ∧ (0 ≤ a ∧ a < 64) ∧ (0 < m ∧ m < 256) then
    { D with st := D.st.set s.toNat ((D.st.getD s.toNat []).set a.toNat ((D.st.getD s.toNat []).getD a.toNat 0 ^^^ UInt8.ofNat m.toNat)) } else D
def Dsk.stale (D : Dsk) (s : Int) : Dsk :=
  if 0 ≤ s ∧ s < D.st.length then { D with st := D.st.set s.toNat (D.el.getD s.toNat []) } else D
def Dsk.new (n : Nat) : Dsk := ⟨List.replicate n (List.replicate 64 0), List.replicate n (List.replicate 64 0), [], false, none⟩

section
variable {n : Nat} {D : Dsk}
theorem mem64 {l : List (List UInt8)} (h : ∀ x ∈ l, x.length = 64) {s : Nat} (hs : s < l.length) : (l.getD s []).length = 64 := by
  simp only [List.getD_eq_getElem?_getD, List.getElem?_eq_getElem hs, Option.getD_some]
  exact h _ (List.getElem_mem hs)
theorem set64 {l : List (List UInt8)} (h : ∀ x ∈ l, x.length = 64) {s : Nat} {y : List UInt8} (hy : y.length = 64) : ∀ x ∈ l.set s y, x.length = 64 := by
  intro x hx
  rcases List.mem_or_eq_of_mem_set hx with h1 | h1
  · exact h x h1
  · subst h1; exact hy
theorem Dsk.Ok.set (h : D.Ok n) {s : Nat} (hs : s < n) {t : List UInt8} (ht : t.length ≤ 64) : (D.set s t).Ok n := by
  have h1 := mem64 h.st64 (s := s) (by rw [h.stl]; exact hs)
  exact ⟨h.lo, h.hi, by simp [Dsk.set, h.stl], by simp [Dsk.set, h.ell], set64 h.st64 (by rw [List.length_append, List.length_drop, h1]; omega), set64 h.el64 h1, h.q64, h.arm⟩
theorem settle_arm (l : List (Nat × List UInt8)) : ∀ D : Dsk, (D.settle l).arm = D.arm ∧ (D.settle l).q = D.q ∧ (D.settle l).off = D.off := by
  induction l with
  | nil => intro D; exact ⟨rfl, rfl, rfl⟩
  | cons p l ih => intro D; exact ih (D.set p.1 p.2)
theorem Dsk.Ok.settle (l : List (Nat × List UInt8)) : ∀ {D : Dsk}, D.Ok n → (∀ p ∈ l, p.1 < n ∧ p.2.length = 64) → (D.settle l).Ok n := by
  induction l with
  | nil => intro D h _; exact h
  | cons p l ih =>
    intro D h hl
    have h1 := hl p (by simp)
    exact ih (h.set h1.1 (by omega)) (fun x hx => hl x (by simp [hx]))
theorem settle_snoc (D : Dsk) (l : List (Nat × List UInt8)) (p : Nat × List UInt8) : D.settle (l ++ [p]) = (D.settle l).set p.1 p.2 := by
  simp [Dsk.settle, List.foldl_append]
theorem Dsk.Ok.tear (h : D.Ok n) (l : List (Nat × List UInt8)) (hl : ∀ p ∈ l, p.1 < n ∧ p.2.length = 64) (b : Int) : (D.tear l b).Ok n := by
  cases l with
  | nil => exact h
  | cons p l =>
    unfold Dsk.tear
    simp only
    split
    · exact h.set (hl p (by simp)).1 (by rw [List.length_take, (hl p (by simp)).2]; omega)
    · exact h
theorem Dsk.Ok.quiet (h : D.Ok n) : Dsk.Ok n { D with q := [], off := true, arm := none } :=
  ⟨h.lo, h.hi, h.stl, h.ell, h.st64, h.el64, (fun _ hp => by cases hp), (fun _ _ _ he => by cases he)⟩
theorem Dsk.Ok.fail (h : D.Ok n) (a b : Int) : (D.fail a b).Ok n := by
  unfold Dsk.fail
  split
  · exact h
  · exact ((h.settle _ (fun p hp => h.q64 p (List.mem_of_mem_take hp))).tear _ (fun p hp => h.q64 p (List.mem_of_mem_drop hp)) b).quiet
theorem Dsk.Ok.start (h : D.Ok n) : D.start.Ok n := ⟨h.lo, h.hi, h.stl, h.ell, h.st64, h.el64, h.q64, (fun _ _ _ he => by cases he)⟩
theorem Dsk.Ok.new (h1 : 1 ≤ n) (h2 : n ≤ 4000) : (Dsk.new n).Ok n :=
  ⟨h1, h2, by simp [Dsk.new], by simp [Dsk.new], fun x hx => by simp [Dsk.new] at hx; rw [hx.2]; simp, fun x hx => by simp [Dsk.new] at hx; rw [hx.2]; simp, (fun _ hp => by cases hp), (fun _ _ _ he => by cases he)⟩

theorem lastIn_snoc (q : List (Nat × List UInt8)) (p : Nat × List UInt8) (s : Nat) : lastIn (q ++ [p]) s = if p.1 = s then some p.2 else lastIn q s := by
  simp [lastIn, List.foldl_append]
theorem flat_length (l : List (List UInt8)) (h : ∀ x ∈ l, x.length = 64) : l.flatten.length = 64 * l.length := by
  induction l with
  | nil => rfl
  | cons x l ih =>
    rw [List.flatten_cons, List.length_append, h x (by simp), ih (fun y hy => h y (by simp [hy])), List.length_cons]
    omega
/-- The flat contents and one sector. -/
theorem flat_split (l : List (List UInt8)) (h : ∀ x ∈ l, x.length = 64) (s : Nat) (hs : s < l.length) :
    l.flatten = (l.take s).flatten ++ (l.getD s [] ++ (l.drop (s + 1)).flatten) ∧ (l.take s).flatten.length = 64 * s := by
  constructor
  · have e : l = l.take s ++ (l[s] :: l.drop (s + 1)) := by rw [← List.drop_eq_getElem_cons hs, List.take_append_drop]
    have e2 : l.getD s [] = l[s] := by simp [List.getElem?_eq_getElem hs]
    rw [e2]
    conv => lhs; rw [e]
    rw [List.flatten_append, List.flatten_cons]
  · rw [flat_length _ (fun x hx => h x (List.mem_of_mem_take hx)), List.length_take]
    omega
theorem flat_set (l : List (List UInt8)) (h : ∀ x ∈ l, x.length = 64) (s : Nat) (hs : s < l.length) (y : List UInt8) :
    (l.set s y).flatten = l.flatten.take (64 * s) ++ (y ++ l.flatten.drop (64 * s + 64)) := by
  obtain ⟨e1, l1⟩ := flat_split l h s hs
  have h64 := mem64 h hs
  have e : l.set s y = l.take s ++ (y :: l.drop (s + 1)) := List.set_eq_take_append_cons_drop .. |>.trans (by rw [if_pos hs])
  rw [e, List.flatten_append, List.flatten_cons, e1, ← l1, List.take_left]
  congr 2
  rw [← List.drop_drop (i := 64) (j := (l.take s).flatten.length), List.drop_left, ← h64, List.drop_left]
theorem flat_sector (l : List (List UInt8)) (h : ∀ x ∈ l, x.length = 64) (s : Nat) (hs : s < l.length) : (l.flatten.drop (64 * s)).take 64 = l.getD s [] := by
  obtain ⟨e1, l1⟩ := flat_split l h s hs
  have h64 := mem64 h hs
  rw [e1, ← l1, List.drop_left, ← h64, List.take_left]
end
end Go.Proofs.Ytmkfbedhmmijjaa
