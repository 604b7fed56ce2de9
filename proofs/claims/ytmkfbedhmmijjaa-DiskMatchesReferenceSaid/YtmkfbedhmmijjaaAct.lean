/- The law's own helpers: an operation's text, fill, size. -/
import Derived.Test.YtmkfbedhmmijjaaOps
namespace Go.Proofs.Ytmkfbedhmmijjaa
open Go.RowKit

/-- An operation as data. -/
structure AAct where
  kind : Int
  sector : Int
  bytes : Int
  txt : ByteArray
  odd : Bool
  after : Int
def In64 (x : Int) : Prop := -9223372036854775808 ≤ x ∧ x ≤ 9223372036854775807
structure AAct.Ok (a : AAct) : Prop where
  k : In64 a.kind
  s : In64 a.sector
  b : In64 a.bytes
  f : In64 a.after
def AAct.cells (a : AAct) : Array Value := #[.int .i64 a.kind, .int .i64 a.sector, .int .i64 a.bytes, .string a.txt, .bool a.odd, .int .i64 a.after]

/-- A text repeated. -/
def rep (t : ByteArray) : Nat → List UInt8
  | 0 => []
  | k + 1 => rep t k ++ t.data.toList
/-- The text of an operation: as it is, or repeated and cut to 64 bytes. -/
def AAct.text (a : AAct) : List UInt8 := if a.odd = true ∨ a.txt.size = 0 then a.txt.data.toList else (rep a.txt 64).take 64
theorem rep_length (t : ByteArray) (k : Nat) : (rep t k).length = k * t.size := by
  induction k with
  | zero => simp [rep]
  | succ k ih => simp only [rep, List.length_append, ih, Nat.succ_mul]; simp
theorem rep_take (t : ByteArray) (k : Nat) (hk : k ≤ 64) (h64 : 64 ≤ (rep t k).length) : (rep t 64).take 64 = (rep t k).take 64 := by
  have : ∀ j, (rep t (k + j)).take 64 = (rep t k).take 64 := by
    intro j
    induction j with
    | zero => rfl
    | succ j ih =>
      show (rep t (k + j) ++ t.data.toList).take 64 = _
      rw [List.take_append_of_le_length (by rw [rep_length] at h64 ⊢; exact Nat.le_trans h64 (Nat.mul_le_mul_right _ (by omega))), ih]
  have := this (64 - k)
  rwa [show k + (64 - k) = 64 from by omega] at this
theorem AAct.text_length (a : AAct) (h : ¬ (a.odd = true ∨ a.txt.size = 0)) : a.text.length = 64 := by
  unfold AAct.text
  rw [if_neg h, List.length_take, rep_length]
  have : 0 < a.txt.size := by rcases Nat.eq_zero_or_pos a.txt.size with e | e; exact absurd (.inr e) h; exact e
  omega

theorem text_plain (a : AAct) (w : World) (h : a.odd = true ∨ a.txt.size = 0) :
    Calls Try.prog 23 #[.agg a.cells] w fun e w' => e = .returned (text a.text) ∧ Below w.heap.size w w' := by
  have e1 : text a.text = .string a.txt := by unfold AAct.text; rw [if_pos h]; simp [text]
  rw [e1]
  obtain ⟨kind, sector, bytes, txt, odd, after⟩ := a
  unfold AAct.cells
  simp only at h ⊢
  cases odd with
  | true =>
    go_enter Try.func23, Try.ntmps23
    go_wp2
    go_ret
    exact ⟨rfl, (Below.refl _ _).alloc (Nat.le_refl _) _⟩
  | false =>
    have h0 : txt.size = 0 := by simpa using h
    have h1 : txt.toList = [] := by
      rw [Lib.toList_data]; exact List.eq_nil_of_length_eq_zero (by simpa using h0)
    have h2 : (!txt.toList.isEmpty) = false := by rw [h1]; rfl
    have h3 : txt.toList.isEmpty = true := by rw [h1]; rfl
    clear h h0
    go_enter Try.func23, Try.ntmps23
    go_wp2
    go_ret
    exact ⟨rfl, (Below.refl _ _).alloc (Nat.le_refl _) _⟩
theorem text_of (X : ByteArray) (l : List UInt8) (h : X.data.toList = l) : Value.string X = text l := by
  subst h; simp [text]
set_option maxHeartbeats 400000 in
theorem text_loop (kind sector bytes after : Int) (t : ByteArray) (w : World) (h0 : 0 < t.size) (h1 : t.size ≤ 100) :
    Calls Try.prog 23 #[.agg (AAct.cells ⟨kind, sector, bytes, t, false, after⟩)] w fun e w' => e = .returned (text ((rep t 64).take 64)) ∧ Below w.heap.size w w' := by
  have hne : t.toList.isEmpty = false := by
    rw [Lib.toList_data]
    cases hl : t.data.toList with
    | nil => exfalso; have : t.data.toList.length = t.size := by simp
             rw [hl] at this; simp at this; omega
    | cons _ _ => rfl
  have hne2 : (!t.toList.isEmpty) = true := by rw [hne]; rfl
  unfold AAct.cells
  simp only
  go_enter Try.func23, Try.ntmps23
  go_wp2_with fail
  go_loop [3] (fun v => ∃ (X : ByteArray) (k : Nat), k ≤ 64 ∧ v = .string X ∧ Hid (X.data.toList = rep t k) ∧ Hid (X.size = k * t.size) ∧ X.size ≤ 164) (fun v => match v with | .string X => 164 - X.size | _ => 0)
  case atStart => exact ⟨⟨#[]⟩, 0, by omega, rfl, (show (⟨#[]⟩ : ByteArray).data.toList = rep t 0 from rfl), (show (⟨#[]⟩ : ByteArray).size = 0 * t.size by simp; rfl), by decide⟩
  case round =>
    obtain ⟨X, k, hk, rfl, HX, HS, hX⟩ := hrel
    by_cases hlt : X.size < 64
    · have hadd : (X ++ t).data.toList = rep t (k + 1) := by simp [rep, HX.out]
      have hsz : (X ++ t).size = (k + 1) * t.size := by simp [HS.out, Nat.succ_mul]
      have hk1 : k + 1 ≤ 64 := by
        have := HS.out
        have h2 : k * 1 ≤ k * t.size := Nat.mul_le_mul_left k h0
        omega
      have hszb : (X ++ t).size = X.size + t.size := by simp
      have HA := Lib.hid hadd
      have HZ := Lib.hid hsz
      have HB := Lib.hid hszb
      clear hadd hsz hszb
      go_wp2
      go_round
      case rel => exact ⟨_, k + 1, hk1, rfl, HA.out, HZ.out, by rw [HB.out]; omega⟩
      case measure => have := HB.out; simp only []; omega
    · have hsl := run_head X 64 (by omega)
      have hfin : text ((rep t 64).take 64) = .string (X.extract 0 64) := by
        refine (text_of _ _ ?_).symm
        rw [Lib.extract_data, HX.out]
        have := rep_take t k hk (by rw [rep_length, ← HS.out]; omega)
        simpa using this.symm
      have HF := Lib.hid hfin
      clear hfin
      go_wp2
      go_ret
      rw [HF.out]
      exact ⟨rfl, (Below.refl _ _).alloc (Nat.le_refl _) _⟩

/-- Act.text. -/
theorem act_text (a : AAct) (w : World) (h : a.txt.size ≤ 100) : Calls Try.prog 23 #[.agg a.cells] w fun e w' => e = .returned (text a.text) ∧ Below w.heap.size w w' := by
  by_cases hp : a.odd = true ∨ a.txt.size = 0
  · exact text_plain a w hp
  · have e1 : a.text = (rep a.txt 64).take 64 := by unfold AAct.text; rw [if_neg hp]
    rw [e1]
    obtain ⟨kind, sector, bytes, t, odd, after⟩ := a
    have hodd : odd = false := by cases odd with
      | true => exact absurd (.inl rfl) hp
      | false => rfl
    subst hodd
    exact text_loop kind sector bytes after t w (by rcases Nat.eq_zero_or_pos t.size with e | e; exact absurd (.inr e) hp; exact e) h

/-- fill: 64 equal letters. -/
theorem fill_any (t : ByteArray) (w : World) (h : t.size ≤ 100) : Calls Try.prog 27 #[.string t] w fun e w' => e = .returned (text (AAct.text ⟨0, 0, 0, t, false, 0⟩)) ∧ Below w.heap.size w w' := by
  have HT := Lib.hid (fun W => act_text ⟨0, 0, 0, t, false, 0⟩ W h)
  unfold AAct.cells at HT
  simp only at HT
  go_enter Try.func27, Try.ntmps27
  go_wp2_with fail
  refine (HT.out _).mono ?_
  rintro e w1 ⟨rfl, hb⟩
  have HB := Lib.hid hb
  clear hb
  go_wp2
  go_ret
  exact ⟨rfl, HB.out⟩

theorem ret_int {k : IntKind} {a b : Int} (h : a = b) : Ending.returned (.int k a) = .returned (.int k b) := by rw [h]
/-- size: from 1 to 12 sectors. -/
theorem size_any (r : Nat) (w : World) (hr : r < 256) : Calls Try.prog 13 #[.int .u8 (r : Int)] w fun e w' => e = .returned (.int .i64 ((1 + r % 12 : Nat) : Int)) ∧ w = w' := by
  go_enter Try.func13, Try.ntmps13
  go_wp2
  go_ret
  exact ⟨ret_int (by omega), rfl⟩
end Go.Proofs.Ytmkfbedhmmijjaa
