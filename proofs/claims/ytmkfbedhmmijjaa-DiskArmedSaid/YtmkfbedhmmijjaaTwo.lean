/- Two disks side by side: neither's methods touch the other. -/
import Derived.Test.YtmkfbedhmmijjaaOwnP
namespace Go.Proofs.Ytmkfbedhmmijjaa
open Go.RowKit
def Two (w : World) (B a b n : Nat) (Da Db : Dsk) : Prop :=
  ∃ Fa Fb : Nat → Prop, Disk w Fa a n Da ∧ Disk w Fb b n Db ∧ (∀ x, Fa x → B ≤ x ∧ x < w.heap.size ∧ ¬ Fb x) ∧ (∀ x, Fb x → B ≤ x ∧ x < w.heap.size) ∧ B ≤ w.heap.size
section
variable {w w' : World} {B a b n : Nat} {Da Db Da' Db' : Dsk}
theorem Two.symm (h : Two w B a b n Da Db) : Two w B b a n Db Da := by
  obtain ⟨Fa, Fb, h1, h2, h3, h4, h5⟩ := h
  exact ⟨Fb, Fa, h2, h1, fun x hx => ⟨(h4 x hx).1, (h4 x hx).2, fun ha => (h3 x ha).2.2 hx⟩, fun x hx => ⟨(h3 x hx).1, (h3 x hx).2.1⟩, h5⟩
theorem Two.size (h : Two w B a b n Da Db) : B ≤ w.heap.size := by obtain ⟨_, _, _, _, _, _, h5⟩ := h; exact h5
theorem Two.okA (h : Two w B a b n Da Db) : Da.Ok n := by obtain ⟨_, _, h1, _⟩ := h; exact h1.ok
theorem Two.below (h : Two w B a b n Da Db) (hb : Below w.heap.size w w') : Two w' B a b n Da Db := by
  obtain ⟨Fa, Fb, h1, h2, h3, h4, h5⟩ := h
  exact ⟨Fa, Fb, h1.below hb, h2.below hb, fun x hx => ⟨(h3 x hx).1, Nat.lt_of_lt_of_le (h3 x hx).2.1 hb.size, (h3 x hx).2.2⟩, fun x hx => ⟨(h4 x hx).1, Nat.lt_of_lt_of_le (h4 x hx).2 hb.size⟩, Nat.le_trans h5 hb.size⟩
/-- Two disks made one after the other. -/
theorem Two.made (h : Own w B a n Da) (hb : Below w.heap.size w w') (h' : Own w' w.heap.size b n Db) : Two w' B a b n Da Db := by
  refine ⟨fun x => B ≤ x ∧ x < w.heap.size, fun x => w.heap.size ≤ x ∧ x < w'.heap.size, Disk.below (h.disk.mono (fun x hx hB => ⟨hB, hx⟩)) hb, h'.disk.mono (fun x hx hB => ⟨hB, hx⟩), fun x hx => ⟨hx.1, Nat.lt_of_lt_of_le hx.2 hb.size, fun h => by omega⟩,
    fun x hx => ⟨Nat.le_trans h.size hx.1, hx.2⟩, Nat.le_trans h.size hb.size⟩
theorem Two.stepA {f : FuncId} {args : Array Value} {R : Ending → Prop} (h : Two w B a b n Da Db)
    (hc : ∀ P, OwnP w B P a n Da → Calls Try.prog f args w fun e w' => R e ∧ OwnP w' B P a n Da' ∧ Turned B P w w') :
    Calls Try.prog f args w fun e w' => R e ∧ Two w' B a b n Da' Db ∧ Below B w w' := by
  obtain ⟨Fa, Fb, h1, h2, h3, h4, h5⟩ := h
  have ho : OwnP w B Fb a n Da := ⟨h1.mono (fun x _ hx => ⟨(h3 x hx).1, (h3 x hx).2.2⟩), h5, fun x hx => (h4 x hx).2⟩
  refine (hc Fb ho).mono fun e w' ⟨hr, ho', ht⟩ => ⟨hr, ⟨fun x => Free B Fb x ∧ x < w'.heap.size, Fb, ho'.disk.mono (fun x hx hF => ⟨hF, hx⟩), h2.keep ht (fun x hx hF => hF.2 hx), fun x hx => ⟨hx.1.1, hx.2, hx.1.2⟩, fun x hx => ⟨(h4 x hx).1, Nat.lt_of_lt_of_le (h4 x hx).2 ht.size⟩, ho'.size⟩, ht.below h5⟩
theorem Two.stepB {f : FuncId} {args : Array Value} {R : Ending → Prop} (h : Two w B a b n Da Db)
    (hc : ∀ P, OwnP w B P b n Db → Calls Try.prog f args w fun e w' => R e ∧ OwnP w' B P b n Db' ∧ Turned B P w w') :
    Calls Try.prog f args w fun e w' => R e ∧ Two w' B a b n Da Db' ∧ Below B w w' :=
  (Two.stepA h.symm hc).mono fun _ _ ⟨hr, ht, hb⟩ => ⟨hr, ht.symm, hb⟩
theorem Two.contA (h : Two w B a b n Da Db) (hoff : Da.off = false) (hbig : Da.q.length ≤ 1000000) : Calls Try.prog 21 #[.pointer (some ⟨a, 0, none⟩), .int .i64 (n : Int)] w fun e w' =>
    ∃ v, e = .returned (.tuple #[v, .bool true]) ∧ TextsAt w' 0 v (Da.all n) ∧ Two w' B a b n Da Db ∧ Below w.heap.size w w' := by
  obtain ⟨Fa, Fb, h1, _⟩ := id h
  refine (contents_on Fa a n Da w h1 hoff hbig).mono fun _ w' ⟨v, he, hT, hb⟩ => ⟨v, he, ?_, h.below hb, hb⟩
  refine ⟨hT.1, ?_⟩
  rcases hT.2 with h2 | ⟨g, cap, cur, e, hg, r⟩
  · exact .inl h2
  · exact .inr ⟨g, cap, cur, e, Nat.zero_le _, r⟩
theorem Two.contB (h : Two w B a b n Da Db) (hoff : Db.off = false) (hbig : Db.q.length ≤ 1000000) : Calls Try.prog 21 #[.pointer (some ⟨b, 0, none⟩), .int .i64 (n : Int)] w fun e w' =>
    ∃ v, e = .returned (.tuple #[v, .bool true]) ∧ TextsAt w' 0 v (Db.all n) ∧ Two w' B a b n Da Db ∧ Below w.heap.size w w' :=
  (Two.contA h.symm hoff hbig).mono fun _ _ ⟨v, he, hT, ht, hb⟩ => ⟨v, he, hT, ht.symm, hb⟩
end
/-! ### P45.6 as plain data -/
theorem all_eq {D D' : Dsk} (n : Nat) (h : D.q = []) (h' : D'.q = []) (hs : D.st = D'.st) : D.all n = D'.all n := by
  unfold Dsk.all
  exact List.map_congr_left (fun s _ => by rw [rd_nil D s h, rd_nil D' s h', hs])
theorem fail_full {D : Dsk} (hoff : D.off = false) (a b : Int) (h : (D.q.length : Int) ≤ a) : D.fail a b = { D.settle D.q with q := [], off := true, arm := none } := by
  unfold Dsk.fail
  rw [if_neg (by rw [hoff]; simp), List.take_of_length_le (by omega), List.drop_eq_nil_of_le (by omega)]
  rfl
theorem fail_twice {D : Dsk} (h : D.off = true) (a b : Int) : D.fail a b = D := by unfold Dsk.fail; rw [if_pos h]
end Go.Proofs.Ytmkfbedhmmijjaa
