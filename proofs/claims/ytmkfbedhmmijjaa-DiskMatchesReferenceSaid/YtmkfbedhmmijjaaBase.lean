/- Words for the walks over the disk: blocks that are known whole, worlds that differ from an older one at named blocks alone. -/
import Derived.Test.YtmkfbedhmmijjaaRows
import Derived.WalkKit
import Derived.WalkSpells
import Derived.WalkLawsBesides
import Derived.Lib.Hide
import Derived.Deep.Draws
import Derived.Test.YtmkfbedhmmijjaaPlain
namespace Go.Proofs.Ytmkfbedhmmijjaa
open Go.RowKit

/-- Block g is just the cells cs of element type t, none frozen. -/
def Blk (w : World) (g : Nat) (t : TypeId) (cs : Array Value) : Prop := w.heap[g]? = some (.cells cs t (0, 0))

section
variable {w w' : World} {g : Nat} {t : TypeId} {cs : Array Value}
theorem Blk.lt (h : Blk w g t cs) : g < w.heap.size := by
  rcases Nat.lt_or_ge g w.heap.size with hlt | hge
  · exact hlt
  · unfold Blk at h; rw [Array.getElem?_eq_none hge] at h; cases h
theorem Blk.cell (h : Blk w g t cs) (i : Nat) : w.cell? ⟨g, i, none⟩ = cs[i]? := cell_of_row w g i cs t (0, 0) h
theorem Blk.frozen (h : Blk w g t cs) (i : Nat) : w.frozen? ⟨g, i, none⟩ = false := by
  unfold Blk at h
  simp [World.frozen?, h]
theorem Blk.new (w : World) (t : TypeId) (cs : Array Value) : Blk (w.alloc (.cells cs t)) w.heap.size t cs := heap_alloc_new w _
theorem Blk.drew (h : Blk w g t cs) : Blk w.drew g t cs := h
theorem Blk.drewN (h : Blk w g t cs) (n : Nat) : Blk (w.drewN n) g t cs := h
theorem Blk.alloc (h : Blk w g t cs) (o : Obj) : Blk (w.alloc o) g t cs := (Below.heap_alloc w o g h.lt).trans h
theorem Blk.set_ (h : Blk w g t cs) (i : Nat) (u : Value) : Blk (w.setCell ⟨g, i, none⟩ u) g t (cs.setIfInBounds i u) := by
  unfold Blk at h ⊢
  simp [World.setCell, Array.getElem?_modify, h]
theorem Blk.below {B : Nat} (h : Blk w g t cs) (hb : Below B w w') (hg : g < B) : Blk w' g t cs := (hb.block g hg).trans h
theorem Blk.far (h : Blk w g t cs) {p : Addr} (hp : g ≠ p.block) (u : Value) : Blk (w.setCell p u) g t cs := (Below.heap_setCell w p u g hp).trans h
end

/-- The cells of bytes, and of pending writes. -/
def u8 (l : List UInt8) : List Value := l.map fun c => Value.int .u8 (c.toNat : Int)
def qc (q : List (Nat × List UInt8)) : List Value := q.flatMap fun p => [.int .i64 ((p.1 : Int) * 64), .int .i64 (((p.1 : Int) + 1) * 64), .string ⟨p.2.toArray⟩]
def ArmAt (w : World) (av : Value) : Option (Nat × Int × Int) → Prop
  | none => av = .pointer none
  | some (k, a, b) => ∃ ba, av = .pointer (some ⟨ba, 0, none⟩) ∧ Blk w ba 77 #[.int .i64 (k : Int), .int .i64 a, .int .i64 b]
def hdr (n bs be : Nat) (qv av : Value) (off : Bool) : Array Value :=
  #[.slice (some ⟨bs, 0, none⟩) (64 * n) (64 * n), .slice (some ⟨be, 0, none⟩) (64 * n) (64 * n), qv, .bool off, av]

/-- A disk lies at block d: its two rows of bytes, its queue and its alarm, each in a block of its own. -/
structure DiskAt (w : World) (d n bs be : Nat) (qv av : Value) (D : Dsk) : Prop where
  ok : D.Ok n
  blk : Blk w d 61 (hdr n bs be qv av D.off)
  st : Blk w bs 5 (u8 D.st.flatten).toArray
  el : Blk w be 5 (u8 D.el.flatten).toArray
  ne : bs ≠ be
  q : w.ownsRow 0 71 3 qv D.q.length (qc D.q)
  arm : ArmAt w av D.arm

/-- w' is w with new blocks and with changes to blocks of F alone. -/
structure Only (F : Nat → Prop) (w w' : World) : Prop where
  os : w'.os = w.os
  tape : w'.tape = w.tape
  output : w'.output = w.output
  size : w.heap.size ≤ w'.heap.size
  block : ∀ k, k < w.heap.size → ¬ F k → w'.heap[k]? = w.heap[k]?

section
variable {F F' : Nat → Prop} {w w' w'' : World}
theorem Only.refl (F : Nat → Prop) (w : World) : Only F w w := ⟨rfl, rfl, rfl, Nat.le_refl _, fun _ _ _ => rfl⟩
theorem Only.trans (h : Only F w w') (h' : Only F' w' w'') (hF : ∀ k, k < w.heap.size → F' k → F k) : Only F w w'' :=
  ⟨h'.os.trans h.os, h'.tape.trans h.tape, h'.output.trans h.output, Nat.le_trans h.size h'.size, fun k hk hn =>
    (h'.block k (Nat.lt_of_lt_of_le hk h.size) (fun hf => hn (hF k hk hf))).trans (h.block k hk hn)⟩
theorem Only.mono (h : Only F w w') (hF : ∀ k, k < w.heap.size → F k → F' k) : Only F' w w' := ⟨h.os, h.tape, h.output, h.size, fun k hk hn => h.block k hk (fun hf => hn (hF k hk hf))⟩
theorem Only.of_below (h : Below w.heap.size w w') (F : Nat → Prop) : Only F w w' := ⟨h.os, h.tape, h.output, h.size, fun k hk _ => h.block k hk⟩
theorem Only.below (h : Only F w w') {B : Nat} (hB : B ≤ w.heap.size) (hF : ∀ k, F k → B ≤ k) : Below B w w' :=
  ⟨h.os, h.tape, h.output, h.size, fun k hk => h.block k (by omega) (fun hf => by have := hF k hf; omega)⟩
theorem Only.drew (h : Only F w w') : Only F w w'.drew := ⟨h.os, h.tape, h.output, h.size, h.block⟩
theorem Only.drewN (h : Only F w w') (n : Nat) : Only F w (w'.drewN n) := ⟨h.os, h.tape, h.output, h.size, h.block⟩
theorem Only.alloc (h : Only F w w') (o : Obj) : Only F w (w'.alloc o) :=
  ⟨h.os, h.tape, h.output, Nat.le_trans h.size (by simp), fun k hk hn => (Below.heap_alloc w' o k (Nat.lt_of_lt_of_le hk h.size)).trans (h.block k hk hn)⟩
theorem Only.setCell (h : Only F w w') {p : Addr} (hp : p.block < w.heap.size → F p.block) (u : Value) : Only F w (w'.setCell p u) :=
  ⟨h.os, h.tape, h.output, by simpa [World.setCell] using h.size, fun k hk hn => (Below.heap_setCell w' p u k (by rintro rfl; exact hn (hp hk))).trans (h.block k hk hn)⟩
theorem Only.setRow (h : Only F w w') {g : Nat} (hp : g < w.heap.size → F g) (cs : Array Value) : Only F w (w'.setRow g cs) :=
  ⟨h.os, h.tape, h.output, by simpa [World.setRow] using h.size, fun k hk hn => (setRow_other w' g k cs (by rintro rfl; exact hn (hp hk))).trans (h.block k hk hn)⟩
theorem Only.grown (h : Only F w w') {row : Option Nat} (hg : w'.grownBy w'' row) (hr : ∀ k, row = some k → k < w.heap.size → F k) : Only F w w'' :=
  h.trans (F' := fun k => row = some k) ⟨hg.os, hg.tape, hg.output, hg.size, fun k hk hn => hg.block k hk (fun e => hn e.symm)⟩ (fun k hk hf => hr k hf hk)
theorem Only.blk (h : Only F w w') {g : Nat} {t : TypeId} {cs : Array Value} (hb : Blk w g t cs) (hn : ¬ F g) : Blk w' g t cs := (h.block g hb.lt hn).trans hb
theorem Only.own (h : Only F w w') {base : Nat} {e : TypeId} {size n : Nat} {v : Value} {xs : List Value} (hq : w.ownsRow base e size v n xs) (hn : ∀ k, v.ownBlock = some k → ¬ F k) : w'.ownsRow base e size v n xs := by
  refine ⟨hq.1, ?_⟩
  rcases hq.2 with h2 | ⟨g, cap, cur, rfl, hb, hg, rest⟩
  · exact .inl h2
  · refine .inr ⟨g, cap, cur, rfl, hb, ?_, rest⟩
    rw [h.block g (Array.getElem?_eq_some_iff.1 hg).1 (hn g rfl)]
    exact hg
theorem Only.armAt (h : Only F w w') {av : Value} {a : Option (Nat × Int × Int)} (hq : ArmAt w av a) (hn : ∀ k, av = .pointer (some ⟨k, 0, none⟩) → ¬ F k) : ArmAt w' av a := by
  match a, hq with
  | none, hq => exact hq
  | some (k, x, y), ⟨ba, e, hb⟩ => exact ⟨ba, e, h.blk hb (hn ba e)⟩
end

section
variable {w w' : World} {g : Nat} {t : TypeId} {cs : Array Value}
theorem Blk.ne_ {g' : Nat} {t' : TypeId} {cs' : Array Value} (h : Blk w g t cs) (h' : Blk w g' t' cs') (hne : t ≠ t') : g ≠ g' := by
  rintro rfl
  unfold Blk at h h'
  rw [h] at h'
  injection h' with h'
  injection h' with _ ht
  exact hne ht
theorem own_blk_ne {base : Nat} {e : TypeId} {size n : Nat} {v : Value} {xs : List Value} (h : w.ownsRow base e size v n xs) (hg : Blk w g t cs) (hne : e ≠ t) : v.ownBlock ≠ some g := by
  rcases h.2 with ⟨rfl, _⟩ | ⟨g', cap, cur, rfl, _, hh, _⟩
  · simp [Value.ownBlock]
  · intro he
    have : g' = g := by simpa [Value.ownBlock] using he
    subst this
    exact Blk.ne_ (t := e) hh hg hne rfl
end

end Go.Proofs.Ytmkfbedhmmijjaa
