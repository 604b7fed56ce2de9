/- An argument that is a slice of operations, opened. -/
import Derived.Test.YtmkfbedhmmijjaaHead
import Derived.ProofKit
import Derived.OpenShut
import Derived.ShutString
import Derived.ChangeOld
import Derived.Deep.Slices
import Derived.Deep.Fields
import Derived.ChangeSame
namespace Go.Proofs.Ytmkfbedhmmijjaa
open Go.ChangeShapes Go.WideShapes Go.Deep Go.ChangeAt Go.RowKit
theorem own : ownKnob Try.prog.godebug = none := by kernel_rfl
theorem laidOut : laidOutB Try.prog = true := by kernel_rfl
theorem cells34 : Try.prog.cellsOf 34 = 6 := by kernel_rfl
theorem spot_none {w : World} {b off : Nat} {s : Option Nat} {v : Value} (h : w.cell? ⟨b, off, s⟩ = some v) : s = none := by simpa using World.cell?_spot h

section
variable {H : Type} {enc : TypeId × Value → H} {P : Program} {w : World} {base : Nat} {spare : Nat → Bool} {held : Bool}
/-- An argument that is a slice of structs of one-cell fields: each element's fields (the guide's extra-structs.md, its first text). -/
theorem open_slice_fields {t e : TypeId} {fs : Array Field} {fuel : Nat} {cs : List Value} {x : DataW H × List MemPlace} (ht : P.underlying t = some (.slice e)) (he : P.underlying e = some (.struct fs))
    (hone : oneCellFields P fs = true) (hC : P.cellsOf e = fs.size) (h : DataW.trod enc P w base spare held fuel t cs = some x) :
    (cs = [.slice none 0 0] ∧ x = (.nil, [])) ∨
    ∃ (a : Addr) (len cap m : Nat) (D : Nat → DataW H) (Pl : Nat → List MemPlace), cs = [.slice (some a) len cap] ∧ base ≤ a.block ∧ len ≤ cap ∧ cap ≤ maxLen ∧ m = (if spare a.block then cap else len) ∧
      x = (.slice ((List.range len).map D) ((List.range (m - len)).map fun j => D (len + j)), MemPlace.row a (m * fs.size) ++ (List.range m).flatMap Pl) ∧
      ∀ i, i < m → ∃ (ys : List (DataW H × List MemPlace)) (n : Nat), D i = .agg (ys.map (·.1)) ∧ Pl i = ys.flatMap (·.2) ∧ ys.length = fs.size ∧
        ∀ (j : Nat) (f : Field), fs[j]? = some f → ∃ (v : Value) (y : DataW H × List MemPlace), w.cell? (a.add (i * fs.size + j)) = some v ∧ ys[j]? = some y ∧ DataW.trod enc P w base spare held n f.type [v] = some y := by
  rcases open_slice ht h with h0 | ⟨a, len, cap, m, n, D, Pl, hcs, hb, hl, hm, hmm, hx, hi⟩
  · exact .inl h0
  · refine .inr ⟨a, len, cap, m, D, Pl, hcs, hb, hl, hm, hmm, by rw [hC] at hx; exact hx, fun i him => ?_⟩
    obtain ⟨cs', hc, ht'⟩ := hi i him
    rw [hC] at hc
    obtain ⟨ys, n', hn', hy, hlen, hyl, hf⟩ := DataW.trod_struct he ht'
    obtain ⟨_, hcl, hat⟩ := World.cells?_some hc
    simp only [Prod.mk.injEq] at hy
    refine ⟨ys, n', hy.1, hy.2, hyl, fun j f hj => ?_⟩
    obtain ⟨ho, hk⟩ := hone_of hone j f hj
    have hjl : j < fs.size := (Array.getElem?_eq_some_iff.1 hj).1
    have hcell := hat j hjl
    have hv : cs'[j]? = some (cs'[j]'(by omega)) := List.getElem?_eq_getElem (by omega)
    have h1 := hf j f hj
    rw [ho, hk] at h1
    have hone' : (cs'.drop j).take 1 = [cs'[j]'(by omega)] := by
      rw [List.drop_eq_getElem_cons (by omega)]
      rfl
    rw [hone'] at h1
    have hys : ys[j]? = some (ys[j]'(by omega)) := List.getElem?_eq_getElem (by omega)
    refine ⟨_, _, ?_, hys, h1.trans hys⟩
    rw [← Go.Deep.add_add, hcell, hv]

/-- A slice of operations: what the walks ask of it. -/
theorem open_acts {fuel : Nat} {A : Option Addr} {len cap : Nat} {x : DataW H × List MemPlace} (h : DataW.trod enc Try.prog w base spare held fuel 22 [.slice A len cap] = some x) :
    ∃ l : List AAct, l.length = len ∧ ActsAt w A l ∧ (∀ a ∈ l, a.Ok) ∧ len ≤ maxLen := by
  rcases open_slice_fields Try.underlying22 Try.underlying34 (by kernel_rfl) (by kernel_rfl) h with ⟨hcs, _⟩ | ⟨a, l, c, m, D, Pl, hcs, hb, hl, hm, hmm, hx, hi⟩
  · simp only [List.cons.injEq, Value.slice.injEq, and_true] at hcs
    obtain ⟨rfl, rfl, rfl⟩ := hcs
    exact ⟨[], rfl, (fun h => absurd h (by decide)), (fun _ h => by cases h), Nat.zero_le _⟩
  · simp only [List.cons.injEq, Value.slice.injEq, and_true] at hcs
    obtain ⟨rfl, rfl, rfl⟩ := hcs
    have hlm : len ≤ m := by rw [hmm]; split <;> omega
    have hel : ∀ i, i < len → ∃ b : AAct, b.Ok ∧ ∀ j v, b.cells[j]? = some v → w.cell? (a.add (i * 6 + j)) = some v := by
      intro i hil
      obtain ⟨ys, n, _, _, _, hf⟩ := hi i (by omega)
      have gi : ∀ {j : Nat} {v : Value} {y : DataW H × List MemPlace}, w.cell? (a.add (i * 6 + j)) = some v → DataW.trod enc Try.prog w base spare held n 3 [v] = some y → ∃ z : Int, In64 z ∧ w.cell? (a.add (i * 6 + j)) = some (.int .i64 z) := by
        intro j v y hcell ht
        obtain ⟨z, hvz, _, wz⟩ := DataW.trod_int Try.underlying3 ht
        simp only [List.cons.injEq, and_true] at hvz
        subst hvz
        exact ⟨z, bounds_i64 wz, hcell⟩
      obtain ⟨v0, y0, c0, _, t0⟩ := hf 0 _ rfl
      obtain ⟨v1, y1, c1, _, t1⟩ := hf 1 _ rfl
      obtain ⟨v2, y2, c2, _, t2⟩ := hf 2 _ rfl
      obtain ⟨v3, y3, c3, _, t3⟩ := hf 3 _ rfl
      obtain ⟨v4, y4, c4, _, t4⟩ := hf 4 _ rfl
      obtain ⟨v5, y5, c5, _, t5⟩ := hf 5 _ rfl
      obtain ⟨k, ok, ck⟩ := gi c0 t0
      obtain ⟨s, os, csec⟩ := gi c1 t1
      obtain ⟨b, ob, cb⟩ := gi c2 t2
      obtain ⟨f5, of5, cf⟩ := gi c5 t5
      obtain ⟨t, hvt, _⟩ := DataW.trod_string Try.underlying9 t3
      simp only [List.cons.injEq, and_true] at hvt
      subst hvt
      obtain ⟨o, hvo, _⟩ := DataW.trod_bool Try.underlying4 t4
      simp only [List.cons.injEq, and_true] at hvo
      subst hvo
      refine ⟨⟨k, s, b, t, o, f5⟩, ⟨ok, os, ob, of5⟩, fun j v hj => ?_⟩
      match j, hj with
      | 0, hj => injection hj with hj; subst hj; exact ck
      | 1, hj => injection hj with hj; subst hj; exact csec
      | 2, hj => injection hj with hj; subst hj; exact cb
      | 3, hj => injection hj with hj; subst hj; exact c3
      | 4, hj => injection hj with hj; subst hj; exact c4
      | 5, hj => injection hj with hj; subst hj; exact cf
      | j + 6, hj => simp [AAct.cells] at hj
    obtain ⟨g, hg⟩ : ∃ g : Nat → AAct, ∀ i, i < len → (g i).Ok ∧ ∀ j v, (g i).cells[j]? = some v → w.cell? (a.add (i * 6 + j)) = some v :=
      ⟨fun i => if h : i < len then Classical.choose (hel i h) else ⟨0, 0, 0, ByteArray.empty, false, 0⟩, fun i h => by simp only [dif_pos h]; exact Classical.choose_spec (hel i h)⟩
    refine ⟨(List.range len).map g, by simp, fun h0 => ?_, fun b hb => ?_, by omega⟩
    · have hl0 : 0 < len := by simpa using h0
      obtain ⟨ab, ao, asp⟩ := a
      have hc0 := (hg 0 hl0).2 0 _ rfl
      have hsn : asp = none := by
        have : (⟨ab, ao, asp⟩ : Addr).add (0 * 6 + 0) = ⟨ab, ao, asp⟩ := by simp [Addr.add]
        rw [this] at hc0
        exact spot_none hc0
      subst hsn
      refine ⟨ab, ao, rfl, ?_, fun i hi j v hv => ?_⟩
      · have := World.block_lt_of_cell? w _ hc0
        simpa [Addr.add] using this
      · have hil : i < len := by simpa using hi
        have := (hg i hil).2 j v (by simpa using hv)
        rwa [add_spot] at this
    · simp only [List.mem_map, List.mem_range] at hb
      obtain ⟨i, hi, rfl⟩ := hb
      exact (hg i hi).1
end
end Go.Proofs.Ytmkfbedhmmijjaa
