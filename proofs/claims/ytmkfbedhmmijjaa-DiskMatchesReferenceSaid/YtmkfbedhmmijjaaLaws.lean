/- Laws for the walks over the disk: a region whose operations but the last read only, in a world that is a letter; copy into a block that is known whole. -/
import Derived.Test.YtmkfbedhmmijjaaBase
import Derived.BigQuiet
import Derived.Outline
import Derived.StillTailTactics
import Derived.Lib.BufferWrite
import Derived.Deep.AppendLies
namespace Go.Proofs.Ytmkfbedhmmijjaa
open Go.RowKit

section
variable {P : Program}
/-- A region that draws its order and whose last operations stand in one order: the world behind the draw is a letter of which R is known. -/
theorem region_tail {id : Nat} {Q : Exit → Act → World → Prop} {a : Act} {w : World} {l : List Oper} (n : Nat) (R : World → Prop) (hR : R w.drew) (hm : P.follows .mixedOrders = true) (hB : Region.lexTailB .any l.toArray n = true)
    (h : ∀ W, R W → wpStill P l.toArray W (fun a' => wpList P l.toArray Q (l.drop n) a' W) (l.take n) a) : (Code.region id l.toArray true).wp P Q a w :=
  wp_region_still_tail n hm hB (h w.drew hR)

/-- A region that draws its order and only reads. -/
theorem region_still {id : Nat} {Q : Exit → Act → World → Prop} {a : Act} {w : World} {l : List Oper} (R : World → Prop) (hR : R w.drew) (hm : P.follows .mixedOrders = true) (hB : Region.lexB .any l.toArray = true)
    (h : ∀ W, R W → wpStill P l.toArray W (fun a' => Q .normal a' W) l a) : (Code.region id l.toArray true).wp P Q a w :=
  wp_region_still_lit hm hB (h w.drew hR)

theorem wpList_copy_blk {w : World} {ops : Array Oper} {rest : List Oper} {o : Oper} {a : Act} {Q : Exit → Act → World → Prop} (hgd : o.guard = none) (d s : Operand) (dT sT : TypeId)
    (ho : o.op = .call { callee := .builtin .copy, args := #[d, s], argTypes := #[dT, sT] }) (elem : TypeId) (hu : P.underlying dT = some (.slice elem)) (hsz : (P.info? elem).map (·.size) = some 1)
    (g off dLen dCap : Nat) (ad : Addr) (sLen sCap : Nat) (hd : a.eval d = .slice (some ⟨g, off, none⟩) dLen dCap) (hs : a.eval s = .slice (some ad) sLen sCap)
    (cur : Array Value) (t : TypeId) (hg : Blk w g t cur) (cs : List Value) (hn : cs.length = Nat.min sLen dLen)
    (hsrc : ∀ j v, cs[j]? = some v → w.cell? (ad.add j) = some v) (hfit : off + cs.length ≤ cur.size) (h1 : ∀ v ∈ cs, v.oneCell' = true)
    (h : ∀ w', Blk w' g t (cur.toList.take off ++ (cs ++ cur.toList.drop (off + cs.length))).toArray → Only (fun b => b = g) w w' → wpList P ops Q rest (a.put o.dst (goInt cs.length)) w') : wpList P ops Q (o :: rest) a w := by
  refine wpList_plain hgd fun K hK => ?_
  have hrun := run_copy_row (P := P) w dT sT o.type elem g off dLen dCap ad sLen sCap cur t cs hu hsz hg hn hsrc hfit h1
  unfold Oper.wp
  simp [execOp, ho, resolve, invoke, builtin, hd, hs, hrun, Result.andThen]
  refine hK _ _ (h _ ?_ ((Only.refl (fun b => b = g) w).setRow (fun _ => rfl) _))
  exact setRow_heap w g _ _ t _ hg

theorem wpList_copy_text {w : World} {ops : Array Oper} {rest : List Oper} {o : Oper} {a : Act} {Q : Exit → Act → World → Prop} (hgd : o.guard = none) (d s : Operand) (dT sT : TypeId)
    (ho : o.op = .call { callee := .builtin .copy, args := #[d, s], argTypes := #[dT, sT] }) (elem : TypeId) (hu : P.underlying dT = some (.slice elem)) (hsz : (P.info? elem).map (·.size) = some 1)
    (g off dLen dCap : Nat) (t0 : ByteArray) (hd : a.eval d = .slice (some ⟨g, off, none⟩) dLen dCap) (hs : a.eval s = .string t0)
    (cur : Array Value) (t : TypeId) (hg : Blk w g t cur) (hle : t0.size ≤ dLen) (hfit : off + t0.size ≤ cur.size)
    (h : ∀ w', Blk w' g t (cur.toList.take off ++ (u8 t0.data.toList ++ cur.toList.drop (off + t0.size))).toArray → Only (fun b => b = g) w w' → wpList P ops Q rest (a.put o.dst (goInt t0.size)) w') : wpList P ops Q (o :: rest) a w := by
  refine wpList_plain hgd fun K hK => ?_
  have hrun := Lib.run_copy_row_string (P := P) w dT sT o.type elem g off dLen dCap t0 cur t hu hsz hg hle hfit
  unfold Oper.wp
  simp only [execOp, ho, resolve, invoke, builtin, Sem.run_bind, Sem.run_pure, Result.andThen_ok, List.map_toArray, List.map_cons, List.map_nil, hd, hs, hrun]
  refine hK _ _ (h _ ?_ ((Only.refl (fun b => b = g) w).setRow (fun _ => rfl) _))
  show (_ : World).heap[g]? = some (.cells (cur.toList.take off ++ (Lib.byteCells t0.data.toList ++ cur.toList.drop (off + t0.size))).toArray t (0, 0))
  rw [← List.append_assoc]
  exact setRow_heap w g _ _ t _ hg
end

theorem byte_size : (Try.prog.info? 5).map (·.size) = some 1 := by kernel_rfl
/-- A cut out of the middle of a slice of bytes. -/
theorem run_cut (g len cap L H : Nat) (l h : Int) (hl : l = L) (hh : h = H) (h1 : L ≤ H) (h2 : H ≤ cap) (h3 : L < cap) (w : World) :
    (Instr.slice 57 (.slice (some ⟨g, 0, none⟩) len cap) (some (.int .i64 l)) (some (.int .i64 h)) none).run Try.prog w = .ok (.slice (some ⟨g, L, none⟩) (H - L) (cap - L)) w := by
  obtain ⟨i, hi, hs⟩ : ∃ i, Try.prog.info? 5 = some i ∧ i.size = 1 := by
    cases hq : Try.prog.info? 5 with
    | none => have := byte_size; rw [hq] at this; cases this
    | some i => refine ⟨i, rfl, ?_⟩; have := byte_size; rw [hq] at this; simpa using this
  subst hl hh
  have e1 : ¬ cap = L := by omega
  simp [Instr.slice, run_underlying Try.underlying57, Instr.sliceBounds, Instr.sliceBound, asIntOf, sizeOf, typeInfo, hi, hs, e1, h1, h2, Addr.add_lit]
end Go.Proofs.Ytmkfbedhmmijjaa
