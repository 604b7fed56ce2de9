/- The reference's disk in memory, as the same plain data: its header, its two rows of texts and its queue; set. -/
import Derived.Test.YtmkfbedhmmijjaaLists
namespace Go.Proofs.Ytmkfbedhmmijjaa
open Go.RowKit
/-- The cells of pending writes of the reference. -/
def qr (q : List (Nat × List UInt8)) : List Value := q.flatMap fun p => [.int .i64 (p.1 : Int), text p.2]
def ArmR (am : Bool) (f x y : Int) (a : Option (Nat × Int × Int)) : Prop := (In64 f ∧ In64 x ∧ In64 y) ∧ ((am = false ∧ a = none) ∨ (am = true ∧ 0 ≤ f ∧ a = some (f.toNat, x, y)))
def hdrR (n bs be cs ce : Nat) (qv : Value) (on am : Bool) (f x y : Int) : Array Value :=
  #[.slice (some ⟨bs, 0, none⟩) n cs, .slice (some ⟨be, 0, none⟩) n ce, qv, .bool on, .bool am, .int .i64 f, .int .i64 x, .int .i64 y]
structure RefAt (w : World) (d n bs be cs ce : Nat) (qv : Value) (am : Bool) (f x y : Int) (D : Dsk) : Prop where
  ok : D.Ok n
  blk : Blk w d 64 (hdrR n bs be cs ce qv (!D.off) am f x y)
  st : TextsAt w 0 (.slice (some ⟨bs, 0, none⟩) n cs) D.st
  el : TextsAt w 0 (.slice (some ⟨be, 0, none⟩) n ce) D.el
  ne : bs ≠ be
  q : w.ownsRow 0 73 2 qv D.q.length (qr D.q)
  arm : ArmR am f x y D.arm
/-- The reference's disk by its footprint. -/
def Ref (w : World) (F : Nat → Prop) (d n : Nat) (D : Dsk) : Prop :=
  ∃ bs be cs ce qv am f x y, RefAt w d n bs be cs ce qv am f x y D ∧ F d ∧ F bs ∧ F be ∧ (∀ k, qv.ownBlock = some k → F k)

theorem map_text_set (xs : List (List UInt8)) (k : Nat) (t : List UInt8) : (xs.set k t).map text = (xs.map text).set k (text t) := by rw [List.map_set]
section
variable {w w' : World} {g m cap k : Nat} {xs : List (List UInt8)} {t : List UInt8} {v : Value}
theorem rt_at (h : TextsAt w 0 (.slice (some ⟨g, 0, none⟩) m cap) xs) (hm : xs.length = m) (hk : k < m) : w.cell? ⟨g, k, none⟩ = some (text (xs.getD k [])) := by
  subst hm
  rw [h.cell hk]
  simp [List.getElem?_eq_getElem hk]
theorem rt_soft (h : TextsAt w 0 (.slice (some ⟨g, 0, none⟩) m cap) xs) (i : Nat) : w.frozen? ⟨g, i, none⟩ = false := by
  obtain ⟨hl, h2⟩ := h
  rcases h2 with ⟨hx, _⟩ | ⟨g', cap', cur, hx, hb, hh, _⟩
  · cases hx
  · simp only [Value.slice.injEq, Option.some.injEq, Addr.mk.injEq, and_true] at hx
    obtain ⟨rfl, _, rfl⟩ := hx
    exact (show Blk w g 9 cur from hh).frozen i
theorem rt_put (h : TextsAt w 0 (.slice (some ⟨g, 0, none⟩) m cap) xs) (hm : xs.length = m) (k : Nat) (t : List UInt8) : TextsAt (w.setCell ⟨g, k, none⟩ (text t)) 0 (.slice (some ⟨g, 0, none⟩) m cap) (xs.set k t) := by
  subst hm
  obtain ⟨hl, h2⟩ := h
  rcases h2 with ⟨hx, _⟩ | ⟨g', cap', cur, hx, hb, hh, h3, h4, h5, h6⟩
  · cases hx
  · simp only [Value.slice.injEq, Option.some.injEq, Addr.mk.injEq, true_and, and_true] at hx
    obtain ⟨rfl, rfl⟩ := hx
    refine ⟨by simp, .inr ⟨g, cap, cur.setIfInBounds k (text t), by simp, hb, (Blk.set_ (show Blk w g 9 cur from hh) k _), by simpa using h3, h4, by simpa using h5, ?_⟩⟩
    rw [map_text_set, ← h6]
    simp [Array.toList_setIfInBounds, List.take_set]
theorem rt_far (h : TextsAt w 0 v xs) (hg : v.ownBlock ≠ some g) (u : Value) : TextsAt (w.setCell ⟨g, k, none⟩ u) 0 v xs :=
  ((Only.refl (fun b => b = g) w).setCell (p := ⟨g, k, none⟩) (fun _ => rfl) u).own h (fun b hb e => hg (by rw [hb, e]))
theorem rt_lt (h : TextsAt w 0 (.slice (some ⟨g, 0, none⟩) m cap) xs) (hm : xs.length = m) (h0 : 0 < m) : g < w.heap.size := by
  subst hm
  obtain ⟨A, c, e, hf⟩ := h.form
  simp only [Value.slice.injEq] at e
  obtain ⟨g', e2, hl⟩ := hf h0
  rw [← e.1] at e2
  simp only [Option.some.injEq, Addr.mk.injEq, and_true] at e2
  rw [e2]; exact hl
end

section
variable {w w' : World} {d n bs be cs ce : Nat} {qv : Value} {am : Bool} {f x y : Int} {D D' : Dsk} {F : Nat → Prop}
theorem RefAt.keep (h : RefAt w d n bs be cs ce qv am f x y D) (ho : Only F w w') (h1 : ¬ F d) (h2 : ¬ F bs) (h3 : ¬ F be) (h4 : ∀ k, qv.ownBlock = some k → ¬ F k) : RefAt w' d n bs be cs ce qv am f x y D :=
  ⟨h.ok, ho.blk h.blk h1, ho.own h.st (fun k hk => by have e : bs = k := by simpa [Value.ownBlock] using hk
                                                      subst e; exact h2), ho.own h.el (fun k hk => by have e : be = k := by simpa [Value.ownBlock] using hk
                                                                                                      subst e; exact h3), h.ne, ho.own h.q h4, h.arm⟩
theorem RefAt.below (h : RefAt w d n bs be cs ce qv am f x y D) (hb : Below w.heap.size w w') : RefAt w' d n bs be cs ce qv am f x y D :=
  h.keep (Only.of_below hb (fun _ => False)) id id id (fun _ _ => id)
theorem RefAt.alloc (h : RefAt w d n bs be cs ce qv am f x y D) (o : Obj) : RefAt (w.alloc o) d n bs be cs ce qv am f x y D :=
  h.keep ((Only.refl (fun _ => False) w).alloc o) id id id (fun _ _ => id)
theorem RefAt.drewN (h : RefAt w d n bs be cs ce qv am f x y D) (k : Nat) : RefAt (w.drewN k) d n bs be cs ce qv am f x y D :=
  h.keep ((Only.refl (fun _ => False) w).drewN k) id id id (fun _ _ => id)
theorem RefAt.drew (h : RefAt w d n bs be cs ce qv am f x y D) : RefAt w.drew d n bs be cs ce qv am f x y D := h.drewN 1
theorem RefAt.blk_st {cur : Array Value} {t : TypeId} {g : Nat} (h : RefAt w d n bs be cs ce qv am f x y D) (hb : Blk w g t cur) (ht : 9 ≠ t) : g ≠ bs ∧ g ≠ be :=
  ⟨fun e => own_blk_ne h.st hb ht (by rw [e]; rfl), fun e => own_blk_ne h.el hb ht (by rw [e]; rfl)⟩
theorem RefAt.q_ne (h : RefAt w d n bs be cs ce qv am f x y D) : qv.ownBlock ≠ some bs ∧ qv.ownBlock ≠ some be := by
  have hs := h.st.2
  have he := h.el.2
  constructor
  · rcases hs with ⟨hx, _⟩ | ⟨g, cap, cur, hx, _, hh, _⟩
    · cases hx
    · simp only [Value.slice.injEq, Option.some.injEq, Addr.mk.injEq, and_true] at hx
      obtain ⟨rfl, _⟩ := hx
      exact own_blk_ne h.q (show Blk w bs 9 cur from hh) (by decide)
  · rcases he with ⟨hx, _⟩ | ⟨g, cap, cur, hx, _, hh, _⟩
    · cases hx
    · simp only [Value.slice.injEq, Option.some.injEq, Addr.mk.injEq, and_true] at hx
      obtain ⟨rfl, _⟩ := hx
      exact own_blk_ne h.q (show Blk w be 9 cur from hh) (by decide)
theorem RefAt.set (h : RefAt w d n bs be cs ce qv am f x y D) {k : Nat} (hk : k < n) {t : List UInt8} (ht : t.length = 64) :
    RefAt ((w.setCell ⟨be, k, none⟩ (text (D.st.getD k []))).setCell ⟨bs, k, none⟩ (text t)) d n bs be cs ce qv am f x y (D.set k t) ∧
      Only (fun b => b = bs ∨ b = be) w ((w.setCell ⟨be, k, none⟩ (text (D.st.getD k []))).setCell ⟨bs, k, none⟩ (text t)) := by
  have hb := h.blk_st h.blk (by decide)
  have ho : Only (fun b => b = bs ∨ b = be) w ((w.setCell ⟨be, k, none⟩ (text (D.st.getD k []))).setCell ⟨bs, k, none⟩ (text t)) :=
    ((Only.refl (fun b => b = bs ∨ b = be) w).setCell (p := ⟨be, k, none⟩) (fun _ => .inr rfl) _).setCell (p := ⟨bs, k, none⟩) (fun _ => .inl rfl) _
  have e64 := mem64 h.ok.st64 (s := k) (by rw [h.ok.stl]; exact hk)
  have est : (D.set k t).st = D.st.set k t := by
    show D.st.set k (t ++ (D.st.getD k []).drop t.length) = _
    rw [List.drop_of_length_le (by omega), List.append_nil]
  refine ⟨⟨h.ok.set hk (by omega), ho.blk h.blk (by rintro (e | e); exact hb.1 e; exact hb.2 e), ?_, ?_, h.ne, ho.own h.q (fun j hj => by rintro (e | e) <;> subst e; exact h.q_ne.1 hj; exact h.q_ne.2 hj), h.arm⟩, ho⟩
  · rw [est]
    exact rt_put (rt_far h.st (by simp [Value.ownBlock]; exact h.ne) _) h.ok.stl k t
  · exact rt_far (rt_put h.el h.ok.ell k _) (by simp [Value.ownBlock]; exact fun e => h.ne e.symm) _
end

set_option maxHeartbeats 400000 in
theorem rset_any (k d n bs be cs ce : Nat) (qv : Value) (am : Bool) (f x y : Int) (t : ByteArray) (D : Dsk) (w : World) (h : RefAt w d n bs be cs ce qv am f x y D) (hk : k < n) (ht : t.size = 64) :
    Calls Try.prog 46 #[.pointer (some ⟨d, 0, none⟩), .int .i64 (k : Int), .string t] w fun e w' => e = .returned (.tuple #[]) ∧
      RefAt w' d n bs be cs ce qv am f x y (D.set k t.data.toList) ∧ Only (fun b => b = bs ∨ b = be) w w' := by
  have H := Lib.hid h
  have hT : Value.string t = text t.data.toList := rfl
  have HT := Lib.hid hT
  have h64 : t.data.toList.length = 64 := by simpa using ht
  have H64 := Lib.hid h64
  obtain ⟨S, hS⟩ : ∃ S : ByteArray, Value.string S = text (D.st.getD k []) := ⟨_, rfl⟩
  have HS := Lib.hid hS
  clear h hT ht h64 hS
  go_enter Try.func46, Try.ntmps46
  go_wp2
  refine region_tail 13 (fun W => (W.cell? ⟨d, 0, none⟩ = some (.slice (some ⟨bs, 0, none⟩) n cs) ∧ W.cell? ⟨d, 1, none⟩ = some (.slice (some ⟨be, 0, none⟩) n ce) ∧ W.cell? ⟨bs, k, none⟩ = some (.string S)) ∧ W = w.drew) ?_ (by kernel_rfl) (by kernel_rfl) ?_
  · have hD := H.out.drew
    exact ⟨⟨hD.blk.cell 0, hD.blk.cell 1, by rw [HS.out]; exact rt_at hD.st hD.ok.stl hk⟩, rfl⟩
  · intro W ⟨⟨c0, c1, c2⟩, hW⟩
    have HW := Lib.hid hW
    have hD : RefAt W d n bs be cs ce qv am f x y D := by rw [hW]; exact H.out.drew
    have f1 : W.frozen? ⟨be, k, none⟩ = false := rt_soft hD.el k
    have f2 : W.frozen? ⟨bs, k, none⟩ = false := rt_soft hD.st k
    have c3 : W.cell? ⟨be, k, none⟩ = some (text (D.el.getD k [])) := rt_at hD.el hD.ok.ell hk
    have hb := hD.blk_st hD.blk (by decide)
    have hne : be ≠ bs := fun e => hD.ne e.symm
    have hd1 := hb.1
    have hd2 := hb.2
    have HD := Lib.hid hD
    clear hW hD hb
    unfold text at c3
    simp only [List.take_succ_cons, List.take_zero, List.drop_succ_cons, List.drop_zero]
    repeat still_step
    refine wpStill_nil ?_
    go_wp2
    go_end0
    have hfin := HD.out.set hk H64.out
    rw [← HS.out, ← HT.out] at hfin
    refine ⟨rfl, hfin.1, ?_⟩
    have hw : Only (fun b => b = bs ∨ b = be) w W := by rw [HW.out]; exact (Only.refl _ w).drew
    exact hw.trans hfin.2 (fun _ _ h => h)
end Go.Proofs.Ytmkfbedhmmijjaa
