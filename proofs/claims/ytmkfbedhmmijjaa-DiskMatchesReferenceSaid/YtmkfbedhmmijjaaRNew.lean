/- The reference's disk: zero and New. -/
import Derived.Test.YtmkfbedhmmijjaaRRot
namespace Go.Proofs.Ytmkfbedhmmijjaa
open Go.RowKit
theorem ret_one {a b : Value} (h : a = b) : Ending.returned a = .returned b := by rw [h]
set_option maxHeartbeats 400000 in
theorem zero_ok (w : World) : Calls Try.prog 31 #[.int .i64 64] w fun e w' => e = .returned (text (List.replicate 64 0)) ∧ w = w' := by
  go_enter Try.func31, Try.ntmps31
  go_wp2_with fail
  go_loop [3, 4] (fun v i => ∃ (j : Nat) (X : ByteArray), j ≤ 64 ∧ i = .int .i64 (j : Int) ∧ v = .string X ∧ Hid (X.data.toList = List.replicate j 0) ∧ X.size ≤ 64) (fun _ i => 64 - (intOf i).toNat)
  case atStart => exact ⟨0, ⟨#[]⟩, Nat.zero_le _, rfl, rfl, (show (⟨#[]⟩ : ByteArray).data.toList = List.replicate 0 0 from rfl), by decide⟩
  case round =>
    obtain ⟨j, X, hj, rfl, rfl, HX, hs⟩ := hrel
    by_cases hlt : j < 64
    · have HX2 := Lib.hid (show (X ++ ⟨#[0]⟩ : ByteArray).data.toList = List.replicate (j + 1) 0 from by
        rw [ByteArray.data_append, Array.toList_append, HX.out, List.replicate_succ'])
      have HS2 := Lib.hid (show (X ++ ⟨#[0]⟩ : ByteArray).size ≤ 64 from by
        have h1 : X.data.toList.length = j := by rw [HX.out, List.length_replicate]
        have h2 : X.size = j := by simpa using h1
        have h3 : (X ++ ⟨#[0]⟩ : ByteArray).size = X.size + 1 := by rw [ByteArray.size_append]; rfl
        omega)
      go_wp2
      go_round
      case rel => exact ⟨j + 1, _, by omega, by go_num, rfl, HX2.out, HS2.out⟩
      case measure => simp [intOf]; omega
    · have h64 : j = 64 := by omega
      have HZ := Lib.hid (show Value.string X = text (List.replicate 64 0) from text_of _ _ (by rw [HX.out, h64]))
      clear h64
      go_wp2
      go_ret
      exact ⟨ret_one HZ.out, rfl⟩

/-- The disk while New fills its two rows. -/
structure Grow (w0 wr : World) (d js je : Nat) (sv ev : Value) (z : Value) : Prop where
  blk : Blk wr d 64 #[sv, ev, .slice none 0 0, .bool true, .bool false, .int .i64 0, .int .i64 0, .int .i64 0]
  st : wr.ownsRow w0.heap.size 9 1 sv js (List.replicate js z)
  el : wr.ownsRow w0.heap.size 9 1 ev je (List.replicate je z)
  ne : ∀ k, sv.ownBlock = some k → ev.ownBlock ≠ some k
  bel : Below w0.heap.size w0 wr
  lo : w0.heap.size ≤ d
section
variable {w0 wr w3 : World} {d js je g cap : Nat} {sv ev z : Value}
theorem Grow.alloc (h : Grow w0 wr d js je sv ev z) (o : Obj) : Grow w0 (wr.alloc o) d js je sv ev z :=
  ⟨h.blk.alloc o, ((Only.refl (fun _ => False) wr).alloc o).own h.st (fun _ _ => id), ((Only.refl (fun _ => False) wr).alloc o).own h.el (fun _ _ => id), h.ne, h.bel.alloc h.bel.size o, h.lo⟩
theorem Grow.stepS (h : Grow w0 wr d js je sv ev z) (hown : w3.ownsRow w0.heap.size 9 1 (.slice (some ⟨g, 0, none⟩) (js + 1) cap) (js + 1) (List.replicate js z ++ [z])) (hgrow : wr.grownBy w3 sv.ownBlock)
    (hat : sv.ownBlock = some g ∨ g = wr.heap.size) : Grow w0 (w3.setCell ⟨d, 0, none⟩ (.slice (some ⟨g, 0, none⟩) (js + 1) cap)) d (js + 1) je (.slice (some ⟨g, 0, none⟩) (js + 1) cap) ev z := by
  have ho : Only (fun b => sv.ownBlock = some b) wr w3 := (Only.refl _ wr).grown hgrow (fun _ hk _ => hk)
  have b1 := ho.blk h.blk (own_blk_ne h.st h.blk (by decide))
  have ho2 : Only (fun b => b = d) w3 (w3.setCell ⟨d, 0, none⟩ (.slice (some ⟨g, 0, none⟩) (js + 1) cap)) := (Only.refl (fun b => b = d) w3).setCell (fun _ => rfl) _
  have e1 := ho.own h.el (fun k hk e => h.ne k e hk)
  refine ⟨b1.set_ 0 _, ?_, ho2.own e1 (fun k hk e => own_blk_ne e1 b1 (by decide) (by rw [hk, e])), fun k hk he => ?_, ?_, h.lo⟩
  · rw [List.replicate_succ']
    exact ho2.own hown (fun k hk e => own_blk_ne hown b1 (by decide) (by rw [hk, e]))
  · have e2 : g = k := by simpa [Value.ownBlock] using hk
    subst e2
    rcases hat with hat | hat
    · exact h.ne g hat he
    · have := own_lt h.el he
      omega
  · have hb : Below w0.heap.size w0 w3 := h.bel.grown hgrow h.bel.size (fun j hj => (h.st.lt j hj).1)
    exact hb.setCell (p := ⟨d, 0, none⟩) h.lo _
theorem Grow.stepE (h : Grow w0 wr d js je sv ev z) (hown : w3.ownsRow w0.heap.size 9 1 (.slice (some ⟨g, 0, none⟩) (je + 1) cap) (je + 1) (List.replicate je z ++ [z])) (hgrow : wr.grownBy w3 ev.ownBlock)
    (hat : ev.ownBlock = some g ∨ g = wr.heap.size) : Grow w0 (w3.setCell ⟨d, 1, none⟩ (.slice (some ⟨g, 0, none⟩) (je + 1) cap)) d js (je + 1) sv (.slice (some ⟨g, 0, none⟩) (je + 1) cap) z := by
  have ho : Only (fun b => ev.ownBlock = some b) wr w3 := (Only.refl _ wr).grown hgrow (fun _ hk _ => hk)
  have b1 := ho.blk h.blk (own_blk_ne h.el h.blk (by decide))
  have ho2 : Only (fun b => b = d) w3 (w3.setCell ⟨d, 1, none⟩ (.slice (some ⟨g, 0, none⟩) (je + 1) cap)) := (Only.refl (fun b => b = d) w3).setCell (fun _ => rfl) _
  have e1 := ho.own h.st (fun k hk e => h.ne k hk e)
  refine ⟨b1.set_ 1 _, ho2.own e1 (fun k hk e => own_blk_ne e1 b1 (by decide) (by rw [hk, e])), ?_, fun k hk he => ?_, ?_, h.lo⟩
  · rw [List.replicate_succ']
    exact ho2.own hown (fun k hk e => own_blk_ne hown b1 (by decide) (by rw [hk, e]))
  · have e2 : g = k := by simpa [Value.ownBlock] using he
    subst e2
    rcases hat with hat | hat
    · exact h.ne g hk hat
    · have := own_lt h.st hk
      omega
  · have hb : Below w0.heap.size w0 w3 := h.bel.grown hgrow h.bel.size (fun j hj => (h.el.lt j hj).1)
    exact hb.setCell (p := ⟨d, 1, none⟩) h.lo _
theorem Grow.done {n : Nat} (h : Grow w0 wr d n n sv ev (text (List.replicate 64 0))) (h1 : 1 ≤ n) (h2 : n ≤ 4000) : Ref wr (fun b => w0.heap.size ≤ b) d n (Dsk.new n) := by
  have part : ∀ {v : Value}, wr.ownsRow w0.heap.size 9 1 v n (List.replicate n (text (List.replicate 64 0))) → ∃ g cap, v = .slice (some ⟨g, 0, none⟩) n cap ∧ w0.heap.size ≤ g ∧ TextsAt wr 0 v (List.replicate n (List.replicate 64 0)) := by
    intro v hv
    rcases hv.2 with ⟨_, h0⟩ | ⟨g, cap, cur, hx, hg, r⟩
    · omega
    · refine ⟨g, cap, hx, hg, ?_⟩
      unfold TextsAt
      rw [List.length_replicate, List.map_replicate]
      exact ⟨hv.1, .inr ⟨g, cap, cur, hx, Nat.zero_le _, r⟩⟩
  obtain ⟨bs, cs, rfl, hbs, hst⟩ := part h.st
  obtain ⟨be, ce, rfl, hbe, hel⟩ := part h.el
  refine ⟨bs, be, cs, ce, .slice none 0 0, false, 0, 0, 0, ⟨Dsk.Ok.new h1 h2, h.blk, hst, hel, fun e => h.ne bs rfl (by rw [e]; rfl), World.ownsRow_nil _ _ _ _, ⟨⟨by unfold In64; omega, by unfold In64; omega, by unfold In64; omega⟩, .inl ⟨rfl, rfl⟩⟩⟩, h.lo, hbs, hbe, fun k hk => by simp [Value.ownBlock] at hk⟩
end

set_option maxHeartbeats 1000000 in
theorem rnew_ok (n : Nat) (w : World) (h1 : 1 ≤ n) (h2 : n ≤ 4000) :
    Calls Try.prog 14 #[.int .i64 (n : Int)] w fun e w' => ∃ d, e = .returned (.pointer (some ⟨d, 0, none⟩)) ∧ Ref w' (fun b => w.heap.size ≤ b) d n (Dsk.new n) ∧ Below w.heap.size w w' := by
  obtain ⟨i0, hi, hz0, hz1, hz2⟩ := info_parts string_info
  have p1 : decide ((n : Int) < 1) = false := by simp; omega
  have p2 : decide ((4000 : Int) < (n : Int)) = false := by simp; omega
  have p3 : ¬ (n : Int) < 1 := by omega
  have p4 : ¬ (4000 : Int) < (n : Int) := by omega
  obtain ⟨Z, hZ⟩ : ∃ Z : ByteArray, Value.string Z = text (List.replicate 64 0) := ⟨_, rfl⟩
  have hZO := fun W => zero_ok W
  rw [← hZ] at hZO
  have HZ := Lib.hid hZ
  have ZO := Lib.hid hZO
  clear hZ hZO
  go_enter Try.func14, Try.ntmps14
  go_wp2_with fail
  refine (ZO.out _).mono ?_
  rintro e _ ⟨rfl, rfl⟩
  go_wp2_with fail
  have hg0 : Grow w (w.alloc (.cells #[.slice none 0 0, .slice none 0 0, .slice none 0 0, .bool true, .bool false, .int .i64 0, .int .i64 0, .int .i64 0] 64)) w.heap.size 0 0 (.slice none 0 0) (.slice none 0 0) (.string Z) :=
    ⟨Blk.new _ _ _, World.ownsRow_nil _ _ _ _, World.ownsRow_nil _ _ _ _, fun k hk => by simp [Value.ownBlock] at hk, (Below.refl _ _).alloc (Nat.le_refl _) _, Nat.le_refl _⟩
  obtain ⟨d, hd⟩ : ∃ d, d = w.heap.size := ⟨_, rfl⟩
  have hg1 := hg0
  have HD := Lib.hid hd
  have HG0 := Lib.hid hg1
  have hone : ∀ u ∈ [Value.string Z], u.oneCell' = true := by simp [Value.oneCell']
  have HONE := Lib.hid hone
  have NEWS := Lib.hid (fun W => World.news_of_block (w := World.alloc W (.cells #[.string Z] 9)) (Blk.new W 9 #[.string Z]))
  clear hg0 hg1 hd hone p1 p2
  rw [← HD.out] at HG0 ⊢
  go_loopw [5] (fun i wr => ∃ (k : Nat) (sv ev : Value), k ≤ n ∧ i = .int .i64 (k : Int) ∧ Hid (Grow w wr d k k sv ev (.string Z))) (fun i _ => n - (intOf i).toNat)
  case atStart => exact ⟨0, _, _, Nat.zero_le _, rfl, by rw [HD.out] at HG0 ⊢; exact HG0.out⟩
  case round =>
    obtain ⟨k, sv, ev, hk, rfl, HG⟩ := hrel
    by_cases hlt : k < n
    · have c0 : wr.cell? ⟨d, 0, none⟩ = some sv := HG.out.blk.cell 0
      have c1 : wr.cell? ⟨d, 1, none⟩ = some ev := HG.out.blk.cell 1
      have f0 : wr.frozen? ⟨d, 0, none⟩ = false := HG.out.blk.frozen 0
      have f1 : wr.frozen? ⟨d, 1, none⟩ = false := HG.out.blk.frozen 1
      have hdl : d < wr.heap.size := HG.out.blk.lt
      have hmax : k + 1 ≤ maxLen := by unfold maxLen; omega
      have hbytes : (k + 1) * 16 ≤ 140737488355328 := by omega
      have HMAX := Lib.hid hmax
      have HBYTES := Lib.hid hbytes
      clear hmax hbytes HG0
      go_wp2_with (first
        | (at_builtin; refine wpList_append_lies _ rfl (.tmp 24) (.tmp 26) 39 rfl w.heap.size 9 i0 _ 1 16 Try.underlying39 hi hz0 hz1 hz2 rfl (by decide) sv k (List.replicate k (.string Z)) rfl (HG.out.alloc (.cells #[.string Z] 9)).st ⟨wr.heap.size, 0, none⟩ 1 1 [.string Z] rfl rfl (NEWS.out wr) HONE.out (by decide) HMAX.out HBYTES.out (HG.out.alloc (.cells #[.string Z] 9)).bel.size _ rfl ?_; intro g cap w3 hown hgrow hat hlt3; have hg2 := (HG.out.alloc (.cells #[.string Z] 9)).stepS hown hgrow hat; have hx := own_blk_ne (HG.out.alloc (.cells #[.string Z] 9)).st (HG.out.alloc (.cells #[.string Z] 9)).blk (by decide); have hb3 := ((Only.refl _ _).grown hgrow (fun _ hk _ => hk) : Only (fun b => sv.ownBlock = some b) _ _).blk (HG.out.alloc (.cells #[.string Z] 9)).blk hx; have c0' : w3.cell? ⟨d, 0, none⟩ = some sv := hb3.cell 0; have c1' : w3.cell? ⟨d, 1, none⟩ = some ev := hb3.cell 1; have f0' : w3.frozen? ⟨d, 0, none⟩ = false := hb3.frozen 0; have f1' : w3.frozen? ⟨d, 1, none⟩ = false := hb3.frozen 1; have hdl3 : d < w3.heap.size := hb3.lt; have HG2 := Lib.hid hg2; have hn2 := NEWS.out (w3.setCell ⟨d, 0, none⟩ (.slice (some ⟨g, 0, none⟩) (k + 1) cap)); rw [show (w3.setCell ⟨d, 0, none⟩ (.slice (some ⟨g, 0, none⟩) (k + 1) cap)).heap.size = w3.heap.size from by simp [World.setCell]] at hn2; have NEWS2 := Lib.hid hn2; clear hown hgrow hat hlt3 hg2 hx hb3 hn2)
        | (at_builtin; refine wpList_append_lies _ rfl (.tmp 34) (.tmp 36) 39 rfl w.heap.size 9 i0 _ 1 16 Try.underlying39 hi hz0 hz1 hz2 rfl (by decide) ev k (List.replicate k (.string Z)) rfl (HG2.out.alloc (.cells #[.string Z] 9)).el ⟨w3.heap.size, 0, none⟩ 1 1 [.string Z] rfl rfl NEWS2.out HONE.out (by decide) HMAX.out HBYTES.out (HG2.out.alloc (.cells #[.string Z] 9)).bel.size _ rfl ?_; intro g' cap' w5 hown hgrow hat hlt5; have hg2 := (HG2.out.alloc (.cells #[.string Z] 9)).stepE hown hgrow hat; have hx := own_blk_ne (HG2.out.alloc (.cells #[.string Z] 9)).el (HG2.out.alloc (.cells #[.string Z] 9)).blk (by decide); have hb3 := ((Only.refl _ _).grown hgrow (fun _ hk _ => hk) : Only (fun b => ev.ownBlock = some b) _ _).blk (HG2.out.alloc (.cells #[.string Z] 9)).blk hx; have c1'' : w5.cell? ⟨d, 1, none⟩ = some ev := hb3.cell 1; have f1'' : w5.frozen? ⟨d, 1, none⟩ = false := hb3.frozen 1; have hdl5 : d < w5.heap.size := hb3.lt; have HG3 := Lib.hid hg2; clear hown hgrow hat hlt5 hg2 hx hb3))
      go_roundw
      case rel => exact ⟨k + 1, _, _, by omega, by go_num, HG3.out⟩
      case measure => simp [intOf]; omega
    · have hkn : k = n := by omega
      subst hkn
      rw [HZ.out] at HG
      go_wp2
      go_ret
      exact ⟨d, rfl, HG.out.done h1 h2, HG.out.bel⟩
end Go.Proofs.Ytmkfbedhmmijjaa
