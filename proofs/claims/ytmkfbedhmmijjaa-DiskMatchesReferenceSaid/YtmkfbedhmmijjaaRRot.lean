/- The reference's disk: Rot. -/
import Derived.Test.YtmkfbedhmmijjaaRRead
namespace Go.Proofs.Ytmkfbedhmmijjaa
open Go.RowKit
set_option maxRecDepth 100000 in
set_option maxHeartbeats 1000000 in
theorem rrot_ok (F : Nat → Prop) (d n k a m : Nat) (D : Dsk) (w : World) (h : Ref w F d n D) (hk : k < n) (ha : a < 64) (hm0 : 0 < m) (hm : m < 256) :
    Calls Try.prog 37 #[.pointer (some ⟨d, 0, none⟩), .int .i64 (k : Int), .int .i64 (a : Int), .int .i64 (m : Int)] w fun e w' => e = .returned (.tuple #[]) ∧ Ref w' (After F w w') d n (D.rot k a m) ∧ Only F w w' := by
  obtain ⟨bs, be, cs, ce, qv, am, f, x, y, hD, h1, h2, h3, h4⟩ := h
  have hkl : k < D.st.length := by rw [hD.ok.stl]; exact hk
  have e64 := mem64 hD.ok.st64 hkl
  obtain ⟨L, hL⟩ : ∃ L, L = D.st.getD k [] := ⟨_, rfl⟩
  obtain ⟨Y, hY⟩ : ∃ Y : ByteArray, Y = ⟨L.toArray⟩ := ⟨_, rfl⟩
  rw [← hL] at e64
  have hY64 : Y.size = 64 := by rw [hY]; show L.toArray.size = 64; rw [List.size_toArray, e64]
  have c0 : w.cell? ⟨d, 0, none⟩ = some (.slice (some ⟨bs, 0, none⟩) n cs) := hD.blk.cell 0
  have ck : w.cell? ⟨bs, k, none⟩ = some (.string Y) := by rw [rt_at hD.st hD.ok.stl hk, hY, hL]; rfl
  have hdl : d < w.heap.size := hD.blk.lt
  have p1 : decide ((k : Int) < 0) = false := by simp
  have p2 : decide (n ≤ k) = false := by simp; omega
  have p3 : decide ((a : Int) < 0) = false := by simp
  have p4 : decide ((64 : Int) ≤ (a : Int)) = false := by simp; omega
  have p5 : decide ((m : Int) < 1) = false := by simp; omega
  have p6 : decide ((255 : Int) < (m : Int)) = false := by simp; omega
  have p7 : (k : Int) < (n : Int) := by omega
  have p8 : (a : Int) < 64 := by omega
  have p9 : (m : Int) < 256 := by omega
  have p10 : (1 : Int) ≤ (m : Int) := by omega
  have hlt : a < Y.size := by omega
  have HY := Lib.hid hY
  have HL := Lib.hid hL
  have HD := Lib.hid hD
  have haL : a < L.length := by omega
  have HL64 := Lib.hid e64
  have HAL := Lib.hid haL
  clear hY hL hD e64 haL
  go_enter Try.func37, Try.ntmps37
  go_wp2_with fail
  obtain ⟨c, hc⟩ : ∃ c : UInt8, c = Y[a] := ⟨_, rfl⟩
  rw [← hc]
  obtain ⟨V, hV⟩ : ∃ V : UInt8, V = c ^^^ UInt8.ofNat m := ⟨_, rfl⟩
  have e2 : bits BinOp.xor IntKind.u8 (c.toNat : Int) (m : Int) = ((V.toNat : Nat) : Int) := by
    rw [u8_xor_nat _ _ c.toNat_lt hm, hV, UInt8.toNat_xor, UInt8.toNat_ofNat', Nat.mod_eq_of_lt hm]
  rw [e2]
  obtain ⟨wb, hwb⟩ : ∃ wb, wb = w.alloc (.cells #[.int .u8 ((V.toNat : Nat) : Int)] 5) := ⟨_, rfl⟩
  have hDb : RefAt wb d n bs be cs ce qv am f x y D := by rw [hwb]; exact HD.out.alloc _
  have hbb : Blk wb w.heap.size 5 #[.int .u8 ((V.toNat : Nat) : Int)] := by rw [hwb]; exact Blk.new _ _ _
  have hOb : Only F w wb := by rw [hwb]; exact (Only.refl F w).alloc _
  rw [← hwb]
  have hca : L.getD a 0 = c := by
    rw [hc, List.getD_eq_getElem?_getD]
    have h1 := HY.out
    subst h1
    show L[a]?.getD 0 = L.toArray[a]
    rw [List.getElem?_eq_getElem HAL.out]
    simp
  have hrot : D.rot k a m = { D with st := D.st.set k (L.set a V) } := by
    unfold Dsk.rot
    have h5 : (k : Int) < (D.st.length : Int) := by omega
    rw [if_pos ⟨⟨by omega, h5⟩, ⟨by omega, by omega⟩, ⟨by omega, by omega⟩⟩]
    simp only [Int.toNat_natCast]
    rw [← HL.out, hca, hV]
  obtain ⟨XA, hXA⟩ : ∃ X, X = Y.extract 0 a := ⟨_, rfl⟩
  obtain ⟨YA, hYA⟩ : ∃ X, X = Y.extract (a + 1) Y.size := ⟨_, rfl⟩
  have sl1 := run_head Y a (by omega)
  have sl2 := run_tail Y (a + 1) (by omega)
  rw [← hXA] at sl1
  rw [← hYA, show ((a + 1 : Nat) : Int) = (a : Int) + 1 from by omega] at sl2
  have hXi : (XA.size : Int) ≤ 8388608 := by rw [hXA, ByteArray.size_extract]; omega
  have hYi : (YA.size : Int) ≤ 8388608 := by rw [hYA, ByteArray.size_extract]; omega
  have hBi : ((⟨[V].toArray⟩ : ByteArray).size : Int) ≤ 8388608 := by show ((1 : Nat) : Int) ≤ 8388608; decide
  have hXB : ((XA ++ (⟨[V].toArray⟩ : ByteArray)).size : Int) ≤ 8388608 := by
    rw [ByteArray.size_append, hXA, ByteArray.size_extract]
    show ((min a Y.size - 0 + 1 : Nat) : Int) ≤ 8388608
    omega
  have ad1 := fun w => run_string_add (P := Try.prog) (w := w) XA ⟨[V].toArray⟩ hXi hBi
  have ad2 := fun w => run_string_add (P := Try.prog) (w := w) (XA ++ ⟨[V].toArray⟩) YA hXB hYi
  have hsum : Value.string (XA ++ ⟨[V].toArray⟩ ++ YA) = text (L.set a V) := by
    refine text_of _ _ ?_
    rw [ByteArray.data_append, ByteArray.data_append, Array.toList_append, Array.toList_append, hXA, hYA, HY.out, extract_list, extract_tail]
    rw [List.set_eq_take_append_cons_drop, if_pos HAL.out]
    simp
  have hset : (L.set a V).length = 64 := by rw [List.length_set]; exact HL64.out
  have HROT := Lib.hid hrot
  have HSUM := Lib.hid hsum
  have HSET := Lib.hid hset
  have HDB := Lib.hid hDb
  have HOB := Lib.hid hOb
  have HBB := Lib.hid hbb
  clear hrot hsum hset hDb hOb hbb hwb hca hc hV e2 hXA hYA hXi hYi hBi hXB
  have s1 : IntKind.i64.wrap ((a : Int) + 1) = (a : Int) + 1 := IntWalk.i64_in _ (by omega)
  refine region_tail 17 (fun W => (W.cell? ⟨d, 0, none⟩ = some (.slice (some ⟨bs, 0, none⟩) n cs) ∧ W.cell? ⟨w.heap.size, 0, none⟩ = some (.int .u8 ((V.toNat : Nat) : Int))) ∧ W = wb.drew) ⟨⟨HDB.out.blk.cell 0, HBB.out.cell 0⟩, rfl⟩ (by kernel_rfl) (by kernel_rfl) ?_
  intro W ⟨⟨g0, g1⟩, hW⟩
  have hcv : (convert 57 9 (.slice (some ⟨w.heap.size, 0, none⟩) 1 1)).run Try.prog W = .ok (.string ⟨[V].toArray⟩) W :=
    run_convert_bytes_back W 57 9 5 ⟨w.heap.size, 0, none⟩ 1 [V] Try.underlying57 Try.underlying5 Try.underlying9 (fun j hj => by
      have : j = 0 := by simp at hj; exact hj
      subst this
      rw [add_spot]
      exact g1)
  have HW := Lib.hid hW
  have hD : RefAt W d n bs be cs ce qv am f x y D := by rw [hW]; exact HDB.out.drew
  have f2 : W.frozen? ⟨bs, k, none⟩ = false := rt_soft hD.st k
  have g2 : W.cell? ⟨bs, k, none⟩ = some (text (D.st.getD k [])) := rt_at hD.st hD.ok.stl hk
  have HD2 := Lib.hid hD
  clear hW hD c0 ck
  unfold text at g2
  simp only [List.take_succ_cons, List.take_zero, List.drop_succ_cons, List.drop_zero]
  repeat still_step
  refine wpStill_nil ?_
  go_wp2
  go_end0
  have hfin := HD2.out.staled hk HSET.out
  rw [← HSUM.out, ← HROT.out] at hfin
  have hw : Only F w W := by rw [HW.out]; exact HOB.out.drew
  exact ⟨rfl, Ref.of hfin.1 h1 h2 h3 h4, hw.trans hfin.2 (fun _ _ h => by subst h; exact h2)⟩
set_option maxRecDepth 100000 in
set_option maxHeartbeats 1000000 in
theorem rrot_any (F : Nat → Prop) (d n : Nat) (s a m : Int) (D : Dsk) (w : World) (h : Ref w F d n D) :
    Calls Try.prog 37 #[.pointer (some ⟨d, 0, none⟩), .int .i64 s, .int .i64 a, .int .i64 m] w fun e w' => e = .returned (.tuple #[]) ∧ Ref w' (After F w w') d n (D.rot s a m) ∧ Only F w w' := by
  by_cases hv : (0 ≤ s ∧ s < (n : Int)) ∧ (0 ≤ a ∧ a < 64) ∧ (0 < m ∧ m < 256)
  · obtain ⟨k, rfl⟩ := Int.eq_ofNat_of_zero_le hv.1.1
    obtain ⟨a, rfl⟩ := Int.eq_ofNat_of_zero_le hv.2.1.1
    obtain ⟨m, rfl⟩ := Int.eq_ofNat_of_zero_le (Int.le_of_lt hv.2.2.1)
    exact rrot_ok F d n k a m D w h (by omega) (by omega) (by omega) (by omega)
  · have e1 : D.rot s a m = D := by
      unfold Dsk.rot
      have := h.ok.stl
      rw [if_neg (by rw [this]; exact hv)]
    rw [e1]
    obtain ⟨bs, be, cs, ce, qv, am, f, x, y, hD, h1, h2, h3, h4⟩ := id h
    have c0 : w.cell? ⟨d, 0, none⟩ = some (.slice (some ⟨bs, 0, none⟩) n cs) := hD.blk.cell 0
    have H := Lib.hid (show Ref w (After F w w) d n D from h.mono (fun _ _ h => .inl h))
    have hsix : s < 0 ∨ (0 ≤ s ∧ (n : Int) ≤ s) ∨ (0 ≤ s ∧ s < (n : Int) ∧ a < 0) ∨ (0 ≤ s ∧ s < (n : Int) ∧ 0 ≤ a ∧ 64 ≤ a) ∨ (0 ≤ s ∧ s < (n : Int) ∧ 0 ≤ a ∧ a < 64 ∧ m < 1) ∨ (0 ≤ s ∧ s < (n : Int) ∧ 0 ≤ a ∧ a < 64 ∧ 1 ≤ m ∧ 255 < m) := by omega
    clear h hD e1 hv
    rcases hsix with q | ⟨q, q1⟩ | ⟨q, q1, q2⟩ | ⟨q, q1, q2, q3⟩ | ⟨q, q1, q2, q3, q4⟩ | ⟨q, q1, q2, q3, q4, q5⟩
    all_goals
      go_enter Try.func37, Try.ntmps37
      go_wp2
      exact bodyPost_ret (results_none rfl _ _ _) rfl ⟨rfl, H.out, Only.refl _ _⟩
end Go.Proofs.Ytmkfbedhmmijjaa
