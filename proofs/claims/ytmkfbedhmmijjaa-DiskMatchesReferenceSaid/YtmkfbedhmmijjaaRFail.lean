/- The reference's disk: Fail, count. -/
import Derived.Test.YtmkfbedhmmijjaaRSettle
namespace Go.Proofs.Ytmkfbedhmmijjaa
open Go.RowKit
theorem qv_form {w : World} {qv : Value} {q : List (Nat × List UInt8)} (h : w.ownsRow 0 73 2 qv q.length (qr q)) : ∃ A c, qv = .slice A q.length c := by
  rcases h.2 with ⟨hx, hl⟩ | ⟨g, cap, cur, hx, _⟩
  · exact ⟨none, 0, by rw [hl]; exact hx⟩
  · exact ⟨_, cap, hx⟩
theorem run_tail (s : ByteArray) (k : Nat) (hk : k ≤ s.size) (w : World) : (Instr.slice 9 (.string s) (some (.int .i64 (k : Int))) none none).run Try.prog w = .ok (.string (s.extract k s.size)) w := by
  simp [Instr.slice, run_underlying Try.underlying9, Instr.sliceBounds, Instr.sliceBound, asIntOf, hk]
theorem extract_tail (l : List UInt8) (k : Nat) : ((⟨l.toArray⟩ : ByteArray).extract k (⟨l.toArray⟩ : ByteArray).size).data.toList = l.drop k := by
  rw [Lib.extract_data]
  simp only [ByteArray.size, List.size_toArray]
  exact List.take_of_length_le (by rw [List.length_drop]; exact Nat.le_refl _)
section
variable {w : World} {d n bs be cs ce : Nat} {qv : Value} {am : Bool} {f x y : Int} {D : Dsk}
theorem RefAt.quiet (h : RefAt w d n bs be cs ce qv am f x y D) :
    RefAt (((w.setCell ⟨d, 2, none⟩ (.slice none 0 0)).setCell ⟨d, 3, none⟩ (.bool false)).setCell ⟨d, 4, none⟩ (.bool false)) d n bs be cs ce (.slice none 0 0) false f x y { D with q := [], off := true, arm := none } ∧
    Only (fun b => b = d) w (((w.setCell ⟨d, 2, none⟩ (.slice none 0 0)).setCell ⟨d, 3, none⟩ (.bool false)).setCell ⟨d, 4, none⟩ (.bool false)) := by
  have hb := ((h.blk.set_ 2 (.slice none 0 0)).set_ 3 (.bool false)).set_ 4 (.bool false)
  have e := h.blk_st h.blk (by decide)
  have hs : ∀ {g m c : Nat} {xs : List (List UInt8)}, g ≠ d → TextsAt w 0 (.slice (some ⟨g, 0, none⟩) m c) xs → TextsAt (((w.setCell ⟨d, 2, none⟩ (.slice none 0 0)).setCell ⟨d, 3, none⟩ (.bool false)).setCell ⟨d, 4, none⟩ (.bool false)) 0 (.slice (some ⟨g, 0, none⟩) m c) xs :=
    fun hg ht => rt_far (rt_far (rt_far ht (by simpa [Value.ownBlock] using hg) _) (by simpa [Value.ownBlock] using hg) _) (by simpa [Value.ownBlock] using hg) _
  refine ⟨⟨h.ok.quiet, hb, hs (fun h => e.1 h.symm) h.st, hs (fun h => e.2 h.symm) h.el, h.ne, World.ownsRow_nil _ _ _ _, ⟨h.arm.1, .inl ⟨rfl, rfl⟩⟩⟩, ?_⟩
  exact (((Only.refl (fun b => b = d) w).setCell (p := ⟨d, 2, none⟩) (fun _ => rfl) _).setCell (p := ⟨d, 3, none⟩) (fun _ => rfl) _).setCell (p := ⟨d, 4, none⟩) (fun _ => rfl) _
end

set_option maxHeartbeats 1000000 in
theorem rfail_on (d n bs be cs ce : Nat) (qv : Value) (am : Bool) (f x y a b : Int) (D : Dsk) (w : World) (h : RefAt w d n bs be cs ce qv am f x y D) (hoff : D.off = false) (hbig : D.q.length ≤ 1000000) (ha : In64 a) (hb : In64 b) :
    Calls Try.prog 34 #[.pointer (some ⟨d, 0, none⟩), .int .i64 a, .int .i64 b] w fun e w' => e = .returned (.tuple #[]) ∧
      RefAt w' d n bs be cs ce (.slice none 0 0) false f x y (D.fail a b) ∧ Only (fun b => b = d ∨ b = bs ∨ b = be) w w' := by
  obtain ⟨A, c, hqv⟩ := qv_form h.q
  have hqs : 0 < D.q.length → ∃ g, A = some ⟨g, 0, none⟩ := fun h0 => by
    obtain ⟨g, cap, e⟩ := qv_some h.q h0
    rw [hqv] at e
    simp only [Value.slice.injEq] at e
    exact ⟨g, e.1⟩
  have c2 : w.cell? ⟨d, 2, none⟩ = some (.slice A D.q.length c) := by rw [h.blk.cell 2, ← hqv]; rfl
  have c3 : w.cell? ⟨d, 3, none⟩ = some (.bool true) := by rw [h.blk.cell 3, hoff]; rfl
  obtain ⟨N, hN⟩ : ∃ N, N = min a.toNat D.q.length := ⟨_, rfl⟩
  have hNl : N ≤ D.q.length := by omega
  have htake : D.q.take a.toNat = D.q.take N := by rw [hN, List.take_eq_take_iff]; omega
  have hdrop : D.q.drop a.toNat = D.q.drop N := by
    rcases Nat.le_total a.toNat D.q.length with h1 | h1
    · rw [show N = a.toNat by omega]
    · rw [show N = D.q.length by omega, List.drop_length, List.drop_eq_nil_of_le h1]
  have hfin : D.fail a b = { (D.settle (D.q.take N)).tear (D.q.drop N) b with q := [], off := true, arm := none } := by
    unfold Dsk.fail; rw [hoff, htake, hdrop]; rfl
  have HFIN := Lib.hid hfin
  have HN := Lib.hid hN
  have H := Lib.hid h
  have HQV := Lib.hid hqv
  have HQS := Lib.hid hqs
  have ha1 := ha.1
  have ha2 := ha.2
  have hb1 := hb.1
  have hb2 := hb.2
  clear h hoff hN htake hdrop hfin hqv hqs ha hb
  obtain ⟨w0, hw0⟩ : ∃ w0 : World, w0 = w := ⟨_, rfl⟩
  have HW0 := Lib.hid hw0
  clear hw0
  go_enter Try.func34, Try.ntmps34
  go_upto_region 2 with (fail)
  go_cut [6] (fun v wx => v = .int .i64 (N : Int) ∧ wx = w)
  case first =>
    go_wp2_with fail
    all_goals
      go_meet
      case rel => exact ⟨by have := HN.out; go_num, rfl⟩
  case rest =>
    obtain ⟨rfl, rfl⟩ := hcut
    go_wp2_with fail
    refine (rsettle_any N d n bs be cs ce qv am f x y D _ H.out hNl hbig).mono ?_
    rintro e w1 ⟨rfl, hD1, hO1⟩
    have ea := settle_arm (D.q.take N) D
    have d2 : w1.cell? ⟨d, 2, none⟩ = some (.slice A D.q.length c) := by have := hD1.blk.cell 2; rw [HQV.out] at this; exact this
    have d0 : w1.cell? ⟨d, 0, none⟩ = some (.slice (some ⟨bs, 0, none⟩) n cs) := hD1.blk.cell 0
    have f2 : w1.frozen? ⟨d, 2, none⟩ = false := hD1.blk.frozen 2
    have f3 : w1.frozen? ⟨d, 3, none⟩ = false := hD1.blk.frozen 3
    have f4 : w1.frozen? ⟨d, 4, none⟩ = false := hD1.blk.frozen 4
    have d3 : w1.cell? ⟨d, 3, none⟩ = some (.bool (!(D.settle (D.q.take N)).off)) := hD1.blk.cell 3
    have d4 : w1.cell? ⟨d, 4, none⟩ = some (.bool am) := hD1.blk.cell 4
    have hown := hD1.q
    rw [ea.2.1] at hown
    have hd1 : d < w1.heap.size := hD1.blk.lt
    have HD1 := Lib.hid hD1
    have HO1 := Lib.hid hO1
    clear hD1 hO1 ea c2 c3
    by_cases hlt : N < D.q.length
    · obtain ⟨g, hg⟩ := HQS.out (by omega)
      subst hg
      have hq := qr_get D.q N hlt
      rw [HQV.out] at hown
      have c0 := own_cell hown hq.1
      have c1 := own_cell hown hq.2
      have hq64 := H.out.ok.q64 _ (List.getElem_mem hlt)
      obtain ⟨s, T, hst⟩ : ∃ s T, D.q[N] = (s, T) := ⟨_, _, rfl⟩
      rw [hst] at hq64 c0 c1
      simp only at hq64 c0 c1
      obtain ⟨k, hk⟩ : ∃ k, k = cap64 b := ⟨_, rfl⟩
      have hk' : k = min b.toNat 64 := hk
      have htear : (D.settle (D.q.take N)).tear (D.q.drop N) b = if 0 < k then (D.settle (D.q.take N)).set s (T.take k) else D.settle (D.q.take N) := by
        rw [List.drop_eq_getElem_cons hlt, hst, hk]; rfl
      have HT := Lib.hid htear
      have HQ := Lib.hid hq64
      have hk64 : k ≤ 64 := by omega
      have HK := Lib.hid hk'
      obtain ⟨XT, hXT⟩ : ∃ X : ByteArray, X = ⟨T.toArray⟩ := ⟨_, rfl⟩
      have hXs : XT.size = 64 := by rw [hXT]; show T.toArray.size = 64; simpa using hq64.2
      have hsl := run_head XT k (by omega)
      unfold text at c1
      rw [← hXT] at c1
      have HXT := Lib.hid hXT
      have HXS := Lib.hid hXs
      clear hq hown hq64 htear hk hk' hXT hst
      go_upto_region 6 with (fail)
      go_cut [8] (fun v wx => v = .int .i64 (k : Int) ∧ wx = w1.alloc (.cells #[.int .i64 (s : Int), .string XT] 73))
      case first =>
        clear hsl hXs
        go_wp2_with fail
        all_goals
          go_meet
          case rel => exact ⟨by have := HK.out; go_num, rfl⟩
      case rest =>
        obtain ⟨rfl, rfl⟩ := hcut
        by_cases hk0 : 0 < k
        · obtain ⟨wb, hwb⟩ : ∃ wb, wb = w1.alloc (.cells #[.int .i64 (s : Int), .string XT] 73) := ⟨_, rfl⟩
          have hDb : RefAt wb d n bs be cs ce qv am f x y (D.settle (D.q.take N)) := by rw [hwb]; exact HD1.out.alloc _
          have hOb : Only (fun b => b = bs ∨ b = be) w0 wb := by rw [hwb, HW0.out]; exact HO1.out.alloc _
          have hbb : Blk wb w1.heap.size 73 #[.int .i64 (s : Int), .string XT] := by rw [hwb]; exact Blk.new _ _ _
          rw [← hwb]
          obtain ⟨YL, hYL⟩ : ∃ Y, Y = (D.settle (D.q.take N)).st.getD s [] := ⟨_, rfl⟩
          obtain ⟨YT, hYT⟩ : ∃ X : ByteArray, X = ⟨YL.toArray⟩ := ⟨_, rfl⟩
          have hsn : s < n := HQ.out.1
          have hYL64 : YL.length = 64 := by rw [hYL]; exact mem64 hDb.ok.st64 (by rw [hDb.ok.stl]; exact hsn)
          have hYs : YT.size = 64 := by rw [hYT]; show YL.toArray.size = 64; rw [List.size_toArray, hYL64]
          have cY : wb.cell? ⟨bs, s, none⟩ = some (.string YT) := by rw [rt_at hDb.st hDb.ok.stl hsn, hYT, hYL]; rfl
          have hsl2 := run_tail YT k (by omega)
          obtain ⟨XA, hXA⟩ : ∃ X, X = XT.extract 0 k := ⟨_, rfl⟩
          obtain ⟨YA, hYA⟩ : ∃ X, X = YT.extract k YT.size := ⟨_, rfl⟩
          have hXAs : XA.size ≤ 64 := by rw [hXA, ByteArray.size_extract]; omega
          have hYAs : YA.size ≤ 64 := by rw [hYA, ByteArray.size_extract]; omega
          have hXi : (XA.size : Int) ≤ 8388608 := by omega
          have hYi : (YA.size : Int) ≤ 8388608 := by omega
          have hadd := fun w => run_string_add (P := Try.prog) (w := w) XA YA hXi hYi
          have hsum : (XA ++ YA).data.toList = T.take k ++ YL.drop k := by
            rw [ByteArray.data_append, Array.toList_append, hXA, hYA, HXT.out, hYT, extract_list, extract_tail]
          have hsumL : (T.take k ++ YL.drop k).length = 64 := by
            have h1 := HQ.out.2
            rw [List.length_append, List.length_take, List.length_drop]; omega
          have hsum64 : (XA ++ YA).size = 64 := by
            have : (XA ++ YA).data.toList.length = 64 := by rw [hsum]; exact hsumL
            simpa using this
          rw [← hXA] at hsl
          rw [← hYA] at hsl2
          have hset : (D.settle (D.q.take N)).set s (T.take k ++ YL.drop k) = (D.settle (D.q.take N)).set s (T.take k) := by
            have h1 := HQ.out.2
            have h3 : YL.drop (T.take k ++ YL.drop k).length = [] := List.drop_of_length_le (by rw [hsumL, hYL64]; exact Nat.le_refl _)
            unfold Dsk.set
            rw [← hYL, h3, List.append_nil, List.length_take, Nat.min_eq_left (by omega)]
          have HSUM := Lib.hid hsum
          have HSUM64 := Lib.hid hsum64
          have HSET := Lib.hid hset
          have HDB := Lib.hid hDb
          have HOB := Lib.hid hOb
          have HBB := Lib.hid hbb
          clear hDb hOb hbb hwb hYL hYL64 hYT hYs hXA hYA hsum hsumL hsum64 hset hXs
          go_wp2_with fail
          refine region_tail 18 (fun W => (W.cell? ⟨w1.heap.size, 0, none⟩ = some (.int .i64 (s : Int)) ∧ W.cell? ⟨w1.heap.size, 1, none⟩ = some (.string XT) ∧ W.cell? ⟨d, 0, none⟩ = some (.slice (some ⟨bs, 0, none⟩) n cs) ∧ W.cell? ⟨bs, s, none⟩ = some (.string YT)) ∧ W = wb.drew)
            ⟨⟨HBB.out.cell 0, HBB.out.cell 1, HDB.out.blk.cell 0, cY⟩, rfl⟩ (by kernel_rfl) (by kernel_rfl) ?_
          intro W ⟨⟨e0, e1, e2, e3⟩, hW⟩
          have HW := Lib.hid hW
          have hdW : d < W.heap.size := by rw [hW]; exact HDB.out.drew.blk.lt
          clear hW c0 c1 d0 d2 d3 d4 f2 f3 f4 cY
          simp only [List.take_succ_cons, List.take_zero, List.drop_succ_cons, List.drop_zero]
          repeat still_step
          refine wpStill_nil ?_
          go_wp2_with fail
          refine (rset_any s d n bs be cs ce qv am f x y (XA ++ YA) _ _ (by rw [HW.out]; exact HDB.out.drew) hsn HSUM64.out).mono ?_
          rintro e w2 ⟨rfl, hD2, hO2⟩
          rw [HSUM.out, HSET.out] at hD2
          have g2 : w2.cell? ⟨d, 2, none⟩ = some qv := hD2.blk.cell 2
          have g3 : w2.cell? ⟨d, 3, none⟩ = some (.bool (!((D.settle (D.q.take N)).set s (T.take k)).off)) := hD2.blk.cell 3
          have g4 : w2.cell? ⟨d, 4, none⟩ = some (.bool am) := hD2.blk.cell 4
          have f2 : w2.frozen? ⟨d, 2, none⟩ = false := hD2.blk.frozen 2
          have f3 : w2.frozen? ⟨d, 3, none⟩ = false := hD2.blk.frozen 3
          have f4 : w2.frozen? ⟨d, 4, none⟩ = false := hD2.blk.frozen 4
          have hd2 : d < w2.heap.size := hD2.blk.lt
          have HD2 := Lib.hid hD2
          have HO2 := Lib.hid hO2
          clear hD2 hO2 e0 e1 e2 e3
          go_wp2
          go_end0
          refine ⟨rfl, ?_, ?_⟩
          · rw [HFIN.out, HT.out, if_pos hk0]; exact HD2.out.quiet.1
          · have h1 := HO2.out
            rw [HW.out] at h1
            rw [← HW0.out]
            exact ((HOB.out.drew.trans h1 (fun _ _ h => h)).mono (fun _ _ h => Or.inr h)).trans HD2.out.quiet.2 (fun _ _ h => Or.inl h)
        · have HK0 := Lib.hid hk0
          clear hsl hXs
          have hk0' : k = 0 := by omega
          subst hk0'
          go_wp2
          go_end0
          refine ⟨rfl, ?_, ?_⟩
          · rw [HFIN.out, HT.out, if_neg HK0.out]; exact HD1.out.quiet.1.alloc _
          · exact ((HO1.out.mono (fun _ _ h => Or.inr h)).trans HD1.out.quiet.2 (fun _ _ h => Or.inl h)).alloc _
    · have hdr : D.q.drop N = [] := List.drop_eq_nil_of_le (by omega)
      have HDR := Lib.hid hdr
      clear hdr hown
      go_wp2
      go_end0
      refine ⟨rfl, ?_, ?_⟩
      · rw [HFIN.out, HDR.out]; exact HD1.out.quiet.1
      · exact (HO1.out.mono (fun _ _ h => Or.inr h)).trans HD1.out.quiet.2 (fun _ _ h => Or.inl h)
end Go.Proofs.Ytmkfbedhmmijjaa
