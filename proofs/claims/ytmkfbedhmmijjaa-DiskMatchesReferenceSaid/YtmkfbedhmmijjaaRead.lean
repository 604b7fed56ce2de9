/- Disk.Read: the text of the last pending write to a sector, or its stable contents. -/
import Derived.Test.YtmkfbedhmmijjaaWrite
namespace Go.Proofs.Ytmkfbedhmmijjaa
open Go.RowKit
theorem foldl_push (l : List UInt8) : ∀ s : ByteArray, (l.map fun c => (c.toNat : Int)).foldl (fun r n => r.push (UInt8.ofNat n.toNat)) s = ⟨s.data ++ l.toArray⟩ := by
  induction l with
  | nil => intro s; simp
  | cons c l ih =>
    intro s
    rw [List.map_cons, List.foldl_cons, ih]
    simp [ByteArray.push]
theorem run_text (w : World) (g o m c : Nat) (l : List UInt8) (hb : Blk w g 5 (u8 l).toArray) (hm : o + m ≤ l.length) :
    (convert 57 9 (.slice (some ⟨g, o, none⟩) m c)).run Try.prog w = .ok (.string ⟨((l.drop o).take m).toArray⟩) w := by
  have hlen : (((u8 l).drop o).take m).length = m := by rw [List.length_take, List.length_drop, u8_length]; omega
  have hl := run_loadCells_list (P := Try.prog) w ⟨g, o, none⟩ (((u8 l).drop o).take m) (src_cells hb o m)
  rw [hlen] at hl
  have e : ((u8 l).drop o).take m = (((l.drop o).take m).map fun c => (c.toNat : Int)).map (Value.int .u8) := by
    rw [u8_drop, u8_take, List.map_map]; rfl
  rw [e] at hl
  rw [run_convert_bytes_string w 57 9 5 _ m c Try.underlying57 Try.underlying5 Try.underlying9, run_bytesToString w _ m c _ hl, foldl_push]
  simp
theorem snoc_ind {α : Type} {P : List α → Prop} (h0 : P []) (h1 : ∀ l a, P l → P (l ++ [a])) (l : List α) : P l := by
  have : ∀ m : List α, P m.reverse := by
    intro m
    induction m with
    | nil => exact h0
    | cons a m ih => rw [List.reverse_cons]; exact h1 _ _ ih
  simpa using this l.reverse
theorem lastIn_none (q : List (Nat × List UInt8)) (s : Nat) (h : ∀ j (hj : j < q.length), q[j].1 ≠ s) : lastIn q s = none := by
  induction q using snoc_ind with
  | h0 => rfl
  | h1 q p ih =>
    rw [lastIn_snoc]
    have h1 := h q.length (by simp)
    simp only [List.getElem_append_right (Nat.le_refl _), Nat.sub_self, List.getElem_singleton] at h1
    rw [if_neg h1]
    exact ih fun j hj => by have := h j (by simp; omega); rwa [List.getElem_append_left hj] at this
theorem lastIn_at (q : List (Nat × List UInt8)) (s k : Nat) (hk : k < q.length) (he : q[k].1 = s) (h : ∀ j (hj : j < q.length), k < j → q[j].1 ≠ s) : lastIn q s = some q[k].2 := by
  induction q using snoc_ind with
  | h0 => exact absurd hk (by simp)
  | h1 q p ih =>
    rw [lastIn_snoc]
    by_cases e : k = q.length
    · subst e
      simp only [List.getElem_append_right (Nat.le_refl _), Nat.sub_self, List.getElem_singleton] at he ⊢
      rw [if_pos he]
    · have hk' : k < q.length := by simp at hk; omega
      have h1 := h q.length (by simp) hk'
      simp only [List.getElem_append_right (Nat.le_refl _), Nat.sub_self, List.getElem_singleton] at h1
      rw [if_neg h1, List.getElem_append_left hk'] 
      refine ih hk' (by rwa [List.getElem_append_left hk'] at he) fun j hj hkj => ?_
      have := h j (by simp; omega) hkj
      rwa [List.getElem_append_left hj] at this

/-- What Read answers. -/
def text (l : List UInt8) : Value := .string ⟨l.toArray⟩
theorem read_err (d : Option Addr) (s : Int) (x : Int) (w : World) (hx : x = 1 ∨ x = 25)
    (hat : Calls Try.prog 39 #[.pointer d, .int .i64 s] w fun e w' => e = .returned (noSpot (.int .i64 x)) ∧ Below w.heap.size w w') :
    Calls Try.prog 17 #[.pointer d, .int .i64 s] w fun e w' => e = .returned (.tuple #[.string ByteArray.empty, .int .i64 x]) ∧ Below w.heap.size w w' := by
  have HAT := Lib.hid hat
  clear hat
  unfold noSpot at HAT
  rcases hx with rfl | rfl
  all_goals
    go_enter Try.func17, Try.ntmps17
    go_wp2_with fail
    refine HAT.out.mono ?_
    rintro e w1 ⟨rfl, hb⟩
    have HB := Lib.hid hb
    clear hb
    go_wp2
    go_ret2
    exact ⟨rfl, HB.out.alloc HB.out.size _⟩

set_option maxHeartbeats 1000000 in
theorem read_ok (d n bs be k : Nat) (qv av : Value) (D : Dsk) (w : World) (h : DiskAt w d n bs be qv av D) (hoff : D.off = false) (hk : k < n) (hbig : D.q.length ≤ 1000000) :
    Calls Try.prog 17 #[.pointer (some ⟨d, 0, none⟩), .int .i64 (k : Int)] w fun e w' => e = .returned (.tuple #[text (D.rd k), .int .i64 0]) ∧ Below w.heap.size w w' := by
  obtain ⟨A, L, c, hA, hL⟩ : ∃ A L c, qv = .slice A L c ∧ L = D.q.length ∧ (0 < L → ∃ g, A = some ⟨g, 0, none⟩) := by
    rcases h.q.2 with ⟨hx, h0⟩ | ⟨g, cap, cur, hx, _⟩
    · exact ⟨none, 0, 0, hx, h0.symm, fun h => absurd h (by omega)⟩
    · exact ⟨_, _, _, hx, rfl, fun _ => ⟨g, rfl⟩⟩
  subst hA
  obtain ⟨hL, hAg⟩ := hL
  have HD := Lib.hid h
  have HOFF := Lib.hid hoff
  have HL := Lib.hid hL
  have HA := Lib.hid hAg
  have hLb : L ≤ 1000000 := by omega
  clear h hoff hL hAg hbig
  go_enter Try.func17, Try.ntmps17
  go_wp2_with fail
  refine (at_ok d n bs be k _ av D w HD.out HOFF.out hk).mono ?_
  unfold aSpot
  rintro e w1 ⟨rfl, hb⟩
  have HB := Lib.hid hb
  have hD1 := HD.out.keep (Only.of_below hb (fun _ => False)) id id id (fun _ _ => id) (fun _ _ => id)
  have d2 : w1.cell? ⟨d, 2, none⟩ = some (.slice A L c) := hD1.blk.cell 2
  have hd1 := hD1.blk.lt
  have HD1 := Lib.hid hD1
  clear hb hD1
  have hbb : Blk (w1.alloc (.cells #[.int .i64 ((k : Int) * 64), .int .i64 (((k : Int) + 1) * 64)] 67)) w1.heap.size 67 #[.int .i64 ((k : Int) * 64), .int .i64 (((k : Int) + 1) * 64)] := Blk.new _ _ _
  have HBB := Lib.hid hbb
  have hww : Below w.heap.size w (w1.alloc (.cells #[.int .i64 ((k : Int) * 64), .int .i64 (((k : Int) + 1) * 64)] 67)) := HB.out.alloc HB.out.size _
  have HWW := Lib.hid hww
  clear hbb hww
  go_wp2_with fail
  go_loopw [8] (fun v wr => ∃ i : Int, -1 ≤ i ∧ i < L ∧ v = .int .i64 i ∧ (∀ j (hj : j < D.q.length), i < (j : Int) → D.q[j].1 ≠ k) ∧
      (DiskAt wr d n bs be (.slice A L c) av D ∧ Blk wr w1.heap.size 67 #[.int .i64 ((k : Int) * 64), .int .i64 (((k : Int) + 1) * 64)] ∧ Below w.heap.size w wr)) (fun v _ => (intOf v + 1).toNat)
  case atStart => exact ⟨(L : Int) - 1, by omega, by omega, rfl, fun j hj h => by have := HL.out; omega, HD1.out.alloc _, HBB.out, HWW.out⟩
  case round =>
    rename_i wr
    obtain ⟨i, hi1, hi2, rfl, hno, hR⟩ := hrel
    have HNO := Lib.hid hno
    have HR := Lib.hid hR
    clear hno hR d2 hd1
    by_cases hi0 : 0 ≤ i
    · obtain ⟨j, rfl⟩ := Int.eq_ofNat_of_zero_le hi0
      have hjl : j < D.q.length := by have := HL.out; omega
      have hg := HA.out (by omega)
      have hq := qc_get D.q j hjl
      obtain ⟨g, hg⟩ := hg
      have hown := HR.out.1.q
      rw [hg, HL.out] at hown
      have c0 := own_cell hown hq.1
      have c1 := own_cell hown hq.2.1
      have c2 := own_cell hown hq.2.2
      have e2 : wr.cell? ⟨d, 2, none⟩ = some (.slice (some ⟨g, 0, none⟩) L c) := by rw [← hg]; exact HR.out.1.blk.cell 2
      have b0 : wr.cell? ⟨w1.heap.size, 0, none⟩ = some (.int .i64 ((k : Int) * 64)) := HR.out.2.1.cell 0
      clear hown hg hq
      obtain ⟨p, hp⟩ : ∃ p, p = D.q[j] := ⟨_, rfl⟩
      rw [← hp] at c0 c1 c2
      have HP := Lib.hid hp
      clear hp
      have fin : ∀ W, W = wr.drew → DiskAt W d n bs be (.slice A L c) av D ∧ Blk W w1.heap.size 67 #[.int .i64 ((k : Int) * 64), .int .i64 (((k : Int) + 1) * 64)] ∧ Below w.heap.size w W := by
        intro W hW; rw [hW]; exact ⟨HR.out.1.drew, HR.out.2.1.drew, HR.out.2.2.drew⟩
      have FIN := Lib.hid fin
      clear fin
      by_cases hpk : p.1 = k
      · have hbe : ((p.1 : Int) * 64 == (k : Int) * 64) = true := by rw [hpk]; simp
        have hrd : D.rd k = p.2 := by
          unfold Dsk.rd
          rw [lastIn_at D.q k j hjl (by rw [← HP.out]; exact hpk) (fun j' hj' hlt => HNO.out j' hj' (by omega)), ← HP.out]; rfl
        have HRD := Lib.hid hrd
        have HPK := Lib.hid hpk
        clear hrd hpk
        go_wp2_with fail
        refine region_still (fun W => (W.cell? ⟨d, 2, none⟩ = some (.slice (some ⟨g, 0, none⟩) L c) ∧ W.cell? ⟨w1.heap.size, 0, none⟩ = some (.int .i64 ((k : Int) * 64)) ∧ W.cell? ⟨g, j * 3, none⟩ = some (.int .i64 ((p.1 : Int) * 64)) ∧ W.cell? ⟨g, j * 3 + 2, none⟩ = some (.string ⟨p.2.toArray⟩)) ∧ W = wr.drew) ⟨⟨e2, b0, c0, c2⟩, rfl⟩ (by kernel_rfl) (by kernel_rfl) ?_
        intro W ⟨⟨g2, g0, g3, g4⟩, hW⟩
        have HF := Lib.hid (FIN.out W hW)
        clear hW e2 b0 c0 c1 c2
        repeat still_step
        refine wpStill_nil ?_
        go_wp2
        go_ret2
        exact ⟨by rw [HRD.out]; rfl, HF.out.2.2⟩
      · have hbe : ((p.1 : Int) * 64 == (k : Int) * 64) = false := by simp; omega
        have hno2 : ∀ j' (hj : j' < D.q.length), (j : Int) - 1 < (j' : Int) → D.q[j'].1 ≠ k := by
          intro j' hj' hlt
          by_cases e : j' = j
          · subst e; rw [← HP.out]; exact hpk
          · exact HNO.out j' hj' (by omega)
        have HNO2 := Lib.hid hno2
        clear hno2 hpk
        go_wp2_with fail
        refine region_still (fun W => (W.cell? ⟨d, 2, none⟩ = some (.slice (some ⟨g, 0, none⟩) L c) ∧ W.cell? ⟨w1.heap.size, 0, none⟩ = some (.int .i64 ((k : Int) * 64)) ∧ W.cell? ⟨g, j * 3, none⟩ = some (.int .i64 ((p.1 : Int) * 64)) ∧ W.cell? ⟨g, j * 3 + 2, none⟩ = some (.string ⟨p.2.toArray⟩)) ∧ W = wr.drew) ⟨⟨e2, b0, c0, c2⟩, rfl⟩ (by kernel_rfl) (by kernel_rfl) ?_
        intro W ⟨⟨g2, g0, g3, g4⟩, hW⟩
        have HF := Lib.hid (FIN.out W hW)
        clear hW e2 b0 c0 c1 c2
        repeat still_step
        refine wpStill_nil ?_
        go_wp2
        go_roundw
        case rel => exact ⟨(j : Int) - 1, by omega, by omega, rfl, HNO2.out, HF.out⟩
        case measure => simp [intOf]
    · have hi : i = -1 := by omega
      have hrd : D.rd k = D.st.getD k [] := by
        unfold Dsk.rd
        rw [lastIn_none D.q k (fun j hj => HNO.out j hj (by omega))]; rfl
      have hn := HD.out.ok.hi
      have hsl := run_cut bs (64 * n) (64 * n) (64 * k) (64 * k + 64) ((k : Int) * 64) (((k : Int) + 1) * 64) (by omega) (by omega) (by omega) (by omega) (by omega)
      have e0 : wr.cell? ⟨d, 0, none⟩ = some (.slice (some ⟨bs, 0, none⟩) (64 * n) (64 * n)) := HR.out.1.blk.cell 0
      have b0 : wr.cell? ⟨w1.heap.size, 0, none⟩ = some (.int .i64 ((k : Int) * 64)) := HR.out.2.1.cell 0
      have b1 : wr.cell? ⟨w1.heap.size, 1, none⟩ = some (.int .i64 (((k : Int) + 1) * 64)) := HR.out.2.1.cell 1
      have hcv := fun (W : World) (hW : W = wr.drew) => run_text W bs (64 * k) 64 (64 * n - 64 * k) D.st.flatten (by rw [hW]; exact HR.out.1.st.drew) (by rw [flat_length _ HD.out.ok.st64, HD.out.ok.stl]; omega)
      rw [flat_sector _ HD.out.ok.st64 k (by rw [HD.out.ok.stl]; exact hk), ← hrd] at hcv
      have HCV := Lib.hid hcv
      have hfin : ∀ W, W = wr.drew → Below w.heap.size w W := by intro W hW; rw [hW]; exact HR.out.2.2.drew
      have HF := Lib.hid hfin
      clear hrd hcv hfin
      have hneg : i < 0 := by omega
      have HI := Lib.hid hi
      clear hi
      go_wp2_with fail
      refine region_still (fun W => (W.cell? ⟨d, 0, none⟩ = some (.slice (some ⟨bs, 0, none⟩) (64 * n) (64 * n)) ∧ W.cell? ⟨w1.heap.size, 0, none⟩ = some (.int .i64 ((k : Int) * 64)) ∧ W.cell? ⟨w1.heap.size, 1, none⟩ = some (.int .i64 (((k : Int) + 1) * 64))) ∧ W = wr.drew) ⟨⟨e0, b0, b1⟩, rfl⟩ (by kernel_rfl) (by kernel_rfl) ?_
      intro W ⟨⟨g0, g1, g2⟩, hW⟩
      have hcv := HCV.out W hW
      have hF := HF.out W hW
      have HF2 := Lib.hid hF
      clear hF hW e0 b0 b1
      repeat still_step
      refine wpStill_nil ?_
      go_wp2
      go_ret2
      exact ⟨rfl, HF2.out⟩
theorem text_empty : text [] = .string ByteArray.empty := rfl
/-- Read, whatever the sector. -/
theorem read_any (F : Nat → Prop) (d n : Nat) (s : Int) (D : Dsk) (w : World) (h : Disk w F d n D) (hbig : D.q.length ≤ 1000000) :
    Calls Try.prog 17 #[.pointer (some ⟨d, 0, none⟩), .int .i64 s] w fun e w' => e = .returned (.tuple #[text (D.read s).1, .int .i64 (D.read s).2]) ∧ Disk w' F d n D ∧ Below w.heap.size w w' := by
  obtain ⟨bs, be, qv, av, hD, h1, h2, h3, h4, h5⟩ := id h
  have key : ∀ w', Below w.heap.size w w' → Disk w' F d n D ∧ Below w.heap.size w w' := fun w' hb => ⟨h.below hb, hb⟩
  cases hoff : D.off with
  | true =>
    have e1 : D.read s = ([], 25) := by unfold Dsk.read; rw [hoff]; rfl
    rw [e1]
    exact (read_err (some ⟨d, 0, none⟩) s 25 w (.inr rfl) (at_off d n bs be s qv av D w hD hoff)).mono fun e w' ⟨he, hb⟩ => ⟨he, key w' hb⟩
  | false =>
    by_cases hok : 0 ≤ s ∧ s < (n : Int)
    · obtain ⟨k, rfl⟩ := Int.eq_ofNat_of_zero_le hok.1
      have hk : k < n := by omega
      have e1 : D.read (k : Int) = (D.rd k, 0) := by
        unfold Dsk.read; rw [hoff, if_neg (by simp), if_pos ⟨by omega, by rw [hD.ok.stl]; omega⟩]; simp
      rw [e1]
      exact (read_ok d n bs be k qv av D w hD hoff hk hbig).mono fun e w' ⟨he, hb⟩ => ⟨he, key w' hb⟩
    · have e1 : D.read s = ([], 1) := by
        unfold Dsk.read; rw [hoff, if_neg (by simp), if_neg (by rw [hD.ok.stl]; exact hok)]
      rw [e1]
      exact (read_err (some ⟨d, 0, none⟩) s 1 w (.inl rfl) (at_bad d n bs be s qv av D w hD hoff (by omega))).mono fun e w' ⟨he, hb⟩ => ⟨he, key w' hb⟩
theorem read_nil (s : Int) (w : World) :
    Calls Try.prog 17 #[.pointer none, .int .i64 s] w fun e w' => e = .returned (.tuple #[.string ByteArray.empty, .int .i64 1]) ∧ Below w.heap.size w w' :=
  read_err none s 1 w (.inl rfl) (at_nil s w)
end Go.Proofs.Ytmkfbedhmmijjaa
