/- Disk.set: the first bytes of a sector are replaced, and its elder content is kept. -/
import Derived.Test.YtmkfbedhmmijjaaLaws
namespace Go.Proofs.Ytmkfbedhmmijjaa
open Go.RowKit

section
variable {w w' : World} {d n bs be : Nat} {qv av : Value} {D D' : Dsk} {F : Nat → Prop}
theorem u8_append (a b : List UInt8) : u8 (a ++ b) = u8 a ++ u8 b := by simp [u8]
theorem u8_length (a : List UInt8) : (u8 a).length = a.length := by simp [u8]
theorem u8_take (a : List UInt8) (k : Nat) : (u8 a).take k = u8 (a.take k) := by simp [u8, List.map_take]
theorem u8_drop (a : List UInt8) (k : Nat) : (u8 a).drop k = u8 (a.drop k) := by simp [u8, List.map_drop]
theorem u8_one (a : List UInt8) : ∀ v ∈ u8 a, v.oneCell' = true := by
  intro v hv
  simp only [u8, List.mem_map] at hv
  obtain ⟨c, _, rfl⟩ := hv
  rfl
theorem add_spot (g i j : Nat) : (⟨g, i, none⟩ : Addr).add j = ⟨g, i + j, none⟩ := by
  unfold Addr.add
  split <;> simp_all
theorem DiskAt.keep (h : DiskAt w d n bs be qv av D) (ho : Only F w w') (h1 : ¬ F d) (h2 : ¬ F bs) (h3 : ¬ F be) (h4 : ∀ k, qv.ownBlock = some k → ¬ F k) (h5 : ∀ k, av = .pointer (some ⟨k, 0, none⟩) → ¬ F k) : DiskAt w' d n bs be qv av D :=
  ⟨h.ok, ho.blk h.blk h1, ho.blk h.st h2, ho.blk h.el h3, h.ne, ho.own h.q h4, ho.armAt h.arm h5⟩
theorem DiskAt.arm_blk (h : DiskAt w d n bs be qv av D) {k : Nat} (hk : av = .pointer (some ⟨k, 0, none⟩)) : ∃ cs, Blk w k 77 cs := by
  have := h.arm
  match ha : D.arm with
  | none => rw [ha] at this; have : av = .pointer none := this; rw [this] at hk; simp at hk
  | some (a, b, c) =>
    rw [ha] at this
    obtain ⟨ba, e, hb⟩ := this
    have : ba = k := by rw [e] at hk; simpa using hk
    subst this
    exact ⟨_, hb⟩
/-- Only the two rows of bytes have turned. -/
theorem DiskAt.rows (h : DiskAt w d n bs be qv av D) (ho : Only (fun b => b = bs ∨ b = be) w w') (hok : D'.Ok n) (hs : Blk w' bs 5 (u8 D'.st.flatten).toArray) (he : Blk w' be 5 (u8 D'.el.flatten).toArray)
    (e1 : D'.q = D.q) (e2 : D'.off = D.off) (e3 : D'.arm = D.arm) : DiskAt w' d n bs be qv av D' := by
  refine ⟨hok, ?_, hs, he, h.ne, ?_, ?_⟩
  · rw [e2]
    exact ho.blk h.blk (by rintro (e | e) <;> subst e; exact h.blk.ne_ h.st (by decide) rfl; exact h.blk.ne_ h.el (by decide) rfl)
  · rw [e1]
    refine ho.own h.q (fun k hk => ?_)
    rintro (e | e) <;> subst e
    · exact own_blk_ne h.q h.st (by decide) hk
    · exact own_blk_ne h.q h.el (by decide) hk
  · rw [e3]
    refine ho.armAt h.arm (fun k hk => ?_)
    obtain ⟨cs, hb⟩ := h.arm_blk hk
    rintro (e | e) <;> subst e
    · exact hb.ne_ h.st (by decide) rfl
    · exact hb.ne_ h.el (by decide) rfl
theorem set_elder (h : D.Ok n) {k : Nat} (hk : k < n) (t : List UInt8) :
    ((u8 D.el.flatten).toArray.toList.take (64 * k) ++ ((((u8 D.st.flatten).drop (64 * k)).take 64) ++ (u8 D.el.flatten).toArray.toList.drop (64 * k + ((((u8 D.st.flatten).drop (64 * k)).take 64)).length))) = u8 (D.set k t).el.flatten := by
  have e := flat_sector D.st h.st64 k (by rw [h.stl]; exact hk)
  have e64 := mem64 h.st64 (s := k) (by rw [h.stl]; exact hk)
  have e3 : ((u8 D.st.flatten).drop (64 * k)).take 64 = u8 (D.st.getD k []) := by rw [u8_drop, u8_take, e]
  rw [e3, u8_length, e64]
  show _ = u8 (D.el.set k (D.st.getD k [])).flatten
  rw [flat_set _ h.el64 k (by rw [h.ell]; exact hk), u8_append, u8_append]
  simp [u8, List.map_take, List.map_drop]
theorem set_stable (h : D.Ok n) {k : Nat} (hk : k < n) (t : List UInt8) (ht : t.length ≤ 64) :
    ((u8 D.st.flatten).toArray.toList.take (64 * k) ++ (u8 t ++ (u8 D.st.flatten).toArray.toList.drop (64 * k + t.length))) = u8 (D.set k t).st.flatten := by
  have e := flat_sector D.st h.st64 k (by rw [h.stl]; exact hk)
  have e64 := mem64 h.st64 (s := k) (by rw [h.stl]; exact hk)
  show _ = u8 (D.st.set k (t ++ (D.st.getD k []).drop t.length)).flatten
  rw [flat_set _ h.st64 k (by rw [h.stl]; exact hk), u8_append, u8_append, u8_append]
  have e2 : D.st.flatten.drop (64 * k + t.length) = (D.st.getD k []).drop t.length ++ D.st.flatten.drop (64 * k + 64) := by
    rw [← e, ← List.drop_drop (i := t.length) (j := 64 * k), ← List.drop_drop (i := 64) (j := 64 * k)]
    generalize D.st.flatten.drop (64 * k) = X at *
    conv => lhs; rw [← List.take_append_drop 64 X]
    rw [List.drop_append, show t.length - (X.take 64).length = 0 from by rw [e, e64]; omega]
    rfl
  simp only [List.append_assoc]
  rw [u8_drop, e2, u8_append, u8_take]
theorem src_cells {g : Nat} {l : List UInt8} {t : TypeId} (h : Blk w g t (u8 l).toArray) (o m : Nat) : ∀ j v, (((u8 l).drop o).take m)[j]? = some v → w.cell? ((⟨g, o, none⟩ : Addr).add j) = some v := by
  intro j v hj
  rw [add_spot, h.cell]
  rw [List.getElem?_take] at hj
  split at hj
  · rw [List.getElem?_drop] at hj
    simpa using hj
  · cases hj
end

set_option maxHeartbeats 400000 in
theorem set_any (k d n bs be : Nat) (qv av : Value) (t : ByteArray) (D : Dsk) (w : World) (h : DiskAt w d n bs be qv av D) (hk : k < n) (ht : t.size ≤ 64) :
    Calls Try.prog 42 #[.pointer (some ⟨d, 0, none⟩), .agg #[.int .i64 ((k : Int) * 64), .int .i64 (((k : Int) + 1) * 64)], .string t] w fun e w' => e = .returned (.tuple #[]) ∧
      DiskAt w' d n bs be qv av (D.set k t.data.toList) ∧ Only (fun b => b = bs ∨ b = be) w w' := by
  have hn := h.ok.hi
  have hsl := fun g => run_cut g (64 * n) (64 * n) (64 * k) (64 * k + 64) ((k : Int) * 64) (((k : Int) + 1) * 64) (by omega) (by omega) (by omega) (by omega) (by omega)
  go_enter Try.func42, Try.ntmps42
  go_wp2
  refine region_tail 18 (fun W => (W.cell? ⟨d, 0, none⟩ = some (.slice (some ⟨bs, 0, none⟩) (64 * n) (64 * n)) ∧ W.cell? ⟨d, 1, none⟩ = some (.slice (some ⟨be, 0, none⟩) (64 * n) (64 * n)) ∧
    W.cell? ⟨w.heap.size, 0, none⟩ = some (.int .i64 ((k : Int) * 64)) ∧ W.cell? ⟨w.heap.size, 1, none⟩ = some (.int .i64 (((k : Int) + 1) * 64))) ∧
    Blk W w.heap.size 67 #[.int .i64 ((k : Int) * 64), .int .i64 (((k : Int) + 1) * 64)] ∧ Only (fun _ => False) w W ∧ DiskAt W d n bs be qv av D) ?_ (by kernel_rfl) (by kernel_rfl) ?_
  · have ho : Only (fun _ => False) w (w.alloc (.cells #[.int .i64 ((k : Int) * 64), .int .i64 (((k : Int) + 1) * 64)] 67)).drew := ((Only.refl (fun _ => False) w).alloc _).drew
    have hD := h.keep ho id id id (fun _ _ => id) (fun _ _ => id)
    have hb := (Blk.new w 67 #[.int .i64 ((k : Int) * 64), .int .i64 (((k : Int) + 1) * 64)]).drew
    exact ⟨⟨hD.blk.cell 0, hD.blk.cell 1, hb.cell 0, hb.cell 1⟩, hb, ho, hD⟩
  · intro W ⟨⟨c0, c1, c2, c3⟩, hb, ho, hD⟩
    have HB := Lib.hid hb
    have HO := Lib.hid ho
    have HD := Lib.hid hD
    have hlt : w.heap.size < W.heap.size := hb.lt
    have hN := h.ok
    have hle : (u8 D.st.flatten).length = 64 * n := by rw [u8_length, flat_length _ hN.st64, hN.stl]
    have hlel : (u8 D.el.flatten).length = 64 * n := by rw [u8_length, flat_length _ hN.el64, hN.ell]
    have HL := Lib.hid hle
    have HE := Lib.hid hlel
    clear hb ho hD hle hlel hN
    have H := Lib.hid h
    clear h
    simp only [List.take_succ_cons, List.take_zero, List.drop_succ_cons, List.drop_zero]
    repeat still_step
    refine wpStill_nil ?_
    have hlen : (((u8 D.st.flatten).drop (64 * k)).take 64).length = 64 := by rw [List.length_take, List.length_drop, HL.out]; omega
    have HLEN := Lib.hid hlen
    clear hlen
    refine wpList_copy_blk rfl (.tmp 14) (.tmp 23) 57 57 rfl 5 Try.underlying57 byte_size be (64 * k) _ _ _ _ _ rfl rfl _ 5 HD.out.el (((u8 D.st.flatten).drop (64 * k)).take 64) ?_ (src_cells HD.out.st _ _) ?_ ?_ ?_
    · rw [HLEN.out]; rfl
    · rw [HLEN.out, List.size_toArray, HE.out]; omega
    · intro v hv; exact u8_one _ v (List.mem_of_mem_drop (List.mem_of_mem_take hv))
    · intro w' h1 h2
      rw [set_elder HD.out.ok hk t.data.toList] at h1
      have h3 : ¬ d = be := HD.out.blk.ne_ HD.out.el (by decide)
      have h4 : ¬ w.heap.size = be := HB.out.ne_ HD.out.el (by decide)
      have c0' : w'.cell? ⟨d, 0, none⟩ = some (.slice (some ⟨bs, 0, none⟩) (64 * n) (64 * n)) := (h2.blk HD.out.blk h3).cell 0
      have c2' : w'.cell? ⟨w.heap.size, 0, none⟩ = some (.int .i64 ((k : Int) * 64)) := (h2.blk HB.out h4).cell 0
      have c3' : w'.cell? ⟨w.heap.size, 1, none⟩ = some (.int .i64 (((k : Int) + 1) * 64)) := (h2.blk HB.out h4).cell 1
      have H1 := Lib.hid h1
      have H2 := Lib.hid h2
      clear h1 h2 h3 h4
      go_wp2
      refine region_tail 10 (fun W' => (W'.cell? ⟨d, 0, none⟩ = some (.slice (some ⟨bs, 0, none⟩) (64 * n) (64 * n)) ∧
         W'.cell? ⟨w.heap.size, 0, none⟩ = some (.int .i64 ((k : Int) * 64)) ∧ W'.cell? ⟨w.heap.size, 1, none⟩ = some (.int .i64 (((k : Int) + 1) * 64))) ∧ W' = w'.drew) ⟨⟨c0', c2', c3'⟩, rfl⟩ (by kernel_rfl) (by kernel_rfl) ?_
      intro W' ⟨⟨d0, d2, d3⟩, hW'⟩
      have HW := Lib.hid hW'
      clear hW'
      simp only [List.take_succ_cons, List.take_zero, List.drop_succ_cons, List.drop_zero]
      repeat still_step
      refine wpStill_nil ?_
      have hst : Blk W' bs 5 (u8 D.st.flatten).toArray := by rw [HW.out]; exact (H2.out.blk HD.out.st HD.out.ne).drew
      refine wpList_copy_text rfl (.tmp 33) (.tmp 34) 57 9 rfl 5 Try.underlying57 byte_size bs (64 * k) _ _ t rfl rfl (u8 D.st.flatten).toArray 5 hst ?_ ?_ ?_
      · omega
      · rw [List.size_toArray, HL.out]; omega
      · intro w'' h1 h2
        have et : t.size = t.data.toList.length := by simp
        rw [et, set_stable HD.out.ok hk t.data.toList (by rw [← et]; exact ht)] at h1
        have h3 : Only (fun b => b = bs ∨ b = be) w w'' := by
          have e1 : Only (fun b => b = bs ∨ b = be) w W' := by
            rw [HW.out]; exact (HO.out.mono (F' := fun b => b = bs ∨ b = be) (fun _ _ h => h.elim)).trans (H2.out.drew) (fun k _ hk => .inr hk)
          exact e1.trans h2 (fun k _ hk => .inl hk)
        have h4 : Blk w'' be 5 (u8 (D.set k t.data.toList).el.flatten).toArray := h2.blk (by rw [HW.out]; exact (H1.out).drew) (fun e => HD.out.ne e.symm)
        have h5 : DiskAt w'' d n bs be qv av (D.set k t.data.toList) := H.out.rows h3 (H.out.ok.set hk (by rw [← et]; exact ht)) h1 h4 rfl rfl rfl
        have H3 := Lib.hid h3
        have H5 := Lib.hid h5
        clear h1 h2 h3 h4 h5 hst et
        go_wp2
        go_end0
        exact ⟨rfl, H5.out, H3.out⟩
end Go.Proofs.Ytmkfbedhmmijjaa
