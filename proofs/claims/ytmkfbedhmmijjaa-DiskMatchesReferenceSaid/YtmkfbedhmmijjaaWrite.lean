/- Disk.Write: a write becomes pending; an armed disk may turn off at it. -/
import Derived.Test.YtmkfbedhmmijjaaPlace
import Derived.Deep.RegionLaw
namespace Go.Proofs.Ytmkfbedhmmijjaa
open Go.RowKit
theorem Disk.below {w w' : World} {F : Nat → Prop} {d n : Nat} {D : Dsk} (h : Disk w F d n D) (hb : Below w.heap.size w w') : Disk w' F d n D := h.keep (Only.of_below hb (fun _ => False)) (fun _ _ => id)
theorem pend_info : (Try.prog.info? 71).map (fun i => (i.zero, i.size, i.bytes)) = some (some (.agg #[.int .i64 0, .int .i64 0, .string ByteArray.empty]), 3, 32) := by kernel_rfl

theorem write_err (d : Option Addr) (s : Int) (t : ByteArray) (x : Int) (w : World) (hx : x = 1 ∨ x = 25)
    (hat : ∀ W, Below w.heap.size w W → Calls Try.prog 39 #[.pointer d, .int .i64 s] W fun e w' => e = .returned (noSpot (.int .i64 x)) ∧ Below W.heap.size W w') :
    Calls Try.prog 22 #[.pointer d, .int .i64 s, .string t] w fun e w' => e = .returned (.int .i64 x) ∧ Below w.heap.size w w' := by
  have HAT := Lib.hid hat
  clear hat
  unfold noSpot at HAT
  rcases hx with rfl | rfl
  all_goals
    go_enter Try.func22, Try.ntmps22
    go_wp2_with fail
    refine (HAT.out _ (Below.refl _ _)).mono ?_
    rintro e w1 ⟨rfl, hb⟩
    have HB := Lib.hid hb
    clear hb
    go_wp2
    go_ret
    exact ⟨rfl, HB.out.alloc HB.out.size _⟩

theorem qc_snoc (q : List (Nat × List UInt8)) (k : Nat) (t : ByteArray) : qc (q ++ [(k, t.data.toList)]) = qc q ++ [.int .i64 ((k : Int) * 64), .int .i64 (((k : Int) + 1) * 64), .string t] := by
  simp [qc, List.flatMap_append]
theorem DiskAt.pushed {w w3 : World} {d n bs be g cap k : Nat} {qv av : Value} {D : Dsk} {t : ByteArray} (h : DiskAt w d n bs be qv av D)
    (hown : w3.ownsRow 0 71 3 (.slice (some ⟨g, 0, none⟩) (D.q.length + 1) cap) (D.q.length + 1) (qc D.q ++ [.int .i64 ((k : Int) * 64), .int .i64 (((k : Int) + 1) * 64), .string t]))
    (hgrow : w.grownBy w3 qv.ownBlock) (hk : k < n) (ht : t.size = 64) :
    DiskAt (w3.setCell ⟨d, 2, none⟩ (.slice (some ⟨g, 0, none⟩) (D.q.length + 1) cap)) d n bs be (.slice (some ⟨g, 0, none⟩) (D.q.length + 1) cap) av { D with q := D.q ++ [(k, t.data.toList)] } ∧
      Only (fun b => b = d ∨ qv.ownBlock = some b) w (w3.setCell ⟨d, 2, none⟩ (.slice (some ⟨g, 0, none⟩) (D.q.length + 1) cap)) := by
  have ho : Only (fun b => qv.ownBlock = some b) w w3 := (Only.refl _ w).grown hgrow (fun _ hk _ => hk)
  have n1 := own_blk_ne h.q h.blk (by decide)
  have n2 := own_blk_ne h.q h.st (by decide)
  have n3 := own_blk_ne h.q h.el (by decide)
  have b1 := ho.blk h.blk n1
  have e1 : bs ≠ d := fun e => h.blk.ne_ h.st (by decide) e.symm
  have e2 : be ≠ d := fun e => h.blk.ne_ h.el (by decide) e.symm
  have hgd : g ≠ d := fun e => own_blk_ne hown b1 (by decide) (by rw [e]; rfl)
  have ho2 : Only (fun b => b = d) w3 (w3.setCell ⟨d, 2, none⟩ (.slice (some ⟨g, 0, none⟩) (D.q.length + 1) cap)) := (Only.refl (fun b => b = d) w3).setCell (fun _ => rfl) _
  refine ⟨⟨⟨h.ok.lo, h.ok.hi, h.ok.stl, h.ok.ell, h.ok.st64, h.ok.el64, ?_, h.ok.arm⟩, b1.set_ 2 _, (ho.blk h.st n2).far e1 _, (ho.blk h.el n3).far e2 _, h.ne, ?_, ?_⟩, ?_⟩
  · intro p hp
    simp only [List.mem_append, List.mem_singleton] at hp
    rcases hp with hp | rfl
    · exact h.ok.q64 p hp
    · exact ⟨hk, by simpa using ht⟩
  · show World.ownsRow _ 0 71 3 _ (D.q ++ [(k, t.data.toList)]).length (qc (D.q ++ [(k, t.data.toList)]))
    rw [qc_snoc, List.length_append]
    refine ho2.own hown (fun b hb => ?_)
    have : g = b := by simpa [Value.ownBlock] using hb
    subst this
    exact hgd
  · refine ho2.armAt (ho.armAt h.arm (fun b hb => ?_)) (fun b hb => ?_)
    · obtain ⟨cs, hbk⟩ := h.arm_blk hb
      exact own_blk_ne h.q hbk (by decide)
    · obtain ⟨cs, hbk⟩ := h.arm_blk hb
      exact hbk.ne_ h.blk (by decide)
  · exact (ho.mono (fun _ _ h => Or.inr h)).trans ho2 (fun _ _ h => Or.inl h)

set_option maxHeartbeats 1000000 in
theorem write_put (F : Nat → Prop) (d n k : Nat) (t : ByteArray) (D : Dsk) (w : World) (h : Disk w F d n D) (hoff : D.off = false) (hk : k < n) (ht : t.size = 64) (hbig : D.q.length < 1000000) :
    Calls Try.prog 22 #[.pointer (some ⟨d, 0, none⟩), .int .i64 (k : Int), .string t] w fun e w' => e = .returned (.int .i64 (Dsk.count { D with q := D.q ++ [(k, t.data.toList)] }).2) ∧
      Disk w' (After F w w') d n (Dsk.count { D with q := D.q ++ [(k, t.data.toList)] }).1 ∧ Only F w w' := by
  obtain ⟨bs, be, qv, av, hD, h1, h2, h3, h4, h5⟩ := id h
  have hne : (!((t.size : Int) == 64)) = false := by rw [ht]; rfl
  have hbne : ((t.size : Int) == 64) = true := by rw [ht]; rfl
  obtain ⟨i0, hi, hz0, hz1, hz2⟩ := info_parts pend_info
  have HD := Lib.hid hD
  have H := Lib.hid h
  have HT := Lib.hid ht
  have HOFF := Lib.hid hoff
  clear hD h ht hoff
  go_enter Try.func22, Try.ntmps22
  go_wp2_with fail
  refine (at_ok d n bs be k qv av D w HD.out HOFF.out hk).mono ?_
  unfold aSpot
  rintro e w1 ⟨rfl, hb⟩
  have HB := Lib.hid hb
  clear hb
  go_wp2_with fail
  obtain ⟨W2, hW2⟩ : ∃ W2, W2 = w1.alloc (.cells #[.int .i64 ((k : Int) * 64), .int .i64 (((k : Int) + 1) * 64)] 67) := ⟨_, rfl⟩
  have hDW : DiskAt W2 d n bs be qv av D := by rw [hW2]; exact (HD.out.keep (Only.of_below HB.out (fun _ => False)) id id id (fun _ _ => id) (fun _ _ => id)).alloc _
  have hBW : Blk W2 w1.heap.size 67 #[.int .i64 ((k : Int) * 64), .int .i64 (((k : Int) + 1) * 64)] := by rw [hW2]; exact Blk.new _ _ _
  have hOW : Only (fun _ => False) w W2 := by rw [hW2]; exact (Only.of_below HB.out _).alloc _
  rw [← hW2]
  have c2 : W2.cell? ⟨d, 2, none⟩ = some qv := hDW.blk.cell 2
  have f2 : W2.frozen? ⟨d, 2, none⟩ = false := hDW.blk.frozen 2
  have b0 : W2.cell? ⟨w1.heap.size, 0, none⟩ = some (.int .i64 ((k : Int) * 64)) := hBW.cell 0
  have b1 : W2.cell? ⟨w1.heap.size, 1, none⟩ = some (.int .i64 (((k : Int) + 1) * 64)) := hBW.cell 1
  have hd2 : d < W2.heap.size := hDW.blk.lt
  have hw2 : w1.heap.size < W2.heap.size := hBW.lt
  have hnews : ∀ j u, ([.int .i64 ((k : Int) * 64), .int .i64 (((k : Int) + 1) * 64), .string t] : List Value)[j]? = some u →
      ((W2.alloc (.cells #[.int .i64 ((k : Int) * 64), .int .i64 (((k : Int) + 1) * 64), .string t] 71)).drew).cell? ((⟨W2.heap.size, 0, none⟩ : Addr).add j) = some u :=
    World.news_of_block (w := (W2.alloc (.cells #[.int .i64 ((k : Int) * 64), .int .i64 (((k : Int) + 1) * 64), .string t] 71)).drew) (Blk.new W2 71 _).drew
  have hone : ∀ u ∈ ([.int .i64 ((k : Int) * 64), .int .i64 (((k : Int) + 1) * 64), .string t] : List Value), u.oneCell' = true := by simp [Value.oneCell']
  have hmax : D.q.length + 1 ≤ maxLen := by unfold maxLen; omega
  have hbytes : (D.q.length + 1) * 32 ≤ 140737488355328 := by omega
  have hneq := own_blk_ne hDW.q hDW.blk (by decide)
  have hDA := (hDW.alloc (.cells #[.int .i64 ((k : Int) * 64), .int .i64 (((k : Int) + 1) * 64), .string t] 71)).drew
  have c2a : ((W2.alloc (.cells #[.int .i64 ((k : Int) * 64), .int .i64 (((k : Int) + 1) * 64), .string t] 71)).drew).cell? ⟨d, 2, none⟩ = some qv := hDA.blk.cell 2
  have f2a := hDA.blk.frozen 2
  have hlt2 := hDA.blk.lt
  have HC2A := Lib.hid c2a
  have HF2A := Lib.hid f2a
  have HLT2 := Lib.hid hlt2
  have HDA := Lib.hid hDA
  have HNE := Lib.hid hneq
  have HNEWS := Lib.hid hnews
  have HONE := Lib.hid hone
  have HMAX := Lib.hid hmax
  have HBYTES := Lib.hid hbytes
  have HDW := Lib.hid hDW
  have HOW := Lib.hid hOW
  clear hDW hBW hOW hW2 hnews hone hmax hbytes hneq c2a f2a hlt2 hDA
  go_region_law (refine step_append_lies _ rfl (.tmp 25) (.tmp 29) 58 rfl 0 71 i0 _ 3 32 Try.underlying58 hi hz0 hz1 hz2 rfl (by decide) qv D.q.length (qc D.q) rfl HDA.out.q ⟨W2.heap.size, 0, none⟩ 1 1 [.int .i64 ((k : Int) * 64), .int .i64 (((k : Int) + 1) * 64), .string t] rfl rfl HNEWS.out HONE.out (by decide) HMAX.out HBYTES.out (Nat.zero_le _) _ rfl ?_; intro g cap w3 hown hgrow hat hlt; have c2' := (hgrow.cell_far ⟨d, 2, none⟩ HLT2.out HNE.out.symm).trans HC2A.out; have f2' := (hgrow.frozen_far ⟨d, 2, none⟩ HLT2.out HNE.out.symm).trans HF2A.out)
  all_goals
    have hP := HDA.out.pushed hown hgrow hk HT.out
    have hO3 : Only F w (w3.setCell ⟨d, 2, none⟩ (.slice (some ⟨g, 0, none⟩) (D.q.length + 1) cap)) :=
      (((HOW.out.mono (fun _ _ h => False.elim h)).alloc _).drew).trans hP.2 (fun b _ hb => by rcases hb with rfl | hb; exact h1; exact h4 _ hb)
    have hsz : w.heap.size ≤ W2.heap.size := HOW.out.size
    have hD3 : Disk (w3.setCell ⟨d, 2, none⟩ (.slice (some ⟨g, 0, none⟩) (D.q.length + 1) cap)) (After F w w3) d n { D with q := D.q ++ [(k, t.data.toList)] } := by
      refine ⟨bs, be, _, av, hP.1, .inl h1, .inl h2, .inl h3, fun b hb => ?_, fun b hb => .inl (h5 b hb)⟩
      have : g = b := by simpa [Value.ownBlock] using hb
      subst this
      rcases hat with hat | hat
      · exact .inl (h4 _ hat)
      · refine .inr ⟨?_, hlt⟩
        rw [hat]; show w.heap.size ≤ ((W2.alloc _).drew).heap.size; simp; omega
    have HD3 := Lib.hid hD3
    have HO3 := Lib.hid hO3
    clear hP hD3 hO3 hown hgrow hat c2 f2 b0 b1 c2' f2' hsz hlt hd2 hw2
    go_wp2_with fail
    refine (count_any (After F w w3) d n _ _ HD3.out (by simp; omega)).mono ?_
    rintro e w5 ⟨rfl, hD5, hO5⟩
    have hD6 : Disk w5 (After F w w5) d n (Dsk.count { D with q := D.q ++ [(k, t.data.toList)] }).1 := by
      refine hD5.mono (fun b hb hF => ?_)
      have := hO5.size
      have e : (w3.setCell ⟨d, 2, none⟩ (.slice (some ⟨g, 0, none⟩) (D.q.length + 1) cap)).heap.size = w3.heap.size := by simp [World.setCell]
      have e2 := HO3.out.size
      rw [e] at this e2
      rcases hF with (hF | hF) | hF
      · exact .inl hF
      · exact .inr ⟨hF.1, hb⟩
      · rw [e] at hF; exact .inr ⟨by omega, hb⟩
    have hO6 : Only F w w5 := HO3.out.trans hO5 (fun b hb hF => by rcases hF with hF | hF; exact hF; omega)
    have HD6 := Lib.hid hD6
    have HO6 := Lib.hid hO6
    clear hD5 hO5 hD6 hO6
    go_wp2
    go_ret
    exact ⟨rfl, HD6.out, HO6.out⟩
/-- Write, whatever the sector and the text. -/
theorem write_any (F : Nat → Prop) (d n : Nat) (s : Int) (t : ByteArray) (D : Dsk) (w : World) (h : Disk w F d n D) (hbig : D.q.length < 1000000) (hs : -9223372036854775808 ≤ s ∧ s ≤ 9223372036854775807) :
    Calls Try.prog 22 #[.pointer (some ⟨d, 0, none⟩), .int .i64 s, .string t] w fun e w' => e = .returned (.int .i64 (D.write s t.data.toList).2) ∧
      Disk w' (After F w w') d n (D.write s t.data.toList).1 ∧ Only F w w' := by
  obtain ⟨bs, be, qv, av, hD, h1, h2, h3, h4, h5⟩ := id h
  cases hoff : D.off with
  | true =>
    have e1 : D.write s t.data.toList = (D, 25) := by unfold Dsk.write; rw [hoff]; rfl
    rw [e1]
    refine (write_err (some ⟨d, 0, none⟩) s t 25 w (.inr rfl) (fun W hW => at_off d n bs be s qv av D W (hD.keep (Only.of_below hW (fun _ => False)) id id id (fun _ _ => id) (fun _ _ => id)) hoff)).mono fun e w' ⟨he, hb⟩ => ?_
    exact ⟨he, h.after (Only.of_below hb _), Only.of_below hb _⟩
  | false =>
    by_cases hok : 0 ≤ s ∧ s < (n : Int)
    · obtain ⟨k, rfl⟩ := Int.eq_ofNat_of_zero_le hok.1
      have hk : k < n := by omega
      by_cases ht : t.size = 64
      · have e1 : D.write (k : Int) t.data.toList = Dsk.count { D with q := D.q ++ [(k, t.data.toList)] } := by
          unfold Dsk.write
          rw [hoff, if_neg (by simp), if_pos ⟨by omega, by rw [hD.ok.stl]; omega, by simpa using ht⟩]
          simp
        rw [e1]
        exact write_put F d n k t D w h hoff hk ht hbig
      · have e1 : D.write (k : Int) t.data.toList = (D, 1) := by
          unfold Dsk.write
          rw [hoff, if_neg (by simp), if_neg (by rintro ⟨_, _, h6⟩; exact ht (by simpa using h6))]
        rw [e1]
        have hne : (!((t.size : Int) == 64)) = true := by simp; omega
        have hne2 : ((t.size : Int) == 64) = false := by simp; omega
        have HD := Lib.hid hD
        have H := Lib.hid h
        have HOFF := Lib.hid hoff
        clear hD h hoff e1 ht
        go_enter Try.func22, Try.ntmps22
        go_wp2_with fail
        refine (at_ok d n bs be k qv av D w HD.out HOFF.out hk).mono ?_
        unfold aSpot
        rintro e w1 ⟨rfl, hb⟩
        have HB := Lib.hid hb
        clear hb
        go_wp2
        go_ret
        exact ⟨rfl, H.out.after ((Only.of_below HB.out _).alloc _), (Only.of_below HB.out _).alloc _⟩
    · have e1 : D.write s t.data.toList = (D, 1) := by
        unfold Dsk.write
        rw [hoff, if_neg (by simp), if_neg (by rintro ⟨h6, h7, _⟩; rw [hD.ok.stl] at h7; exact hok ⟨h6, h7⟩)]
      rw [e1]
      refine (write_err (some ⟨d, 0, none⟩) s t 1 w (.inl rfl) (fun W hW => at_bad d n bs be s qv av D W (hD.keep (Only.of_below hW (fun _ => False)) id id id (fun _ _ => id) (fun _ _ => id)) hoff (by omega))).mono fun e w' ⟨he, hb⟩ => ?_
      exact ⟨he, h.after (Only.of_below hb _), Only.of_below hb _⟩
theorem write_nil (s : Int) (t : ByteArray) (w : World) :
    Calls Try.prog 22 #[.pointer none, .int .i64 s, .string t] w fun e w' => e = .returned (.int .i64 1) ∧ Below w.heap.size w w' :=
  write_err none s t 1 w (.inl rfl) fun W _ => at_nil s W
end Go.Proofs.Ytmkfbedhmmijjaa
