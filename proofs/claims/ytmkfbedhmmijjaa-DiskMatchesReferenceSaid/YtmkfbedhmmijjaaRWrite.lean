/- The reference's disk: Write. -/
import Derived.Test.YtmkfbedhmmijjaaRWork
namespace Go.Proofs.Ytmkfbedhmmijjaa
open Go.RowKit
set_option maxHeartbeats 1000000 in
theorem rwrite_put (F : Nat → Prop) (d n k : Nat) (t : ByteArray) (D : Dsk) (w : World) (h : Ref w F d n D) (hoff : D.off = false) (hk : k < n) (ht : t.size = 64) (hbig : D.q.length < 1000000) :
    Calls Try.prog 32 #[.pointer (some ⟨d, 0, none⟩), .int .i64 (k : Int), .string t] w fun e w' => e = .returned (.int .i64 (Dsk.count { D with q := D.q ++ [(k, t.data.toList)] }).2) ∧
      Ref w' (After F w w') d n (Dsk.count { D with q := D.q ++ [(k, t.data.toList)] }).1 ∧ Only F w w' := by
  obtain ⟨bs, be, cs, ce, qv, am, f, x, y, hD, h1, h2, h3, h4⟩ := h
  obtain ⟨i0, hi, hz0, hz1, hz2⟩ := info_parts pendr_info
  have c0 : w.cell? ⟨d, 0, none⟩ = some (.slice (some ⟨bs, 0, none⟩) n cs) := hD.blk.cell 0
  have c2 : w.cell? ⟨d, 2, none⟩ = some qv := hD.blk.cell 2
  have c3 : w.cell? ⟨d, 3, none⟩ = some (.bool true) := by rw [hD.blk.cell 3, hoff]; rfl
  have hdl : d < w.heap.size := hD.blk.lt
  have b1 : (!((t.size : Int) == 64)) = false := by rw [ht]; rfl
  have b2 : ((t.size : Int) == 64) = true := by rw [ht]; rfl
  have p1 : decide ((k : Int) < 0) = false := by simp
  have p2 : decide (n ≤ k) = false := by simp; omega
  have p3 : decide ((n : Int) ≤ (k : Int)) = false := by simp; omega
  have p4 : (k : Int) < (n : Int) := by omega
  obtain ⟨wa, hwa⟩ : ∃ wa, wa = w.alloc (.cells #[.int .i64 (k : Int), .string t] 73) := ⟨_, rfl⟩
  have hDa : RefAt wa d n bs be cs ce qv am f x y D := by rw [hwa]; exact hD.alloc _
  have hnews : ∀ j u, ([.int .i64 (k : Int), .string t] : List Value)[j]? = some u → wa.cell? ((⟨w.heap.size, 0, none⟩ : Addr).add j) = some u := by
    rw [hwa]
    exact World.news_of_block (w := w.alloc (.cells #[.int .i64 (k : Int), .string t] 73)) (Blk.new w 73 _)
  have hone : ∀ u ∈ ([.int .i64 (k : Int), .string t] : List Value), u.oneCell' = true := by simp [Value.oneCell']
  have hmax : D.q.length + 1 ≤ maxLen := by unfold maxLen; omega
  have hbytes : (D.q.length + 1) * 24 ≤ 140737488355328 := by omega
  have hneq := own_blk_ne hDa.q hDa.blk (by decide)
  have c2a : wa.cell? ⟨d, 2, none⟩ = some qv := hDa.blk.cell 2
  have f2a := hDa.blk.frozen 2
  have hlta := hDa.blk.lt
  have hsz : w.heap.size ≤ wa.heap.size := by rw [hwa]; simp
  have HC2A := Lib.hid c2a
  have HF2A := Lib.hid f2a
  have HLT := Lib.hid hlta
  have HDA := Lib.hid hDa
  have HNE := Lib.hid hneq
  have HNEWS := Lib.hid hnews
  have HONE := Lib.hid hone
  have HMAX := Lib.hid hmax
  have HBYTES := Lib.hid hbytes
  have HT := Lib.hid ht
  have HWA := Lib.hid hwa
  have HSZ := Lib.hid hsz
  clear hDa hnews hone hmax hbytes hneq c2a f2a hlta hD ht hoff hsz hwa
  go_enter Try.func32, Try.ntmps32
  go_wp2_with (first
    | (at_builtin; rw [← HWA.out]; refine wpList_append_lies _ rfl (.tmp 34) (.tmp 38) 62 rfl 0 73 i0 _ 2 24 Try.underlying62 hi hz0 hz1 hz2 rfl (by decide) qv D.q.length (qr D.q) rfl HDA.out.q ⟨w.heap.size, 0, none⟩ 1 1 [.int .i64 (k : Int), .string t] rfl rfl HNEWS.out HONE.out (by decide) HMAX.out HBYTES.out (Nat.zero_le _) _ rfl ?_; intro g cap w3 hown hgrow hat hlt; have c2' := (hgrow.cell_far ⟨d, 2, none⟩ HLT.out HNE.out.symm).trans HC2A.out; have f2' := (hgrow.frozen_far ⟨d, 2, none⟩ HLT.out HNE.out.symm).trans HF2A.out; have HOWN := Lib.hid hown; have HGROW := Lib.hid hgrow; have HAT := Lib.hid hat; have HLT3 := Lib.hid hlt; have hd3 : d < w3.heap.size := Nat.lt_of_lt_of_le HLT.out hgrow.size; clear hown hgrow hat hlt))
  have hP := HDA.out.pushed HOWN.out HGROW.out hk HT.out
  have hO3 : Only F w (w3.setCell ⟨d, 2, none⟩ (.slice (some ⟨g, 0, none⟩) (D.q.length + 1) cap)) := by
    have h0 : Only F w wa := by rw [HWA.out]; exact (Only.refl F w).alloc _
    exact h0.trans hP.2 (fun b _ hb => by rcases hb with rfl | hb; exact h1; exact h4 _ hb)
  have hD3 : Ref (w3.setCell ⟨d, 2, none⟩ (.slice (some ⟨g, 0, none⟩) (D.q.length + 1) cap)) (After F w w3) d n { D with q := D.q ++ [(k, t.data.toList)] } := by
    refine ⟨bs, be, cs, ce, _, am, f, x, y, hP.1, .inl h1, .inl h2, .inl h3, fun b hb => ?_⟩
    have : g = b := by simpa [Value.ownBlock] using hb
    subst this
    rcases HAT.out with hat | hat
    · exact .inl (h4 _ hat)
    · refine .inr ⟨?_, HLT3.out⟩
      rw [hat]; exact HSZ.out
  have HD3 := Lib.hid hD3
  have HO3 := Lib.hid hO3
  clear hP hD3 hO3 c2' f2' c0 c2 c3
  refine (rcount_any (After F w w3) d n _ _ HD3.out (by simp; omega)).mono ?_
  rintro e w5 ⟨rfl, hD5, hO5⟩
  have hD6 : Ref w5 (After F w w5) d n (Dsk.count { D with q := D.q ++ [(k, t.data.toList)] }).1 := by
    refine hD5.mono (fun b hb hF => ?_)
    have := hO5.size
    have e : (w3.setCell ⟨d, 2, none⟩ (.slice (some ⟨g, 0, none⟩) (D.q.length + 1) cap)).heap.size = w3.heap.size := by simp [World.setCell]
    have e2 := HO3.out.size
    rw [e] at this e2
    rcases hF with (hF | hF) | hF
    · exact .inl hF
    · exact .inr ⟨hF.1, hb⟩
    · rw [e] at hF; exact .inr ⟨by omega, hb⟩
  have hO6 : Only F w w5 := HO3.out.trans hO5 (fun b hb hF => by rcases hF with hF | hF; exact hF; omega)
  have HD6 := Lib.hid hD6
  have HO6 := Lib.hid hO6
  clear hD5 hO5 hD6 hO6
  go_wp2
  go_ret
  exact ⟨rfl, HD6.out, HO6.out⟩

set_option maxHeartbeats 400000 in
theorem rwrite_any (F : Nat → Prop) (d n : Nat) (s : Int) (t : ByteArray) (D : Dsk) (w : World) (h : Ref w F d n D) (hbig : D.q.length < 1000000) :
    Calls Try.prog 32 #[.pointer (some ⟨d, 0, none⟩), .int .i64 s, .string t] w fun e w' => e = .returned (.int .i64 (D.write s t.data.toList).2) ∧
      Ref w' (After F w w') d n (D.write s t.data.toList).1 ∧ Only F w w' := by
  obtain ⟨bs, be, cs, ce, qv, am, f, x, y, hD, h1, h2, h3, h4⟩ := id h
  have c0 : w.cell? ⟨d, 0, none⟩ = some (.slice (some ⟨bs, 0, none⟩) n cs) := hD.blk.cell 0
  cases hoff : D.off with
  | true =>
    have e1 : D.write s t.data.toList = (D, 25) := by unfold Dsk.write; rw [hoff]; rfl
    rw [e1]
    have c3 : w.cell? ⟨d, 3, none⟩ = some (.bool false) := by rw [hD.blk.cell 3, hoff]; rfl
    have H := Lib.hid h
    clear h hD hoff e1
    go_enter Try.func32, Try.ntmps32
    go_wp2
    go_ret
    exact ⟨rfl, H.out.mono (fun _ _ h => .inl h), Only.refl _ _⟩
  | false =>
    have c3 : w.cell? ⟨d, 3, none⟩ = some (.bool true) := by rw [hD.blk.cell 3, hoff]; rfl
    by_cases hok : 0 ≤ s ∧ s < (n : Int)
    · obtain ⟨k, rfl⟩ := Int.eq_ofNat_of_zero_le hok.1
      have hk : k < n := by omega
      by_cases ht : t.size = 64
      · have e1 : D.write (k : Int) t.data.toList = Dsk.count { D with q := D.q ++ [(k, t.data.toList)] } := by
          unfold Dsk.write
          rw [hoff, if_neg (by simp), if_pos ⟨by omega, by rw [hD.ok.stl]; omega, by simpa using ht⟩]
          simp
        rw [e1]
        exact rwrite_put F d n k t D w h hoff hk ht hbig
      · have e1 : D.write (k : Int) t.data.toList = (D, 1) := by
          unfold Dsk.write
          rw [hoff, if_neg (by simp), if_neg (by rintro ⟨_, _, h6⟩; exact ht (by simpa using h6))]
        rw [e1]
        have hne : (!((t.size : Int) == 64)) = true := by simp; omega
        have hne2 : ((t.size : Int) == 64) = false := by simp; omega
        have H := Lib.hid h
        have p1 : decide ((k : Int) < 0) = false := by simp
        have p2 : decide (n ≤ k) = false := by simp; omega
        have p4 : (k : Int) < (n : Int) := by omega
        clear hD h hoff e1 ht
        go_enter Try.func32, Try.ntmps32
        go_wp2
        go_ret
        exact ⟨rfl, H.out.mono (fun _ _ h => .inl h), Only.refl _ _⟩
    · have e1 : D.write s t.data.toList = (D, 1) := by
        unfold Dsk.write
        rw [hoff, if_neg (by simp), if_neg (by rintro ⟨h6, h7, _⟩; rw [hD.ok.stl] at h7; exact hok ⟨h6, h7⟩)]
      rw [e1]
      have H := Lib.hid h
      clear hD h hoff e1
      rcases Int.lt_or_le s 0 with h0 | h0
      · go_enter Try.func32, Try.ntmps32
        go_wp2
        go_ret
        exact ⟨rfl, H.out.mono (fun _ _ h => .inl h), Only.refl _ _⟩
      · have h5 : (n : Int) ≤ s := by omega
        clear hok
        go_enter Try.func32, Try.ntmps32
        go_wp2
        go_ret
        exact ⟨rfl, H.out.mono (fun _ _ h => .inl h), Only.refl _ _⟩
end Go.Proofs.Ytmkfbedhmmijjaa
