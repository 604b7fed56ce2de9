/- The reference's disk: Sync and Write. -/
import Derived.Test.YtmkfbedhmmijjaaRSync
namespace Go.Proofs.Ytmkfbedhmmijjaa
open Go.RowKit
theorem RefAt.cleared {w : World} {d n bs be cs ce : Nat} {qv : Value} {am : Bool} {f x y : Int} {D : Dsk} (h : RefAt w d n bs be cs ce qv am f x y D) :
    RefAt (w.setCell ⟨d, 2, none⟩ (.slice none 0 0)) d n bs be cs ce (.slice none 0 0) am f x y { D with q := [] } ∧ Only (fun b => b = d) w (w.setCell ⟨d, 2, none⟩ (.slice none 0 0)) := by
  have hb := h.blk.set_ 2 (.slice none 0 0)
  have e := h.blk_st h.blk (by decide)
  refine ⟨⟨⟨h.ok.lo, h.ok.hi, h.ok.stl, h.ok.ell, h.ok.st64, h.ok.el64, (fun _ hp => by cases hp), h.ok.arm⟩, hb, rt_far h.st (by simpa [Value.ownBlock] using fun h => e.1 h.symm) _, rt_far h.el (by simpa [Value.ownBlock] using fun h => e.2 h.symm) _, h.ne, World.ownsRow_nil _ _ _ _, h.arm⟩, ?_⟩
  exact (Only.refl (fun b => b = d) w).setCell (p := ⟨d, 2, none⟩) (fun _ => rfl) _

set_option maxHeartbeats 400000 in
theorem rsync_any (F : Nat → Prop) (d n : Nat) (D : Dsk) (w : World) (h : Ref w F d n D) (hbig : D.q.length ≤ 1000000) :
    Calls Try.prog 33 #[.pointer (some ⟨d, 0, none⟩)] w fun e w' => e = .returned (.int .i64 D.sync.2) ∧ Ref w' (After F w w') d n D.sync.1 ∧ Only F w w' := by
  obtain ⟨bs, be, cs, ce, qv, am, f, x, y, hD, h1, h2, h3, h4⟩ := id h
  cases hoff : D.off with
  | true =>
    have e1 : D.sync = (D, 25) := by unfold Dsk.sync; rw [hoff]; rfl
    rw [e1]
    have c3 : w.cell? ⟨d, 3, none⟩ = some (.bool false) := by rw [hD.blk.cell 3, hoff]; rfl
    have H := Lib.hid h
    clear h hD hoff e1
    go_enter Try.func33, Try.ntmps33
    go_wp2
    go_ret
    exact ⟨rfl, H.out.mono (fun _ _ h => .inl h), Only.refl _ _⟩
  | false =>
    have c3 : w.cell? ⟨d, 3, none⟩ = some (.bool true) := by rw [hD.blk.cell 3, hoff]; rfl
    have RC := rcount_any F d n D w h hbig
    obtain ⟨D1, hD1⟩ : ∃ D1, D1 = D.count.1 := ⟨_, rfl⟩
    rcases count_two D with hc | hc
    · have e1 : D.sync = ({ D1.settle D1.q with q := [] }, 0) := by unfold Dsk.sync; rw [hoff, hc, ← hD1]; rfl
      have hq := count_q hc
      rw [← hD1] at hq
      have hq1 : D1.q.length ≤ 1000000 := by rw [hq.1]; exact hbig
      rw [hc, ← hD1] at RC
      rw [e1]
      have HRC := Lib.hid RC
      clear RC hD1 hc hoff e1 hq hD h hbig
      go_enter Try.func33, Try.ntmps33
      go_wp2_with fail
      refine HRC.out.mono ?_
      rintro e w1 ⟨rfl, hR, hO⟩
      obtain ⟨bs, be, cs, ce, qv, am, f, x, y, hD, g1, g2, g3, g4⟩ := hR
      obtain ⟨A, c, hqv⟩ := qv_form hD.q
      have d2 : w1.cell? ⟨d, 2, none⟩ = some (.slice A D1.q.length c) := by have := hD.blk.cell 2; rw [hqv] at this; exact this
      have hdl := hD.blk.lt
      have HD := Lib.hid hD
      have HO := Lib.hid hO
      clear hD hO hqv c3
      go_wp2_with fail
      refine (rsettle_any D1.q.length d n bs be cs ce qv am f x y D1 w1 HD.out (Nat.le_refl _) hq1).mono ?_
      rintro e w2 ⟨rfl, hD2, hO2⟩
      rw [List.take_length] at hD2
      have d2' : w2.cell? ⟨d, 2, none⟩ = some qv := hD2.blk.cell 2
      have f2' : w2.frozen? ⟨d, 2, none⟩ = false := hD2.blk.frozen 2
      have hdl2 := hD2.blk.lt
      have hcl := hD2.cleared
      have hO3 : Only F w (w2.setCell ⟨d, 2, none⟩ (.slice none 0 0)) := by
        have h5 : Only F w w2 := HO.out.trans hO2 (fun b hb hF => by
          rcases hF with rfl | rfl
          · rcases g2 with g2 | g2
            · exact g2
            · omega
          · rcases g3 with g3 | g3
            · exact g3
            · omega)
        exact h5.trans hcl.2 (fun b hb hF => by subst hF; exact h1)
      have hsz := hO2.size
      have hR3 : Ref (w2.setCell ⟨d, 2, none⟩ (.slice none 0 0)) (After F w (w2.setCell ⟨d, 2, none⟩ (.slice none 0 0))) d n { D1.settle D1.q with q := [] } := by
        have hup : ∀ b, b < w1.heap.size → After F w w1 b → After F w (w2.setCell ⟨d, 2, none⟩ (.slice none 0 0)) b := fun b _ hF => by
          rcases hF with hF | hF
          · exact .inl hF
          · refine .inr ⟨hF.1, Nat.lt_of_lt_of_le hF.2 ?_⟩
            show w1.heap.size ≤ (w2.setCell ⟨d, 2, none⟩ (.slice none 0 0)).heap.size
            simpa [World.setCell] using hsz
        have hn := HD.out.ok.lo
        exact ⟨bs, be, cs, ce, _, am, f, x, y, hcl.1, hup _ hdl g1, hup _ (rt_lt HD.out.st HD.out.ok.stl (by omega)) g2, hup _ (rt_lt HD.out.el HD.out.ok.ell (by omega)) g3, fun k hk => by simp [Value.ownBlock] at hk⟩
      have HR3 := Lib.hid hR3
      have HO3 := Lib.hid hO3
      clear hD2 hO2 hcl hO3 hR3 hsz d2
      go_wp2
      go_ret
      exact ⟨rfl, HR3.out, HO3.out⟩
    · have e1 : D.sync = (D1, 25) := by unfold Dsk.sync; rw [hoff, if_neg (by simp), hc, if_neg (by decide), hD1, ← hc]
      rw [hc, ← hD1] at RC
      rw [e1]
      have HRC := Lib.hid RC
      clear RC hD1 hc hoff e1 hD h hbig
      go_enter Try.func33, Try.ntmps33
      go_wp2_with fail
      refine HRC.out.mono ?_
      rintro e w1 ⟨rfl, hR, hO⟩
      have HR := Lib.hid hR
      have HO := Lib.hid hO
      clear hR hO
      go_wp2
      go_ret
      exact ⟨rfl, HR.out, HO.out⟩

theorem pendr_info : (Try.prog.info? 73).map (fun i => (i.zero, i.size, i.bytes)) = some (some (.agg #[.int .i64 0, .string ByteArray.empty]), 2, 24) := by kernel_rfl
theorem qr_snoc (q : List (Nat × List UInt8)) (k : Nat) (t : ByteArray) : qr (q ++ [(k, t.data.toList)]) = qr q ++ [.int .i64 (k : Int), .string t] := by
  simp [qr, List.flatMap_append, text]
theorem RefAt.pushed {w w3 : World} {d n bs be cs ce k : Nat} {qv v' : Value} {am : Bool} {f x y : Int} {D : Dsk} {t : ByteArray} (h : RefAt w d n bs be cs ce qv am f x y D)
    (hown : w3.ownsRow 0 73 2 v' (D.q.length + 1) (qr D.q ++ [.int .i64 (k : Int), .string t]))
    (hgrow : w.grownBy w3 qv.ownBlock) (hk : k < n) (ht : t.size = 64) :
    RefAt (w3.setCell ⟨d, 2, none⟩ v') d n bs be cs ce v' am f x y { D with q := D.q ++ [(k, t.data.toList)] } ∧ Only (fun b => b = d ∨ qv.ownBlock = some b) w (w3.setCell ⟨d, 2, none⟩ v') := by
  have ho : Only (fun b => qv.ownBlock = some b) w w3 := (Only.refl _ w).grown hgrow (fun _ hk _ => hk)
  have n1 := own_blk_ne h.q h.blk (by decide)
  have b1 := ho.blk h.blk n1
  have e := h.blk_st h.blk (by decide)
  have hgd := own_blk_ne hown b1 (by decide)
  have ho2 : Only (fun b => b = d) w3 (w3.setCell ⟨d, 2, none⟩ v') := (Only.refl (fun b => b = d) w3).setCell (fun _ => rfl) _
  have s1 : TextsAt w3 0 (.slice (some ⟨bs, 0, none⟩) n cs) D.st := ho.own h.st (fun j hj => by
    have e2 : bs = j := by simpa [Value.ownBlock] using hj
    subst e2
    exact h.q_ne.1)
  have s2 : TextsAt w3 0 (.slice (some ⟨be, 0, none⟩) n ce) D.el := ho.own h.el (fun j hj => by
    have e2 : be = j := by simpa [Value.ownBlock] using hj
    subst e2
    exact h.q_ne.2)
  refine ⟨⟨⟨h.ok.lo, h.ok.hi, h.ok.stl, h.ok.ell, h.ok.st64, h.ok.el64, ?_, h.ok.arm⟩, b1.set_ 2 _, rt_far s1 (by simpa [Value.ownBlock] using fun h => e.1 h.symm) _, rt_far s2 (by simpa [Value.ownBlock] using fun h => e.2 h.symm) _, h.ne, ?_, h.arm⟩, ?_⟩
  · intro p hp
    simp only [List.mem_append, List.mem_singleton] at hp
    rcases hp with hp | rfl
    · exact h.ok.q64 p hp
    · exact ⟨hk, by simpa using ht⟩
  · show World.ownsRow _ 0 73 2 _ (D.q ++ [(k, t.data.toList)]).length (qr (D.q ++ [(k, t.data.toList)]))
    rw [qr_snoc, List.length_append]
    exact ho2.own hown (fun b hb e => hgd (by rw [hb, e]))
  · exact (ho.mono (fun _ _ h => Or.inr h)).trans ho2 (fun _ _ h => Or.inl h)
end Go.Proofs.Ytmkfbedhmmijjaa
