/- DiskMatchesReference: the walk. -/
import Derived.Test.YtmkfbedhmmijjaaRWant
import Derived.Test.YtmkfbedhmmijjaaRun
import Derived.Test.YtmkfbedhmmijjaaHead
import Derived.Test.YtmkfbedhmmijjaaOwnP
namespace Go.Proofs.Ytmkfbedhmmijjaa
open Go.RowKit
/-- A disk and the reference's disk side by side. -/
def DR (w : World) (B d m n : Nat) (Dd Dm : Dsk) : Prop :=
  ∃ Fd Fm : Nat → Prop, Disk w Fd d n Dd ∧ Ref w Fm m n Dm ∧ (∀ x, Fd x → B ≤ x ∧ x < w.heap.size ∧ ¬ Fm x) ∧ (∀ x, Fm x → B ≤ x ∧ x < w.heap.size) ∧ B ≤ w.heap.size
section
variable {w w' : World} {B d m n : Nat} {Dd Dm Dd' Dm' : Dsk}
theorem DR.size (h : DR w B d m n Dd Dm) : B ≤ w.heap.size := by obtain ⟨_, _, _, _, _, _, h5⟩ := h; exact h5
theorem DR.ok (h : DR w B d m n Dd Dm) : Dd.Ok n := by obtain ⟨_, _, h1, _⟩ := h; exact h1.ok
theorem DR.below (h : DR w B d m n Dd Dm) (hb : Below w.heap.size w w') : DR w' B d m n Dd Dm := by
  obtain ⟨Fd, Fm, h1, h2, h3, h4, h5⟩ := h
  exact ⟨Fd, Fm, h1.below hb, h2.below hb, fun x hx => ⟨(h3 x hx).1, Nat.lt_of_lt_of_le (h3 x hx).2.1 hb.size, (h3 x hx).2.2⟩, fun x hx => ⟨(h4 x hx).1, Nat.lt_of_lt_of_le (h4 x hx).2 hb.size⟩, Nat.le_trans h5 hb.size⟩
theorem DR.made (h : Own w B d n Dd) (hb : Below w.heap.size w w') (h' : Ref w' (fun b => w.heap.size ≤ b) m n Dm) : DR w' B d m n Dd Dm := by
  refine ⟨fun x => B ≤ x ∧ x < w.heap.size, fun x => w.heap.size ≤ x ∧ x < w'.heap.size, Disk.below (h.disk.mono (fun x hx hB => ⟨hB, hx⟩)) hb, h'.mono (fun x hx hB => ⟨hB, hx⟩), fun x hx => ⟨hx.1, Nat.lt_of_lt_of_le hx.2 hb.size, fun h => by omega⟩,
    fun x hx => ⟨Nat.le_trans h.size hx.1, hx.2⟩, Nat.le_trans h.size hb.size⟩
theorem DR.stepD {f : FuncId} {args : Array Value} {R : Ending → Prop} (h : DR w B d m n Dd Dm)
    (hc : ∀ F, Disk w F d n Dd → Calls Try.prog f args w fun e w' => R e ∧ Disk w' (After F w w') d n Dd' ∧ Only F w w') :
    Calls Try.prog f args w fun e w' => R e ∧ DR w' B d m n Dd' Dm ∧ Below B w w' := by
  obtain ⟨Fd, Fm, h1, h2, h3, h4, h5⟩ := h
  refine (hc Fd h1).mono fun e w' ⟨hr, hD, hO⟩ => ⟨hr, ⟨After Fd w w', Fm, hD, h2.keep hO (fun x hm hd => (h3 x hd).2.2 hm), fun x hx => ?_, fun x hx => ⟨(h4 x hx).1, Nat.lt_of_lt_of_le (h4 x hx).2 hO.size⟩, Nat.le_trans h5 hO.size⟩, hO.below h5 (fun x hx => (h3 x hx).1)⟩
  rcases hx with hx | hx
  · exact ⟨(h3 x hx).1, Nat.lt_of_lt_of_le (h3 x hx).2.1 hO.size, (h3 x hx).2.2⟩
  · exact ⟨Nat.le_trans h5 hx.1, hx.2, fun hm => by have := (h4 x hm).2; omega⟩
theorem DR.stepR {f : FuncId} {args : Array Value} {R : Ending → Prop} (h : DR w B d m n Dd Dm)
    (hc : ∀ F, Ref w F m n Dm → Calls Try.prog f args w fun e w' => R e ∧ Ref w' (After F w w') m n Dm' ∧ Only F w w') :
    Calls Try.prog f args w fun e w' => R e ∧ DR w' B d m n Dd Dm' ∧ Below B w w' := by
  obtain ⟨Fd, Fm, h1, h2, h3, h4, h5⟩ := h
  refine (hc Fm h2).mono fun e w' ⟨hr, hD, hO⟩ => ⟨hr, ⟨Fd, After Fm w w', h1.keep hO (fun x hd hm => (h3 x hd).2.2 hm), hD, fun x hx => ⟨(h3 x hx).1, Nat.lt_of_lt_of_le (h3 x hx).2.1 hO.size, fun hm => ?_⟩, fun x hx => ?_, Nat.le_trans h5 hO.size⟩, hO.below h5 (fun x hx => (h4 x hx).1)⟩
  · rcases hm with hm | hm
    · exact (h3 x hx).2.2 hm
    · have := (h3 x hx).2.1; omega
  · rcases hx with hx | hx
    · exact ⟨(h4 x hx).1, Nat.lt_of_lt_of_le (h4 x hx).2 hO.size⟩
    · exact ⟨Nat.le_trans h5 hx.1, hx.2⟩
theorem DR.readD (h : DR w B d m n Dd Dm) (s : Int) (hbig : Dd.q.length ≤ 1000000) : Calls Try.prog 17 #[.pointer (some ⟨d, 0, none⟩), .int .i64 s] w fun e w' =>
    e = .returned (.tuple #[text (Dd.read s).1, .int .i64 (Dd.read s).2]) ∧ DR w' B d m n Dd Dm ∧ Below B w w' := by
  obtain ⟨Fd, Fm, h1, h2, h3, h4, h5⟩ := id h
  exact (read_any Fd d n s Dd w h1 hbig).mono fun _ _ ⟨he, _, hb⟩ => ⟨he, h.below hb, hb.mono h5⟩
theorem DR.readR (h : DR w B d m n Dd Dm) (s : Int) (hbig : Dm.q.length ≤ 1000000) : Calls Try.prog 18 #[.pointer (some ⟨m, 0, none⟩), .int .i64 s] w fun e w' =>
    e = .returned (.tuple #[text (Dm.read s).1, .int .i64 (Dm.read s).2]) ∧ w = w' := by
  obtain ⟨Fd, Fm, h1, h2, h3, h4, h5⟩ := h
  exact rread_any Fm m n s Dm w h2 hbig
end
set_option maxRecDepth 100000 in
set_option maxHeartbeats 4000000 in
theorem match_walk (r : Nat) (sc : Int) (A : Option Addr) (c : Nat) (l : List AAct) (w : World) (hr : r < 256) (hs : In64 sc) (h1 : ActsAt w A l) (m1 : l.length ≤ 9223372036854775807) (k1 : ∀ a ∈ l, a.Ok) (o1 : okB l = true) :
    Calls Try.prog 3 #[.int .u8 (r : Int), .int .i64 sc, .slice A l.length c] w fun e w' => e = .returned (.bool true) ∧ Below w.heap.size w w' := by
  have H1 := Lib.hid h1
  have O1 := Lib.hid o1
  have K1 := Lib.hid k1
  have hl60 := (ok_spec o1).1
  obtain ⟨L, hL⟩ : ∃ L, L = l.length := ⟨_, rfl⟩
  have OK1 := Lib.hid (fun W (h : ActsAt W A l) => ok_any A c l W h m1)
  rw [← hL] at m1 hl60 ⊢
  rw [o1, ← hL] at OK1
  have HL := Lib.hid hL
  obtain ⟨n, hn⟩ : ∃ n, n = 1 + r % 12 := ⟨_, rfl⟩
  have SZ := Lib.hid (fun W => size_any r W hr)
  rw [← hn] at SZ
  have hn1 : 1 ≤ n := by omega
  have hn12 : n ≤ 12 := by omega
  have HN := Lib.hid hn
  have HB := Lib.hid (Below.refl w.heap.size w)
  clear h1 o1 k1 hL hn
  have hs1 := hs.1
  have hs2 := hs.2
  clear hs
  go_enter Try.func3, Try.ntmps3
  go_wp2_with fail
  refine (head_any _).mono ?_
  rintro e w1 ⟨rfl, hb⟩
  have hB : Below w.heap.size w w1 := hb
  have HB1 := Lib.hid hB
  clear hb hB HB
  go_wp2_with fail
  refine (OK1.out _ (H1.out.below HB1.out rfl)).mono ?_
  rintro e _ ⟨rfl, rfl⟩
  go_upto_region 4 with (fail)
  go_cut [34] (fun v wx => v = .bool false ∧ Below w.heap.size w wx)
  case first =>
    rcases (show sc < 1 ∨ (¬ sc < 1 ∧ 4000 < sc) ∨ (¬ sc < 1 ∧ ¬ 4000 < sc) from by omega) with q | ⟨q, q2⟩ | ⟨q, q2⟩
    · have NB := Lib.hid (fun W => new_bad sc W (.inl q))
      have p1 : decide (sc < 1) = true := decide_eq_true q
      go_wp2_with fail
      refine (NB.out _).mono ?_
      rintro e _ ⟨rfl, rfl⟩
      go_wp2_with fail
      go_meet
      case rel => exact ⟨rfl, HB1.out⟩
    · have NB := Lib.hid (fun W => new_bad sc W (.inr q2))
      have p1 : decide (sc < 1) = false := decide_eq_false q
      have p2 : decide (4000 < sc) = true := decide_eq_true q2
      go_wp2_with fail
      refine (NB.out _).mono ?_
      rintro e _ ⟨rfl, rfl⟩
      go_wp2_with fail
      go_meet
      case rel => exact ⟨rfl, HB1.out⟩
    · obtain ⟨j, hj⟩ := Int.eq_ofNat_of_zero_le (show 0 ≤ sc by omega)
      have NB := Lib.hid (fun W => new_ok j W (by omega) (by omega))
      rw [← hj] at NB
      have p1 : decide (sc < 1) = false := decide_eq_false q
      have p2 : decide (4000 < sc) = false := decide_eq_false q2
      clear hj
      go_wp2_with fail
      refine (NB.out _).mono ?_
      rintro e w2 ⟨dd, rfl, _, _, hb⟩
      have HB2 := Lib.hid (HB1.out.trans (hb.mono HB1.out.size))
      clear hb
      go_wp2_with fail
      go_meet
      case rel => exact ⟨rfl, HB2.out⟩
  case rest =>
    obtain ⟨rfl, hB⟩ := hcut
    have HB2 := Lib.hid hB
    clear hB HB1
    go_wp2_with fail
    refine (SZ.out _).mono ?_
    rintro e _ ⟨rfl, rfl⟩
    go_wp2_with fail
    refine (own_new w.heap.size n _ HB2.out.size hn1 (by omega)).mono ?_
    rintro e w3 ⟨d, rfl, hO, hb⟩
    have hB : Below w.heap.size w w3 := HB2.out.trans (hb.mono HB2.out.size)
    have HB3 := Lib.hid hB
    have HO3 := Lib.hid hO
    clear hb hB hO HB2
    go_wp2_with fail
    refine (SZ.out _).mono ?_
    rintro e _ ⟨rfl, rfl⟩
    go_wp2_with fail
    refine (rnew_ok n _ hn1 (by omega)).mono ?_
    rintro e w4 ⟨m, rfl, hR, hb⟩
    have hB : Below w.heap.size w w4 := HB3.out.trans (hb.mono HB3.out.size)
    have HDR := Lib.hid (DR.made HO3.out hb hR)
    have HB4 := Lib.hid hB
    clear hb hB hR HO3 HB3
    go_wp2_with fail
    go_loopw [10] (fun i wr => ∃ k : Nat, k ≤ L ∧ i = .int .i64 (k : Int) ∧ Hid (DR wr w.heap.size d m n ((Dsk.new n).run (l.take k)) ((Dsk.new n).run (l.take k))) ∧ Hid (Below w.heap.size w wr)) (fun i _ => L - (intOf i).toNat)
    case atStart => exact ⟨0, Nat.zero_le _, rfl, HDR.out, HB4.out⟩
    case round =>
      clear HDR HB4
      obtain ⟨k, hk, rfl, HT, HB⟩ := hrel
      by_cases hlt : k < L
      · have hkl : k < l.length := by rw [← HL.out]; exact hlt
        obtain ⟨b, off, hA, hb, hE⟩ := H1.out.elem hkl
        obtain ⟨a, ha⟩ : ∃ a, a = l[k] := ⟨_, rfl⟩
        rw [← ha] at hE
        have HEL := Lib.hid (fun W (hW : Below w.heap.size w W) => hE.below hW hb)
        have hao : a.Ok := by rw [ha]; exact K1.out _ (List.getElem_mem hkl)
        have hat : a.txt.size ≤ 100 := by rw [ha]; exact (ok_spec O1.out).2 _ (List.getElem_mem hkl)
        have hq := run_take_q n k l (by omega)
        have hnx : ((Dsk.new n).run (l.take (k + 1))) = (((Dsk.new n).run (l.take k)).act a).1 := by rw [List.take_succ_eq_append_getElem hkl, run_snoc, ← ha]
        have HAO := Lib.hid hao
        have HAT := Lib.hid hat
        have HQ := Lib.hid hq
        have HNX := Lib.hid hnx
        subst hA
        clear hao hat hq hnx ha hE hb
        obtain ⟨D, hD⟩ : ∃ D, D = (Dsk.new n).run (l.take k) := ⟨_, rfl⟩
        rw [← hD] at HT HQ HNX
        obtain ⟨X, hX⟩ : ∃ X : ByteArray, Value.string X = text (D.act a).2.1 := ⟨_, rfl⟩
        obtain ⟨E, hE⟩ : ∃ E, E = (D.act a).2.2 := ⟨_, rfl⟩
        have DO := Lib.hid (fun W F (hD : Disk W F d n D) => do_any F d n a D W hD (by have := HQ.out; omega) HAO.out HAT.out)
        have WA := Lib.hid (fun W F (hD : Ref W F m n D) => want_any F m n a D W hD (by have := HQ.out; omega) HAO.out HAT.out)
        rw [← hX, ← hE, ← HNX.out] at DO WA
        clear hD hX hE
        obtain ⟨kd, sct, bt, tx, od, aft⟩ := a
        unfold AAct.cells at DO WA
        simp only at DO WA
        obtain ⟨e0, e1, e2, e3, e4, e5⟩ := HEL.out wr HB.out
        simp only at e0 e1 e2 e3 e4 e5
        go_wp2_with fail
        refine (HT.out.stepD (fun F hF => DO.out _ F hF)).mono ?_
        rintro e w5 ⟨rfl, hT5, hb5⟩
        have HT5 := Lib.hid hT5
        have HB5 := Lib.hid (HB.out.trans hb5)
        clear hT5 hb5 e0 e1 e2 e3 e4 e5 HT HB
        obtain ⟨e0, e1, e2, e3, e4, e5⟩ := HEL.out w5 HB5.out
        simp only at e0 e1 e2 e3 e4 e5
        go_wp2_with fail
        refine (HT5.out.stepR (fun F hF => WA.out _ F hF)).mono ?_
        rintro e w6 ⟨rfl, hT6, hb6⟩
        have HT6 := Lib.hid hT6
        have HB6 := Lib.hid (HB5.out.trans hb6)
        clear hT6 hb6 e0 e1 e2 e3 e4 e5 HT5 HB5
        go_wp2
        go_roundw
        case rel => exact ⟨k + 1, by omega, by go_num, HT6.out, HB6.out⟩
        case measure => simp [intOf]; omega
      · have hkL : l.take k = l := List.take_of_length_le (by rw [← HL.out]; omega)
        rw [hkL] at HT
        have hq60 : ((Dsk.new n).run l).q.length ≤ 60 := by have := run_q l (Dsk.new n); have := HL.out; simp [Dsk.new] at *; omega
        obtain ⟨D1, hD1⟩ : ∃ D1, D1 = ((Dsk.new n).run l) := ⟨_, rfl⟩
        rw [← hD1] at HT hq60
        clear hD1 hkL
        go_wp2_with fail
        have HQ60 := Lib.hid hq60
        have HLE := Lib.hid (show D1.q.length ≤ 1000000 from by omega)
        clear hq60
        go_loopw [15] (fun i wr => ∃ k : Nat, k ≤ n ∧ i = .int .i64 (k : Int) ∧ Hid (DR wr w.heap.size d m n D1 D1) ∧ Hid (Below w.heap.size w wr)) (fun i _ => n - (intOf i).toNat)
        case atStart => exact ⟨0, Nat.zero_le _, rfl, HT.out, HB.out⟩
        case round =>
          clear HT HB
          rename_i wr2
          obtain ⟨k, hk, rfl, HT, HB⟩ := hrel
          obtain ⟨X, hX⟩ : ∃ X : ByteArray, Value.string X = text (D1.read (k : Int)).1 := ⟨_, rfl⟩
          obtain ⟨E, hE⟩ : ∃ E, E = (D1.read (k : Int)).2 := ⟨_, rfl⟩
          have RD := Lib.hid (fun W (h : DR W w.heap.size d m n D1 D1) => h.readD (k : Int) HLE.out)
          have RR := Lib.hid (fun W (h : DR W w.heap.size d m n D1 D1) => h.readR (k : Int) HLE.out)
          rw [← hX, ← hE] at RD RR
          clear hX hE
          by_cases hlt : k < n
          · go_wp2_with fail
            refine (SZ.out _).mono ?_
            rintro e _ ⟨rfl, rfl⟩
            go_wp2_with fail
            refine (RD.out _ HT.out).mono ?_
            rintro e w7 ⟨rfl, hT7, hb7⟩
            have HT7 := Lib.hid hT7
            have HB7 := Lib.hid (HB.out.trans hb7)
            clear hT7 hb7 HT HB
            go_wp2_with fail
            refine (RR.out _ HT7.out).mono ?_
            rintro e _ ⟨rfl, rfl⟩
            go_wp2
            go_roundw
            case rel => exact ⟨k + 1, by omega, by go_num, HT7.out, HB7.out⟩
            case measure => simp [intOf]; omega
          · go_wp2_with fail
            refine (SZ.out _).mono ?_
            rintro e _ ⟨rfl, rfl⟩
            go_wp2
            go_ret
            exact ⟨rfl, HB.out⟩
set_option maxRecDepth 100000 in
set_option maxHeartbeats 400000 in
theorem match_bad (r : Nat) (sc : Int) (A : Option Addr) (c : Nat) (l : List AAct) (w : World) (h1 : ActsAt w A l) (m1 : l.length ≤ 9223372036854775807) (o1 : okB l = false) :
    Calls Try.prog 3 #[.int .u8 (r : Int), .int .i64 sc, .slice A l.length c] w fun e w' => e = .returned (.bool true) ∧ Below w.heap.size w w' := by
  have OK1 := Lib.hid (fun W (h : ActsAt W A l) => ok_any A c l W h m1)
  have H1 := Lib.hid h1
  rw [o1] at OK1
  clear h1 o1
  go_enter Try.func3, Try.ntmps3
  go_wp2_with fail
  refine (head_any _).mono ?_
  rintro e w1 ⟨rfl, hb⟩
  have HB1 := Lib.hid hb
  clear hb
  go_wp2_with fail
  refine (OK1.out _ (H1.out.below HB1.out rfl)).mono ?_
  rintro e _ ⟨rfl, rfl⟩
  go_wp2
  go_ret
  exact ⟨rfl, HB1.out⟩
theorem diskMatchesReference.law_walk {w : World} (r : Nat) (hr : r < 256) (sc : Int) (hs : In64 sc) (A : Option Addr) (c : Nat) (l : List AAct) (h1 : ActsAt w A l) (m1 : l.length ≤ 9223372036854775807) (k1 : ∀ a ∈ l, a.Ok) :
    Calls Try.prog 3 #[.int .u8 (r : Int), .int .i64 sc, .slice A l.length c] w fun e w' => e = .returned (.bool true) ∧ Below w.heap.size w w' := by
  cases o1 : okB l with
  | false => exact match_bad r sc A c l w h1 m1 o1
  | true => exact match_walk r sc A c l w hr hs h1 m1 k1 o1
end Go.Proofs.Ytmkfbedhmmijjaa
