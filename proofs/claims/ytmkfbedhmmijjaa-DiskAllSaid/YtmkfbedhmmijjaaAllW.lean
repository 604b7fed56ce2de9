/- DiskAll: the walk. -/
import Derived.Test.YtmkfbedhmmijjaaTwo
namespace Go.Proofs.Ytmkfbedhmmijjaa
open Go.RowKit
theorem all_law (D : Dsk) (n : Nat) (x y : Int) (hq : D.q.length ≤ 60) :
    (((D.start.fail 60 x).fail y x).start.start.q = [] ∧ (D.start.sync.1.fail 0 x).start.q = []) ∧ ((D.start.fail 60 x).fail y x).start.start.all n = (D.start.sync.1.fail 0 x).start.all n := by
  have h1 : D.start.fail 60 x = { D.start.settle D.start.q with q := [], off := true, arm := none } := fail_full rfl 60 x (by show (D.q.length : Int) ≤ 60; omega)
  have h2 : (D.start.fail 60 x).fail y x = D.start.fail 60 x := fail_twice (by rw [h1]) y x
  have h3 := calm_sync (start_calm D)
  have hc := calm_sync_calm (start_calm D)
  have h4 : D.start.sync.1.fail 0 x = { D.start.sync.1.settle D.start.sync.1.q with q := [], off := true, arm := none } := fail_full hc.1.on 0 x (by rw [hc.2]; simp)
  have h5 : D.start.sync.1.settle D.start.sync.1.q = D.start.sync.1 := by rw [hc.2]; rfl
  rw [h2, h1, h4, h5]
  refine ⟨⟨rfl, rfl⟩, all_eq n rfl rfl ?_⟩
  rw [h3]
  rfl
set_option maxRecDepth 100000 in
set_option maxHeartbeats 2000000 in
theorem all_walk (r : Nat) (A : Option Addr) (c : Nat) (l : List AAct) (x y : Int) (w : World) (hr : r < 256) (h1 : ActsAt w A l) (m1 : l.length ≤ 9223372036854775807) (k1 : ∀ a ∈ l, a.Ok) (hx : In64 x) (hy : In64 y) (o1 : okB l = true) :
    Calls Try.prog 7 #[.int .u8 (r : Int), .slice A l.length c, .int .i64 x, .int .i64 y] w fun e w' => e = .returned (.bool true) ∧ Below w.heap.size w w' := by
  have H1 := Lib.hid h1
  have O1 := Lib.hid o1
  have K1 := Lib.hid k1
  have hl60 := (ok_spec o1).1
  obtain ⟨L, hL⟩ : ∃ L, L = l.length := ⟨_, rfl⟩
  have OK1 := Lib.hid (fun W (h : ActsAt W A l) => ok_any A c l W h m1)
  rw [← hL] at m1 hl60 ⊢
  rw [o1, ← hL] at OK1
  have HL := Lib.hid hL
  obtain ⟨n, hn⟩ : ∃ n, n = 1 + r % 12 := ⟨_, rfl⟩
  have SZ := Lib.hid (fun W => size_any r W hr)
  rw [← hn] at SZ
  have hn1 : 1 ≤ n := by omega
  have hn12 : n ≤ 12 := by omega
  have HN := Lib.hid hn
  have HB := Lib.hid (Below.refl w.heap.size w)
  clear h1 o1 k1 hL hn
  have HX := Lib.hid hx
  have HY := Lib.hid hy
  clear hx hy
  go_enter Try.func7, Try.ntmps7
  go_wp2_with fail
  refine (head_any _).mono ?_
  rintro e w1 ⟨rfl, hb⟩
  have hB : Below w.heap.size w w1 := hb
  have HB1 := Lib.hid hB
  clear hb hB HB
  go_wp2_with fail
  refine (OK1.out _ (H1.out.below HB1.out rfl)).mono ?_
  rintro e _ ⟨rfl, rfl⟩
  go_wp2_with fail
  refine (SZ.out _).mono ?_
  rintro e _ ⟨rfl, rfl⟩
  go_wp2_with fail
  refine (own_new w.heap.size n _ HB1.out.size hn1 (by omega)).mono ?_
  rintro e w2 ⟨da, rfl, hO, hb⟩
  have hB : Below w.heap.size w w2 := HB1.out.trans (hb.mono HB1.out.size)
  have HB2 := Lib.hid hB
  have HO2 := Lib.hid hO
  clear hb hB hO
  go_wp2_with fail
  refine (own_new w2.heap.size n _ (Nat.le_refl _) hn1 (by omega)).mono ?_
  rintro e w3 ⟨db, rfl, hO, hb⟩
  have hB : Below w.heap.size w w3 := HB2.out.trans (hb.mono HB2.out.size)
  have HTW := Lib.hid (Two.made HO2.out hb hO)
  have HB3 := Lib.hid hB
  clear hb hB hO HO2 HB2 HB1
  go_wp2_with fail
  go_loopw [13] (fun i wr => ∃ k : Nat, k ≤ L ∧ i = .int .i64 (k : Int) ∧ Hid (Two wr w.heap.size da db n ((Dsk.new n).run (l.take k)) ((Dsk.new n).run (l.take k))) ∧ Hid (Below w.heap.size w wr)) (fun i _ => L - (intOf i).toNat)
  case atStart => exact ⟨0, Nat.zero_le _, rfl, HTW.out, HB3.out⟩
  case round =>
    obtain ⟨k, hk, rfl, HT, HB⟩ := hrel
    by_cases hlt : k < L
    · have hkl : k < l.length := by rw [← HL.out]; exact hlt
      obtain ⟨b, off, hA, hb, hE⟩ := H1.out.elem hkl
      obtain ⟨a, ha⟩ : ∃ a, a = l[k] := ⟨_, rfl⟩
      rw [← ha] at hE
      have HEL := Lib.hid (fun W (hW : Below w.heap.size w W) => hE.below hW hb)
      have hao : a.Ok := by rw [ha]; exact K1.out _ (List.getElem_mem hkl)
      have hat : a.txt.size ≤ 100 := by rw [ha]; exact (ok_spec O1.out).2 _ (List.getElem_mem hkl)
      have hq := run_take_q n k l (by omega)
      have hnx : ((Dsk.new n).run (l.take (k + 1))) = (((Dsk.new n).run (l.take k)).act a).1 := by rw [List.take_succ_eq_append_getElem hkl, run_snoc, ← ha]
      have HAO := Lib.hid hao
      have HAT := Lib.hid hat
      have HQ := Lib.hid hq
      have HNX := Lib.hid hnx
      subst hA
      clear hao hat hq hnx ha hE hb
      obtain ⟨e0, e1, e2, e3, e4, e5⟩ := HEL.out wr HB.out
      go_wp2_with fail
      refine (HT.out.stepA (fun P hP => ownp_do w.heap.size P da n _ _ hP a (by have := HQ.out; omega) HAO.out HAT.out)).mono ?_
      rintro e w4 ⟨rfl, hT4, hb4⟩
      have HT4 := Lib.hid hT4
      have HB4 := Lib.hid (HB.out.trans hb4)
      clear hT4 hb4 e0 e1 e2 e3 e4 e5 HT HB
      obtain ⟨e0, e1, e2, e3, e4, e5⟩ := HEL.out w4 HB4.out
      go_wp2_with fail
      refine (HT4.out.stepB (fun P hP => ownp_do w.heap.size P db n _ _ hP a (by have := HQ.out; omega) HAO.out HAT.out)).mono ?_
      rintro e w5 ⟨rfl, hT5, hb5⟩
      rw [← HNX.out] at hT5
      have HT5 := Lib.hid hT5
      have HB5 := Lib.hid (HB4.out.trans hb5)
      clear hT5 hb5 e0 e1 e2 e3 e4 e5 HT4 HB4
      go_wp2
      go_roundw
      case rel => exact ⟨k + 1, by omega, by go_num, HT5.out, HB5.out⟩
      case measure => simp [intOf]; omega
    · have hkL : l.take k = l := List.take_of_length_le (by rw [← HL.out]; omega)
      rw [hkL] at HT
      have hq60 : ((Dsk.new n).run l).q.length ≤ 60 := by have := run_q l (Dsk.new n); have := HL.out; simp [Dsk.new] at *; omega
      obtain ⟨D1, hD1⟩ : ∃ D1, D1 = ((Dsk.new n).run l) := ⟨_, rfl⟩
      rw [← hD1] at HT hq60
      have HQ60 := Lib.hid hq60
      clear hD1 hkL HTW HB3 hq60
      go_wp2_with fail
      refine (HT.out.stepA (fun P hP => ownp_start w.heap.size P da n D1 _ hP)).mono ?_
      rintro e w11 ⟨rfl, hT11, hb11⟩
      have HT11 := Lib.hid hT11
      have HB11 := Lib.hid (HB.out.trans hb11)
      clear hT11 hb11 HT HB
      go_wp2_with fail
      refine (HT11.out.stepB (fun P hP => ownp_start w.heap.size P db n D1 _ hP)).mono ?_
      rintro e w12 ⟨rfl, hT12, hb12⟩
      have HT12 := Lib.hid hT12
      have HB12 := Lib.hid (HB11.out.trans hb12)
      clear hT12 hb12 HT11 HB11
      go_wp2_with fail
      refine (HT12.out.stepA (fun P hP => ownp_fail w.heap.size P da n D1.start _ hP 60 x (by have := HQ60.out; show D1.q.length ≤ 1000000; omega) (by unfold In64; omega) HX.out)).mono ?_
      rintro e w13 ⟨rfl, hT13, hb13⟩
      have HT13 := Lib.hid hT13
      have HB13 := Lib.hid (HB12.out.trans hb13)
      clear hT13 hb13 HT12 HB12
      go_wp2_with fail
      refine (HT13.out.stepA (fun P hP => ownp_fail w.heap.size P da n _ _ hP y x (by show (D1.start.fail 60 x).q.length ≤ 1000000; exact Nat.le_trans (fail_q _ _ _) (by have := HQ60.out; show D1.q.length ≤ 1000000; omega)) HY.out HX.out)).mono ?_
      rintro e w14 ⟨rfl, hT14, hb14⟩
      have HT14 := Lib.hid hT14
      have HB14 := Lib.hid (HB13.out.trans hb14)
      clear hT14 hb14 HT13 HB13
      go_wp2_with fail
      refine (HT14.out.stepB (fun P hP => ownp_sync w.heap.size P db n D1.start _ hP (by have := HQ60.out; show D1.q.length ≤ 1000000; omega))).mono ?_
      rintro e w15 ⟨rfl, hT15, hb15⟩
      rw [show D1.start.sync.2 = 0 from by rw [calm_sync (start_calm D1)]]
      have HT15 := Lib.hid hT15
      have HB15 := Lib.hid (HB14.out.trans hb15)
      clear hT15 hb15 HT14 HB14
      go_wp2_with fail
      refine (HT15.out.stepB (fun P hP => ownp_fail w.heap.size P db n _ _ hP 0 x (by rw [(calm_sync_calm (start_calm D1)).2]; simp) (by unfold In64; omega) HX.out)).mono ?_
      rintro e w16 ⟨rfl, hT16, hb16⟩
      have HT16 := Lib.hid hT16
      have HB16 := Lib.hid (HB15.out.trans hb16)
      clear hT16 hb16 HT15 HB15
      go_wp2_with fail
      refine (HT16.out.stepA (fun P hP => ownp_start w.heap.size P da n _ _ hP)).mono ?_
      rintro e w17 ⟨rfl, hT17, hb17⟩
      have HT17 := Lib.hid hT17
      have HB17 := Lib.hid (HB16.out.trans hb17)
      clear hT17 hb17 HT16 HB16
      go_wp2_with fail
      refine (HT17.out.stepB (fun P hP => ownp_start w.heap.size P db n _ _ hP)).mono ?_
      rintro e w18 ⟨rfl, hT18, hb18⟩
      have HT18 := Lib.hid hT18
      have HB18 := Lib.hid (HB17.out.trans hb18)
      clear hT18 hb18 HT17 HB17
      go_wp2_with fail
      refine (HT18.out.stepA (fun P hP => ownp_start w.heap.size P da n _ _ hP)).mono ?_
      rintro e w19 ⟨rfl, hT19, hb19⟩
      have HT19 := Lib.hid hT19
      have HB19 := Lib.hid (HB18.out.trans hb19)
      clear hT19 hb19 HT18 HB18
      have HLAW := Lib.hid (all_law D1 n x y HQ60.out)
      go_wp2_with fail
      refine (HT19.out.contA rfl (by rw [HLAW.out.1.1]; simp)).mono ?_
      rintro e w30 ⟨v1, rfl, hV1, hT, hb⟩
      have HB30 := Lib.hid (HB19.out.trans (hb.mono HB19.out.size))
      have HT30 := Lib.hid hT
      have HV1 := Lib.hid hV1
      clear hV1 hT hb HT19 HB19
      go_wp2_with fail
      refine (HT30.out.contB rfl (by rw [HLAW.out.1.2]; simp)).mono ?_
      rintro e w31 ⟨v2, rfl, hV2, hT, hb⟩
      have HB31 := Lib.hid (HB30.out.trans (hb.mono HB30.out.size))
      have HV3 := Lib.hid (HV1.out.below hb rfl)
      have HV2 := Lib.hid hV2
      clear hV2 hT hb HT30 HB30 HV1
      go_wp2_with fail
      refine (same_any 0 v1 v2 _ _ _ HV3.out HV2.out (by simp [Dsk.all]; omega)).mono ?_
      rintro e w32 ⟨rfl, hb⟩
      rw [decide_eq_true HLAW.out.2]
      have HB32 := Lib.hid (HB31.out.trans (hb.mono HB31.out.size))
      clear hb HB31
      go_wp2
      go_ret
      exact ⟨rfl, HB32.out⟩

set_option maxRecDepth 100000 in
set_option maxHeartbeats 400000 in
theorem all_bad (r : Nat) (A : Option Addr) (c : Nat) (l : List AAct) (x y : Int) (w : World) (h1 : ActsAt w A l) (m1 : l.length ≤ 9223372036854775807) (o1 : okB l = false) :
    Calls Try.prog 7 #[.int .u8 (r : Int), .slice A l.length c, .int .i64 x, .int .i64 y] w fun e w' => e = .returned (.bool true) ∧ Below w.heap.size w w' := by
  have OK1 := Lib.hid (fun W (h : ActsAt W A l) => ok_any A c l W h m1)
  have H1 := Lib.hid h1
  rw [o1] at OK1
  clear h1 o1
  go_enter Try.func7, Try.ntmps7
  go_wp2_with fail
  refine (head_any _).mono ?_
  rintro e w1 ⟨rfl, hb⟩
  have HB1 := Lib.hid hb
  clear hb
  go_wp2_with fail
  refine (OK1.out _ (H1.out.below HB1.out rfl)).mono ?_
  rintro e _ ⟨rfl, rfl⟩
  go_wp2
  go_ret
  exact ⟨rfl, HB1.out⟩

theorem diskAll.law_walk {w : World} (r : Nat) (hr : r < 256) (A : Option Addr) (c : Nat) (l : List AAct) (h1 : ActsAt w A l) (m1 : l.length ≤ 9223372036854775807) (k1 : ∀ a ∈ l, a.Ok) (x : Int) (hx : In64 x) (y : Int) (hy : In64 y) :
    Calls Try.prog 7 #[.int .u8 (r : Int), .slice A l.length c, .int .i64 x, .int .i64 y] w fun e w' => e = .returned (.bool true) ∧ Below w.heap.size w w' := by
  cases o1 : okB l with
  | false => exact all_bad r A c l x y w h1 m1 o1
  | true => exact all_walk r A c l x y w hr h1 m1 k1 hx hy o1
end Go.Proofs.Ytmkfbedhmmijjaa
