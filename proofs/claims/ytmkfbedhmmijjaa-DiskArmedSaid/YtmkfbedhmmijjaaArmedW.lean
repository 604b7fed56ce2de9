/- DiskArmed: the walk. -/
import Derived.Test.YtmkfbedhmmijjaaArmedP
import Derived.Deep.RegionWith
import Derived.Deep.RegionHeld3
import Derived.Deep.QuietTactic
import Derived.Deep.DeepCutAuto
import Derived.Deep.CutBlock
namespace Go.Proofs.Ytmkfbedhmmijjaa
open Go.RowKit
theorem Two.drew {w : World} {B a b n : Nat} {Da Db : Dsk} (h : Two w B a b n Da Db) : Two w.drew B a b n Da Db := h.below (Below.refl _ _).drew
set_option maxRecDepth 100000 in
set_option maxHeartbeats 20000000 in
theorem armed_walk (r : Nat) (A A' : Option Addr) (c c' : Nat) (l l' : List AAct) (af x y : Int) (w : World) (hr : r < 256) (h1 : ActsAt w A l) (h2 : ActsAt w A' l') (m1 : l.length ≤ 9223372036854775807) (m2 : l'.length ≤ 9223372036854775807)
    (k1 : ∀ a ∈ l, a.Ok) (k2 : ∀ a ∈ l', a.Ok) (haf : In64 af) (hx : In64 x) (hy : In64 y) (o1 : okB l = true) (o2 : okB l' = true) :
    Calls Try.prog 8 #[.int .u8 (r : Int), .slice A l.length c, .slice A' l'.length c', .int .i64 af, .int .i64 x, .int .i64 y] w fun e w' => e = .returned (.bool true) ∧ Below w.heap.size w w' := by
  have H2 := Lib.hid h2
  have O2 := Lib.hid o2
  have K2 := Lib.hid k2
  have hl60' := (ok_spec o2).1
  obtain ⟨L', hL'⟩ : ∃ L, L = l'.length := ⟨_, rfl⟩
  have OK2 := Lib.hid (fun W (h : ActsAt W A' l') => ok_any A' c' l' W h m2)
  rw [← hL'] at m2 hl60' ⊢
  rw [o2, ← hL'] at OK2
  have HL' := Lib.hid hL'
  have HAF := Lib.hid haf
  have HX := Lib.hid hx
  have HY := Lib.hid hy
  clear h2 o2 k2 hL' haf hx hy
  have H1 := Lib.hid h1
  have O1 := Lib.hid o1
  have K1 := Lib.hid k1
  have hl60 := (ok_spec o1).1
  obtain ⟨L, hL⟩ : ∃ L, L = l.length := ⟨_, rfl⟩
  have OK1 := Lib.hid (fun W (h : ActsAt W A l) => ok_any A c l W h m1)
  rw [← hL] at m1 hl60 ⊢
  rw [o1, ← hL] at OK1
  have HL := Lib.hid hL
  obtain ⟨n, hn⟩ : ∃ n, n = 1 + r % 12 := ⟨_, rfl⟩
  have SZ := Lib.hid (fun W => size_any r W hr)
  rw [← hn] at SZ
  have hn1 : 1 ≤ n := by omega
  have hn12 : n ≤ 12 := by omega
  have HN := Lib.hid hn
  have HB := Lib.hid (Below.refl w.heap.size w)
  clear h1 o1 k1 hL hn
  go_enter Try.func8, Try.ntmps8
  go_wp2_with fail
  refine (head_any _).mono ?_
  rintro e w1 ⟨rfl, hb⟩
  have hB : Below w.heap.size w w1 := hb
  have HB1 := Lib.hid hB
  clear hb hB HB
  go_wp2_with fail
  refine (OK1.out _ (H1.out.below HB1.out rfl)).mono ?_
  rintro e _ ⟨rfl, rfl⟩
  go_wp2_with fail
  refine (OK2.out _ (H2.out.below HB1.out rfl)).mono ?_
  rintro e _ ⟨rfl, rfl⟩
  go_wp2_with fail
  refine (SZ.out _).mono ?_
  rintro e _ ⟨rfl, rfl⟩
  go_wp2_with fail
  refine (own_new w.heap.size n _ HB1.out.size hn1 (by omega)).mono ?_
  rintro e w2 ⟨da, rfl, hO, hb⟩
  have hB : Below w.heap.size w w2 := HB1.out.trans (hb.mono HB1.out.size)
  have HB2 := Lib.hid hB
  have HO2 := Lib.hid hO
  clear hb hB hO
  go_wp2_with fail
  refine (own_new w2.heap.size n _ (Nat.le_refl _) hn1 (by omega)).mono ?_
  rintro e w3 ⟨db, rfl, hO, hb⟩
  have hB : Below w.heap.size w w3 := HB2.out.trans (hb.mono HB2.out.size)
  have HTW := Lib.hid (Two.made HO2.out hb hO)
  have HB3 := Lib.hid hB
  clear hb hB hO HO2 HB2 HB1
  go_wp2_with fail
  go_loopw [17] (fun i wr => ∃ k : Nat, k ≤ L ∧ i = .int .i64 (k : Int) ∧ Hid (Two wr w.heap.size da db n ((Dsk.new n).run (l.take k)) ((Dsk.new n).run (l.take k))) ∧ Hid (Below w.heap.size w wr)) (fun i _ => L - (intOf i).toNat)
  case atStart => exact ⟨0, Nat.zero_le _, rfl, HTW.out, HB3.out⟩
  case round =>
    obtain ⟨k, hk, rfl, HT, HB⟩ := hrel
    by_cases hlt : k < L
    · have hkl : k < l.length := by rw [← HL.out]; exact hlt
      obtain ⟨b, off, hA, hb, hE⟩ := H1.out.elem hkl
      obtain ⟨a, ha⟩ : ∃ a, a = l[k] := ⟨_, rfl⟩
      rw [← ha] at hE
      have HEL := Lib.hid (fun W (hW : Below w.heap.size w W) => hE.below hW hb)
      have hao : a.Ok := by rw [ha]; exact K1.out _ (List.getElem_mem hkl)
      have hat : a.txt.size ≤ 100 := by rw [ha]; exact (ok_spec O1.out).2 _ (List.getElem_mem hkl)
      have hq := run_take_q n k l (by omega)
      have hnx : ((Dsk.new n).run (l.take (k + 1))) = (((Dsk.new n).run (l.take k)).act a).1 := by rw [List.take_succ_eq_append_getElem hkl, run_snoc, ← ha]
      have HAO := Lib.hid hao
      have HAT := Lib.hid hat
      have HQ := Lib.hid hq
      have HNX := Lib.hid hnx
      subst hA
      clear hao hat hq hnx ha hE hb
      obtain ⟨e0, e1, e2, e3, e4, e5⟩ := HEL.out wr HB.out
      go_wp2_with fail
      refine (HT.out.stepA (fun P hP => ownp_do w.heap.size P da n _ _ hP a (by have := HQ.out; omega) HAO.out HAT.out)).mono ?_
      rintro e w4 ⟨rfl, hT4, hb4⟩
      have HT4 := Lib.hid hT4
      have HB4 := Lib.hid (HB.out.trans hb4)
      clear hT4 hb4 e0 e1 e2 e3 e4 e5 HT HB
      obtain ⟨e0, e1, e2, e3, e4, e5⟩ := HEL.out w4 HB4.out
      go_wp2_with fail
      refine (HT4.out.stepB (fun P hP => ownp_do w.heap.size P db n _ _ hP a (by have := HQ.out; omega) HAO.out HAT.out)).mono ?_
      rintro e w5 ⟨rfl, hT5, hb5⟩
      rw [← HNX.out] at hT5
      have HT5 := Lib.hid hT5
      have HB5 := Lib.hid (HB4.out.trans hb5)
      clear hT5 hb5 e0 e1 e2 e3 e4 e5 HT4 HB4
      go_wp2
      go_roundw
      case rel => exact ⟨k + 1, by omega, by go_num, HT5.out, HB5.out⟩
      case measure => simp [intOf]; omega
    · have hkL : l.take k = l := List.take_of_length_le (by rw [← HL.out]; omega)
      rw [hkL] at HT
      have hq60 : ((Dsk.new n).run l).q.length ≤ 60 := by have := run_q l (Dsk.new n); have := HL.out; simp [Dsk.new] at *; omega
      obtain ⟨D1, hD1⟩ : ∃ D1, D1 = ((Dsk.new n).run l) := ⟨_, rfl⟩
      rw [← hD1] at HT hq60
      have HQ60 := Lib.hid hq60
      clear hD1 hkL HTW HB3 hq60
      go_wp2_with fail
      refine (HT.out.stepA (fun P hP => ownp_start w.heap.size P da n D1 _ hP)).mono ?_
      rintro e w11 ⟨rfl, hT11, hb11⟩
      have HT11 := Lib.hid hT11
      have HB11 := Lib.hid (HB.out.trans hb11)
      clear hT11 hb11 HT HB
      go_wp2_with fail
      refine (HT11.out.stepB (fun P hP => ownp_start w.heap.size P db n D1 _ hP)).mono ?_
      rintro e w12 ⟨rfl, hT12, hb12⟩
      have HT12 := Lib.hid hT12
      have HB12 := Lib.hid (HB11.out.trans hb12)
      clear hT12 hb12 HT11 HB11
      go_wp2_with fail
      refine (HT12.out.stepA (fun P hP => ownp_arm w.heap.size P da n D1.start _ hP af x y HAF.out HX.out HY.out)).mono ?_
      rintro e w13 ⟨rfl, hT13, hb13⟩
      have HT13 := Lib.hid hT13
      have HB13 := Lib.hid (HB12.out.trans hb13)
      clear hT13 hb13 HT12 HB12
      have HP0 := Lib.hid (pair_start D1 af x y)
      obtain ⟨Da0, hDa0⟩ : ∃ D, D = D1.start.arming af x y := ⟨_, rfl⟩
      obtain ⟨Db0, hDb0⟩ : ∃ D, D = D1.start := ⟨_, rfl⟩
      have hqb0 : Db0.q.length ≤ 60 := by rw [hDb0]; exact HQ60.out
      rw [← hDa0] at HT13 HP0
      rw [← hDb0] at HT13 HP0
      have HT := Lib.hid HT13.out
      have HB := Lib.hid HB13.out
      have HQB0 := Lib.hid hqb0
      clear hDa0 hDb0 hqb0 HT13 HB13 HQ60
      go_upto_block 2 with (fail)
      go_cut [18] (fun v wx => ∃ (lf : Int) (Da Db : Dsk), v = .int .i64 lf ∧ (af < 0 → lf = af) ∧ Two wx w.heap.size da db n Da Db ∧ Alike n Da Db ∧ Below w.heap.size w wx)
      case first =>
        go_wp2_with fail
        go_loopw [18, 19] (fun v i wr => ∃ (k : Nat) (lf : Int) (Da Db : Dsk), k ≤ L' ∧ i = .int .i64 (k : Int) ∧ v = .int .i64 lf ∧ Hid (Pair lf af x y Da Db) ∧ Hid (Two wr w.heap.size da db n Da Db) ∧ Hid (Below w.heap.size w wr) ∧ Hid (Db.q.length ≤ 60 + k)) (fun _ i _ => L' - (intOf i).toNat)
        case atStart => exact ⟨0, af, Da0, Db0, Nat.zero_le _, rfl, rfl, HP0.out, HT.out, HB.out, by show Db0.q.length ≤ 60 + 0; exact HQB0.out⟩
        case round =>
          clear HT HB HP0 HQB0
          obtain ⟨k, lf, Da, Db, hk, rfl, rfl, HP, HT, HB, HQB⟩ := hrel
          by_cases hlt : k < L'
          · have hkl : k < l'.length := by rw [← HL'.out]; exact hlt
            obtain ⟨b, off, hA, hb, hE⟩ := H2.out.elem hkl
            obtain ⟨a, ha⟩ : ∃ a, a = l'[k] := ⟨_, rfl⟩
            rw [← ha] at hE
            have HEL := Lib.hid (fun W (hW : Below w.heap.size w W) => hE.below hW hb)
            have hao : a.Ok := by rw [ha]; exact K2.out _ (List.getElem_mem hkl)
            have hat : a.txt.size ≤ 100 := by rw [ha]; exact (ok_spec O2.out).2 _ (List.getElem_mem hkl)
            have HSC := Lib.hid hao.s
            have HAF2 := Lib.hid HAF.out
            obtain ⟨T, hT⟩ : ∃ T, T = a.text := ⟨_, rfl⟩
            have TX := Lib.hid (fun W => act_text a W hat)
            rw [← hT] at TX
            unfold text at TX
            have hqa : Da.q.length ≤ 60 + k := by rw [HP.out.q]; exact HQB.out
            have HQA := Lib.hid hqa
            have hstb : Db.st.length = n := HT.out.symm.okA.stl
            have HST := Lib.hid hstb
            have hlfb : lf ≤ 9223372036854775807 ∧ -9223372036854775808 ≤ lf := by
              have h1 := HAF.out
              unfold In64 at h1
              rcases Int.lt_or_le af 0 with h2 | h2
              · rw [HP.out.neg h2]; omega
              · have := HP.out.pos h2; omega
            have hlf1 := hlfb.1
            have hlf2 := hlfb.2
            subst hA
            clear hao hat ha hE hb hT hqa hstb hlfb
            obtain ⟨kd, sc, bt, tx, od, aft⟩ := a
            simp only at HSC
            unfold AAct.cells at TX
            simp only at TX
            obtain ⟨e0, e1, e2, e3, e4, e5⟩ := HEL.out wr HB.out
            simp only at e0 e1 e2 e3 e4 e5
            by_cases hsync : kd = 2
            · subst hsync
              rcases Int.lt_trichotomy lf 0 with hlf | hlf | hlf
              · have b1 : (lf == 0) = false := by simp; omega
                have hsp := HP.out.sync_neg hlf
                go_wp2_with fail
                refine (HT.out.stepB (fun P hP => ownp_sync w.heap.size P db n Db _ hP (by have := HQB.out; omega))).mono ?_
                rintro e w104 ⟨rfl, hT, hb⟩
                rw [hsp.2.1]
                have hB := HB.out.trans hb
                clear HT HB hb
                have HT := Lib.hid hT
                have HB := Lib.hid hB
                clear hT hB
                go_wp2_with fail
                refine (HT.out.stepA (fun P hP => ownp_sync w.heap.size P da n Da _ hP (by have := HQA.out; omega))).mono ?_
                rintro e w105 ⟨rfl, hT, hb⟩
                rw [hsp.1]
                have hB := HB.out.trans hb
                clear HT HB hb
                have HT := Lib.hid hT
                have HB := Lib.hid hB
                clear hT hB
                have HP2 := Lib.hid hsp.2.2.1
                have HQ2 := Lib.hid (show Db.sync.1.q.length ≤ 60 + (k + 1) by rw [hsp.2.2.2]; simp)
                clear hsp
                go_wp2
                go_roundw
                case rel => exact ⟨k + 1, lf, _, _, by omega, by go_num, rfl, HP2.out, HT.out, HB.out, HQ2.out⟩
                case measure => simp [intOf]; omega
              · subst hlf
                go_wp2_with fail
                refine (HT.out.stepB (fun P hP => ownp_fail w.heap.size P db n Db _ hP x y (by have := HQB.out; omega) HX.out HY.out)).mono ?_
                rintro e w101 ⟨rfl, hT, hb⟩
                have hB := HB.out.trans hb
                clear HT HB hb
                have HT := Lib.hid hT
                have HB := Lib.hid hB
                clear hT hB
                have hso := HP.out.sync_off rfl
                obtain ⟨e0, e1, e2, e3, e4, e5⟩ := HEL.out _ HB.out
                simp only at e0 e1 e2 e3 e4 e5
                go_wp2_with fail
                refine (HT.out.stepA (fun P hP => ownp_sync w.heap.size P da n Da _ hP (by have := HQA.out; omega))).mono ?_
                rintro e w102 ⟨rfl, hT, hb⟩
                rw [hso] at hT ⊢
                have hB := HB.out.trans hb
                clear HT HB hb
                have HT := Lib.hid hT
                have HB := Lib.hid hB
                clear hT hB
                go_wp2_with fail
                go_meet
                case rel => exact ⟨0, _, _, rfl, HP.out.neg, HT.out, alike_same n _ (Nat.le_trans (fail_q _ _ _) (by have := HQB.out; omega)), HB.out⟩
              · have b1 : (lf == 0) = false := by simp; omega
                have hsp := HP.out.sync_pos hlf
                go_wp2_with fail
                refine (HT.out.stepB (fun P hP => ownp_sync w.heap.size P db n Db _ hP (by have := HQB.out; omega))).mono ?_
                rintro e w106 ⟨rfl, hT, hb⟩
                rw [hsp.2.1]
                have hB := HB.out.trans hb
                clear HT HB hb
                have HT := Lib.hid hT
                have HB := Lib.hid hB
                clear hT hB
                go_wp2_with fail
                refine (HT.out.stepA (fun P hP => ownp_sync w.heap.size P da n Da _ hP (by have := HQA.out; omega))).mono ?_
                rintro e w107 ⟨rfl, hT, hb⟩
                rw [hsp.1]
                have hB := HB.out.trans hb
                clear HT HB hb
                have HT := Lib.hid hT
                have HB := Lib.hid hB
                clear hT hB
                have HP2 := Lib.hid hsp.2.2.1
                have HQ2 := Lib.hid (show Db.sync.1.q.length ≤ 60 + (k + 1) by rw [hsp.2.2.2]; simp)
                clear hsp
                go_wp2
                go_roundw
                case rel => exact ⟨k + 1, lf - 1, _, _, by omega, by go_num, rfl, HP2.out, HT.out, HB.out, HQ2.out⟩
                case measure => simp [intOf]; omega
            · have b0 : (kd == 2) = false := beq_eq_false_iff_ne.2 hsync
              clear hsync
              have WX := Lib.hid (fun W (P : Nat → Prop) (hP : OwnP W w.heap.size P db n Db) => by
                have := ownp_write w.heap.size P db n Db W hP sc ⟨T.toArray⟩ (by have := HQB.out; omega) HSC.out
                rw [show (⟨T.toArray⟩ : ByteArray).data.toList = T from by simp] at this
                exact this)
              go_upto_region 22 with (fail)
              go_cut [21] (fun v wx => v = .int .i64 (Db.write sc T).2 ∧ Two wx w.heap.size da db n Da (Db.write sc T).1 ∧ Below w.heap.size w wx)
              case first =>
                go_region_held3 (fun w' => w'.cell? ⟨b, off + k * 6, none⟩ = some (.int .i64 kd) ∧ w'.cell? ⟨b, off + k * 6 + 1, none⟩ = some (.int .i64 sc) ∧ w'.cell? ⟨b, off + k * 6 + 2, none⟩ = some (.int .i64 bt) ∧ w'.cell? ⟨b, off + k * 6 + 3, none⟩ = some (.string tx) ∧ w'.cell? ⟨b, off + k * 6 + 4, none⟩ = some (.bool od) ∧ w'.cell? ⟨b, off + k * 6 + 5, none⟩ = some (.int .i64 aft)) (first | exact ⟨e0, e1, e2, e3, e4, e5⟩ | exact ⟨i0, i1, i2, i3, i4, i5⟩ | exact ⟨j0, j1, j2, j3, j4, j5⟩)
                  (first
                  | (go_at_call 23; refine (TX.out _).mono ?_; rintro e w6 ⟨rfl, hb6⟩; have hT6 := (HT.out.drew).below hb6; have hB6 := (HB.out.drew).trans (hb6.mono (HB.out.drew).size); obtain ⟨i0, i1, i2, i3, i4, i5⟩ := HEL.out w6 hB6; simp only at i0 i1 i2 i3 i4 i5; have HT6 := Lib.hid hT6; have HB6 := Lib.hid hB6; clear hT6 hB6 hb6)
                  | (go_at_call 22; refine (HT6.out.stepB (fun P hP => WX.out _ P hP)).mono ?_; rintro e w7 ⟨rfl, hT7, hb7⟩; have hB7 := HB6.out.trans hb7; obtain ⟨j0, j1, j2, j3, j4, j5⟩ := HEL.out w7 hB7; simp only at j0 j1 j2 j3 j4 j5; have HT7 := Lib.hid hT7; have HB7 := Lib.hid hB7; clear hT7 hb7 hB7))
                all_goals
                  go_wp2_with fail
                  go_meet
                  case rel => exact ⟨rfl, HT7.out, HB7.out⟩
              case rest =>
                obtain ⟨rfl, hT, hB⟩ := hcut
                clear HT HB WX e0 e1 e2 e3 e4 e5
                have HT := Lib.hid hT
                have HB := Lib.hid hB
                clear hT hB
                by_cases hv : 0 ≤ sc ∧ sc < Db.st.length ∧ T.length = 64
                · rcases Int.lt_trichotomy lf 0 with hlf | hlf | hlf
                  · have b1 : (lf == 0) = false := by simp; omega
                    have HWB := Lib.hid (HP.out.write_b sc T hv)
                    have hpw := HP.out.write_neg hlf sc T hv
                    have HWA := Lib.hid (show Da.write sc T = ((Da.write sc T).1, 0) from by rw [← hpw.1])
                    have HPW := Lib.hid hpw.2
                    clear hv hpw
                    have hw1 : (Db.write sc T).1 = pushed Db sc T := by rw [HWB.out]
                    have hw2 : (Db.write sc T).2 = 0 := by rw [HWB.out]
                    have hT := HT.out
                    rw [hw1] at hT
                    rw [hw2]
                    clear HT hw1 hw2
                    have HT := Lib.hid hT
                    clear hT
                    obtain ⟨e0, e1, e2, e3, e4, e5⟩ := HEL.out _ HB.out
                    simp only at e0 e1 e2 e3 e4 e5
                    have WX := Lib.hid (fun W (P : Nat → Prop) (hP : OwnP W w.heap.size P da n Da) => by
                      have := ownp_write w.heap.size P da n Da W hP sc ⟨T.toArray⟩ (by have := HQA.out; omega) HSC.out
                      rw [show (⟨T.toArray⟩ : ByteArray).data.toList = T from by simp, HWA.out] at this
                      exact this)
                    go_upto_region 32 with (fail)
                    go_cut [23] (fun v wx => v = .int .i64 0 ∧ Two wx w.heap.size da db n (Da.write sc T).1 (pushed Db sc T) ∧ Below w.heap.size w wx)
                    case first =>
                      go_region_held3 (fun w' => w'.cell? ⟨b, off + k * 6, none⟩ = some (.int .i64 kd) ∧ w'.cell? ⟨b, off + k * 6 + 1, none⟩ = some (.int .i64 sc) ∧ w'.cell? ⟨b, off + k * 6 + 2, none⟩ = some (.int .i64 bt) ∧ w'.cell? ⟨b, off + k * 6 + 3, none⟩ = some (.string tx) ∧ w'.cell? ⟨b, off + k * 6 + 4, none⟩ = some (.bool od) ∧ w'.cell? ⟨b, off + k * 6 + 5, none⟩ = some (.int .i64 aft)) (first | exact ⟨e0, e1, e2, e3, e4, e5⟩ | exact ⟨i0, i1, i2, i3, i4, i5⟩ | exact ⟨j0, j1, j2, j3, j4, j5⟩)
                        (first
                        | (go_at_call 23; refine (TX.out _).mono ?_; rintro e w6 ⟨rfl, hb6⟩; have hT6 := (HT.out.drew).below hb6; have hB6 := (HB.out.drew).trans (hb6.mono (HB.out.drew).size); obtain ⟨i0, i1, i2, i3, i4, i5⟩ := HEL.out w6 hB6; simp only at i0 i1 i2 i3 i4 i5; have HT6 := Lib.hid hT6; have HB6 := Lib.hid hB6; clear hT6 hB6 hb6)
                        | (go_at_call 22; refine (HT6.out.stepA (fun P hP => WX.out _ P hP)).mono ?_; rintro e w7 ⟨rfl, hT7, hb7⟩; have hB7 := HB6.out.trans hb7; obtain ⟨j0, j1, j2, j3, j4, j5⟩ := HEL.out w7 hB7; simp only at j0 j1 j2 j3 j4 j5; have HT7 := Lib.hid hT7; have HB7 := Lib.hid hB7; clear hT7 hb7 hB7))
                      all_goals
                        go_wp2_with fail
                        go_meet
                        case rel => exact ⟨rfl, HT7.out, HB7.out⟩
                    case rest =>
                      obtain ⟨rfl, hT, hB⟩ := hcut
                      clear HT HB WX e0 e1 e2 e3 e4 e5
                      have HT := Lib.hid hT
                      have HB := Lib.hid hB
                      clear hT hB
                      go_wp2
                      go_roundw
                      case rel => exact ⟨k + 1, lf, _, _, by omega, by go_num, rfl, HPW.out, HT.out, HB.out, by show (pushed Db sc T).q.length ≤ 60 + (k + 1); have := HQB.out; simp [pushed]; omega⟩
                      case measure => simp [intOf]; omega
                  · have HWB := Lib.hid (HP.out.write_b sc T hv)
                    have HWA := Lib.hid (HP.out.write_off hlf sc T hv)
                    subst hlf
                    clear hv
                    have hw1 : (Db.write sc T).1 = pushed Db sc T := by rw [HWB.out]
                    have hw2 : (Db.write sc T).2 = 0 := by rw [HWB.out]
                    have hT := HT.out
                    rw [hw1] at hT
                    rw [hw2]
                    clear HT hw1 hw2
                    have HT := Lib.hid hT
                    clear hT
                    go_wp2_with fail
                    refine (HT.out.stepB (fun P hP => ownp_fail w.heap.size P db n (pushed Db sc T) _ hP x y (by have := HQB.out; simp [pushed]; omega) HX.out HY.out)).mono ?_
                    rintro e w103 ⟨rfl, hT, hb⟩
                    have hB := HB.out.trans hb
                    clear HT HB hb
                    have HT := Lib.hid hT
                    have HB := Lib.hid hB
                    clear hT hB
                    obtain ⟨e0, e1, e2, e3, e4, e5⟩ := HEL.out _ HB.out
                    simp only at e0 e1 e2 e3 e4 e5
                    have WX := Lib.hid (fun W (P : Nat → Prop) (hP : OwnP W w.heap.size P da n Da) => by
                      have := ownp_write w.heap.size P da n Da W hP sc ⟨T.toArray⟩ (by have := HQA.out; omega) HSC.out
                      rw [show (⟨T.toArray⟩ : ByteArray).data.toList = T from by simp, HWA.out] at this
                      exact this)
                    go_upto_region 32 with (fail)
                    go_cut [23] (fun v wx => v = .int .i64 25 ∧ Two wx w.heap.size da db n ((pushed Db sc T).fail x y) ((pushed Db sc T).fail x y) ∧ Below w.heap.size w wx)
                    case first =>
                      go_region_held3 (fun w' => w'.cell? ⟨b, off + k * 6, none⟩ = some (.int .i64 kd) ∧ w'.cell? ⟨b, off + k * 6 + 1, none⟩ = some (.int .i64 sc) ∧ w'.cell? ⟨b, off + k * 6 + 2, none⟩ = some (.int .i64 bt) ∧ w'.cell? ⟨b, off + k * 6 + 3, none⟩ = some (.string tx) ∧ w'.cell? ⟨b, off + k * 6 + 4, none⟩ = some (.bool od) ∧ w'.cell? ⟨b, off + k * 6 + 5, none⟩ = some (.int .i64 aft)) (first | exact ⟨e0, e1, e2, e3, e4, e5⟩ | exact ⟨i0, i1, i2, i3, i4, i5⟩ | exact ⟨j0, j1, j2, j3, j4, j5⟩)
                        (first
                        | (go_at_call 23; refine (TX.out _).mono ?_; rintro e w6 ⟨rfl, hb6⟩; have hT6 := (HT.out.drew).below hb6; have hB6 := (HB.out.drew).trans (hb6.mono (HB.out.drew).size); obtain ⟨i0, i1, i2, i3, i4, i5⟩ := HEL.out w6 hB6; simp only at i0 i1 i2 i3 i4 i5; have HT6 := Lib.hid hT6; have HB6 := Lib.hid hB6; clear hT6 hB6 hb6)
                        | (go_at_call 22; refine (HT6.out.stepA (fun P hP => WX.out _ P hP)).mono ?_; rintro e w7 ⟨rfl, hT7, hb7⟩; have hB7 := HB6.out.trans hb7; obtain ⟨j0, j1, j2, j3, j4, j5⟩ := HEL.out w7 hB7; simp only at j0 j1 j2 j3 j4 j5; have HT7 := Lib.hid hT7; have HB7 := Lib.hid hB7; clear hT7 hb7 hB7))
                      all_goals
                        go_wp2_with fail
                        go_meet
                        case rel => exact ⟨rfl, HT7.out, HB7.out⟩
                    case rest =>
                      obtain ⟨rfl, hT, hB⟩ := hcut
                      clear HT HB WX e0 e1 e2 e3 e4 e5
                      have HT := Lib.hid hT
                      have HB := Lib.hid hB
                      clear hT hB
                      go_wp2_with fail
                      go_meet
                      case rel => exact ⟨0, _, _, rfl, HP.out.neg, HT.out, alike_same n _ (Nat.le_trans (fail_q _ _ _) (by have := HQB.out; simp [pushed]; omega)), HB.out⟩
                  · have b1 : (lf == 0) = false := by simp; omega
                    have HWB := Lib.hid (HP.out.write_b sc T hv)
                    have hpw := HP.out.write_pos hlf sc T hv
                    have HWA := Lib.hid (show Da.write sc T = ((Da.write sc T).1, 0) from by rw [← hpw.1])
                    have HPW := Lib.hid hpw.2
                    clear hv hpw
                    have hw1 : (Db.write sc T).1 = pushed Db sc T := by rw [HWB.out]
                    have hw2 : (Db.write sc T).2 = 0 := by rw [HWB.out]
                    have hT := HT.out
                    rw [hw1] at hT
                    rw [hw2]
                    clear HT hw1 hw2
                    have HT := Lib.hid hT
                    clear hT
                    obtain ⟨e0, e1, e2, e3, e4, e5⟩ := HEL.out _ HB.out
                    simp only at e0 e1 e2 e3 e4 e5
                    have WX := Lib.hid (fun W (P : Nat → Prop) (hP : OwnP W w.heap.size P da n Da) => by
                      have := ownp_write w.heap.size P da n Da W hP sc ⟨T.toArray⟩ (by have := HQA.out; omega) HSC.out
                      rw [show (⟨T.toArray⟩ : ByteArray).data.toList = T from by simp, HWA.out] at this
                      exact this)
                    go_upto_region 32 with (fail)
                    go_cut [23] (fun v wx => v = .int .i64 0 ∧ Two wx w.heap.size da db n (Da.write sc T).1 (pushed Db sc T) ∧ Below w.heap.size w wx)
                    case first =>
                      go_region_held3 (fun w' => w'.cell? ⟨b, off + k * 6, none⟩ = some (.int .i64 kd) ∧ w'.cell? ⟨b, off + k * 6 + 1, none⟩ = some (.int .i64 sc) ∧ w'.cell? ⟨b, off + k * 6 + 2, none⟩ = some (.int .i64 bt) ∧ w'.cell? ⟨b, off + k * 6 + 3, none⟩ = some (.string tx) ∧ w'.cell? ⟨b, off + k * 6 + 4, none⟩ = some (.bool od) ∧ w'.cell? ⟨b, off + k * 6 + 5, none⟩ = some (.int .i64 aft)) (first | exact ⟨e0, e1, e2, e3, e4, e5⟩ | exact ⟨i0, i1, i2, i3, i4, i5⟩ | exact ⟨j0, j1, j2, j3, j4, j5⟩)
                        (first
                        | (go_at_call 23; refine (TX.out _).mono ?_; rintro e w6 ⟨rfl, hb6⟩; have hT6 := (HT.out.drew).below hb6; have hB6 := (HB.out.drew).trans (hb6.mono (HB.out.drew).size); obtain ⟨i0, i1, i2, i3, i4, i5⟩ := HEL.out w6 hB6; simp only at i0 i1 i2 i3 i4 i5; have HT6 := Lib.hid hT6; have HB6 := Lib.hid hB6; clear hT6 hB6 hb6)
                        | (go_at_call 22; refine (HT6.out.stepA (fun P hP => WX.out _ P hP)).mono ?_; rintro e w7 ⟨rfl, hT7, hb7⟩; have hB7 := HB6.out.trans hb7; obtain ⟨j0, j1, j2, j3, j4, j5⟩ := HEL.out w7 hB7; simp only at j0 j1 j2 j3 j4 j5; have HT7 := Lib.hid hT7; have HB7 := Lib.hid hB7; clear hT7 hb7 hB7))
                      all_goals
                        go_wp2_with fail
                        go_meet
                        case rel => exact ⟨rfl, HT7.out, HB7.out⟩
                    case rest =>
                      obtain ⟨rfl, hT, hB⟩ := hcut
                      clear HT HB WX e0 e1 e2 e3 e4 e5
                      have HT := Lib.hid hT
                      have HB := Lib.hid hB
                      clear hT hB
                      go_wp2
                      go_roundw
                      case rel => exact ⟨k + 1, lf - 1, _, _, by omega, by go_num, rfl, HPW.out, HT.out, HB.out, by show (pushed Db sc T).q.length ≤ 60 + (k + 1); have := HQB.out; simp [pushed]; omega⟩
                      case measure => simp [intOf]; omega
                · have HWB := Lib.hid (HP.out.write_bad sc T hv)
                  clear hv
                  have hw1 : (Db.write sc T).1 = Db := by rw [HWB.out.2]
                  have hw2 : (Db.write sc T).2 = 1 := by rw [HWB.out.2]
                  have hT := HT.out
                  rw [hw1] at hT
                  rw [hw2]
                  clear HT hw1 hw2
                  have HT := Lib.hid hT
                  clear hT
                  obtain ⟨e0, e1, e2, e3, e4, e5⟩ := HEL.out _ HB.out
                  simp only at e0 e1 e2 e3 e4 e5
                  have WX := Lib.hid (fun W (P : Nat → Prop) (hP : OwnP W w.heap.size P da n Da) => by
                    have := ownp_write w.heap.size P da n Da W hP sc ⟨T.toArray⟩ (by have := HQA.out; omega) HSC.out
                    rw [show (⟨T.toArray⟩ : ByteArray).data.toList = T from by simp, HWB.out.1] at this
                    exact this)
                  go_upto_region 32 with (fail)
                  go_cut [23] (fun v wx => v = .int .i64 1 ∧ Two wx w.heap.size da db n Da Db ∧ Below w.heap.size w wx)
                  case first =>
                    go_region_held3 (fun w' => w'.cell? ⟨b, off + k * 6, none⟩ = some (.int .i64 kd) ∧ w'.cell? ⟨b, off + k * 6 + 1, none⟩ = some (.int .i64 sc) ∧ w'.cell? ⟨b, off + k * 6 + 2, none⟩ = some (.int .i64 bt) ∧ w'.cell? ⟨b, off + k * 6 + 3, none⟩ = some (.string tx) ∧ w'.cell? ⟨b, off + k * 6 + 4, none⟩ = some (.bool od) ∧ w'.cell? ⟨b, off + k * 6 + 5, none⟩ = some (.int .i64 aft)) (first | exact ⟨e0, e1, e2, e3, e4, e5⟩ | exact ⟨i0, i1, i2, i3, i4, i5⟩ | exact ⟨j0, j1, j2, j3, j4, j5⟩)
                      (first
                      | (go_at_call 23; refine (TX.out _).mono ?_; rintro e w6 ⟨rfl, hb6⟩; have hT6 := (HT.out.drew).below hb6; have hB6 := (HB.out.drew).trans (hb6.mono (HB.out.drew).size); obtain ⟨i0, i1, i2, i3, i4, i5⟩ := HEL.out w6 hB6; simp only at i0 i1 i2 i3 i4 i5; have HT6 := Lib.hid hT6; have HB6 := Lib.hid hB6; clear hT6 hB6 hb6)
                      | (go_at_call 22; refine (HT6.out.stepA (fun P hP => WX.out _ P hP)).mono ?_; rintro e w7 ⟨rfl, hT7, hb7⟩; have hB7 := HB6.out.trans hb7; obtain ⟨j0, j1, j2, j3, j4, j5⟩ := HEL.out w7 hB7; simp only at j0 j1 j2 j3 j4 j5; have HT7 := Lib.hid hT7; have HB7 := Lib.hid hB7; clear hT7 hb7 hB7))
                    all_goals
                      go_wp2_with fail
                      go_meet
                      case rel => exact ⟨rfl, HT7.out, HB7.out⟩
                  case rest =>
                    obtain ⟨rfl, hT, hB⟩ := hcut
                    clear HT HB WX e0 e1 e2 e3 e4 e5
                    have HT := Lib.hid hT
                    have HB := Lib.hid hB
                    clear hT hB
                    go_wp2
                    go_roundw
                    case rel => exact ⟨k + 1, lf, Da, Db, by omega, by go_num, rfl, HP.out, HT.out, HB.out, by show Db.q.length ≤ 60 + (k + 1); have := HQB.out; omega⟩
                    case measure => simp [intOf]; omega
          · go_wp2_with fail
            go_meet
            case rel => exact ⟨lf, Da, Db, rfl, HP.out.neg, HT.out, HP.out.alike n (by have := HQB.out; omega), HB.out⟩
      case rest =>
        obtain ⟨lf, Da, Db, rfl, hneg, hT, hal, hB⟩ := hcut
        clear HT HB HP0 HQB0
        have HT := Lib.hid hT
        have HB := Lib.hid hB
        have HAL := Lib.hid hal
        clear hT hB hal
        have hlaf : af < 0 → (lf != af) = false := by intro h; rw [hneg h]; simp
        have hlaf2 : af < 0 → (lf == af) = true := by intro h; rw [hneg h]; simp
        clear hneg
        by_cases haf : af < 0
        · have b1 := hlaf haf
          have b2 := hlaf2 haf
          clear hlaf hlaf2
          go_wp2_with fail
          refine (HT.out.stepA (fun P hP => ownp_start w.heap.size P da n Da _ hP)).mono ?_
          rintro e w108 ⟨rfl, hT, hb⟩
          have hB := HB.out.trans hb
          clear HT HB hb
          have HT := Lib.hid hT
          have HB := Lib.hid hB
          clear hT hB
          go_wp2_with fail
          refine (HT.out.stepB (fun P hP => ownp_start w.heap.size P db n Db _ hP)).mono ?_
          rintro e w109 ⟨rfl, hT, hb⟩
          have hB := HB.out.trans hb
          clear HT HB hb
          have HT := Lib.hid hT
          have HB := Lib.hid hB
          clear hT hB
          go_wp2_with fail
          refine (HT.out.contA rfl (by have := HAL.out.qa; show Da.q.length ≤ 1000000; omega)).mono ?_
          rintro e w201 ⟨v1, rfl, hV1, hT, hb⟩
          have hB := HB.out.trans (hb.mono HB.out.size)
          clear HT HB hb
          have HT := Lib.hid hT
          have HB := Lib.hid hB
          have HV1 := Lib.hid hV1
          clear hT hB hV1
          go_wp2_with fail
          refine (HT.out.contB rfl (by have := HAL.out.qb; show Db.q.length ≤ 1000000; omega)).mono ?_
          rintro e w202 ⟨v2, rfl, hV2, hT, hb⟩
          have hB := HB.out.trans (hb.mono HB.out.size)
          have hV3 := HV1.out.below hb rfl
          clear HT HB hb HV1
          have HB := Lib.hid hB
          have HV1 := Lib.hid hV3
          have HV2 := Lib.hid hV2
          clear hT hB hV2 hV3
          go_wp2_with fail
          refine (same_any 0 v1 v2 _ _ _ HV1.out HV2.out (by simp [Dsk.all]; omega)).mono ?_
          rintro e w203 ⟨rfl, hb⟩
          rw [decide_eq_true HAL.out.all]
          have hB := HB.out.trans (hb.mono HB.out.size)
          clear HB hb
          have HB := Lib.hid hB
          clear hB
          go_wp2
          go_ret
          exact ⟨rfl, HB.out⟩
        · clear hlaf hlaf2
          go_wp2_with fail
          refine (HT.out.stepA (fun P hP => ownp_start w.heap.size P da n Da _ hP)).mono ?_
          rintro e w110 ⟨rfl, hT, hb⟩
          have hB := HB.out.trans hb
          clear HT HB hb
          have HT := Lib.hid hT
          have HB := Lib.hid hB
          clear hT hB
          go_wp2_with fail
          refine (HT.out.stepB (fun P hP => ownp_start w.heap.size P db n Db _ hP)).mono ?_
          rintro e w111 ⟨rfl, hT, hb⟩
          have hB := HB.out.trans hb
          clear HT HB hb
          have HT := Lib.hid hT
          have HB := Lib.hid hB
          clear hT hB
          go_wp2_with fail
          refine (HT.out.contA rfl (by have := HAL.out.qa; show Da.q.length ≤ 1000000; omega)).mono ?_
          rintro e w201 ⟨v1, rfl, hV1, hT, hb⟩
          have hB := HB.out.trans (hb.mono HB.out.size)
          clear HT HB hb
          have HT := Lib.hid hT
          have HB := Lib.hid hB
          have HV1 := Lib.hid hV1
          clear hT hB hV1
          go_wp2_with fail
          refine (HT.out.contB rfl (by have := HAL.out.qb; show Db.q.length ≤ 1000000; omega)).mono ?_
          rintro e w202 ⟨v2, rfl, hV2, hT, hb⟩
          have hB := HB.out.trans (hb.mono HB.out.size)
          have hV3 := HV1.out.below hb rfl
          clear HT HB hb HV1
          have HB := Lib.hid hB
          have HV1 := Lib.hid hV3
          have HV2 := Lib.hid hV2
          clear hT hB hV2 hV3
          go_wp2_with fail
          refine (same_any 0 v1 v2 _ _ _ HV1.out HV2.out (by simp [Dsk.all]; omega)).mono ?_
          rintro e w203 ⟨rfl, hb⟩
          rw [decide_eq_true HAL.out.all]
          have hB := HB.out.trans (hb.mono HB.out.size)
          clear HB hb
          have HB := Lib.hid hB
          clear hB
          go_wp2
          go_ret
          exact ⟨rfl, HB.out⟩
set_option maxRecDepth 100000 in
set_option maxHeartbeats 400000 in
theorem armed_bad (r : Nat) (A A' : Option Addr) (c c' : Nat) (l l' : List AAct) (af x y : Int) (w : World) (h1 : ActsAt w A l) (h2 : ActsAt w A' l') (m1 : l.length ≤ 9223372036854775807) (m2 : l'.length ≤ 9223372036854775807)
    (o : okB l = false ∨ okB l' = false) :
    Calls Try.prog 8 #[.int .u8 (r : Int), .slice A l.length c, .slice A' l'.length c', .int .i64 af, .int .i64 x, .int .i64 y] w fun e w' => e = .returned (.bool true) ∧ Below w.heap.size w w' := by
  have OK1 := Lib.hid (fun W (h : ActsAt W A l) => ok_any A c l W h m1)
  have OK2 := Lib.hid (fun W (h : ActsAt W A' l') => ok_any A' c' l' W h m2)
  have H1 := Lib.hid h1
  have H2 := Lib.hid h2
  clear h1 h2
  cases o1 : okB l with
  | false =>
    rw [o1] at OK1
    clear o o1
    go_enter Try.func8, Try.ntmps8
    go_wp2_with fail
    refine (head_any _).mono ?_
    rintro e w1 ⟨rfl, hb⟩
    have HB1 := Lib.hid hb
    clear hb
    go_wp2_with fail
    refine (OK1.out _ (H1.out.below HB1.out rfl)).mono ?_
    rintro e _ ⟨rfl, rfl⟩
    go_wp2
    go_ret
    exact ⟨rfl, HB1.out⟩
  | true =>
    have o2 : okB l' = false := by rcases o with o | o; rw [o1] at o; cases o; exact o
    rw [o1] at OK1
    rw [o2] at OK2
    clear o o1 o2
    go_enter Try.func8, Try.ntmps8
    go_wp2_with fail
    refine (head_any _).mono ?_
    rintro e w1 ⟨rfl, hb⟩
    have HB1 := Lib.hid hb
    clear hb
    go_wp2_with fail
    refine (OK1.out _ (H1.out.below HB1.out rfl)).mono ?_
    rintro e _ ⟨rfl, rfl⟩
    go_wp2_with fail
    refine (OK2.out _ (H2.out.below HB1.out rfl)).mono ?_
    rintro e _ ⟨rfl, rfl⟩
    go_wp2
    go_ret
    exact ⟨rfl, HB1.out⟩
theorem diskArmed.law_walk {w : World} (r : Nat) (hr : r < 256) (A : Option Addr) (c : Nat) (l : List AAct) (h1 : ActsAt w A l) (m1 : l.length ≤ 9223372036854775807) (k1 : ∀ a ∈ l, a.Ok)
    (A' : Option Addr) (c' : Nat) (l' : List AAct) (h2 : ActsAt w A' l') (m2 : l'.length ≤ 9223372036854775807) (k2 : ∀ a ∈ l', a.Ok) (af : Int) (haf : In64 af) (x : Int) (hx : In64 x) (y : Int) (hy : In64 y) :
    Calls Try.prog 8 #[.int .u8 (r : Int), .slice A l.length c, .slice A' l'.length c', .int .i64 af, .int .i64 x, .int .i64 y] w fun e w' => e = .returned (.bool true) ∧ Below w.heap.size w w' := by
  cases o1 : okB l with
  | false => exact armed_bad r A A' c c' l l' af x y w h1 h2 m1 m2 (.inl o1)
  | true =>
    cases o2 : okB l' with
    | false => exact armed_bad r A A' c c' l l' af x y w h1 h2 m1 m2 (.inr o2)
    | true => exact armed_walk r A A' c c' l l' af x y w hr h1 h2 m1 m2 k1 k2 haf hx hy o1 o2
end Go.Proofs.Ytmkfbedhmmijjaa

