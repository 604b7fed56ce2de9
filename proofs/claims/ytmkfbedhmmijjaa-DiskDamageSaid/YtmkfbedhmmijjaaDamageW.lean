/- DiskDamage: the walk. -/
import Derived.Test.YtmkfbedhmmijjaaDamageP
import Derived.Deep.QuietTactic
import Derived.Deep.DeepCutAuto
namespace Go.Proofs.Ytmkfbedhmmijjaa
open Go.RowKit
theorem run_byte (X : List UInt8) (k : Nat) (x : UInt8) (h : X[k]? = some x) (W : World) : (Instr.index 9 (.string ⟨X.toArray⟩) (.int .i64 (k : Int))).run Try.prog W = .ok (.int .u8 (x.toNat : Int)) W := by
  have e : (⟨X.toArray⟩ : ByteArray)[k]? = some x := by
    obtain ⟨hk, hx⟩ := List.getElem?_eq_some_iff.1 h
    rw [getElem?_pos (⟨X.toArray⟩ : ByteArray) k (by show k < X.toArray.size; simpa using hk)]
    subst hx
    rfl
  have h0 : (0 : Int) ≤ (k : Int) := by omega
  simp [Instr.index, asIntOf, run_underlying Try.underlying9, e]
set_option maxRecDepth 100000 in
set_option maxHeartbeats 6000000 in
theorem damage_walk (r : Nat) (A : Option Addr) (c : Nat) (l : List AAct) (s at_ m : Int) (w : World) (hr : r < 256) (h1 : ActsAt w A l) (m1 : l.length ≤ 9223372036854775807) (k1 : ∀ a ∈ l, a.Ok) (hs : In64 s) (hat_ : In64 at_) (hm : In64 m) (o1 : okB l = true) :
    Calls Try.prog 9 #[.int .u8 (r : Int), .slice A l.length c, .int .i64 s, .int .i64 at_, .int .i64 m] w fun e w' => e = .returned (.bool true) ∧ Below w.heap.size w w' := by
  have H1 := Lib.hid h1
  have O1 := Lib.hid o1
  have K1 := Lib.hid k1
  have hl60 := (ok_spec o1).1
  obtain ⟨L, hL⟩ : ∃ L, L = l.length := ⟨_, rfl⟩
  have OK1 := Lib.hid (fun W (h : ActsAt W A l) => ok_any A c l W h m1)
  rw [← hL] at m1 hl60 ⊢
  rw [o1, ← hL] at OK1
  have HL := Lib.hid hL
  obtain ⟨n, hn⟩ : ∃ n, n = 1 + r % 12 := ⟨_, rfl⟩
  have SZ := Lib.hid (fun W => size_any r W hr)
  rw [← hn] at SZ
  have hn1 : 1 ≤ n := by omega
  have hn12 : n ≤ 12 := by omega
  have HN := Lib.hid hn
  have HB := Lib.hid (Below.refl w.heap.size w)
  clear h1 o1 k1 hL hn
  have HS := Lib.hid hs
  have HAT_ := Lib.hid hat_
  have HM := Lib.hid hm
  clear hs hat_ hm
  go_enter Try.func9, Try.ntmps9
  go_wp2_with fail
  refine (head_any _).mono ?_
  rintro e w1 ⟨rfl, hb⟩
  have hB : Below w.heap.size w w1 := hb
  have HB1 := Lib.hid hB
  clear hb hB HB
  go_wp2_with fail
  refine (OK1.out _ (H1.out.below HB1.out rfl)).mono ?_
  rintro e _ ⟨rfl, rfl⟩
  go_wp2_with fail
  refine (SZ.out _).mono ?_
  rintro e _ ⟨rfl, rfl⟩
  go_wp2_with fail
  refine (own_new w.heap.size n _ HB1.out.size hn1 (by omega)).mono ?_
  rintro e w2 ⟨d, rfl, hO, hb⟩
  have hB : Below w.heap.size w w2 := HB1.out.trans (hb.mono HB1.out.size)
  have HB2 := Lib.hid hB
  have HO2 := Lib.hid hO
  clear hb hB hO
  go_wp2_with fail
  go_loopw [14] (fun i wr => ∃ k : Nat, k ≤ L ∧ i = .int .i64 (k : Int) ∧ Hid (Own wr w.heap.size d n ((Dsk.new n).run (l.take k))) ∧ Hid (Below w.heap.size w wr)) (fun i _ => L - (intOf i).toNat)
  case atStart => exact ⟨0, Nat.zero_le _, rfl, HO2.out, HB2.out⟩
  case round =>
    obtain ⟨k, hk, rfl, HO, HB⟩ := hrel
    by_cases hlt : k < L
    · have hkl : k < l.length := by rw [← HL.out]; exact hlt
      obtain ⟨b, off, hA, hb, hE⟩ := H1.out.elem hkl
      obtain ⟨a, ha⟩ : ∃ a, a = l[k] := ⟨_, rfl⟩
      rw [← ha] at hE
      have HEL := Lib.hid (fun W (hW : Below w.heap.size w W) => hE.below hW hb)
      have hao : a.Ok := by rw [ha]; exact K1.out _ (List.getElem_mem hkl)
      have hat : a.txt.size ≤ 100 := by rw [ha]; exact (ok_spec O1.out).2 _ (List.getElem_mem hkl)
      have hq := run_take_q n k l (by omega)
      have hnx : ((Dsk.new n).run (l.take (k + 1))) = (((Dsk.new n).run (l.take k)).act a).1 := by rw [List.take_succ_eq_append_getElem hkl, run_snoc, ← ha]
      have HAO := Lib.hid hao
      have HAT := Lib.hid hat
      have HQ := Lib.hid hq
      have HNX := Lib.hid hnx
      subst hA
      clear hao hat hq hnx ha hE hb
      obtain ⟨e0, e1, e2, e3, e4, e5⟩ := HEL.out wr HB.out
      go_wp2_with fail
      refine (own_do w.heap.size d n _ _ HO.out a (by have := HQ.out; omega) HAO.out HAT.out).mono ?_
      rintro e w3 ⟨rfl, hO3, hb3⟩
      rw [← HNX.out] at hO3
      have HO3 := Lib.hid hO3
      have HB3 := Lib.hid (HB.out.trans hb3)
      clear hO3 hb3 e0 e1 e2 e3 e4 e5
      go_wp2
      go_roundw
      case rel => exact ⟨k + 1, by omega, by go_num, HO3.out, HB3.out⟩
      case measure => simp [intOf]; omega
    · have hkL : l.take k = l := List.take_of_length_le (by rw [← HL.out]; omega)
      rw [hkL] at HO
      have hq60 : ((Dsk.new n).run l).q.length ≤ 60 := by have := run_q l (Dsk.new n); have := HL.out; simp [Dsk.new] at *; omega
      obtain ⟨D1, hD1⟩ : ∃ D1, D1 = ((Dsk.new n).run l) := ⟨_, rfl⟩
      rw [← hD1] at HO hq60
      clear hD1 hkL HO2 HB2 HB1
      have HQ60 := Lib.hid hq60
      clear hq60
      go_wp2_with fail
      refine (own_start w.heap.size d n D1 _ HO.out).mono ?_
      rintro e w10 ⟨rfl, hO, hb⟩
      have hB := HB.out.trans hb
      clear HO HB hb
      have HO := Lib.hid hO
      have HB := Lib.hid hB
      clear hO hB
      go_wp2_with fail
      refine (own_sync w.heap.size d n _ _ HO.out (by have := HQ60.out; show D1.q.length ≤ 1000000; omega)).mono ?_
      rintro e w11 ⟨rfl, hO, hb⟩
      rw [show D1.start.sync.2 = 0 from by rw [calm_sync (start_calm D1)]]
      have hB := HB.out.trans hb
      clear HO HB hb
      have HO := Lib.hid hO
      have HB := Lib.hid hB
      clear hO hB
      have HC := Lib.hid (calm_sync_calm (start_calm D1))
      obtain ⟨D2, hD2⟩ : ∃ D2, D2 = D1.start.sync.1 := ⟨_, rfl⟩
      rw [← hD2] at HO HC
      have HLAW := Lib.hid (damage_law n D2 s at_ m HC.out.1 HC.out.2 HO.out.ok)
      clear hD2 HQ60
      have HO := Lib.hid HO.out.p
      go_wp2_with fail
      refine (ownp_contents w.heap.size _ d n D2 _ HO.out HC.out.1.on (by rw [HC.out.2]; simp)).mono ?_
      rintro e w21 ⟨v1, Q1, rfl, hV, hQ, hPQ, hO, hb⟩
      have hB := HB.out.trans (hb.mono HB.out.size)
      clear HO HB hb 
      have T_v1 := Lib.hid hV
      have Q_v1 := Lib.hid hQ
      have HO := Lib.hid hO
      have HB := Lib.hid hB
      clear hV hQ hPQ hO hB 
      go_wp2_with fail
      refine (ownp_rot w.heap.size _ d n D2 _ HO.out s at_ m).mono ?_
      rintro e w22 ⟨rfl, hO, hT⟩
      have hB := HB.out.trans (hT.below HB.out.size)
      have hT_v1 := hT.texts T_v1.out Q_v1.out
      clear HO HB hT T_v1
      have T_v1 := Lib.hid hT_v1
      have HO := Lib.hid hO
      have HB := Lib.hid hB
      clear hO hB hT_v1
      go_wp2_with fail
      refine (ownp_contents w.heap.size _ d n _ _ HO.out HLAW.out.off1 (by rw [HLAW.out.q1]; simp)).mono ?_
      rintro e w23 ⟨v2, Q2, rfl, hV, hQ, hPQ, hO, hb⟩
      have hB := HB.out.trans (hb.mono HB.out.size)
      have hT_v1 := T_v1.out.below hb rfl
      have hQ_v1 := fun k hk => hPQ k (Q_v1.out k hk)
      clear HO HB hb T_v1 Q_v1
      have T_v1 := Lib.hid hT_v1
      have Q_v1 := Lib.hid hQ_v1
      have T_v2 := Lib.hid hV
      have Q_v2 := Lib.hid hQ
      have HO := Lib.hid hO
      have HB := Lib.hid hB
      clear hV hQ hPQ hO hB hT_v1 hQ_v1
      go_wp2_with fail
      refine (ownp_rot w.heap.size _ d n _ _ HO.out s at_ m).mono ?_
      rintro e w24 ⟨rfl, hO, hT⟩
      have hB := HB.out.trans (hT.below HB.out.size)
      have hT_v1 := hT.texts T_v1.out Q_v1.out
      have hT_v2 := hT.texts T_v2.out Q_v2.out
      clear HO HB hT T_v1 T_v2
      have T_v1 := Lib.hid hT_v1
      have T_v2 := Lib.hid hT_v2
      have HO := Lib.hid hO
      have HB := Lib.hid hB
      clear hO hB hT_v1 hT_v2
      go_wp2_with fail
      refine (ownp_contents w.heap.size _ d n _ _ HO.out HLAW.out.off2 (by rw [HLAW.out.q2]; simp)).mono ?_
      rintro e w25 ⟨v3, Q3, rfl, hV, hQ, hPQ, hO, hb⟩
      have hB := HB.out.trans (hb.mono HB.out.size)
      have hT_v1 := T_v1.out.below hb rfl
      have hQ_v1 := fun k hk => hPQ k (Q_v1.out k hk)
      have hT_v2 := T_v2.out.below hb rfl
      have hQ_v2 := fun k hk => hPQ k (Q_v2.out k hk)
      clear HO HB hb T_v1 Q_v1 T_v2 Q_v2
      have T_v1 := Lib.hid hT_v1
      have Q_v1 := Lib.hid hQ_v1
      have T_v2 := Lib.hid hT_v2
      have Q_v2 := Lib.hid hQ_v2
      have T_v3 := Lib.hid hV
      have Q_v3 := Lib.hid hQ
      have HO := Lib.hid hO
      have HB := Lib.hid hB
      clear hV hQ hPQ hO hB hT_v1 hQ_v1 hT_v2 hQ_v2
      go_wp2_with fail
      refine (same_any 0 v1 v3 _ _ _ T_v1.out T_v3.out (by simp [Dsk.all]; omega)).mono ?_
      rintro e w26 ⟨rfl, hb⟩
      rw [decide_eq_true HLAW.out.back]
      have hB := HB.out.trans (hb.mono HB.out.size)
      have hO := HO.out.below hb
      have hT_v1 := T_v1.out.below hb rfl
      have hT_v2 := T_v2.out.below hb rfl
      have hT_v3 := T_v3.out.below hb rfl
      clear HO HB hb T_v1 T_v2 T_v3
      have T_v1 := Lib.hid hT_v1
      have T_v2 := Lib.hid hT_v2
      have T_v3 := Lib.hid hT_v3
      have HO := Lib.hid hO
      have HB := Lib.hid hB
      clear hO hB hT_v1 hT_v2 hT_v3
      go_upto_region 20 with (fail)
      go_cut [21] (fun v wx => v = .bool (decide (Valid n s at_ m)) ∧ wx = w26)
      case first =>
        go_wp2_with fail
        all_goals
          go_meet
          case rel =>
            refine ⟨congrArg Value.bool ?_, rfl⟩
            first | (symm; rw [decide_eq_true_eq]; unfold Valid; omega) | (symm; rw [decide_eq_false_iff_not]; unfold Valid; omega) | (rw [decide_eq_decide]; unfold Valid; omega)
      case rest =>
        obtain ⟨rfl, rfl⟩ := hcut
        obtain ⟨vb, hvb⟩ : ∃ vb, vb = decide (Valid n s at_ m) := ⟨_, rfl⟩
        rw [← hvb]
        have HVB := Lib.hid hvb
        clear hvb
        have hlen2 : (D2.all n).length = n := by simp [Dsk.all]
        have hlen3 : ((D2.rot s at_ m).all n).length = n := by simp [Dsk.all]
        obtain ⟨A1, q1, hv1, f1⟩ := T_v1.out.form
        obtain ⟨A2, q2, hv2, f2⟩ := T_v2.out.form
        rw [hlen2] at hv1 f1
        rw [hlen3] at hv2 f2
        obtain ⟨g1, hg1, _⟩ := f1 (by omega)
        obtain ⟨g2, hg2, _⟩ := f2 (by omega)
        subst hg1 hg2
        subst hv1 hv2
        have c1 : ∀ W k, k < n → TextsAt W 0 (.slice (some ⟨g1, 0, none⟩) n q1) (D2.all n) → W.cell? ⟨g1, k, none⟩ = some (text (D2.rd k)) := by
          intro W k hk hW
          have hW' : TextsAt W 0 (.slice (some ⟨g1, 0, none⟩) (D2.all n).length q1) (D2.all n) := by rw [hlen2]; exact hW
          rw [hW'.cell (by rw [hlen2]; exact hk)]
          simp [Dsk.all]
        have c2 : ∀ W k, k < n → TextsAt W 0 (.slice (some ⟨g2, 0, none⟩) n q2) ((D2.rot s at_ m).all n) → W.cell? ⟨g2, k, none⟩ = some (text ((D2.rot s at_ m).rd k)) := by
          intro W k hk hW
          have hW' : TextsAt W 0 (.slice (some ⟨g2, 0, none⟩) ((D2.rot s at_ m).all n).length q2) ((D2.rot s at_ m).all n) := by rw [hlen3]; exact hW
          rw [hW'.cell (by rw [hlen3]; exact hk)]
          simp [Dsk.all]
        have C1 := Lib.hid c1
        have C2 := Lib.hid c2
        have T3 := Lib.hid T_v3.out
        have OD := Lib.hid HO.out
        have LB := Lib.hid HB.out
        clear c1 c2 hlen2 hlen3 f1 f2 HO HB T_v3
        go_wp2_with fail
        go_loopw [22] (fun i wr => ∃ k : Nat, k ≤ n ∧ i = .int .i64 (k : Int) ∧ Hid (Below wc.heap.size wc wr)) (fun i _ => n - (intOf i).toNat)
        case atStart => exact ⟨0, Nat.zero_le _, rfl, Below.refl _ _⟩
        case round =>
          obtain ⟨i, hi, rfl, HW⟩ := hrel
          by_cases hin : i < n
          · obtain ⟨wo, hwo⟩ : ∃ wo : World, wo = wr := ⟨_, rfl⟩
            go_wp2_with fail
            go_loopw [23] (fun j wr => ∃ k : Nat, k ≤ 64 ∧ j = .int .i64 (k : Int) ∧ Hid (Below wc.heap.size wc wr)) (fun j _ => 64 - (intOf j).toNat)
            case atStart => exact ⟨0, Nat.zero_le _, rfl, HW.out⟩
            case round =>
              obtain ⟨k, hk, rfl, HU⟩ := hrel
              by_cases hk64 : k < 64
              · obtain ⟨x, y, hx, hy, hxy⟩ := HLAW.out.bits i k hin hk64
                have d1 := C1.out wr i hin (T_v1.out.below HU.out rfl)
                have d2 := C2.out wr i hin (T_v2.out.below HU.out rfl)
                obtain ⟨X, hX⟩ : ∃ X, X = D2.rd i := ⟨_, rfl⟩
                obtain ⟨Y, hY⟩ : ∃ Y, Y = (D2.rot s at_ m).rd i := ⟨_, rfl⟩
                rw [← hX] at d1 hx
                rw [← hY] at d2 hy
                unfold text at d1 d2
                have hxl : k < (⟨X.toArray⟩ : ByteArray).size := by
                  have := (List.getElem?_eq_some_iff.1 hx).1
                  show k < X.toArray.size
                  simpa using this
                have hyl : k < (⟨Y.toArray⟩ : ByteArray).size := by
                  have := (List.getElem?_eq_some_iff.1 hy).1
                  show k < Y.toArray.size
                  simpa using this
                have HX := Lib.hid hx
                have HY := Lib.hid hy
                have HXY := Lib.hid hxy
                clear hX hY hx hy hxy
                have hix : ∀ W : World, (Instr.index 9 (.string ⟨X.toArray⟩) (.int .i64 (k : Int))).run Try.prog W = .ok (.int .u8 (x.toNat : Int)) W := run_byte X k x HX.out
                have hiy : ∀ W : World, (Instr.index 9 (.string ⟨Y.toArray⟩) (.int .i64 (k : Int))).run Try.prog W = .ok (.int .u8 (y.toNat : Int)) W := run_byte Y k y HY.out
                have hxor : bits BinOp.xor IntKind.u8 (x.toNat : Int) (y.toNat : Int) = ((x ^^^ y).toNat : Int) := by
                  rw [u8_xor_nat _ _ x.toNat_lt y.toNat_lt, UInt8.toNat_xor]
                rw [HXY.out] at hxor
                have hdr : ∀ nq, Below wc.heap.size wc (wr.drewN nq) := fun nq => below_drewN' HU.out nq
                have HDR := Lib.hid hdr
                clear hdr hxl hyl
                by_cases hall : vb = true ∧ (i : Int) = s ∧ (k : Int) = at_
                · obtain ⟨rfl, hs1, hk1⟩ := hall
                  have hvv : Valid n s at_ m := by have := HVB.out; symm at this; exact of_decide_eq_true this
                  rw [if_pos ⟨hvv, hs1, hk1⟩] at hxor
                  have b1 : ((i : Int) == s) = true := by rw [hs1]; simp
                  have b2 : ((k : Int) == at_) = true := by rw [hk1]; simp
                  have hm1 : 0 < m := hvv.2.2.1
                  have hm2 : m < 256 := hvv.2.2.2
                  clear hvv hs1 hk1
                  go_wp2_with fail
                  go_quiet (fail)
                  go_wp2
                  go_roundw
                  case rel => exact ⟨k + 1, by omega, by go_num, HDR.out _⟩
                  case measure => simp [intOf]; omega
                · have hz : bits BinOp.xor IntKind.u8 (x.toNat : Int) (y.toNat : Int) = 0 := by
                    rw [hxor, if_neg]
                    rintro ⟨a1, a2, a3⟩
                    exact hall ⟨by rw [HVB.out]; exact decide_eq_true a1, a2, a3⟩
                  clear hxor
                  cases vb with
                  | false =>
                    clear hall
                    go_wp2_with fail
                    go_quiet (fail)
                    go_wp2
                    go_roundw
                    case rel => exact ⟨k + 1, by omega, by go_num, HDR.out _⟩
                    case measure => simp [intOf]; omega
                  | true =>
                    by_cases hs1 : (i : Int) = s
                    · have b1 : ((i : Int) == s) = true := by rw [hs1]; simp
                      have hk1 : ¬ (k : Int) = at_ := fun e => hall ⟨rfl, hs1, e⟩
                      have b2 : ((k : Int) == at_) = false := by simpa using hk1
                      clear hall hs1 hk1
                      go_wp2_with fail
                      go_quiet (fail)
                      go_wp2
                      go_roundw
                      case rel => exact ⟨k + 1, by omega, by go_num, HDR.out _⟩
                      case measure => simp [intOf]; omega
                    · have b1 : ((i : Int) == s) = false := by simpa using hs1
                      clear hall hs1
                      go_wp2_with fail
                      go_quiet (fail)
                      go_wp2
                      go_roundw
                      case rel => exact ⟨k + 1, by omega, by go_num, HDR.out _⟩
                      case measure => simp [intOf]; omega
              · go_wp2
                go_roundw
                case rel => exact ⟨i + 1, by omega, by go_num, HU.out⟩
                case measure => simp [intOf]; omega
          · have hT1 := T_v1.out.below HW.out rfl
            have hO1 := OD.out.below HW.out
            have hB1 := LB.out.trans (HW.out.mono LB.out.size)
            have HO := Lib.hid hO1
            have HB := Lib.hid hB1
            clear T_v1 T_v2 T3 OD LB hO1 hB1 HW
            have T_v1 := Lib.hid hT1
            clear hT1
            go_wp2_with fail
            refine (ownp_stale w.heap.size _ d n _ _ HO.out s).mono ?_
            rintro e w41 ⟨rfl, hO, hT⟩
            have hB := HB.out.trans (hT.below HB.out.size)
            have hT_v1 := hT.texts T_v1.out Q_v1.out
            clear HO HB hT T_v1
            have T_v1 := Lib.hid hT_v1
            have HO := Lib.hid hO
            have HB := Lib.hid hB
            clear hO hB hT_v1
            go_wp2_with fail
            refine (ownp_contents w.heap.size _ d n _ _ HO.out HLAW.out.off3 (by rw [HLAW.out.q3]; simp)).mono ?_
            rintro e w42 ⟨v4, Q11, rfl, hV, hQ, hPQ, hO, hb⟩
            have hB := HB.out.trans (hb.mono HB.out.size)
            have hT_v1 := T_v1.out.below hb rfl
            have hQ_v1 := fun k hk => hPQ k (Q_v1.out k hk)
            clear HO HB hb T_v1 Q_v1
            have T_v1 := Lib.hid hT_v1
            have Q_v1 := Lib.hid hQ_v1
            have T_v4 := Lib.hid hV
            have Q_v4 := Lib.hid hQ
            have HO := Lib.hid hO
            have HB := Lib.hid hB
            clear hV hQ hPQ hO hB hT_v1 hQ_v1
            go_wp2_with fail
            refine (ownp_stale w.heap.size _ d n _ _ HO.out s).mono ?_
            rintro e w43 ⟨rfl, hO, hT⟩
            have hB := HB.out.trans (hT.below HB.out.size)
            have hT_v1 := hT.texts T_v1.out Q_v1.out
            have hT_v4 := hT.texts T_v4.out Q_v4.out
            clear HO HB hT T_v1 T_v4
            have T_v1 := Lib.hid hT_v1
            have T_v4 := Lib.hid hT_v4
            have HO := Lib.hid hO
            have HB := Lib.hid hB
            clear hO hB hT_v1 hT_v4
            go_wp2_with fail
            refine (ownp_contents w.heap.size _ d n _ _ HO.out HLAW.out.off4 (by rw [HLAW.out.q4]; simp)).mono ?_
            rintro e w44 ⟨v5, Q12, rfl, hV, hQ, hPQ, hO, hb⟩
            have hB := HB.out.trans (hb.mono HB.out.size)
            have hT_v1 := T_v1.out.below hb rfl
            have hQ_v1 := fun k hk => hPQ k (Q_v1.out k hk)
            have hT_v4 := T_v4.out.below hb rfl
            have hQ_v4 := fun k hk => hPQ k (Q_v4.out k hk)
            clear HO HB hb T_v1 Q_v1 T_v4 Q_v4
            have T_v1 := Lib.hid hT_v1
            have Q_v1 := Lib.hid hQ_v1
            have T_v4 := Lib.hid hT_v4
            have Q_v4 := Lib.hid hQ_v4
            have T_v5 := Lib.hid hV
            have Q_v5 := Lib.hid hQ
            have HO := Lib.hid hO
            have HB := Lib.hid hB
            clear hV hQ hPQ hO hB hT_v1 hQ_v1 hT_v4 hQ_v4
            go_wp2_with fail
            refine (same_any 0 v4 v5 _ _ _ T_v4.out T_v5.out (by simp [Dsk.all]; omega)).mono ?_
            rintro e w45 ⟨rfl, hb⟩
            rw [decide_eq_true HLAW.out.again]
            have hB := HB.out.trans (hb.mono HB.out.size)
            have hO := HO.out.below hb
            have hT_v1 := T_v1.out.below hb rfl
            have hT_v4 := T_v4.out.below hb rfl
            have hT_v5 := T_v5.out.below hb rfl
            clear HO HB hb T_v1 T_v4 T_v5
            have T_v1 := Lib.hid hT_v1
            have T_v4 := Lib.hid hT_v4
            have T_v5 := Lib.hid hT_v5
            have HO := Lib.hid hO
            have HB := Lib.hid hB
            clear hO hB hT_v1 hT_v4 hT_v5
            have hlen4 : ((((D2.rot s at_ m).rot s at_ m).stale s).all n).length = n := by simp [Dsk.all]
            obtain ⟨A4, q4, hv4, f4⟩ := T_v4.out.form
            rw [hlen4] at hv4 f4
            obtain ⟨g4, hg4, _⟩ := f4 (by omega)
            subst hg4
            subst hv4
            have c4 : ∀ W k, k < n → TextsAt W 0 (.slice (some ⟨g4, 0, none⟩) n q4) ((((D2.rot s at_ m).rot s at_ m).stale s).all n) → W.cell? ⟨g4, k, none⟩ = some (text ((((D2.rot s at_ m).rot s at_ m).stale s).rd k)) := by
              intro W k hk hW
              have hW' : TextsAt W 0 (.slice (some ⟨g4, 0, none⟩) ((((D2.rot s at_ m).rot s at_ m).stale s).all n).length q4) ((((D2.rot s at_ m).rot s at_ m).stale s).all n) := by rw [hlen4]; exact hW
              rw [hW'.cell (by rw [hlen4]; exact hk)]
              simp [Dsk.all]
            have C4 := Lib.hid c4
            clear c4 hlen4 f4
            go_wp2_with fail
            go_loopw [29] (fun i wr => ∃ k : Nat, k ≤ n ∧ i = .int .i64 (k : Int) ∧ Hid (Below w.heap.size w wr ∧ TextsAt wr 0 (.slice (some ⟨g1, 0, none⟩) n q1) (D2.all n) ∧
                TextsAt wr 0 (.slice (some ⟨g4, 0, none⟩) n q4) ((((D2.rot s at_ m).rot s at_ m).stale s).all n))) (fun i _ => n - (intOf i).toNat)
            case atStart => exact ⟨0, Nat.zero_le _, rfl, HB.out, T_v1.out, T_v4.out⟩
            case round =>
              obtain ⟨k, hk, rfl, HH⟩ := hrel
              by_cases hlt : k < n
              · have d1 := C1.out wr k hlt HH.out.2.1
                have d2 := C4.out wr k hlt HH.out.2.2
                obtain ⟨X, hX⟩ : ∃ X, X = D2.rd k := ⟨_, rfl⟩
                obtain ⟨Y, hY⟩ : ∃ Y, Y = (((D2.rot s at_ m).rot s at_ m).stale s).rd k := ⟨_, rfl⟩
                have hXY : (k : Int) ≠ s → Y = X := by intro h; rw [hX, hY]; exact HLAW.out.other k hlt h
                rw [← hX] at d1
                rw [← hY] at d2
                clear hX hY
                unfold text at d1 d2
                have hdr : ∀ nq, Below w.heap.size w (wr.drewN nq) ∧ TextsAt (wr.drewN nq) 0 (.slice (some ⟨g1, 0, none⟩) n q1) (D2.all n) ∧
                    TextsAt (wr.drewN nq) 0 (.slice (some ⟨g4, 0, none⟩) n q4) ((((D2.rot s at_ m).rot s at_ m).stale s).all n) := fun nq => ⟨below_drewN' HH.out.1 nq, HH.out.2.1, HH.out.2.2⟩
                have HDR := Lib.hid hdr
                clear hdr
                by_cases hks : (k : Int) = s
                · have b1 : ((k : Int) == s) = true := by rw [hks]; simp
                  have b2 : ((k : Int) != s) = false := by rw [hks]; simp
                  have b3 : (!((k : Int) == s)) = false := by rw [b1]; rfl
                  have b4 : decide ((k : Int) = s) = true := decide_eq_true hks
                  clear hXY hks d1 d2
                  go_wp2_with fail
                  go_quiet (fail)
                  go_wp2
                  go_roundw
                  case rel => exact ⟨k + 1, by omega, by go_num, HDR.out _⟩
                  case measure => simp [intOf]; omega
                · have b1 : ((k : Int) == s) = false := by simpa using hks
                  have b2 : ((k : Int) != s) = true := by simpa using hks
                  have b3 : (!((k : Int) == s)) = true := by rw [b1]; rfl
                  have e := hXY hks
                  subst e
                  clear hXY hks
                  go_wp2_with fail
                  go_quiet (fail)
                  go_wp2
                  go_roundw
                  case rel => exact ⟨k + 1, by omega, by go_num, HDR.out _⟩
                  case measure => simp [intOf]; omega
              · go_wp2
                go_ret
                exact ⟨rfl, HH.out.1⟩


set_option maxRecDepth 100000 in
set_option maxHeartbeats 400000 in
theorem damage_bad (r : Nat) (A : Option Addr) (c : Nat) (l : List AAct) (s at_ m : Int) (w : World) (h1 : ActsAt w A l) (m1 : l.length ≤ 9223372036854775807) (o1 : okB l = false) :
    Calls Try.prog 9 #[.int .u8 (r : Int), .slice A l.length c, .int .i64 s, .int .i64 at_, .int .i64 m] w fun e w' => e = .returned (.bool true) ∧ Below w.heap.size w w' := by
  have OK1 := Lib.hid (fun W (h : ActsAt W A l) => ok_any A c l W h m1)
  have H1 := Lib.hid h1
  rw [o1] at OK1
  clear h1 o1
  go_enter Try.func9, Try.ntmps9
  go_wp2_with fail
  refine (head_any _).mono ?_
  rintro e w1 ⟨rfl, hb⟩
  have HB1 := Lib.hid hb
  clear hb
  go_wp2_with fail
  refine (OK1.out _ (H1.out.below HB1.out rfl)).mono ?_
  rintro e _ ⟨rfl, rfl⟩
  go_wp2
  go_ret
  exact ⟨rfl, HB1.out⟩
theorem diskDamage.law_walk {w : World} (r : Nat) (hr : r < 256) (A : Option Addr) (c : Nat) (l : List AAct) (h1 : ActsAt w A l) (m1 : l.length ≤ 9223372036854775807) (k1 : ∀ a ∈ l, a.Ok) (s : Int) (hs : In64 s) (at_ : Int) (ha : In64 at_) (m : Int) (hm : In64 m) :
    Calls Try.prog 9 #[.int .u8 (r : Int), .slice A l.length c, .int .i64 s, .int .i64 at_, .int .i64 m] w fun e w' => e = .returned (.bool true) ∧ Below w.heap.size w w' := by
  cases o1 : okB l with
  | false => exact damage_bad r A c l s at_ m w h1 m1 o1
  | true => exact damage_walk r A c l s at_ m w hr h1 m1 k1 hs ha hm o1
end Go.Proofs.Ytmkfbedhmmijjaa

