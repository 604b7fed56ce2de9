/- DiskPrefix: the walk. -/
import Derived.Test.YtmkfbedhmmijjaaPrefixP
import Derived.Test.YtmkfbedhmmijjaaOwnP
import Derived.Deep.RegionWith
import Derived.Deep.RegionHeld3
import Derived.Deep.QuietTactic
import Derived.Deep.DeepCutAuto
import Derived.Deep.CutBlock
namespace Go.Proofs.Ytmkfbedhmmijjaa
open Go.RowKit
set_option maxRecDepth 100000 in
set_option maxHeartbeats 20000000 in
theorem prefix_fn (n : Nat) (A A' : Option Addr) (c c' : Nat) (l l' : List AAct) (m : Nat) (w : World) (h1 : ActsAt w A l) (h2 : ActsAt w A' l') (m2 : l'.length ≤ 9223372036854775807)
    (k1 : ∀ a ∈ l, a.Ok) (k2 : ∀ a ∈ l', a.Ok) (o1 : okB l = true) (o2 : okB l' = true) (hn1 : 1 ≤ n) (hn12 : n ≤ 12) (hm : m ≤ 60) :
    Calls Try.prog 25 #[.int .i64 (n : Int), .slice A l.length c, .slice A' l'.length c', .int .i64 (m : Int)] w fun e w' =>
      ∃ v, e = .returned (.tuple #[v, .bool true]) ∧ TextsAt w' w.heap.size v (Dsk.all { (((Dsk.new n).run l).start.sync.1) with q := (oks n l').take m } n) ∧ Below w.heap.size w w' := by
  have H2 := Lib.hid h2
  have O2 := Lib.hid o2
  have K2 := Lib.hid k2
  have hl60' := (ok_spec o2).1
  obtain ⟨L', hL'⟩ : ∃ L, L = l'.length := ⟨_, rfl⟩
  have OK2 := Lib.hid (fun W (h : ActsAt W A' l') => ok_any A' c' l' W h m2)
  rw [← hL'] at m2 hl60' ⊢
  rw [o2, ← hL'] at OK2
  have HL' := Lib.hid hL'
  clear h2 o2 k2 hL'
  have H1 := Lib.hid h1
  have O1 := Lib.hid o1
  have K1 := Lib.hid k1
  have hl60 := (ok_spec o1).1
  obtain ⟨L, hL⟩ : ∃ L, L = l.length := ⟨_, rfl⟩
  rw [← hL] at hl60 ⊢
  have HL := Lib.hid hL
  have HB1 := Lib.hid (Below.refl w.heap.size w)
  clear h1 o1 k1 hL OK2
  go_enter Try.func25, Try.ntmps25
  go_wp2_with fail
  refine (own_new w.heap.size n _ HB1.out.size hn1 (by omega)).mono ?_
  rintro e w2 ⟨d, rfl, hO, hb⟩
  have hB : Below w.heap.size w w2 := HB1.out.trans (hb.mono HB1.out.size)
  have HB2 := Lib.hid hB
  have HO2 := Lib.hid hO
  clear hb hB hO
  go_wp2_with fail
  go_loopw [11] (fun i wr => ∃ k : Nat, k ≤ L ∧ i = .int .i64 (k : Int) ∧ Hid (Own wr w.heap.size d n ((Dsk.new n).run (l.take k))) ∧ Hid (Below w.heap.size w wr)) (fun i _ => L - (intOf i).toNat)
  case atStart => exact ⟨0, Nat.zero_le _, rfl, HO2.out, HB2.out⟩
  case round =>
    obtain ⟨k, hk, rfl, HO, HB⟩ := hrel
    by_cases hlt : k < L
    · have hkl : k < l.length := by rw [← HL.out]; exact hlt
      obtain ⟨b, off, hA, hb, hE⟩ := H1.out.elem hkl
      obtain ⟨a, ha⟩ : ∃ a, a = l[k] := ⟨_, rfl⟩
      rw [← ha] at hE
      have HEL := Lib.hid (fun W (hW : Below w.heap.size w W) => hE.below hW hb)
      have hao : a.Ok := by rw [ha]; exact K1.out _ (List.getElem_mem hkl)
      have hat : a.txt.size ≤ 100 := by rw [ha]; exact (ok_spec O1.out).2 _ (List.getElem_mem hkl)
      have hq := run_take_q n k l (by omega)
      have hnx : ((Dsk.new n).run (l.take (k + 1))) = (((Dsk.new n).run (l.take k)).act a).1 := by rw [List.take_succ_eq_append_getElem hkl, run_snoc, ← ha]
      have HAO := Lib.hid hao
      have HAT := Lib.hid hat
      have HQ := Lib.hid hq
      have HNX := Lib.hid hnx
      subst hA
      clear hao hat hq hnx ha hE hb
      obtain ⟨e0, e1, e2, e3, e4, e5⟩ := HEL.out wr HB.out
      go_wp2_with fail
      refine (own_do w.heap.size d n _ _ HO.out a (by have := HQ.out; omega) HAO.out HAT.out).mono ?_
      rintro e w3 ⟨rfl, hO3, hb3⟩
      rw [← HNX.out] at hO3
      have HO3 := Lib.hid hO3
      have HB3 := Lib.hid (HB.out.trans hb3)
      clear hO3 hb3 e0 e1 e2 e3 e4 e5
      go_wp2
      go_roundw
      case rel => exact ⟨k + 1, by omega, by go_num, HO3.out, HB3.out⟩
      case measure => simp [intOf]; omega
    · have hkL : l.take k = l := List.take_of_length_le (by rw [← HL.out]; omega)
      rw [hkL] at HO
      have hq60 : ((Dsk.new n).run l).q.length ≤ 60 := by have := run_q l (Dsk.new n); have := HL.out; simp [Dsk.new] at *; omega
      obtain ⟨D1, hD1⟩ : ∃ D1, D1 = ((Dsk.new n).run l) := ⟨_, rfl⟩
      rw [← hD1] at HO hq60
      have HD1 := Lib.hid hD1
      clear hD1 hkL HO2 HB2 HB1
      have HQ60 := Lib.hid hq60
      clear hq60
      go_wp2_with fail
      refine (own_start w.heap.size d n D1 _ HO.out).mono ?_
      rintro e w20 ⟨rfl, hO, hb⟩
      have hB := HB.out.trans hb
      clear HO HB hb
      have HO := Lib.hid hO
      have HB := Lib.hid hB
      clear hO hB
      go_wp2_with fail
      refine (own_sync w.heap.size d n D1.start _ HO.out (by have := HQ60.out; show D1.q.length ≤ 1000000; omega)).mono ?_
      rintro e w21 ⟨rfl, hO, hb⟩
      have hB := HB.out.trans hb
      clear HO HB hb
      have HO := Lib.hid hO
      have HB := Lib.hid hB
      clear hO hB
      have hc2 := calm_sync_calm (start_calm D1)
      obtain ⟨D2, hD2⟩ : ∃ D2, D2 = D1.start.sync.1 := ⟨_, rfl⟩
      have hok2 : D2.Ok n := by rw [hD2]; exact HO.out.ok
      rw [← hD2] at HO hc2
      have HC2 := Lib.hid hc2
      have HOK2 := Lib.hid hok2
      have HD2 := Lib.hid hD2
      clear hD2 hc2 hok2 HQ60
      go_wp2_with fail
      have hst0 : { D2 with q := oks n (l'.take 0) } = D2 := by rw [show oks n (l'.take 0) = D2.q from HC2.out.2.symm]
      have HST0 := Lib.hid hst0
      clear hst0
      go_loopw [12, 13] (fun dn i wr => ∃ k q : Nat, k ≤ L' ∧ i = .int .i64 (k : Int) ∧ dn = .int .i64 (q : Int) ∧ q ≤ m ∧ Hid (q = (oks n (l'.take k)).length) ∧ Hid (Own wr w.heap.size d n { D2 with q := oks n (l'.take k) }) ∧ Hid (Below w.heap.size w wr)) (fun _ i _ => L' - (intOf i).toNat)
      case atStart => exact ⟨0, 0, Nat.zero_le _, rfl, rfl, Nat.zero_le _, rfl, by rw [HST0.out]; exact HO.out, HB.out⟩
      case round =>
        clear HO HB HST0
        obtain ⟨k, q, hk, rfl, rfl, hqm, HQL, HR, HB⟩ := hrel
        by_cases hlt : k < L'
        · by_cases hqm2 : q < m
          · have _ := hlt
            have hkl : k < l'.length := by rw [← HL'.out]; exact hlt
            obtain ⟨b, off, hA, hb, hE⟩ := H2.out.elem hkl
            obtain ⟨a, ha⟩ : ∃ a, a = l'[k] := ⟨_, rfl⟩
            rw [← ha] at hE
            have HEL := Lib.hid (fun W (hW : Below w.heap.size w W) => hE.below hW hb)
            have hao : a.Ok := by rw [ha]; exact K2.out _ (List.getElem_mem hkl)
            have hat : a.txt.size ≤ 100 := by rw [ha]; exact (ok_spec O2.out).2 _ (List.getElem_mem hkl)
            have hsn : oks n (l'.take (k + 1)) = if okW n a = true then oks n (l'.take k) ++ [(a.sector.toNat, a.text)] else oks n (l'.take k) := by
              rw [List.take_succ_eq_append_getElem hkl, oks_snoc, ← ha]
            obtain ⟨Q3, hQ3⟩ : ∃ Q, Q = oks n (l'.take k) := ⟨_, rfl⟩
            obtain ⟨Q4, hQ4⟩ : ∃ Q, Q = oks n (l'.take (k + 1)) := ⟨_, rfl⟩
            have hq3 : Q3.length ≤ 60 := by
              have h5 := oks_length n (l'.take k)
              rw [← hQ3, List.length_take] at h5
              omega
            rw [← hQ3, ← hQ4] at hsn
            rw [← hQ3] at HR
            have hst : D2.st.length = n := HOK2.out.stl
            obtain ⟨T, hT⟩ : ∃ T, T = a.text := ⟨_, rfl⟩
            obtain ⟨E, hEE⟩ : ∃ E, E = okW n a := ⟨_, rfl⟩
            have hok : E = true → 0 ≤ a.sector ∧ a.sector < (n : Int) ∧ T.length = 64 := fun h => by rw [hT]; rw [hEE] at h; exact of_decide_eq_true h
            have hwr : Dsk.write { D2 with q := Q3 } a.sector T = ({ D2 with q := Q4 }, if E = true then 0 else 1) := by
              have hc3 : Dsk.Calm { D2 with q := Q3 } := ⟨HC2.out.1.on, HC2.out.1.un⟩
              rw [calm_write hc3, hsn, ← hEE, ← hT]
              show (if 0 ≤ a.sector ∧ a.sector < (D2.st.length : Int) ∧ T.length = 64 then _ else _) = _
              rw [hst]
              by_cases h : E = true
              · rw [if_pos (hok h), if_pos h, if_pos h]
              · rw [if_neg h, if_neg h, if_neg (fun h2 => h (by rw [hEE]; rw [hT] at h2; exact decide_eq_true h2))]
            obtain ⟨X, hX⟩ : ∃ X : Int, X = if E = true then 0 else 1 := ⟨_, rfl⟩
            have hXE : (X == 0) = E := by rw [hX]; cases E <;> rfl
            rw [← hX] at hwr
            have TX := Lib.hid (fun W => act_text a W hat)
            rw [← hT] at TX
            unfold text at TX
            have WX := Lib.hid (fun W  (hP : Own W w.heap.size d n { D2 with q := Q3 }) => by
              have := own_write w.heap.size d n { D2 with q := Q3 } W hP a.sector ⟨T.toArray⟩ (show Q3.length < 1000000 by omega) hao.s
              rw [show (⟨T.toArray⟩ : ByteArray).data.toList = T from by simp, hwr] at this
              exact this)
            have HSN := Lib.hid hsn
            have HEE := Lib.hid hEE
            have HTT := Lib.hid hT
            have HXE := Lib.hid hXE
            have HOKE := Lib.hid hok
            have HQ3 := Lib.hid hQ3
            have HQ4 := Lib.hid hQ4
            have HQ3L := Lib.hid hq3
            have HAO := Lib.hid hao
            have HAT := Lib.hid hat
            subst hA
            clear hao hat ha hE hb hT hst hwr hX hXE hok hsn hQ3 hQ4 hEE hq3 hkl
            obtain ⟨kd, sc, bt, tx, od, aft⟩ := a
            simp only at HOKE HSN WX
            unfold AAct.cells at TX
            simp only at TX WX
            obtain ⟨e0, e1, e2, e3, e4, e5⟩ := HEL.out _ HB.out
            simp only at e0 e1 e2 e3 e4 e5
            go_upto_region 12 with (fail)
            go_cut [55] (fun v wx => v = .bool E ∧ Own wx w.heap.size d n { D2 with q := Q4 } ∧ Below w.heap.size w wx)
            case first =>
              go_region_held3 (fun w' => w'.cell? ⟨b, off + k * 6, none⟩ = some (.int .i64 kd) ∧ w'.cell? ⟨b, off + k * 6 + 1, none⟩ = some (.int .i64 sc) ∧ w'.cell? ⟨b, off + k * 6 + 2, none⟩ = some (.int .i64 bt) ∧ w'.cell? ⟨b, off + k * 6 + 3, none⟩ = some (.string tx) ∧ w'.cell? ⟨b, off + k * 6 + 4, none⟩ = some (.bool od) ∧ w'.cell? ⟨b, off + k * 6 + 5, none⟩ = some (.int .i64 aft)) (first | exact ⟨e0, e1, e2, e3, e4, e5⟩ | exact ⟨i0, i1, i2, i3, i4, i5⟩ | exact ⟨j0, j1, j2, j3, j4, j5⟩)
                (first
                | (go_at_call 23; refine (TX.out _).mono ?_; rintro e w6 ⟨rfl, hb6⟩; have hO6 := (HR.out.drew).below hb6; have hB6 := (HB.out.drew).trans (hb6.mono (HB.out.drew).size); obtain ⟨i0, i1, i2, i3, i4, i5⟩ := HEL.out w6 hB6; simp only at i0 i1 i2 i3 i4 i5; have HO6 := Lib.hid hO6; have HB6 := Lib.hid hB6; clear hO6 hB6 hb6)
                | (go_at_call 22; refine (WX.out _ HO6.out).mono ?_; rintro e w7 ⟨rfl, hO7, hb7⟩; have hB7 := HB6.out.trans hb7; obtain ⟨j0, j1, j2, j3, j4, j5⟩ := HEL.out w7 hB7; simp only at j0 j1 j2 j3 j4 j5; have HO7 := Lib.hid hO7; have HB7 := Lib.hid hB7; clear hO7 hb7 hB7))
              all_goals
                go_wp2_with fail
                go_meet
                case rel => exact ⟨by rw [HXE.out], HO7.out, HB7.out⟩
            case rest =>
              obtain ⟨rfl, hO, hB⟩ := hcut
              clear HR HB WX e0 e1 e2 e3 e4 e5
              have HR := Lib.hid hO
              have HB := Lib.hid hB
              clear hO hB
              cases E with
              | true =>
                have hq4 : q + 1 = (oks n (l'.take (k + 1))).length := by
                  rw [← HQ4.out, HSN.out, if_pos HEE.out.symm, List.length_append, HQ3.out, HQL.out]
                  rfl
                have HQ5 := Lib.hid hq4
                clear hq4
                rw [HQ4.out] at HR
                go_wp2
                go_roundw
                case rel => exact ⟨k + 1, q + 1, by omega, by go_num, by go_num, by omega, HQ5.out, HR.out, HB.out⟩
                case measure => simp [intOf]; omega
              | false =>
                have hq4 : q = (oks n (l'.take (k + 1))).length := by
                  rw [← HQ4.out, HSN.out, if_neg (by rw [← HEE.out]; simp), HQ3.out, HQL.out]
                have HQ5 := Lib.hid hq4
                clear hq4
                rw [HQ4.out] at HR
                go_wp2
                go_roundw
                case rel => exact ⟨k + 1, q, by omega, by go_num, rfl, by omega, HQ5.out, HR.out, HB.out⟩
                case measure => simp [intOf]; omega
          · have hqe : q = m := by omega
            have htk : oks n (l'.take k) = (oks n l').take m := by rw [oks_take n k l', ← HQL.out, hqe]
            have hle : ((oks n l').take m).length ≤ 1000000 := by rw [List.length_take]; omega
            rw [htk] at HR
            have HLE := Lib.hid hle
            subst hqe
            clear htk hle
            go_wp2_with fail
            refine (own_contents w.heap.size d n _ _ HR.out HC2.out.1.on HLE.out).mono ?_
            rintro e w30 ⟨v, rfl, hT, _, _, hb⟩
            have hB := HB.out.trans (hb.mono HB.out.size)
            have HT := Lib.hid hT
            clear HB HR hb hT
            have HB := Lib.hid hB
            clear hB
            go_wp2
            go_ret2
            exact ⟨v, rfl, by have := HT.out; rw [HD2.out, HD1.out] at this; exact this, HB.out⟩
        · have hke : l'.take k = l' := List.take_of_length_le (by rw [← HL'.out]; omega)
          have htk : oks n (l'.take k) = (oks n l').take m := by
            have h5 := HQL.out
            rw [hke] at h5 ⊢
            rw [List.take_of_length_le (by omega)]
          have hle : ((oks n l').take m).length ≤ 1000000 := by rw [List.length_take]; omega
          rw [htk] at HR
          have HLE := Lib.hid hle
          clear htk hle hke
          go_wp2_with fail
          refine (own_contents w.heap.size d n _ _ HR.out HC2.out.1.on HLE.out).mono ?_
          rintro e w30 ⟨v, rfl, hT, _, _, hb⟩
          have hB := HB.out.trans (hb.mono HB.out.size)
          have HT := Lib.hid hT
          clear HB HR hb hT
          have HB := Lib.hid hB
          clear hB
          go_wp2
          go_ret2
          exact ⟨v, rfl, by have := HT.out; rw [HD2.out, HD1.out] at this; exact this, HB.out⟩
end Go.Proofs.Ytmkfbedhmmijjaa
