/- ok, contents, same: lists of operations and of texts. -/
import Derived.Test.YtmkfbedhmmijjaaDo
namespace Go.Proofs.Ytmkfbedhmmijjaa
open Go.RowKit

/-- The slice's elements are these operations. -/
def ActsAt (w : World) (A : Option Addr) (l : List AAct) : Prop :=
  0 < l.length → ∃ b off, A = some ⟨b, off, none⟩ ∧ b < w.heap.size ∧ ∀ i (hi : i < l.length), ∀ j v, l[i].cells[j]? = some v → w.cell? ⟨b, off + (i * 6 + j), none⟩ = some v
theorem ActsAt.below {w w' : World} {A : Option Addr} {l : List AAct} (h : ActsAt w A l) {B : Nat} (hb : Below B w w') (hB : B = w.heap.size) : ActsAt w' A l := by
  intro h0
  obtain ⟨b, off, e, hlt, hc⟩ := h h0
  subst hB
  exact ⟨b, off, e, Nat.lt_of_lt_of_le hlt hb.size, fun i hi j v hv => (hb.cell (p := ⟨b, off + (i * 6 + j), none⟩) hlt).trans (hc i hi j v hv)⟩
def okB (l : List AAct) : Bool := l.all (fun a => decide (a.txt.size ≤ 100)) && decide (l.length ≤ 60)


theorem ok_nil (A : Option Addr) (c : Nat) (w : World) : Calls Try.prog 11 #[.slice A 0 c] w fun e w' => e = .returned (.bool true) ∧ w = w' := by
  go_enter Try.func11, Try.ntmps11
  go_wp2_with fail
  refine wp_loop_rounds 1 ?_
  rw [rounds_succ]
  go_wp2
  go_ret
  exact ⟨rfl, rfl⟩
set_option maxHeartbeats 400000 in
theorem ok_some (b off c : Nat) (l : List AAct) (w : World) (h0 : 0 < l.length) (h : ActsAt w (some ⟨b, off, none⟩) l) (hmax : l.length ≤ 9223372036854775807) :
    Calls Try.prog 11 #[.slice (some ⟨b, off, none⟩) l.length c] w fun e w' => e = .returned (.bool (okB l)) ∧ w = w' := by
  obtain ⟨b', off', hA, hb, hc⟩ := h h0
  injection hA with hA; injection hA with hA1 hA2 _
  subst hA1 hA2
  obtain ⟨L, hL⟩ : ∃ L, L = l.length := ⟨_, rfl⟩
  rw [← hL] at hmax ⊢
  have HL := Lib.hid hL
  have HC := Lib.hid hc
  clear h hL hc h0
  go_enter Try.func11, Try.ntmps11
  go_wp2_with fail
  go_loop [3] (fun v => ∃ k : Nat, k ≤ L ∧ v = .int .i64 (k : Int) ∧ Hid (∀ j (hj : j < l.length), j < k → l[j].txt.size ≤ 100)) (fun v => L - (intOf v).toNat)
  case atStart => exact ⟨0, Nat.zero_le _, rfl, fun j _ h => absurd h (by omega)⟩
  case round =>
    obtain ⟨k, hk, rfl, HA⟩ := hrel
    by_cases hlt : k < L
    · have hkl : k < l.length := by rw [← HL.out]; exact hlt
      have hcell : w.cell? ⟨b, off + k * 6 + 3, none⟩ = some (.string l[k].txt) := by have := HC.out k hkl 3 _ rfl; rwa [← Nat.add_assoc] at this
      obtain ⟨t, ht⟩ : ∃ t, t = l[k].txt := ⟨_, rfl⟩
      rw [← ht] at hcell
      have HT := Lib.hid ht
      clear ht
      by_cases hs : t.size ≤ 100
      · go_wp2
        go_round
        case rel =>
          refine ⟨k + 1, by omega, rfl, fun j hj hjk => ?_⟩
          by_cases e : j = k
          · subst e; rw [← HT.out]; exact hs
          · exact HA.out j hj (by omega)
        case measure => simp [intOf]; omega
      · have hs' : 100 < t.size := by omega
        go_wp2
        go_ret
        have : okB l = false := by
          unfold okB
          rw [Bool.and_eq_false_iff]
          left
          rw [List.all_eq_false]
          exact ⟨l[k], List.getElem_mem hkl, by rw [← HT.out]; simp; omega⟩
        rw [this]
        exact ⟨rfl, rfl⟩
    · have hkL : k = L := by omega
      have HK := Lib.hid hkL
      clear hkL
      go_wp2
      go_ret
      refine ⟨?_, rfl⟩
      have : okB l = decide (L ≤ 60) := by
        unfold okB
        have h1 : l.all (fun a => decide (a.txt.size ≤ 100)) = true := by
          rw [List.all_eq_true]
          intro a ha
          obtain ⟨j, hj, rfl⟩ := List.getElem_of_mem ha
          exact decide_eq_true (HA.out j hj (by rw [HK.out, HL.out]; exact hj))
        rw [h1, Bool.true_and, HL.out]
      rw [this]
      simp
      omega
theorem ok_any (A : Option Addr) (c : Nat) (l : List AAct) (w : World) (h : ActsAt w A l) (hmax : l.length ≤ 9223372036854775807) :
    Calls Try.prog 11 #[.slice A l.length c] w fun e w' => e = .returned (.bool (okB l)) ∧ w = w' := by
  rcases Nat.eq_zero_or_pos l.length with h0 | h0
  · obtain rfl := List.eq_nil_of_length_eq_zero h0
    exact ok_nil A c w
  · obtain ⟨b, off, rfl, _⟩ := id h h0
    exact ok_some b off c l w h0 h hmax

/-! ### same -/
theorem below_drewN' {B : Nat} {a w : World} (h : Below B a w) (n : Nat) : Below B a (w.drewN n) := ⟨h.os, h.tape, h.output, h.size, h.block⟩
/-- The slice's elements are these texts, in a block of its own. -/
def TextsAt (w : World) (base : Nat) (v : Value) (xs : List (List UInt8)) : Prop := w.ownsRow base 9 1 v xs.length (xs.map text)
theorem TextsAt.form {w : World} {base : Nat} {v : Value} {xs : List (List UInt8)} (h : TextsAt w base v xs) :
    ∃ A c, v = .slice A xs.length c ∧ (0 < xs.length → ∃ g, A = some ⟨g, 0, none⟩ ∧ g < w.heap.size) := by
  rcases h.2 with ⟨hx, h0⟩ | ⟨g, cap, cur, hx, _, hh, _⟩
  · exact ⟨none, 0, by rw [h0]; exact hx, fun h => by omega⟩
  · exact ⟨_, _, hx, fun _ => ⟨g, rfl, (Array.getElem?_eq_some_iff.1 hh).1⟩⟩
theorem TextsAt.cell {w : World} {base : Nat} {g c : Nat} {xs : List (List UInt8)} (h : TextsAt w base (.slice (some ⟨g, 0, none⟩) xs.length c) xs) {k : Nat} (hk : k < xs.length) : w.cell? ⟨g, k, none⟩ = some (text xs[k]) :=
  own_cell h (by rw [List.getElem?_map, List.getElem?_eq_getElem hk]; rfl)
theorem TextsAt.below {w w' : World} {base B : Nat} {v : Value} {xs : List (List UInt8)} (h : TextsAt w base v xs) (hb : Below B w w') (hB : B = w.heap.size) : TextsAt w' base v xs := by
  subst hB
  exact (Only.of_below hb (fun _ => False)).own h (fun _ _ => id)
theorem bytes_eq (a b : List UInt8) : ((⟨a.toArray⟩ : ByteArray).toList == (⟨b.toArray⟩ : ByteArray).toList) = decide (a = b) := by
  rw [Lib.toList_data, Lib.toList_data]
  rw [Bool.eq_iff_iff]; simp

set_option maxHeartbeats 400000 in
theorem same_some (base : Nat) (g1 g2 c1 c2 : Nat) (xs ys : List (List UInt8)) (w : World) (h1 : TextsAt w base (.slice (some ⟨g1, 0, none⟩) xs.length c1) xs) (h2 : TextsAt w base (.slice (some ⟨g2, 0, none⟩) ys.length c2) ys)
    (hl : xs.length = ys.length) (hmax : xs.length ≤ 1000000) :
    Calls Try.prog 26 #[.slice (some ⟨g1, 0, none⟩) xs.length c1, .slice (some ⟨g2, 0, none⟩) xs.length c2] w fun e w' => e = .returned (.bool (decide (xs = ys))) ∧ Below w.heap.size w w' := by
  obtain ⟨L, hL⟩ : ∃ L, L = xs.length := ⟨_, rfl⟩
  rw [← hL] at hmax ⊢
  have HL := Lib.hid hL
  have HLL := Lib.hid hl
  have H1 := Lib.hid h1
  have H2 := Lib.hid h2
  have hneq : ((L : Int) != (L : Int)) = false := by simp
  have heq : ((L : Int) == (L : Int)) = true := by simp
  clear h1 h2 hL hl
  go_enter Try.func26, Try.ntmps26
  go_wp2_with fail
  go_loopw [5] (fun v wr => ∃ k : Nat, k ≤ L ∧ v = .int .i64 (k : Int) ∧ Hid (∀ j (hj : j < xs.length) (hj' : j < ys.length), j < k → xs[j] = ys[j]) ∧ Hid (Below w.heap.size w wr)) (fun v _ => L - (intOf v).toNat)
  case atStart => exact ⟨0, Nat.zero_le _, rfl, fun j _ _ h => absurd h (by omega), Below.refl _ _⟩
  case round =>
    rename_i wr
    obtain ⟨k, hk, rfl, HA, HB⟩ := hrel
    by_cases hlt : k < L
    · have hkx : k < xs.length := by rw [← HL.out]; exact hlt
      have hky : k < ys.length := by rw [← HLL.out]; exact hkx
      have e1 : wr.cell? ⟨g1, k, none⟩ = some (text xs[k]) := TextsAt.cell (H1.out.below HB.out rfl) hkx
      have h2 := H2.out.below HB.out rfl
      have e2 : wr.cell? ⟨g2, k, none⟩ = some (text ys[k]) := TextsAt.cell (c := c2) h2 hky
      unfold text at e1 e2
      obtain ⟨x, hx⟩ : ∃ x, x = xs[k] := ⟨_, rfl⟩
      obtain ⟨y, hy⟩ : ∃ y, y = ys[k] := ⟨_, rfl⟩
      rw [← hx] at e1
      rw [← hy] at e2
      have HX := Lib.hid hx
      have HY := Lib.hid hy
      have hbe : (x == y) = decide (x = y) := by rw [Bool.eq_iff_iff]; simp
      clear hx hy h2
      by_cases hxy : x = y
      · rw [decide_eq_true hxy] at hbe
        have hbe2 : (!(x == y)) = false := by rw [hbe]; rfl
        have hbe3 : (x != y) = false := hbe2
        have HXY := Lib.hid hxy
        clear hxy
        go_wp2_with fail
        refine region_still (fun W => (W.cell? ⟨g1, k, none⟩ = some (.string ⟨x.toArray⟩) ∧ W.cell? ⟨g2, k, none⟩ = some (.string ⟨y.toArray⟩)) ∧ W = wr.drew) ⟨⟨e1, e2⟩, rfl⟩ (by kernel_rfl) (by kernel_rfl) ?_
        intro W ⟨⟨q1, q2⟩, hW⟩
        have hB : Below w.heap.size w W := by rw [hW]; exact HB.out.drew
        have HB2 := Lib.hid hB
        clear hB hW e1 e2
        repeat still_step
        refine wpStill_nil ?_
        go_wp2
        go_roundw
        case rel =>
          refine ⟨k + 1, by omega, rfl, fun j hj hj' hjk => ?_, HB2.out⟩
          by_cases e : j = k
          · subst e; rw [← HX.out, ← HY.out]; exact HXY.out
          · exact HA.out j hj hj' (by omega)
        case measure => simp [intOf]; omega
      · rw [decide_eq_false hxy] at hbe
        have hbe2 : (!(x == y)) = true := by rw [hbe]; rfl
        have hbe3 : (x != y) = true := hbe2
        have hne : decide (xs = ys) = false := decide_eq_false (fun e => hxy (by rw [HX.out, HY.out]; subst e; rfl))
        have HNE := Lib.hid hne
        clear hne hxy
        go_wp2_with fail
        refine region_still (fun W => (W.cell? ⟨g1, k, none⟩ = some (.string ⟨x.toArray⟩) ∧ W.cell? ⟨g2, k, none⟩ = some (.string ⟨y.toArray⟩)) ∧ W = wr.drew) ⟨⟨e1, e2⟩, rfl⟩ (by kernel_rfl) (by kernel_rfl) ?_
        intro W ⟨⟨q1, q2⟩, hW⟩
        have hB : Below w.heap.size w W := by rw [hW]; exact HB.out.drew
        have HB2 := Lib.hid hB
        clear hB hW e1 e2
        repeat still_step
        refine wpStill_nil ?_
        go_wp2
        go_ret
        rw [HNE.out]
        exact ⟨rfl, HB2.out⟩
    · have hkL : k = L := by omega
      have hall : decide (xs = ys) = true := by
        refine decide_eq_true (List.ext_getElem HLL.out (fun j hj hj' => HA.out j hj hj' (by rw [hkL, HL.out]; exact hj)))
      have HALL := Lib.hid hall
      clear hall hkL
      go_wp2
      go_ret
      rw [HALL.out]
      exact ⟨rfl, HB.out⟩
theorem same_ne (A A' : Option Addr) (n m c c' : Nat) (w : World) (h : n ≠ m) :
    Calls Try.prog 26 #[.slice A n c, .slice A' m c'] w fun e w' => e = .returned (.bool false) ∧ w = w' := by
  have h1 : ((n : Int) != (m : Int)) = true := by simp; omega
  have h2 : ((n : Int) == (m : Int)) = false := by simp; omega
  have h3 : (n == m) = false := by simp; omega
  have h4 : (n != m) = true := by simp; omega
  go_enter Try.func26, Try.ntmps26
  go_wp2
  go_ret
  exact ⟨rfl, rfl⟩
theorem same_zero (A A' : Option Addr) (c c' : Nat) (w : World) :
    Calls Try.prog 26 #[.slice A 0 c, .slice A' 0 c'] w fun e w' => e = .returned (.bool true) ∧ w = w' := by
  go_enter Try.func26, Try.ntmps26
  go_wp2_with fail
  refine wp_loop_rounds 1 ?_
  rw [rounds_succ]
  go_wp2
  go_ret
  exact ⟨rfl, rfl⟩
/-- same: two lists of texts are equal. -/
theorem same_any (base : Nat) (v1 v2 : Value) (xs ys : List (List UInt8)) (w : World) (h1 : TextsAt w base v1 xs) (h2 : TextsAt w base v2 ys) (hmax : xs.length ≤ 1000000) :
    Calls Try.prog 26 #[v1, v2] w fun e w' => e = .returned (.bool (decide (xs = ys))) ∧ Below w.heap.size w w' := by
  obtain ⟨A1, c1, rfl, f1⟩ := h1.form
  obtain ⟨A2, c2, rfl, f2⟩ := h2.form
  by_cases hl : xs.length = ys.length
  · rcases Nat.eq_zero_or_pos xs.length with h0 | h0
    · have e1 : xs = [] := List.eq_nil_of_length_eq_zero h0
      have e2 : ys = [] := List.eq_nil_of_length_eq_zero (by omega)
      subst e1 e2
      refine (same_zero A1 A2 c1 c2 w).mono fun e w' ⟨he, hw⟩ => ?_
      subst hw
      exact ⟨he, Below.refl _ _⟩
    · obtain ⟨g1, rfl, _⟩ := f1 h0
      obtain ⟨g2, rfl, _⟩ := f2 (by omega)
      have := same_some base g1 g2 c1 c2 xs ys w h1 h2 hl hmax
      rw [hl] at this ⊢
      exact this
  · refine (same_ne A1 A2 xs.length ys.length c1 c2 w hl).mono fun e w' ⟨he, hw⟩ => ?_
    subst hw
    rw [decide_eq_false (fun e => hl (by rw [e]))]
    exact ⟨he, Below.refl _ _⟩

/-! ### contents -/
def Dsk.all (D : Dsk) (n : Nat) : List (List UInt8) := (List.range n).map D.rd
theorem string_info : (Try.prog.info? 9).map (fun i => (i.zero, i.size, i.bytes)) = some (some (.string ByteArray.empty), 1, 16) := by kernel_rfl
theorem Dsk.Ok.rd64 {n : Nat} {D : Dsk} (h : D.Ok n) {s : Nat} (hs : s < n) : (D.rd s).length = 64 := by
  unfold Dsk.rd
  have h1 := mem64 h.st64 (s := s) (by rw [h.stl]; exact hs)
  have h2 : ∀ q : List (Nat × List UInt8), (∀ p ∈ q, p.1 < n ∧ p.2.length = 64) → ∀ x, lastIn q s = some x → x.length = 64 := by
    intro q
    induction q using snoc_ind with
    | h0 => intro _ x hx; cases hx
    | h1 q p ih =>
      intro hq x hx
      rw [lastIn_snoc] at hx
      split at hx
      · injection hx with hx; subst hx; exact (hq p (by simp)).2
      · exact ih (fun y hy => hq y (by simp [hy])) x hx
  cases hl : lastIn D.q s with
  | none => exact h1
  | some x => exact h2 D.q h.q64 x hl

set_option maxHeartbeats 1000000 in
theorem contents_on (F : Nat → Prop) (d n : Nat) (D : Dsk) (w : World) (h : Disk w F d n D) (hoff : D.off = false) (hbig : D.q.length ≤ 1000000) :
    Calls Try.prog 21 #[.pointer (some ⟨d, 0, none⟩), .int .i64 (n : Int)] w fun e w' => ∃ v, e = .returned (.tuple #[v, .bool true]) ∧ TextsAt w' w.heap.size v (D.all n) ∧ Below w.heap.size w w' := by
  obtain ⟨i0, hi, hz0, hz1, hz2⟩ := info_parts string_info
  have hn := h.ok.hi
  have hok := h.ok
  have hst := h.ok.stl
  have HOK := Lib.hid hok
  have HR := Lib.hid (fun (k : Nat) W (hk : k < n) (hD : Disk W F d n D) => by
    have := read_any F d n (k : Int) D W hD hbig
    have e1 : D.read (k : Int) = (D.rd k, 0) := by
      unfold Dsk.read; rw [hoff, if_neg (by simp), if_pos ⟨by omega, by rw [hst]; omega⟩]; simp
    rw [e1] at this
    exact this)
  have H := Lib.hid h
  clear h hok hst hoff
  go_enter Try.func21, Try.ntmps21
  go_wp2_with fail
  go_loopw [6, 7] (fun v i wr => ∃ k : Nat, k ≤ n ∧ i = .int .i64 (k : Int) ∧ Hid (wr.ownsRow w.heap.size 9 1 v k (((List.range k).map D.rd).map text)) ∧ Hid (Below w.heap.size w wr)) (fun _ i _ => n - (intOf i).toNat)
  case atStart => exact ⟨0, Nat.zero_le _, rfl, World.ownsRow_nil _ _ _ _, Below.refl _ _⟩
  case round =>
    rename_i wr
    obtain ⟨k, hk, rfl, HV, HB⟩ := hrel
    by_cases hlt : k < n
    · go_wp2_with fail
      refine (HR.out k _ hlt (H.out.below HB.out)).mono ?_
      rintro e w1 ⟨rfl, hD, hb⟩
      have h64 := HOK.out.rd64 hlt
      obtain ⟨x, hx⟩ : ∃ x, x = D.rd k := ⟨_, rfl⟩
      rw [← hx] at h64 ⊢
      have hB1 : Below w.heap.size w w1 := HB.out.trans (hb.mono HB.out.size)
      have hV1 : w1.ownsRow w.heap.size 9 1 u6 k (((List.range k).map D.rd).map text) := (Only.of_below hb (fun _ => False)).own HV.out (fun _ _ => id)
      have hsz : ((⟨x.toArray⟩ : ByteArray).size : Int) = 64 := by show ((x.toArray.size : Nat) : Int) = 64; rw [List.size_toArray, h64]; rfl
      have hT : Value.string ⟨x.toArray⟩ = text x := rfl
      have hnews : ∀ j u, [Value.string ⟨x.toArray⟩][j]? = some u → (w1.alloc (.cells #[.string ⟨x.toArray⟩] 9)).cell? ((⟨w1.heap.size, 0, none⟩ : Addr).add j) = some u :=
        World.news_of_block (w := w1.alloc (.cells #[.string ⟨x.toArray⟩] 9)) (Blk.new w1 9 _)
      have hone : ∀ u ∈ [Value.string ⟨x.toArray⟩], u.oneCell' = true := by simp [Value.oneCell']
      have hmax : k + 1 ≤ maxLen := by unfold maxLen; omega
      have hbytes : (k + 1) * 16 ≤ 140737488355328 := by omega
      have hbase : w.heap.size ≤ (w1.alloc (.cells #[.string ⟨x.toArray⟩] 9)).heap.size := by have := hB1.size; simp; omega
      have HB1 := Lib.hid hB1
      have HV1 := Lib.hid hV1
      have HN := Lib.hid hnews
      have HO1 := Lib.hid hone
      have HM := Lib.hid hmax
      have HBY := Lib.hid hbytes
      have HBA := Lib.hid hbase
      have HX := Lib.hid hx
      clear hD hb hB1 hV1 hT hnews hone hmax hbytes hbase hx
      unfold text
      go_wp2_with (first
        | (at_builtin; refine wpList_append_own _ rfl (.tmp 28) (.tmp 30) 39 rfl w.heap.size 9 i0 (.string ByteArray.empty) 1 16 Try.underlying39 hi hz0 hz1 hz2 rfl (by decide) _ _ _ rfl (HV1.out.alloc _) ⟨w1.heap.size, 0, none⟩ 1 1 [.string ⟨x.toArray⟩] rfl rfl HN.out HO1.out HM.out HBY.out HBA.out ?_; intro v' w2 hown hgrow _))
      have hl2 : ((List.range (k + 1)).map D.rd).map text = ((List.range k).map D.rd).map text ++ [.string ⟨x.toArray⟩] := by
        rw [List.range_succ, List.map_append, List.map_append, HX.out]; rfl
      rw [← hl2] at hown
      have hB2 : Below w.heap.size w w2 := (HB1.out.alloc HB1.out.size _).grown hgrow HBA.out (fun j hj => (HV1.out.lt j hj).1)
      have HOWN := Lib.hid hown
      have HB2 := Lib.hid hB2
      clear hown hgrow hB2 hl2
      go_wp2
      go_roundw
      case rel => exact ⟨k + 1, by omega, by go_num, HOWN.out, HB2.out⟩
      case measure => simp [intOf]; omega
    · have hkn : k = n := by omega
      have HK := Lib.hid hkn
      clear hkn
      go_wp2
      go_ret2
      refine ⟨_, rfl, ?_, HB.out⟩
      have := HV.out
      rw [HK.out] at this
      have e : (D.all n).length = n := by simp [Dsk.all]
      show World.ownsRow _ _ 9 1 _ (D.all n).length ((D.all n).map text)
      rw [e]
      exact this
end Go.Proofs.Ytmkfbedhmmijjaa
