/- P45.7 as plain data. -/
import Derived.Test.YtmkfbedhmmijjaaTwo
namespace Go.Proofs.Ytmkfbedhmmijjaa
def armOf (lf x y : Int) : Option (Nat × Int × Int) := if 0 ≤ lf then some (lf.toNat, x, y) else none
/-- The armed disk is the other one but for its alarm. -/
structure Pair (lf af x y : Int) (Da Db : Dsk) : Prop where
  calm : Db.Calm
  eq : Da = { Db with arm := armOf lf x y }
  neg : af < 0 → lf = af
  pos : 0 ≤ af → 0 ≤ lf ∧ lf ≤ af
/-- The two disks are alike behind a start. -/
structure Alike (n : Nat) (Da Db : Dsk) : Prop where
  all : Da.start.all n = Db.start.all n
  qa : Da.q.length ≤ 1000
  qb : Db.q.length ≤ 1000
theorem fail_arm (D : Dsk) (z : Option (Nat × Int × Int)) (h : D.off = false) (a b : Int) : Dsk.fail { D with arm := z } a b = D.fail a b := by
  have hs : ∀ (l : List (Nat × List UInt8)) (D : Dsk), ({ D with arm := z } : Dsk).settle l = { D.settle l with arm := z } := by
    intro l
    induction l with
    | nil => intro D; rfl
    | cons p l ih => intro D; exact ih (D.set p.1 p.2)
  have ht : ∀ (l : List (Nat × List UInt8)) (D : Dsk), ({ D with arm := z } : Dsk).tear l b = { D.tear l b with arm := z } := by
    intro l D
    cases l with
    | nil => rfl
    | cons p l => unfold Dsk.tear; simp only; split <;> rfl
  unfold Dsk.fail
  rw [if_neg (by simp [h]), if_neg (by simp [h])]
  simp only [hs, ht]
theorem settle_armz (z : Option (Nat × Int × Int)) (l : List (Nat × List UInt8)) : ∀ (D : Dsk), ({ D with arm := z } : Dsk).settle l = { D.settle l with arm := z } := by
  induction l with
  | nil => intro D; rfl
  | cons p l ih => intro D; exact ih (D.set p.1 p.2)
theorem alike_same (n : Nat) (D : Dsk) (h : D.q.length ≤ 1000) : Alike n D D := ⟨rfl, h, h⟩
theorem Pair.alike {lf af x y : Int} {Da Db : Dsk} (h : Pair lf af x y Da Db) (n : Nat) (hq : Db.q.length ≤ 1000) : Alike n Da Db := by
  refine ⟨?_, by rw [h.eq]; exact hq, hq⟩
  rw [h.eq]
  rfl
theorem Pair.q {lf af x y : Int} {Da Db : Dsk} (h : Pair lf af x y Da Db) : Da.q = Db.q := by rw [h.eq]
theorem pair_start (D : Dsk) (af x y : Int) : Pair af af x y (D.start.arming af x y) D.start := by
  refine ⟨start_calm D, ?_, fun _ => rfl, fun h => ⟨h, Int.le_refl _⟩⟩
  unfold Dsk.arming armOf
  rw [if_neg (by simp [Dsk.start])]
theorem count_zero (D : Dsk) (x y : Int) : Dsk.count { D with arm := armOf 0 x y } = (Dsk.fail { D with arm := armOf 0 x y } x y, 25) := by
  unfold Dsk.count armOf; rfl
theorem count_pos (D : Dsk) (lf x y : Int) (h : 0 < lf) : Dsk.count { D with arm := armOf lf x y } = ({ D with arm := armOf (lf - 1) x y }, 0) := by
  obtain ⟨k, hk⟩ := Int.eq_ofNat_of_zero_le (show 0 ≤ lf - 1 by omega)
  obtain rfl : lf = (k : Int) + 1 := by omega
  unfold Dsk.count armOf
  rw [if_pos (by omega), if_pos (by omega)]
  have e1 : ((k : Int) + 1).toNat = k + 1 := by omega
  have e2 : ((k : Int) + 1 - 1).toNat = k := by omega
  rw [e1, e2]
theorem count_neg (D : Dsk) (lf x y : Int) (h : lf < 0) : Dsk.count { D with arm := armOf lf x y } = ({ D with arm := armOf lf x y }, 0) := by
  unfold Dsk.count armOf
  rw [if_neg (by omega)]

section
variable {lf af x y : Int} {Da Db : Dsk}
/-- A Sync at which the armed disk turns off. -/
theorem Pair.sync_off (h : Pair lf af x y Da Db) (h0 : lf = 0) : Da.sync = (Db.fail x y, 25) := by
  subst h0
  rw [h.eq]
  unfold Dsk.sync
  have hc := count_zero Db x y
  rw [if_neg (by simp [h.calm.on]), hc, if_neg (show ¬ (25 : Int) = 0 by decide), fail_arm _ _ h.calm.on]
theorem Pair.sync_pos (h : Pair lf af x y Da Db) (h0 : 0 < lf) : Da.sync.2 = 0 ∧ Db.sync.2 = 0 ∧ Pair (lf - 1) af x y Da.sync.1 Db.sync.1 ∧ Db.sync.1.q = [] := by
  have hc := count_pos Db lf x y h0
  have e1 : Da.sync = ({ Dsk.settle { Db with arm := armOf (lf - 1) x y } Db.q with q := [] }, 0) := by
    rw [h.eq]
    unfold Dsk.sync
    rw [if_neg (by simp [h.calm.on]), hc, if_pos rfl]
  have e2 := calm_sync h.calm
  have e3 := calm_sync_calm h.calm
  refine ⟨by rw [e1], by rw [e2], ⟨e3.1, ?_, fun hn => absurd (h.neg hn) (by omega), fun hp => by have := h.pos hp; omega⟩, e3.2⟩
  rw [e1, e2]
  simp only [settle_armz]
theorem Pair.sync_neg (h : Pair lf af x y Da Db) (h0 : lf < 0) : Da.sync.2 = 0 ∧ Db.sync.2 = 0 ∧ Pair lf af x y Da.sync.1 Db.sync.1 ∧ Db.sync.1.q = [] := by
  have hc := count_neg Db lf x y h0
  have e1 : Da.sync = ({ Dsk.settle { Db with arm := armOf lf x y } Db.q with q := [] }, 0) := by
    rw [h.eq]
    unfold Dsk.sync
    rw [if_neg (by simp [h.calm.on]), hc, if_pos rfl]
  have e2 := calm_sync h.calm
  have e3 := calm_sync_calm h.calm
  refine ⟨by rw [e1], by rw [e2], ⟨e3.1, ?_, h.neg, fun hp => by have := h.pos hp; omega⟩, e3.2⟩
  rw [e1, e2]
  simp only [settle_armz]
theorem Pair.write_bad (h : Pair lf af x y Da Db) (s : Int) (t : List UInt8) (hv : ¬ (0 ≤ s ∧ s < Db.st.length ∧ t.length = 64)) : Da.write s t = (Da, 1) ∧ Db.write s t = (Db, 1) := by
  have e2 : Db.write s t = (Db, 1) := by rw [calm_write h.calm, if_neg hv]
  refine ⟨?_, e2⟩
  rw [h.eq]
  unfold Dsk.write
  rw [if_neg (by simp [h.calm.on]), if_neg hv]
def pushed (D : Dsk) (s : Int) (t : List UInt8) : Dsk := { D with q := D.q ++ [(s.toNat, t)] }
theorem pushed_calm {D : Dsk} (h : D.Calm) (s : Int) (t : List UInt8) : (pushed D s t).Calm := ⟨h.on, h.un⟩
theorem Pair.write_b (h : Pair lf af x y Da Db) (s : Int) (t : List UInt8) (hv : 0 ≤ s ∧ s < Db.st.length ∧ t.length = 64) : Db.write s t = (pushed Db s t, 0) := by rw [calm_write h.calm, if_pos hv]; rfl
theorem Pair.write_eq (h : Pair lf af x y Da Db) (s : Int) (t : List UInt8) (hv : 0 ≤ s ∧ s < Db.st.length ∧ t.length = 64) : Da.write s t = Dsk.count { pushed Db s t with arm := armOf lf x y } := by
  rw [h.eq]
  unfold Dsk.write
  rw [if_neg (by simp [h.calm.on]), if_pos hv]
  rfl
theorem Pair.write_off (h : Pair lf af x y Da Db) (h0 : lf = 0) (s : Int) (t : List UInt8) (hv : 0 ≤ s ∧ s < Db.st.length ∧ t.length = 64) : Da.write s t = ((pushed Db s t).fail x y, 25) := by
  rw [h.write_eq s t hv]
  subst h0
  rw [count_zero, fail_arm _ _ (pushed_calm h.calm s t).on]
theorem Pair.write_pos (h : Pair lf af x y Da Db) (h0 : 0 < lf) (s : Int) (t : List UInt8) (hv : 0 ≤ s ∧ s < Db.st.length ∧ t.length = 64) : (Da.write s t).2 = 0 ∧ Pair (lf - 1) af x y (Da.write s t).1 (pushed Db s t) := by
  rw [h.write_eq s t hv, count_pos _ _ _ _ h0]
  exact ⟨rfl, pushed_calm h.calm s t, rfl, fun hn => absurd (h.neg hn) (by omega), fun hp => by have := h.pos hp; omega⟩
theorem Pair.write_neg (h : Pair lf af x y Da Db) (h0 : lf < 0) (s : Int) (t : List UInt8) (hv : 0 ≤ s ∧ s < Db.st.length ∧ t.length = 64) : (Da.write s t).2 = 0 ∧ Pair lf af x y (Da.write s t).1 (pushed Db s t) := by
  rw [h.write_eq s t hv, count_neg _ _ _ _ h0]
  exact ⟨rfl, pushed_calm h.calm s t, rfl, h.neg, h.pos⟩
end
end Go.Proofs.Ytmkfbedhmmijjaa
