/- The methods of a disk that the law itself has made: everything from block B on may turn, nothing below. -/
import Derived.Test.YtmkfbedhmmijjaaLists
namespace Go.Proofs.Ytmkfbedhmmijjaa
open Go.RowKit
structure Own (w : World) (B d n : Nat) (D : Dsk) : Prop where
  disk : Disk w (fun b => B ≤ b) d n D
  size : B ≤ w.heap.size

section
variable {w w' : World} {B d n : Nat} {D D' : Dsk}
theorem Own.of (h : Disk w' (After (fun b => B ≤ b) w w') d n D') (ho : Only (fun b => B ≤ b) w w') (hB : B ≤ w.heap.size) : Own w' B d n D' ∧ Below B w w' :=
  ⟨⟨h.mono (fun b _ hb => by rcases hb with hb | hb; exact hb; exact Nat.le_trans hB hb.1), Nat.le_trans hB ho.size⟩, ho.below hB (fun _ h => h)⟩
theorem Own.below (h : Own w B d n D) (hb : Below w.heap.size w w') : Own w' B d n D := ⟨h.disk.below hb, Nat.le_trans h.size hb.size⟩
theorem Own.ok (h : Own w B d n D) : D.Ok n := h.disk.ok
theorem Own.alloc (h : Own w B d n D) (o : Obj) : Own (w.alloc o) B d n D := ⟨h.disk.alloc o, Nat.le_trans h.size (by simp)⟩
theorem Own.drew (h : Own w B d n D) : Own w.drew B d n D := ⟨h.disk.drew, h.size⟩
end

section
variable (B d n : Nat) (D : Dsk) (w : World) (h : Own w B d n D)
include h
theorem own_write (s : Int) (t : ByteArray) (hbig : D.q.length < 1000000) (hs : In64 s) : Calls Try.prog 22 #[.pointer (some ⟨d, 0, none⟩), .int .i64 s, .string t] w fun e w' =>
    e = .returned (.int .i64 (D.write s t.data.toList).2) ∧ Own w' B d n (D.write s t.data.toList).1 ∧ Below B w w' :=
  (write_any _ d n s t D w h.disk hbig hs).mono fun _ _ ⟨he, hD, hO⟩ => ⟨he, Own.of hD hO h.size⟩
theorem own_read (s : Int) (hbig : D.q.length ≤ 1000000) : Calls Try.prog 17 #[.pointer (some ⟨d, 0, none⟩), .int .i64 s] w fun e w' =>
    e = .returned (.tuple #[text (D.read s).1, .int .i64 (D.read s).2]) ∧ Own w' B d n D ∧ Below B w w' :=
  (read_any _ d n s D w h.disk hbig).mono fun _ _ ⟨he, _, hb⟩ => ⟨he, h.below hb, hb.mono h.size⟩
theorem own_sync (hbig : D.q.length ≤ 1000000) : Calls Try.prog 20 #[.pointer (some ⟨d, 0, none⟩)] w fun e w' =>
    e = .returned (.int .i64 D.sync.2) ∧ Own w' B d n D.sync.1 ∧ Below B w w' :=
  (sync_any _ d n D w h.disk hbig).mono fun _ _ ⟨he, hD, hO⟩ => ⟨he, Own.of hD hO h.size⟩
theorem own_fail (a b : Int) (hbig : D.q.length ≤ 1000000) (ha : In64 a) (hb : In64 b) : Calls Try.prog 24 #[.pointer (some ⟨d, 0, none⟩), .int .i64 a, .int .i64 b] w fun e w' =>
    e = .returned (.tuple #[]) ∧ Own w' B d n (D.fail a b) ∧ Below B w w' :=
  (fail_any _ d n a b D w h.disk hbig ha hb).mono fun _ _ ⟨he, hD, hO⟩ => ⟨he, Own.of hD hO h.size⟩
theorem own_start : Calls Try.prog 19 #[.pointer (some ⟨d, 0, none⟩)] w fun e w' =>
    e = .returned (.tuple #[]) ∧ Own w' B d n D.start ∧ Below B w w' :=
  (start_any _ d n D w h.disk).mono fun _ _ ⟨he, hD, hO⟩ => ⟨he, Own.of hD hO h.size⟩
theorem own_arm (a b c : Int) (ha : In64 a) (hb : In64 b) (hc : In64 c) : Calls Try.prog 28 #[.pointer (some ⟨d, 0, none⟩), .int .i64 a, .int .i64 b, .int .i64 c] w fun e w' =>
    e = .returned (.tuple #[]) ∧ Own w' B d n (D.arming a b c) ∧ Below B w w' :=
  (arm_any _ d n a b c D w h.disk ha.2 hb hc).mono fun _ _ ⟨he, hD, hO⟩ => ⟨he, Own.of hD hO h.size⟩
theorem own_rot (s a m : Int) : Calls Try.prog 29 #[.pointer (some ⟨d, 0, none⟩), .int .i64 s, .int .i64 a, .int .i64 m] w fun e w' =>
    e = .returned (.tuple #[]) ∧ Own w' B d n (D.rot s a m) ∧ Below B w w' :=
  (rot_any _ d n s a m D w h.disk).mono fun _ _ ⟨he, hD, hO⟩ => ⟨he, Own.of hD hO h.size⟩
theorem own_stale (s : Int) : Calls Try.prog 30 #[.pointer (some ⟨d, 0, none⟩), .int .i64 s] w fun e w' =>
    e = .returned (.tuple #[]) ∧ Own w' B d n (D.stale s) ∧ Below B w w' :=
  (stale_any _ d n s D w h.disk).mono fun _ _ ⟨he, hD, hO⟩ => ⟨he, Own.of hD hO h.size⟩
theorem own_do (a : AAct) (hbig : D.q.length < 1000000) (ha : a.Ok) (ht : a.txt.size ≤ 100) : Calls Try.prog 15 #[.pointer (some ⟨d, 0, none⟩), .agg a.cells] w fun e w' =>
    e = .returned (.tuple #[text (D.act a).2.1, .int .i64 (D.act a).2.2]) ∧ Own w' B d n (D.act a).1 ∧ Below B w w' :=
  (do_any _ d n a D w h.disk hbig ha ht).mono fun _ _ ⟨he, hD, hO⟩ => ⟨he, Own.of hD hO h.size⟩
theorem own_contents (hoff : D.off = false) (hbig : D.q.length ≤ 1000000) : Calls Try.prog 21 #[.pointer (some ⟨d, 0, none⟩), .int .i64 (n : Int)] w fun e w' =>
    ∃ v, e = .returned (.tuple #[v, .bool true]) ∧ TextsAt w' B v (D.all n) ∧ (∀ k, v.ownBlock = some k → w.heap.size ≤ k) ∧ Own w' B d n D ∧ Below w.heap.size w w' :=
  (contents_on _ d n D w h.disk hoff hbig).mono fun _ _ ⟨v, he, hT, hb⟩ => ⟨v, he, (by
    refine ⟨hT.1, ?_⟩
    rcases hT.2 with h2 | ⟨g, cap, cur, e, hg, r⟩
    · exact .inl h2
    · exact .inr ⟨g, cap, cur, e, Nat.le_trans h.size hg, r⟩), fun k hk => (World.ownsRow.lt hT k hk).1, h.below hb, hb⟩
end
theorem own_new (B n : Nat) (w : World) (hB : B ≤ w.heap.size) (h1 : 1 ≤ n) (h2 : n ≤ 4000) :
    Calls Try.prog 12 #[.int .i64 (n : Int)] w fun e w' => ∃ d, e = .returned (.pointer (some ⟨d, 0, none⟩)) ∧ Own w' B d n (Dsk.new n) ∧ Below w.heap.size w w' :=
  (new_ok n w h1 h2).mono fun _ _ ⟨d, he, _, hD, hb⟩ => ⟨d, he, ⟨hD.mono (fun _ _ h => Nat.le_trans hB h), Nat.le_trans hB hb.size⟩, hb⟩
end Go.Proofs.Ytmkfbedhmmijjaa
