/- The methods of a disk that the law itself has made, while blocks of P are held back: nothing below B turns, and nothing of P. -/
import Derived.Test.YtmkfbedhmmijjaaStableP
namespace Go.Proofs.Ytmkfbedhmmijjaa
open Go.RowKit
def Free (B : Nat) (P : Nat → Prop) : Nat → Prop := fun b => B ≤ b ∧ ¬ P b
structure OwnP (w : World) (B : Nat) (P : Nat → Prop) (d n : Nat) (D : Dsk) : Prop where
  disk : Disk w (Free B P) d n D
  size : B ≤ w.heap.size
  held : ∀ b, P b → b < w.heap.size
/-- w' is w but for blocks from B on that are not of P. -/
abbrev Turned (B : Nat) (P : Nat → Prop) (w w' : World) : Prop := Only (Free B P) w w'

section
variable {w w' w'' : World} {B d n : Nat} {P : Nat → Prop} {D D' : Dsk}
theorem Turned.below (h : Turned B P w w') (hB : B ≤ w.heap.size) : Below B w w' := Only.below h hB (fun _ h => h.1)
theorem Turned.next (h : Turned B P w w') (h' : Turned B P w' w'') : Turned B P w w'' := Only.trans h h' (fun _ _ h => h)
theorem Turned.of_below (h : Below w.heap.size w w') : Turned B P w w' := Only.of_below h _
theorem Turned.blk (h : Turned B P w w') {g : Nat} {t : TypeId} {cs : Array Value} (hb : Blk w g t cs) (hp : P g) : Blk w' g t cs := Only.blk h hb (fun hf => hf.2 hp)
theorem Turned.texts (h : Turned B P w w') {base : Nat} {v : Value} {xs : List (List UInt8)} (ht : TextsAt w base v xs) (hp : ∀ k, v.ownBlock = some k → P k) : TextsAt w' base v xs :=
  Only.own h ht (fun k hk hf => hf.2 (hp k hk))
theorem OwnP.of (h : Disk w' (After (Free B P) w w') d n D') (ho : Only (Free B P) w w') (hB : B ≤ w.heap.size) (hP : ∀ b, P b → b < w.heap.size) : OwnP w' B P d n D' ∧ Turned B P w w' :=
  ⟨⟨h.mono (fun b _ hb => by
      rcases hb with hb | hb
      · exact hb
      · exact ⟨Nat.le_trans hB hb.1, fun hp => by have := hP b hp; omega⟩), Nat.le_trans hB ho.size, fun b hb => Nat.lt_of_lt_of_le (hP b hb) ho.size⟩, ho⟩
theorem OwnP.below (h : OwnP w B P d n D) (hb : Below w.heap.size w w') : OwnP w' B P d n D := ⟨h.disk.below hb, Nat.le_trans h.size hb.size, fun b hp => Nat.lt_of_lt_of_le (h.held b hp) hb.size⟩
theorem OwnP.ok (h : OwnP w B P d n D) : D.Ok n := h.disk.ok
theorem OwnP.alloc (h : OwnP w B P d n D) (o : Obj) : OwnP (w.alloc o) B P d n D := h.below ((Below.refl _ _).alloc (Nat.le_refl _) o)
theorem OwnP.drew (h : OwnP w B P d n D) : OwnP w.drew B P d n D := h.below (Below.refl _ _).drew
/-- What is made now is held back from now on. -/
theorem OwnP.hold (h : OwnP w B P d n D) (hb : Below w.heap.size w w') : OwnP w' B (fun b => P b ∨ (w.heap.size ≤ b ∧ b < w'.heap.size)) d n D := by
  refine ⟨?_, Nat.le_trans h.size hb.size, fun b hp => ?_⟩
  · refine Disk.below (h.disk.mono (fun b hlt hf => ⟨hf.1, ?_⟩)) hb
    rintro (hp | hp)
    · exact hf.2 hp
    · omega
  · rcases hp with hp | hp
    · exact Nat.lt_of_lt_of_le (h.held b hp) hb.size
    · exact hp.2
theorem Own.p (h : Own w B d n D) : OwnP w B (fun _ => False) d n D := ⟨h.disk.mono (fun _ _ h => ⟨h, id⟩), h.size, fun _ h => h.elim⟩
end

section
variable (B : Nat) (P : Nat → Prop) (d n : Nat) (D : Dsk) (w : World) (h : OwnP w B P d n D)
include h
theorem ownp_write (s : Int) (t : ByteArray) (hbig : D.q.length < 1000000) (hs : In64 s) : Calls Try.prog 22 #[.pointer (some ⟨d, 0, none⟩), .int .i64 s, .string t] w fun e w' =>
    e = .returned (.int .i64 (D.write s t.data.toList).2) ∧ OwnP w' B P d n (D.write s t.data.toList).1 ∧ Turned B P w w' :=
  (write_any _ d n s t D w h.disk hbig hs).mono fun _ _ ⟨he, hD, hO⟩ => ⟨he, OwnP.of hD hO h.size h.held⟩
theorem ownp_read (s : Int) (hbig : D.q.length ≤ 1000000) : Calls Try.prog 17 #[.pointer (some ⟨d, 0, none⟩), .int .i64 s] w fun e w' =>
    e = .returned (.tuple #[text (D.read s).1, .int .i64 (D.read s).2]) ∧ OwnP w' B P d n D ∧ Turned B P w w' :=
  (read_any _ d n s D w h.disk hbig).mono fun _ _ ⟨he, _, hb⟩ => ⟨he, h.below hb, Turned.of_below hb⟩
theorem ownp_sync (hbig : D.q.length ≤ 1000000) : Calls Try.prog 20 #[.pointer (some ⟨d, 0, none⟩)] w fun e w' =>
    e = .returned (.int .i64 D.sync.2) ∧ OwnP w' B P d n D.sync.1 ∧ Turned B P w w' :=
  (sync_any _ d n D w h.disk hbig).mono fun _ _ ⟨he, hD, hO⟩ => ⟨he, OwnP.of hD hO h.size h.held⟩
theorem ownp_fail (a b : Int) (hbig : D.q.length ≤ 1000000) (ha : In64 a) (hb : In64 b) : Calls Try.prog 24 #[.pointer (some ⟨d, 0, none⟩), .int .i64 a, .int .i64 b] w fun e w' =>
    e = .returned (.tuple #[]) ∧ OwnP w' B P d n (D.fail a b) ∧ Turned B P w w' :=
  (fail_any _ d n a b D w h.disk hbig ha hb).mono fun _ _ ⟨he, hD, hO⟩ => ⟨he, OwnP.of hD hO h.size h.held⟩
theorem ownp_start : Calls Try.prog 19 #[.pointer (some ⟨d, 0, none⟩)] w fun e w' =>
    e = .returned (.tuple #[]) ∧ OwnP w' B P d n D.start ∧ Turned B P w w' :=
  (start_any _ d n D w h.disk).mono fun _ _ ⟨he, hD, hO⟩ => ⟨he, OwnP.of hD hO h.size h.held⟩
theorem ownp_arm (a b c : Int) (ha : In64 a) (hb : In64 b) (hc : In64 c) : Calls Try.prog 28 #[.pointer (some ⟨d, 0, none⟩), .int .i64 a, .int .i64 b, .int .i64 c] w fun e w' =>
    e = .returned (.tuple #[]) ∧ OwnP w' B P d n (D.arming a b c) ∧ Turned B P w w' :=
  (arm_any _ d n a b c D w h.disk ha.2 hb hc).mono fun _ _ ⟨he, hD, hO⟩ => ⟨he, OwnP.of hD hO h.size h.held⟩
theorem ownp_rot (s a m : Int) : Calls Try.prog 29 #[.pointer (some ⟨d, 0, none⟩), .int .i64 s, .int .i64 a, .int .i64 m] w fun e w' =>
    e = .returned (.tuple #[]) ∧ OwnP w' B P d n (D.rot s a m) ∧ Turned B P w w' :=
  (rot_any _ d n s a m D w h.disk).mono fun _ _ ⟨he, hD, hO⟩ => ⟨he, OwnP.of hD hO h.size h.held⟩
theorem ownp_stale (s : Int) : Calls Try.prog 30 #[.pointer (some ⟨d, 0, none⟩), .int .i64 s] w fun e w' =>
    e = .returned (.tuple #[]) ∧ OwnP w' B P d n (D.stale s) ∧ Turned B P w w' :=
  (stale_any _ d n s D w h.disk).mono fun _ _ ⟨he, hD, hO⟩ => ⟨he, OwnP.of hD hO h.size h.held⟩
theorem ownp_do (a : AAct) (hbig : D.q.length < 1000000) (ha : a.Ok) (ht : a.txt.size ≤ 100) : Calls Try.prog 15 #[.pointer (some ⟨d, 0, none⟩), .agg a.cells] w fun e w' =>
    e = .returned (.tuple #[text (D.act a).2.1, .int .i64 (D.act a).2.2]) ∧ OwnP w' B P d n (D.act a).1 ∧ Turned B P w w' :=
  (do_any _ d n a D w h.disk hbig ha ht).mono fun _ _ ⟨he, hD, hO⟩ => ⟨he, OwnP.of hD hO h.size h.held⟩
/-- contents: the texts lie in a new block, which is held back from then on. -/
theorem ownp_contents (hoff : D.off = false) (hbig : D.q.length ≤ 1000000) : Calls Try.prog 21 #[.pointer (some ⟨d, 0, none⟩), .int .i64 (n : Int)] w fun e w' =>
    ∃ v Q, e = .returned (.tuple #[v, .bool true]) ∧ TextsAt w' 0 v (D.all n) ∧ (∀ k, v.ownBlock = some k → Q k) ∧ (∀ k, P k → Q k) ∧ OwnP w' B Q d n D ∧ Below w.heap.size w w' :=
  (contents_on _ d n D w h.disk hoff hbig).mono fun _ w' ⟨v, he, hT, hb⟩ => ⟨v, (fun b => P b ∨ (w.heap.size ≤ b ∧ b < w'.heap.size)), he, (by
    refine ⟨hT.1, ?_⟩
    rcases hT.2 with h2 | ⟨g, cap, cur, e, hg, r⟩
    · exact .inl h2
    · exact .inr ⟨g, cap, cur, e, Nat.zero_le _, r⟩), (fun k hk => .inr (World.ownsRow.lt hT k hk)), (fun k hk => .inl hk), h.hold hb, hb⟩
end
end Go.Proofs.Ytmkfbedhmmijjaa
