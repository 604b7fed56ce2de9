/- head: the fixed examples with known results, call by call. -/
import Derived.Test.YtmkfbedhmmijjaaOwn
namespace Go.Proofs.Ytmkfbedhmmijjaa
open Go.RowKit
def FA : ByteArray := ⟨(AAct.text ⟨0, 0, 0, ⟨#[97]⟩, false, 0⟩).toArray⟩
def FB : ByteArray := ⟨(AAct.text ⟨0, 0, 0, ⟨#[98]⟩, false, 0⟩).toArray⟩
def FZ : ByteArray := ⟨(AAct.text ⟨0, 0, 0, ⟨#[0]⟩, false, 0⟩).toArray⟩
theorem fill_a (w : World) : Calls Try.prog 27 #[.string ⟨#[97]⟩] w fun e w' => e = .returned (.string FA) ∧ Below w.heap.size w w' := fill_any ⟨#[97]⟩ w (by decide)
theorem fill_b (w : World) : Calls Try.prog 27 #[.string ⟨#[98]⟩] w fun e w' => e = .returned (.string FB) ∧ Below w.heap.size w w' := fill_any ⟨#[98]⟩ w (by decide)
theorem fill_z (w : World) : Calls Try.prog 27 #[.string ⟨#[0]⟩] w fun e w' => e = .returned (.string FZ) ∧ Below w.heap.size w w' := fill_any ⟨#[0]⟩ w (by decide)
def hd0 : Dsk := Dsk.new 2
def hd1 : Dsk := (hd0.write 0 FA.data.toList).1
theorem hd_s1 (B d : Nat) (w : World) (h : Own w B d 2 hd0) : Calls Try.prog 22 #[.pointer (some ⟨d, 0, none⟩), .int .i64 0, .string FA] w fun e w' => e = .returned (.int .i64 0) ∧ Own w' B d 2 hd1 ∧ Below B w w' := by
  have := own_write B d 2 hd0 w h 0 FA (by decide +kernel) (by unfold In64; omega)
  rw [show (hd0.write 0 FA.data.toList).2 = 0 from by decide +kernel] at this
  exact this
def hd2 : Dsk := hd1.sync.1
theorem hd_s2 (B d : Nat) (w : World) (h : Own w B d 2 hd1) : Calls Try.prog 20 #[.pointer (some ⟨d, 0, none⟩)] w fun e w' => e = .returned (.int .i64 0) ∧ Own w' B d 2 hd2 ∧ Below B w w' := by
  have := own_sync B d 2 hd1 w h (by decide +kernel)
  rw [show hd1.sync.2 = 0 from by decide +kernel] at this
  exact this
def hd3 : Dsk := (hd2.write 0 FB.data.toList).1
theorem hd_s3 (B d : Nat) (w : World) (h : Own w B d 2 hd2) : Calls Try.prog 22 #[.pointer (some ⟨d, 0, none⟩), .int .i64 0, .string FB] w fun e w' => e = .returned (.int .i64 0) ∧ Own w' B d 2 hd3 ∧ Below B w w' := by
  have := own_write B d 2 hd2 w h 0 FB (by decide +kernel) (by unfold In64; omega)
  rw [show (hd2.write 0 FB.data.toList).2 = 0 from by decide +kernel] at this
  exact this
theorem hd_s4 (B d : Nat) (w : World) (h : Own w B d 2 hd3) : Calls Try.prog 17 #[.pointer (some ⟨d, 0, none⟩), .int .i64 0] w fun e w' => e = .returned (.tuple #[.string FB, .int .i64 0]) ∧ Own w' B d 2 hd3 ∧ Below B w w' := by
  have := own_read B d 2 hd3 w h 0 (by decide +kernel)
  rw [show (hd3.read 0).2 = 0 from by decide +kernel, show text (hd3.read 0).1 = .string FB from congrArg (fun l : List UInt8 => Value.string ⟨l.toArray⟩) (by decide +kernel : (hd3.read 0).1 = FB.data.toList)] at this
  exact this
def hd5 : Dsk := hd3.fail 0 2
theorem hd_s5 (B d : Nat) (w : World) (h : Own w B d 2 hd3) : Calls Try.prog 24 #[.pointer (some ⟨d, 0, none⟩), .int .i64 0, .int .i64 2] w fun e w' => e = .returned (.tuple #[]) ∧ Own w' B d 2 hd5 ∧ Below B w w' := own_fail B d 2 hd3 w h 0 2 (by decide +kernel) (by unfold In64; omega) (by unfold In64; omega)
def hd6 : Dsk := hd5.sync.1
theorem hd_s6 (B d : Nat) (w : World) (h : Own w B d 2 hd5) : Calls Try.prog 20 #[.pointer (some ⟨d, 0, none⟩)] w fun e w' => e = .returned (.int .i64 25) ∧ Own w' B d 2 hd6 ∧ Below B w w' := by
  have := own_sync B d 2 hd5 w h (by decide +kernel)
  rw [show hd5.sync.2 = 25 from by decide +kernel] at this
  exact this
def hd7 : Dsk := hd6.start
theorem hd_s7 (B d : Nat) (w : World) (h : Own w B d 2 hd6) : Calls Try.prog 19 #[.pointer (some ⟨d, 0, none⟩)] w fun e w' => e = .returned (.tuple #[]) ∧ Own w' B d 2 hd7 ∧ Below B w w' := own_start B d 2 hd6 w h
def HS : ByteArray := ⟨(hd7.read 0).1.toArray⟩
theorem hd_s8 (B d : Nat) (w : World) (h : Own w B d 2 hd7) : Calls Try.prog 17 #[.pointer (some ⟨d, 0, none⟩), .int .i64 0] w fun e w' => e = .returned (.tuple #[.string HS, .int .i64 0]) ∧ Own w' B d 2 hd7 ∧ Below B w w' := by
  have := own_read B d 2 hd7 w h 0 (by decide +kernel)
  rw [show (hd7.read 0).2 = 0 from by decide +kernel, show text (hd7.read 0).1 = .string HS from congrArg (fun l : List UInt8 => Value.string ⟨l.toArray⟩) (by decide +kernel : (hd7.read 0).1 = HS.data.toList)] at this
  exact this
theorem hd_s9 (B d : Nat) (w : World) (h : Own w B d 2 hd7) : Calls Try.prog 17 #[.pointer (some ⟨d, 0, none⟩), .int .i64 1] w fun e w' => e = .returned (.tuple #[.string FZ, .int .i64 0]) ∧ Own w' B d 2 hd7 ∧ Below B w w' := by
  have := own_read B d 2 hd7 w h 1 (by decide +kernel)
  rw [show (hd7.read 1).2 = 0 from by decide +kernel, show text (hd7.read 1).1 = .string FZ from congrArg (fun l : List UInt8 => Value.string ⟨l.toArray⟩) (by decide +kernel : (hd7.read 1).1 = FZ.data.toList)] at this
  exact this
theorem hd_s10 (B d : Nat) (w : World) (h : Own w B d 2 hd7) : Calls Try.prog 17 #[.pointer (some ⟨d, 0, none⟩), .int .i64 2] w fun e w' => e = .returned (.tuple #[.string ByteArray.empty, .int .i64 1]) ∧ Own w' B d 2 hd7 ∧ Below B w w' := by
  have := own_read B d 2 hd7 w h 2 (by decide +kernel)
  rw [show (hd7.read 2).2 = 1 from by decide +kernel, show text (hd7.read 2).1 = .string ByteArray.empty from congrArg (fun l : List UInt8 => Value.string ⟨l.toArray⟩) (by decide +kernel : (hd7.read 2).1 = ByteArray.empty.data.toList)] at this
  exact this
def hd11 : Dsk := (hd7.write 1 [115, 104, 111, 114, 116]).1
theorem hd_s11 (B d : Nat) (w : World) (h : Own w B d 2 hd7) : Calls Try.prog 22 #[.pointer (some ⟨d, 0, none⟩), .int .i64 1, .string ⟨#[115, 104, 111, 114, 116]⟩] w fun e w' => e = .returned (.int .i64 1) ∧ Own w' B d 2 hd11 ∧ Below B w w' := by
  have := own_write B d 2 hd7 w h 1 ⟨#[115, 104, 111, 114, 116]⟩ (by decide +kernel) (by unfold In64; omega)
  rw [show (hd7.write 1 (⟨#[115, 104, 111, 114, 116]⟩ : ByteArray).data.toList).2 = 1 from by decide +kernel] at this
  exact this
def he0 : Dsk := Dsk.new 1
def he1 : Dsk := (he0.write 0 FA.data.toList).1
theorem he_s1 (B d : Nat) (w : World) (h : Own w B d 1 he0) : Calls Try.prog 22 #[.pointer (some ⟨d, 0, none⟩), .int .i64 0, .string FA] w fun e w' => e = .returned (.int .i64 0) ∧ Own w' B d 1 he1 ∧ Below B w w' := by
  have := own_write B d 1 he0 w h 0 FA (by decide +kernel) (by unfold In64; omega)
  rw [show (he0.write 0 FA.data.toList).2 = 0 from by decide +kernel] at this
  exact this
def he2 : Dsk := he1.sync.1
theorem he_s2 (B d : Nat) (w : World) (h : Own w B d 1 he1) : Calls Try.prog 20 #[.pointer (some ⟨d, 0, none⟩)] w fun e w' => e = .returned (.int .i64 0) ∧ Own w' B d 1 he2 ∧ Below B w w' := by
  have := own_sync B d 1 he1 w h (by decide +kernel)
  rw [show he1.sync.2 = 0 from by decide +kernel] at this
  exact this
def he3 : Dsk := he2.rot 0 1 3
theorem he_s3 (B d : Nat) (w : World) (h : Own w B d 1 he2) : Calls Try.prog 29 #[.pointer (some ⟨d, 0, none⟩), .int .i64 0, .int .i64 1, .int .i64 3] w fun e w' => e = .returned (.tuple #[]) ∧ Own w' B d 1 he3 ∧ Below B w w' := own_rot B d 1 he2 w h 0 1 3
def HY : ByteArray := ⟨(he3.read 0).1.toArray⟩
theorem he_s4 (B d : Nat) (w : World) (h : Own w B d 1 he3) : Calls Try.prog 17 #[.pointer (some ⟨d, 0, none⟩), .int .i64 0] w fun e w' => e = .returned (.tuple #[.string HY, .int .i64 0]) ∧ Own w' B d 1 he3 ∧ Below B w w' := by
  have := own_read B d 1 he3 w h 0 (by decide +kernel)
  rw [show (he3.read 0).2 = 0 from by decide +kernel, show text (he3.read 0).1 = .string HY from congrArg (fun l : List UInt8 => Value.string ⟨l.toArray⟩) (by decide +kernel : (he3.read 0).1 = HY.data.toList)] at this
  exact this
def he5 : Dsk := he3.stale 0
theorem he_s5 (B d : Nat) (w : World) (h : Own w B d 1 he3) : Calls Try.prog 30 #[.pointer (some ⟨d, 0, none⟩), .int .i64 0] w fun e w' => e = .returned (.tuple #[]) ∧ Own w' B d 1 he5 ∧ Below B w w' := own_stale B d 1 he3 w h 0
theorem he_s6 (B d : Nat) (w : World) (h : Own w B d 1 he5) : Calls Try.prog 17 #[.pointer (some ⟨d, 0, none⟩), .int .i64 0] w fun e w' => e = .returned (.tuple #[.string FZ, .int .i64 0]) ∧ Own w' B d 1 he5 ∧ Below B w w' := by
  have := own_read B d 1 he5 w h 0 (by decide +kernel)
  rw [show (he5.read 0).2 = 0 from by decide +kernel, show text (he5.read 0).1 = .string FZ from congrArg (fun l : List UInt8 => Value.string ⟨l.toArray⟩) (by decide +kernel : (he5.read 0).1 = FZ.data.toList)] at this
  exact this
def hk0 : Dsk := Dsk.new 1
def hk1 : Dsk := hk0.arming 1 1 2
theorem hk_s1 (B d : Nat) (w : World) (h : Own w B d 1 hk0) : Calls Try.prog 28 #[.pointer (some ⟨d, 0, none⟩), .int .i64 1, .int .i64 1, .int .i64 2] w fun e w' => e = .returned (.tuple #[]) ∧ Own w' B d 1 hk1 ∧ Below B w w' := own_arm B d 1 hk0 w h 1 1 2 (by unfold In64; omega) (by unfold In64; omega) (by unfold In64; omega)
def hk2 : Dsk := (hk1.write 0 FA.data.toList).1
theorem hk_s2 (B d : Nat) (w : World) (h : Own w B d 1 hk1) : Calls Try.prog 22 #[.pointer (some ⟨d, 0, none⟩), .int .i64 0, .string FA] w fun e w' => e = .returned (.int .i64 0) ∧ Own w' B d 1 hk2 ∧ Below B w w' := by
  have := own_write B d 1 hk1 w h 0 FA (by decide +kernel) (by unfold In64; omega)
  rw [show (hk1.write 0 FA.data.toList).2 = 0 from by decide +kernel] at this
  exact this
def hk3 : Dsk := (hk2.write 0 FB.data.toList).1
theorem hk_s3 (B d : Nat) (w : World) (h : Own w B d 1 hk2) : Calls Try.prog 22 #[.pointer (some ⟨d, 0, none⟩), .int .i64 0, .string FB] w fun e w' => e = .returned (.int .i64 25) ∧ Own w' B d 1 hk3 ∧ Below B w w' := by
  have := own_write B d 1 hk2 w h 0 FB (by decide +kernel) (by unfold In64; omega)
  rw [show (hk2.write 0 FB.data.toList).2 = 25 from by decide +kernel] at this
  exact this
def hk4 : Dsk := hk3.start
theorem hk_s4 (B d : Nat) (w : World) (h : Own w B d 1 hk3) : Calls Try.prog 19 #[.pointer (some ⟨d, 0, none⟩)] w fun e w' => e = .returned (.tuple #[]) ∧ Own w' B d 1 hk4 ∧ Below B w w' := own_start B d 1 hk3 w h
def HV : ByteArray := ⟨(hk4.read 0).1.toArray⟩
theorem hk_s5 (B d : Nat) (w : World) (h : Own w B d 1 hk4) : Calls Try.prog 17 #[.pointer (some ⟨d, 0, none⟩), .int .i64 0] w fun e w' => e = .returned (.tuple #[.string HV, .int .i64 0]) ∧ Own w' B d 1 hk4 ∧ Below B w w' := by
  have := own_read B d 1 hk4 w h 0 (by decide +kernel)
  rw [show (hk4.read 0).2 = 0 from by decide +kernel, show text (hk4.read 0).1 = .string HV from congrArg (fun l : List UInt8 => Value.string ⟨l.toArray⟩) (by decide +kernel : (hk4.read 0).1 = HV.data.toList)] at this
  exact this
end Go.Proofs.Ytmkfbedhmmijjaa
