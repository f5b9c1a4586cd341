/- The compact program. No statement of the seat is proved here. -/
import Derived.Test.YtdbbmeihhemflaaVFuns0
import Derived.Test.YtdbbmeihhemflaaVFuns1
namespace Go.Proofs.Ytdbbmeihhemflaa
open Go Go.VI

def xs : Nat → Option CFunc := fun _ => none
theorem xs_ok : XOK Try.prog xs := XOK.none

def tab (f : Nat) : Option CFunc :=
  match f with
  | 2 => some cf2
  | 3 => some cf3
  | 4 => some cf4
  | 5 => some cf5
  | 6 => some cf6
  | 7 => some cf7
  | 8 => some cf8
  | 9 => some cf9
  | 10 => some cf10
  | 11 => some cf11
  | 12 => some cf12
  | 13 => some cf13
  | 14 => some cf14
  | 15 => some cf15
  | 16 => some cf16
  | 17 => some cf17
  | 18 => some cf18
  | 19 => some cf19
  | 20 => some cf20
  | 21 => some cf21
  | 22 => some cf22
  | 23 => some cf23
  | 24 => some cf24
  | 25 => some cf25
  | 26 => some cf26
  | 27 => some cf27
  | 28 => some cf28
  | 29 => some cf29
  | 30 => some cf30
  | 31 => some cf31
  | 32 => some cf32
  | 33 => some cf33
  | 34 => some cf34
  | 35 => some cf35
  | 36 => some cf36
  | _ => none

set_option maxRecDepth 100000 in
theorem tab_le : LeF tab (compX Try.prog xs) := by
  intro f cf h
  unfold tab at h
  split at h
  · rw [← h]; exact cf2_ok
  · rw [← h]; exact cf3_ok
  · rw [← h]; exact cf4_ok
  · rw [← h]; exact cf5_ok
  · rw [← h]; exact cf6_ok
  · rw [← h]; exact cf7_ok
  · rw [← h]; exact cf8_ok
  · rw [← h]; exact cf9_ok
  · rw [← h]; exact cf10_ok
  · rw [← h]; exact cf11_ok
  · rw [← h]; exact cf12_ok
  · rw [← h]; exact cf13_ok
  · rw [← h]; exact cf14_ok
  · rw [← h]; exact cf15_ok
  · rw [← h]; exact cf16_ok
  · rw [← h]; exact cf17_ok
  · rw [← h]; exact cf18_ok
  · rw [← h]; exact cf19_ok
  · rw [← h]; exact cf20_ok
  · rw [← h]; exact cf21_ok
  · rw [← h]; exact cf22_ok
  · rw [← h]; exact cf23_ok
  · rw [← h]; exact cf24_ok
  · rw [← h]; exact cf25_ok
  · rw [← h]; exact cf26_ok
  · rw [← h]; exact cf27_ok
  · rw [← h]; exact cf28_ok
  · rw [← h]; exact cf29_ok
  · rw [← h]; exact cf30_ok
  · rw [← h]; exact cf31_ok
  · rw [← h]; exact cf32_ok
  · rw [← h]; exact cf33_ok
  · rw [← h]; exact cf34_ok
  · rw [← h]; exact cf35_ok
  · rw [← h]; exact cf36_ok
  · cases h

end Go.Proofs.Ytdbbmeihhemflaa
