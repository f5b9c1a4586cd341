/- The compact program. No statement of the seat is proved here. -/
import Derived.Test.YthibbbfhkfebkaaVZFuns0
import Derived.Test.YthibbbfhkfebkaaVZVE
namespace Go.Proofs.Ythibbbfhkfebkaa
open Go Go.VI
def cf20 : CFunc := ⟨3, false, some (.ins 46 6 56), [], .skip⟩
def cf82 : CFunc := ⟨3, false, some (.ins 70 3 32), [], .skip⟩
def cf85 : CFunc := ⟨3, false, some (.ins 86 2 24), [], .skip⟩
def cf68 : CFunc := ⟨2, false, some (.cmp), [], .skip⟩
def xs (f : Nat) : Option CFunc := match f with
  | 20 => some cf20
  | 82 => some cf82
  | 85 => some cf85
  | 68 => some cf68
  | _ => none
def tab (f : Nat) : Option CFunc :=
  match f with
  | 3 => some cf3
  | 4 => some cf4
  | 5 => some cf5
  | 6 => some cf6
  | 7 => some cf7
  | 8 => some cf8
  | 9 => some cf9
  | 10 => some cf10
  | 11 => some cf11
  | 12 => some cf12
  | 13 => some cf13
  | 14 => some cf14
  | 15 => some cf15
  | 16 => some cf16
  | 17 => some cf17
  | 18 => some cf18
  | 19 => some cf19
  | 20 => some cf20
  | 21 => some cf21
  | 22 => some cf22
  | 23 => some cf23
  | 24 => some cf24
  | 25 => some cf25
  | 26 => some cf26
  | 27 => some cf27
  | 28 => some cf28
  | 29 => some cf29
  | 30 => some cf30
  | 31 => some cf31
  | 32 => some cf32
  | 33 => some cf33
  | 34 => some cf34
  | 35 => some cf35
  | 36 => some cf36
  | 37 => some cf37
  | 38 => some cf38
  | 39 => some cf39
  | 40 => some cf40
  | 41 => some cf41
  | 42 => some cf42
  | 43 => some cf43
  | 44 => some cf44
  | 45 => some cf45
  | 48 => some cf48
  | 49 => some cf49
  | 50 => some cf50
  | 51 => some cf51
  | 52 => some cf52
  | 53 => some cf53
  | 54 => some cf54
  | 55 => some cf55
  | 56 => some cf56
  | 57 => some cf57
  | 58 => some cf58
  | 59 => some cf59
  | 60 => some cf60
  | 61 => some cf61
  | 62 => some cf62
  | 63 => some cf63
  | 64 => some cf64
  | 65 => some cf65
  | 66 => some cf66
  | 67 => some cf67
  | 68 => some cf68
  | 70 => some cf70
  | 71 => some cf71
  | 72 => some cf72
  | 73 => some cf73
  | 74 => some cf74
  | 75 => some cf75
  | 76 => some cf76
  | 77 => some cf77
  | 80 => some cf80
  | 81 => some cf81
  | 82 => some cf82
  | 83 => some cf83
  | 84 => some cf84
  | 85 => some cf85
  | _ => none
set_option maxRecDepth 100000 in
theorem tab_le : LeF tab (compX Try.prog xs) := by
  intro f cf h
  unfold tab at h
  split at h
  · rw [← h]; exact cf3_ok
  · rw [← h]; exact cf4_ok
  · rw [← h]; exact cf5_ok
  · rw [← h]; exact cf6_ok
  · rw [← h]; exact cf7_ok
  · rw [← h]; exact cf8_ok
  · rw [← h]; exact cf9_ok
  · rw [← h]; exact cf10_ok
  · rw [← h]; exact cf11_ok
  · rw [← h]; exact cf12_ok
  · rw [← h]; exact cf13_ok
  · rw [← h]; exact cf14_ok
  · rw [← h]; exact cf15_ok
  · rw [← h]; exact cf16_ok
  · rw [← h]; exact cf17_ok
  · rw [← h]; exact cf18_ok
  · rw [← h]; exact cf19_ok
  · rw [← h]; rfl
  · rw [← h]; exact cf21_ok
  · rw [← h]; exact cf22_ok
  · rw [← h]; exact cf23_ok
  · rw [← h]; exact cf24_ok
  · rw [← h]; exact cf25_ok
  · rw [← h]; exact cf26_ok
  · rw [← h]; exact cf27_ok
  · rw [← h]; exact cf28_ok
  · rw [← h]; exact cf29_ok
  · rw [← h]; exact cf30_ok
  · rw [← h]; exact cf31_ok
  · rw [← h]; exact cf32_ok
  · rw [← h]; exact cf33_ok
  · rw [← h]; exact cf34_ok
  · rw [← h]; exact cf35_ok
  · rw [← h]; exact cf36_ok
  · rw [← h]; exact cf37_ok
  · rw [← h]; exact cf38_ok
  · rw [← h]; exact cf39_ok
  · rw [← h]; exact cf40_ok
  · rw [← h]; exact cf41_ok
  · rw [← h]; exact cf42_ok
  · rw [← h]; exact cf43_ok
  · rw [← h]; exact cf44_ok
  · rw [← h]; exact cf45_ok
  · rw [← h]; exact cf48_ok
  · rw [← h]; exact cf49_ok
  · rw [← h]; exact cf50_ok
  · rw [← h]; exact cf51_ok
  · rw [← h]; exact cf52_ok
  · rw [← h]; exact cf53_ok
  · rw [← h]; exact cf54_ok
  · rw [← h]; exact cf55_ok
  · rw [← h]; exact cf56_ok
  · rw [← h]; exact cf57_ok
  · rw [← h]; exact cf58_ok
  · rw [← h]; exact cf59_ok
  · rw [← h]; exact cf60_ok
  · rw [← h]; exact cf61_ok
  · rw [← h]; exact cf62_ok
  · rw [← h]; exact cf63_ok
  · rw [← h]; exact cf64_ok
  · rw [← h]; exact cf65_ok
  · rw [← h]; exact cf66_ok
  · rw [← h]; exact cf67_ok
  · rw [← h]; rfl
  · rw [← h]; exact cf70_ok
  · rw [← h]; exact cf71_ok
  · rw [← h]; exact cf72_ok
  · rw [← h]; exact cf73_ok
  · rw [← h]; exact cf74_ok
  · rw [← h]; exact cf75_ok
  · rw [← h]; exact cf76_ok
  · rw [← h]; exact cf77_ok
  · rw [← h]; exact cf80_ok
  · rw [← h]; exact cf81_ok
  · rw [← h]; rfl
  · rw [← h]; exact cf83_ok
  · rw [← h]; exact cf84_ok
  · rw [← h]; rfl
  · cases h
end Go.Proofs.Ythibbbfhkfebkaa

