/- The compact program. No statement of the seat is proved here. -/
import Derived.Test.YthibbbfhkfebkaaGreatVZFuns0
import Derived.Test.YthibbbfhkfebkaaGreatVZVE
namespace Go.Proofs.YthibbbfhkfebkaaGreat
open Go Go.VI
def cf37 : CFunc := ⟨3, false, some (.ins 70 6 56), [], .skip⟩
def cf142 : CFunc := ⟨3, false, some (.ins 58 3 32), [], .skip⟩
def cf145 : CFunc := ⟨3, false, some (.ins 68 2 24), [], .skip⟩
def cf134 : CFunc := ⟨2, false, some (.cmp), [], .skip⟩
def xs (f : Nat) : Option CFunc := match f with
  | 37 => some cf37
  | 142 => some cf142
  | 145 => some cf145
  | 134 => some cf134
  | _ => none
def tab (f : Nat) : Option CFunc :=
  match f with
  | 6 => some cf6
  | 8 => some cf8
  | 9 => some cf9
  | 10 => some cf10
  | 13 => some cf13
  | 15 => some cf15
  | 17 => some cf17
  | 20 => some cf20
  | 22 => some cf22
  | 23 => some cf23
  | 24 => some cf24
  | 25 => some cf25
  | 28 => some cf28
  | 29 => some cf29
  | 30 => some cf30
  | 31 => some cf31
  | 32 => some cf32
  | 33 => some cf33
  | 34 => some cf34
  | 35 => some cf35
  | 36 => some cf36
  | 37 => some cf37
  | 42 => some cf42
  | 43 => some cf43
  | 44 => some cf44
  | 50 => some cf50
  | 51 => some cf51
  | 52 => some cf52
  | 55 => some cf55
  | 56 => some cf56
  | 57 => some cf57
  | 58 => some cf58
  | 59 => some cf59
  | 60 => some cf60
  | 61 => some cf61
  | 62 => some cf62
  | 63 => some cf63
  | 66 => some cf66
  | 67 => some cf67
  | 68 => some cf68
  | 69 => some cf69
  | 70 => some cf70
  | 71 => some cf71
  | 72 => some cf72
  | 73 => some cf73
  | 74 => some cf74
  | 76 => some cf76
  | 77 => some cf77
  | 78 => some cf78
  | 79 => some cf79
  | 86 => some cf86
  | 87 => some cf87
  | 88 => some cf88
  | 89 => some cf89
  | 90 => some cf90
  | 91 => some cf91
  | 92 => some cf92
  | 93 => some cf93
  | 94 => some cf94
  | 95 => some cf95
  | 96 => some cf96
  | 97 => some cf97
  | 104 => some cf104
  | 105 => some cf105
  | 106 => some cf106
  | 107 => some cf107
  | 108 => some cf108
  | 109 => some cf109
  | 110 => some cf110
  | 111 => some cf111
  | 112 => some cf112
  | 113 => some cf113
  | 114 => some cf114
  | 115 => some cf115
  | 116 => some cf116
  | 117 => some cf117
  | 118 => some cf118
  | 119 => some cf119
  | 120 => some cf120
  | 121 => some cf121
  | 122 => some cf122
  | 123 => some cf123
  | 124 => some cf124
  | 125 => some cf125
  | 126 => some cf126
  | 127 => some cf127
  | 128 => some cf128
  | 133 => some cf133
  | 134 => some cf134
  | 136 => some cf136
  | 137 => some cf137
  | 138 => some cf138
  | 139 => some cf139
  | 140 => some cf140
  | 141 => some cf141
  | 142 => some cf142
  | 143 => some cf143
  | 144 => some cf144
  | 145 => some cf145
  | _ => none
set_option maxRecDepth 100000 in
theorem tab_le : LeF tab (compX Tryz.prog xs) := by
  intro f cf h
  unfold tab at h
  split at h
  · rw [← h]; exact cf6_ok
  · rw [← h]; exact cf8_ok
  · rw [← h]; exact cf9_ok
  · rw [← h]; exact cf10_ok
  · rw [← h]; exact cf13_ok
  · rw [← h]; exact cf15_ok
  · rw [← h]; exact cf17_ok
  · rw [← h]; exact cf20_ok
  · rw [← h]; exact cf22_ok
  · rw [← h]; exact cf23_ok
  · rw [← h]; exact cf24_ok
  · rw [← h]; exact cf25_ok
  · rw [← h]; exact cf28_ok
  · rw [← h]; exact cf29_ok
  · rw [← h]; exact cf30_ok
  · rw [← h]; exact cf31_ok
  · rw [← h]; exact cf32_ok
  · rw [← h]; exact cf33_ok
  · rw [← h]; exact cf34_ok
  · rw [← h]; exact cf35_ok
  · rw [← h]; exact cf36_ok
  · rw [← h]; rfl
  · rw [← h]; exact cf42_ok
  · rw [← h]; exact cf43_ok
  · rw [← h]; exact cf44_ok
  · rw [← h]; exact cf50_ok
  · rw [← h]; exact cf51_ok
  · rw [← h]; exact cf52_ok
  · rw [← h]; exact cf55_ok
  · rw [← h]; exact cf56_ok
  · rw [← h]; exact cf57_ok
  · rw [← h]; exact cf58_ok
  · rw [← h]; exact cf59_ok
  · rw [← h]; exact cf60_ok
  · rw [← h]; exact cf61_ok
  · rw [← h]; exact cf62_ok
  · rw [← h]; exact cf63_ok
  · rw [← h]; exact cf66_ok
  · rw [← h]; exact cf67_ok
  · rw [← h]; exact cf68_ok
  · rw [← h]; exact cf69_ok
  · rw [← h]; exact cf70_ok
  · rw [← h]; exact cf71_ok
  · rw [← h]; exact cf72_ok
  · rw [← h]; exact cf73_ok
  · rw [← h]; exact cf74_ok
  · rw [← h]; exact cf76_ok
  · rw [← h]; exact cf77_ok
  · rw [← h]; exact cf78_ok
  · rw [← h]; exact cf79_ok
  · rw [← h]; exact cf86_ok
  · rw [← h]; exact cf87_ok
  · rw [← h]; exact cf88_ok
  · rw [← h]; exact cf89_ok
  · rw [← h]; exact cf90_ok
  · rw [← h]; exact cf91_ok
  · rw [← h]; exact cf92_ok
  · rw [← h]; exact cf93_ok
  · rw [← h]; exact cf94_ok
  · rw [← h]; exact cf95_ok
  · rw [← h]; exact cf96_ok
  · rw [← h]; exact cf97_ok
  · rw [← h]; exact cf104_ok
  · rw [← h]; exact cf105_ok
  · rw [← h]; exact cf106_ok
  · rw [← h]; exact cf107_ok
  · rw [← h]; exact cf108_ok
  · rw [← h]; exact cf109_ok
  · rw [← h]; exact cf110_ok
  · rw [← h]; exact cf111_ok
  · rw [← h]; exact cf112_ok
  · rw [← h]; exact cf113_ok
  · rw [← h]; exact cf114_ok
  · rw [← h]; exact cf115_ok
  · rw [← h]; exact cf116_ok
  · rw [← h]; exact cf117_ok
  · rw [← h]; exact cf118_ok
  · rw [← h]; exact cf119_ok
  · rw [← h]; exact cf120_ok
  · rw [← h]; exact cf121_ok
  · rw [← h]; exact cf122_ok
  · rw [← h]; exact cf123_ok
  · rw [← h]; exact cf124_ok
  · rw [← h]; exact cf125_ok
  · rw [← h]; exact cf126_ok
  · rw [← h]; exact cf127_ok
  · rw [← h]; exact cf128_ok
  · rw [← h]; exact cf133_ok
  · rw [← h]; rfl
  · rw [← h]; exact cf136_ok
  · rw [← h]; exact cf137_ok
  · rw [← h]; exact cf138_ok
  · rw [← h]; exact cf139_ok
  · rw [← h]; exact cf140_ok
  · rw [← h]; exact cf141_ok
  · rw [← h]; rfl
  · rw [← h]; exact cf143_ok
  · rw [← h]; exact cf144_ok
  · rw [← h]; rfl
  · cases h
end Go.Proofs.YthibbbfhkfebkaaGreat

