/- The compact program. No statement of the seat is proved here. -/
import Derived.Test.YtfllmhjjfapnmaaGreatVZFuns0
import Derived.Test.YtfllmhjjfapnmaaGreatVZFuns1
import Derived.Test.YtfllmhjjfapnmaaGreatVZVE
namespace Go.Proofs.YtfllmhjjfapnmaaGreat
open Go Go.VI
def cf95 : CFunc := ⟨1, false, some 106, [], .skip⟩
def xs (f : Nat) : Option CFunc := match f with
  | 95 => some cf95
  | _ => none
def tab (f : Nat) : Option CFunc :=
  match f with
  | 3 => some cf3
  | 5 => some cf5
  | 8 => some cf8
  | 9 => some cf9
  | 10 => some cf10
  | 11 => some cf11
  | 12 => some cf12
  | 13 => some cf13
  | 14 => some cf14
  | 17 => some cf17
  | 18 => some cf18
  | 23 => some cf23
  | 24 => some cf24
  | 25 => some cf25
  | 26 => some cf26
  | 27 => some cf27
  | 28 => some cf28
  | 29 => some cf29
  | 36 => some cf36
  | 37 => some cf37
  | 38 => some cf38
  | 39 => some cf39
  | 40 => some cf40
  | 41 => some cf41
  | 42 => some cf42
  | 43 => some cf43
  | 44 => some cf44
  | 45 => some cf45
  | 46 => some cf46
  | 47 => some cf47
  | 48 => some cf48
  | 49 => some cf49
  | 50 => some cf50
  | 51 => some cf51
  | 52 => some cf52
  | 53 => some cf53
  | 54 => some cf54
  | 55 => some cf55
  | 56 => some cf56
  | 59 => some cf59
  | 60 => some cf60
  | 61 => some cf61
  | 64 => some cf64
  | 65 => some cf65
  | 66 => some cf66
  | 67 => some cf67
  | 68 => some cf68
  | 69 => some cf69
  | 70 => some cf70
  | 71 => some cf71
  | 72 => some cf72
  | 73 => some cf73
  | 74 => some cf74
  | 75 => some cf75
  | 78 => some cf78
  | 79 => some cf79
  | 89 => some cf89
  | 90 => some cf90
  | 91 => some cf91
  | 92 => some cf92
  | 93 => some cf93
  | 94 => some cf94
  | 95 => some cf95
  | 96 => some cf96
  | 97 => some cf97
  | 98 => some cf98
  | 99 => some cf99
  | 100 => some cf100
  | 101 => some cf101
  | 102 => some cf102
  | 103 => some cf103
  | 104 => some cf104
  | 105 => some cf105
  | 106 => some cf106
  | 107 => some cf107
  | 108 => some cf108
  | 111 => some cf111
  | 112 => some cf112
  | 113 => some cf113
  | 114 => some cf114
  | 115 => some cf115
  | 116 => some cf116
  | 117 => some cf117
  | 118 => some cf118
  | 119 => some cf119
  | 120 => some cf120
  | 121 => some cf121
  | 128 => some cf128
  | 130 => some cf130
  | 131 => some cf131
  | 132 => some cf132
  | 134 => some cf134
  | 135 => some cf135
  | 136 => some cf136
  | 142 => some cf142
  | 144 => some cf144
  | 145 => some cf145
  | 150 => some cf150
  | 151 => some cf151
  | 154 => some cf154
  | 155 => some cf155
  | 156 => some cf156
  | 157 => some cf157
  | 158 => some cf158
  | 159 => some cf159
  | 160 => some cf160
  | 161 => some cf161
  | 162 => some cf162
  | 163 => some cf163
  | 164 => some cf164
  | 166 => some cf166
  | 167 => some cf167
  | 168 => some cf168
  | 169 => some cf169
  | 170 => some cf170
  | 171 => some cf171
  | 172 => some cf172
  | _ => none
set_option maxRecDepth 100000 in
theorem tab_le : LeF tab (compX Tryz.prog xs) := by
  intro f cf h
  unfold tab at h
  split at h
  · rw [← h]; exact cf3_ok
  · rw [← h]; exact cf5_ok
  · rw [← h]; exact cf8_ok
  · rw [← h]; exact cf9_ok
  · rw [← h]; exact cf10_ok
  · rw [← h]; exact cf11_ok
  · rw [← h]; exact cf12_ok
  · rw [← h]; exact cf13_ok
  · rw [← h]; exact cf14_ok
  · rw [← h]; exact cf17_ok
  · rw [← h]; exact cf18_ok
  · rw [← h]; exact cf23_ok
  · rw [← h]; exact cf24_ok
  · rw [← h]; exact cf25_ok
  · rw [← h]; exact cf26_ok
  · rw [← h]; exact cf27_ok
  · rw [← h]; exact cf28_ok
  · rw [← h]; exact cf29_ok
  · rw [← h]; exact cf36_ok
  · rw [← h]; exact cf37_ok
  · rw [← h]; exact cf38_ok
  · rw [← h]; exact cf39_ok
  · rw [← h]; exact cf40_ok
  · rw [← h]; exact cf41_ok
  · rw [← h]; exact cf42_ok
  · rw [← h]; exact cf43_ok
  · rw [← h]; exact cf44_ok
  · rw [← h]; exact cf45_ok
  · rw [← h]; exact cf46_ok
  · rw [← h]; exact cf47_ok
  · rw [← h]; exact cf48_ok
  · rw [← h]; exact cf49_ok
  · rw [← h]; exact cf50_ok
  · rw [← h]; exact cf51_ok
  · rw [← h]; exact cf52_ok
  · rw [← h]; exact cf53_ok
  · rw [← h]; exact cf54_ok
  · rw [← h]; exact cf55_ok
  · rw [← h]; exact cf56_ok
  · rw [← h]; exact cf59_ok
  · rw [← h]; exact cf60_ok
  · rw [← h]; exact cf61_ok
  · rw [← h]; exact cf64_ok
  · rw [← h]; exact cf65_ok
  · rw [← h]; exact cf66_ok
  · rw [← h]; exact cf67_ok
  · rw [← h]; exact cf68_ok
  · rw [← h]; exact cf69_ok
  · rw [← h]; exact cf70_ok
  · rw [← h]; exact cf71_ok
  · rw [← h]; exact cf72_ok
  · rw [← h]; exact cf73_ok
  · rw [← h]; exact cf74_ok
  · rw [← h]; exact cf75_ok
  · rw [← h]; exact cf78_ok
  · rw [← h]; exact cf79_ok
  · rw [← h]; exact cf89_ok
  · rw [← h]; exact cf90_ok
  · rw [← h]; exact cf91_ok
  · rw [← h]; exact cf92_ok
  · rw [← h]; exact cf93_ok
  · rw [← h]; exact cf94_ok
  · rw [← h]; rfl
  · rw [← h]; exact cf96_ok
  · rw [← h]; exact cf97_ok
  · rw [← h]; exact cf98_ok
  · rw [← h]; exact cf99_ok
  · rw [← h]; exact cf100_ok
  · rw [← h]; exact cf101_ok
  · rw [← h]; exact cf102_ok
  · rw [← h]; exact cf103_ok
  · rw [← h]; exact cf104_ok
  · rw [← h]; exact cf105_ok
  · rw [← h]; exact cf106_ok
  · rw [← h]; exact cf107_ok
  · rw [← h]; exact cf108_ok
  · rw [← h]; exact cf111_ok
  · rw [← h]; exact cf112_ok
  · rw [← h]; exact cf113_ok
  · rw [← h]; exact cf114_ok
  · rw [← h]; exact cf115_ok
  · rw [← h]; exact cf116_ok
  · rw [← h]; exact cf117_ok
  · rw [← h]; exact cf118_ok
  · rw [← h]; exact cf119_ok
  · rw [← h]; exact cf120_ok
  · rw [← h]; exact cf121_ok
  · rw [← h]; exact cf128_ok
  · rw [← h]; exact cf130_ok
  · rw [← h]; exact cf131_ok
  · rw [← h]; exact cf132_ok
  · rw [← h]; exact cf134_ok
  · rw [← h]; exact cf135_ok
  · rw [← h]; exact cf136_ok
  · rw [← h]; exact cf142_ok
  · rw [← h]; exact cf144_ok
  · rw [← h]; exact cf145_ok
  · rw [← h]; exact cf150_ok
  · rw [← h]; exact cf151_ok
  · rw [← h]; exact cf154_ok
  · rw [← h]; exact cf155_ok
  · rw [← h]; exact cf156_ok
  · rw [← h]; exact cf157_ok
  · rw [← h]; exact cf158_ok
  · rw [← h]; exact cf159_ok
  · rw [← h]; exact cf160_ok
  · rw [← h]; exact cf161_ok
  · rw [← h]; exact cf162_ok
  · rw [← h]; exact cf163_ok
  · rw [← h]; exact cf164_ok
  · rw [← h]; exact cf166_ok
  · rw [← h]; exact cf167_ok
  · rw [← h]; exact cf168_ok
  · rw [← h]; exact cf169_ok
  · rw [← h]; exact cf170_ok
  · rw [← h]; exact cf171_ok
  · rw [← h]; exact cf172_ok
  · cases h
end Go.Proofs.YtfllmhjjfapnmaaGreat

