/- The row of the law QuorumMeets. -/
import Derived.Test.YtgedimcfeofjcaaVLawMeets
import Derived.Test.YtgedimcfeofjcaaRows
namespace Go.Proofs.Ytgedimcfeofjcaa
open Go Go.VI Go.RowKit

theorem quorumMeets_own : ownKnob Try.prog.godebug = none := by kernel_rfl
theorem quorumMeets_laidOut : laidOutB Try.prog = true := by kernel_rfl

set_option maxRecDepth 100000 in
theorem quorumMeets_lifted (os : Os) (started : os.Started) (H : Type) (enc : TypeId × Value → H) :
    ReturnsInHanded {} Try.checked os 7 .any (Rows.quorumMeetsSpec.pre6 enc Try.prog Try.f7 Rows.quorumMeetsRow.domain false) (Rows.quorumMeetsSpec.post enc Try.prog Try.f7 false true false false) :=
  law_lifted (C := Try.checked) xs_ok (d := 9) quorumMeets_own started (by kernel_rfl) Try.func7
    (ChangeSpec.witness6 (enc := enc) (C := Try.checked) false ⟨#[], #[.slice none 0 0, .agg #[.int .i64 0, .int .i64 0], .agg #[.int .u8 0, .int .u8 0]], []⟩ 8 (by kernel_rfl) (by kernel_rfl) (by kernel_rfl) (by kernel_rfl))
    rfl rfl rfl (by kernel_rfl) (by intro ds h; match ds, h with | [_, _, _], _ => rfl) quorumMeets_laidOut (by kernel_rfl) (by kernel_rfl) quorumMeets_walk

theorem quorumMeets_holds : Rows.QuorumMeetsSaid :=
  OpenClaim.holds_of_wide 7 Try.f7 rfl rfl rfl rfl rfl rfl rfl ⟨rfl, rfl, rfl, rfl, rfl⟩ rfl rfl rfl rfl rfl (by kernel_rfl) Try.func7 (by kernel_rfl)
    (of_decide_eq_true (by kernel_rfl)) (by unfold Func.isWrapper; first | (rw [if_pos (by decide +kernel)]; kernel_rfl) | (rw [if_neg (by decide +kernel)]; exact ⟨rfl, rfl⟩))
    (fun os started H enc _ => quorumMeets_lifted os started H enc)
end Go.Proofs.Ytgedimcfeofjcaa
