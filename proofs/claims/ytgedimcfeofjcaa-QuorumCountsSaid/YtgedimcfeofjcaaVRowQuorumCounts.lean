/- The row of the law QuorumCounts. -/
import Derived.Test.YtgedimcfeofjcaaVLawCounts
import Derived.Test.YtgedimcfeofjcaaRows
namespace Go.Proofs.Ytgedimcfeofjcaa
open Go Go.VI Go.RowKit

theorem quorumCounts_own : ownKnob Try.prog.godebug = none := by kernel_rfl
theorem quorumCounts_laidOut : laidOutB Try.prog = true := by kernel_rfl

set_option maxRecDepth 100000 in
theorem quorumCounts_lifted (os : Os) (started : os.Started) (H : Type) (enc : TypeId × Value → H) :
    ReturnsInHanded {} Try.checked os 3 .any (Rows.quorumCountsSpec.pre6 enc Try.prog Try.f3 Rows.quorumCountsRow.domain false) (Rows.quorumCountsSpec.post enc Try.prog Try.f3 false true false false) :=
  law_lifted (C := Try.checked) (d := 9) quorumCounts_own started (by kernel_rfl) Try.func3
    (ChangeSpec.witness6 (enc := enc) (C := Try.checked) false ⟨#[], #[.slice none 0 0, .slice none 0 0], []⟩ 8 (by kernel_rfl) (by kernel_rfl) (by kernel_rfl) (by kernel_rfl))
    rfl rfl rfl (by kernel_rfl) (by intro ds h; match ds, h with | [_, _], _ => rfl) quorumCounts_laidOut (by kernel_rfl) (by kernel_rfl) quorumCounts_walk

theorem quorumCounts_holds : Rows.QuorumCountsSaid :=
  OpenClaim.holds_of_wide 3 Try.f3 rfl rfl rfl rfl rfl rfl rfl ⟨rfl, rfl, rfl, rfl, rfl⟩ rfl rfl rfl rfl rfl (by kernel_rfl) Try.func3 (by kernel_rfl)
    (of_decide_eq_true (by kernel_rfl)) (by unfold Func.isWrapper; first | (rw [if_pos (by decide +kernel)]; kernel_rfl) | (rw [if_neg (by decide +kernel)]; exact ⟨rfl, rfl⟩))
    (fun os started H enc _ => quorumCounts_lifted os started H enc)
end Go.Proofs.Ytgedimcfeofjcaa
