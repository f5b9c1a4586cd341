/- The row of the law QuorumCommits. -/
import Derived.Test.YtgedimcfeofjcaaVLawCommits
import Derived.Test.YtgedimcfeofjcaaRows
namespace Go.Proofs.Ytgedimcfeofjcaa
open Go Go.VI Go.RowKit

theorem quorumCommits_own : ownKnob Try.prog.godebug = none := by kernel_rfl
theorem quorumCommits_laidOut : laidOutB Try.prog = true := by kernel_rfl

set_option maxRecDepth 100000 in
theorem quorumCommits_lifted (os : Os) (started : os.Started) (H : Type) (enc : TypeId × Value → H) :
    ReturnsInHanded {} Try.checked os 5 .any (Rows.quorumCommitsSpec.pre6 enc Try.prog Try.f5 Rows.quorumCommitsRow.domain false) (Rows.quorumCommitsSpec.post enc Try.prog Try.f5 false true false false) :=
  law_lifted (C := Try.checked) (d := 9) quorumCommits_own started (by kernel_rfl) Try.func5
    (ChangeSpec.witness6 (enc := enc) (C := Try.checked) false ⟨#[], #[.slice none 0 0, .slice none 0 0], []⟩ 8 (by kernel_rfl) (by kernel_rfl) (by kernel_rfl) (by kernel_rfl))
    rfl rfl rfl (by kernel_rfl) (by intro ds h; match ds, h with | [_, _], _ => rfl) quorumCommits_laidOut (by kernel_rfl) (by kernel_rfl) quorumCommits_walk

theorem quorumCommits_holds : Rows.QuorumCommitsSaid :=
  OpenClaim.holds_of_wide 5 Try.f5 rfl rfl rfl rfl rfl rfl rfl ⟨rfl, rfl, rfl, rfl, rfl⟩ rfl rfl rfl rfl rfl (by kernel_rfl) Try.func5 (by kernel_rfl)
    (of_decide_eq_true (by kernel_rfl)) (by unfold Func.isWrapper; first | (rw [if_pos (by decide +kernel)]; kernel_rfl) | (rw [if_neg (by decide +kernel)]; exact ⟨rfl, rfl⟩))
    (fun os started H enc _ => quorumCommits_lifted os started H enc)
end Go.Proofs.Ytgedimcfeofjcaa
