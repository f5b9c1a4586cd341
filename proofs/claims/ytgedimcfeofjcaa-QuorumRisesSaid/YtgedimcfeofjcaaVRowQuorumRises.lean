/- The row of the law QuorumRises. -/
import Derived.Test.YtgedimcfeofjcaaVLawRises
import Derived.Test.YtgedimcfeofjcaaRows
namespace Go.Proofs.Ytgedimcfeofjcaa
open Go Go.VI Go.RowKit

theorem quorumRises_own : ownKnob Try.prog.godebug = none := by kernel_rfl
theorem quorumRises_laidOut : laidOutB Try.prog = true := by kernel_rfl

set_option maxRecDepth 100000 in
theorem quorumRises_lifted (os : Os) (started : os.Started) (H : Type) (enc : TypeId × Value → H) :
    ReturnsInHanded {} Try.checked os 6 .any (Rows.quorumRisesSpec.pre6 enc Try.prog Try.f6 Rows.quorumRisesRow.domain false) (Rows.quorumRisesSpec.post enc Try.prog Try.f6 false true false false) :=
  law_lifted (C := Try.checked) (d := 9) quorumRises_own started (by kernel_rfl) Try.func6
    (ChangeSpec.witness6 (enc := enc) (C := Try.checked) false ⟨#[], #[.slice none 0 0, .slice none 0 0, .int .u8 0], []⟩ 8 (by kernel_rfl) (by kernel_rfl) (by kernel_rfl) (by kernel_rfl))
    rfl rfl rfl (by kernel_rfl) (by intro ds h; match ds, h with | [_, _, _], _ => rfl) quorumRises_laidOut (by kernel_rfl) (by kernel_rfl) quorumRises_walk

theorem quorumRises_holds : Rows.QuorumRisesSaid :=
  OpenClaim.holds_of_wide 6 Try.f6 rfl rfl rfl rfl rfl rfl rfl ⟨rfl, rfl, rfl, rfl, rfl⟩ rfl rfl rfl rfl rfl (by kernel_rfl) Try.func6 (by kernel_rfl)
    (of_decide_eq_true (by kernel_rfl)) (by unfold Func.isWrapper; first | (rw [if_pos (by decide +kernel)]; kernel_rfl) | (rw [if_neg (by decide +kernel)]; exact ⟨rfl, rfl⟩))
    (fun os started H enc _ => quorumRises_lifted os started H enc)
end Go.Proofs.Ytgedimcfeofjcaa
