/- The row of the law ClientRefuses. -/
import Derived.Test.YtdbbmeihhemflaaVLawRefuses
import Derived.Test.YtdbbmeihhemflaaRows
namespace Go.Proofs.Ytdbbmeihhemflaa
open Go Go.VI Go.RowKit

theorem clientRefuses_own : ownKnob Try.prog.godebug = none := by kernel_rfl
theorem clientRefuses_laidOut : laidOutB Try.prog = true := by kernel_rfl

set_option maxRecDepth 100000 in
theorem clientRefuses_lifted (os : Os) (started : os.Started) (H : Type) (enc : TypeId × Value → H) :
    ReturnsInHanded {} Try.checked os 4 .any (Rows.clientRefusesSpec.pre6 enc Try.prog Try.f4 Rows.clientRefusesRow.domain false) (Rows.clientRefusesSpec.post enc Try.prog Try.f4 false true false false) :=
  law_lifted (C := Try.checked) xs_ok (d := 9) clientRefuses_own started (by kernel_rfl) Try.func4
    (ChangeSpec.witness6 (enc := enc) (C := Try.checked) false ⟨#[], #[.int .i64 0, .slice none 0 0], []⟩ 8 (by kernel_rfl) (by kernel_rfl) (by kernel_rfl) (by kernel_rfl))
    rfl rfl rfl (by kernel_rfl) (by intro ds h; match ds, h with | [_, _], _ => rfl) clientRefuses_laidOut (by kernel_rfl) (by kernel_rfl) clientRefuses_walk

theorem clientRefuses_holds : Rows.ClientRefusesSaid :=
  OpenClaim.holds_of_wide 4 Try.f4 rfl rfl rfl rfl rfl rfl rfl ⟨rfl, rfl, rfl, rfl, rfl⟩ rfl rfl rfl rfl rfl (by kernel_rfl) Try.func4 (by kernel_rfl)
    (of_decide_eq_true (by kernel_rfl)) (by unfold Func.isWrapper; first | (rw [if_pos (by decide +kernel)]; kernel_rfl) | (rw [if_neg (by decide +kernel)]; exact ⟨rfl, rfl⟩))
    (fun os started H enc _ => clientRefuses_lifted os started H enc)
end Go.Proofs.Ytdbbmeihhemflaa
