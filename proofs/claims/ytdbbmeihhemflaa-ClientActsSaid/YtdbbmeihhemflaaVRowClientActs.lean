/- The row of the law ClientActs. -/
import Derived.Test.YtdbbmeihhemflaaVLawActs2
import Derived.Test.YtdbbmeihhemflaaRows
namespace Go.Proofs.Ytdbbmeihhemflaa
open Go Go.VI Go.RowKit

theorem clientActs_own : ownKnob Try.prog.godebug = none := by kernel_rfl
theorem clientActs_laidOut : laidOutB Try.prog = true := by kernel_rfl

set_option maxRecDepth 100000 in
theorem clientActs_lifted (os : Os) (started : os.Started) (H : Type) (enc : TypeId × Value → H) :
    ReturnsInHanded {} Try.checked os 3 .any (Rows.clientActsSpec.pre6 enc Try.prog Try.f3 Rows.clientActsRow.domain false) (Rows.clientActsSpec.post enc Try.prog Try.f3 false true false false) :=
  law_lifted (C := Try.checked) xs_ok (d := 9) clientActs_own started (by kernel_rfl) Try.func3
    (ChangeSpec.witness6 (enc := enc) (C := Try.checked) false ⟨#[], #[.int .i64 0, .int .i64 1, .slice none 0 0], []⟩ 8 (by kernel_rfl) (by kernel_rfl) (by kernel_rfl) (by kernel_rfl))
    rfl rfl rfl (by kernel_rfl) (by intro ds h; match ds, h with | [_, _, _], _ => rfl) clientActs_laidOut (by kernel_rfl) (by kernel_rfl) clientActs_walk

theorem clientActs_holds : Rows.ClientActsSaid :=
  OpenClaim.holds_of_wide 3 Try.f3 rfl rfl rfl rfl rfl rfl rfl ⟨rfl, rfl, rfl, rfl, rfl⟩ rfl rfl rfl rfl rfl (by kernel_rfl) Try.func3 (by kernel_rfl)
    (of_decide_eq_true (by kernel_rfl)) (by unfold Func.isWrapper; first | (rw [if_pos (by decide +kernel)]; kernel_rfl) | (rw [if_neg (by decide +kernel)]; exact ⟨rfl, rfl⟩))
    (fun os started H enc _ => clientActs_lifted os started H enc)
end Go.Proofs.Ytdbbmeihhemflaa
