/- The row of the law HistoryChecks. -/
import Derived.Test.YtmjgakhnhjpclaaVZLawChecks
import Derived.Test.YtmjgakhnhjpclaaRows
import Derived.Test.YtmjgakhnhjpclaaVZVE
namespace Go.Proofs.Ytmjgakhnhjpclaa
open Go Go.VI Go.RowKit
theorem historyChecks_own : ownKnob Try.prog.godebug = none := by kernel_rfl
theorem historyChecks_laidOut : laidOutB Try.prog = true := by kernel_rfl
set_option maxRecDepth 100000 in
theorem historyChecks_lifted (os : Os) (started : os.Started) (H : Type) (enc : TypeId × Value → H) :
    ReturnsInHanded {} Try.checked os 3 .any (Rows.historyChecksSpec.pre6 enc Try.prog Try.f3 Rows.historyChecksRow.domain false) (Rows.historyChecksSpec.post enc Try.prog Try.f3 false true false false) :=
  law_lifted (C := Try.checked) xs_ok (d := 9) historyChecks_own started (by kernel_rfl) Try.func3
    (ChangeSpec.witness6 (enc := enc) (C := Try.checked) false ⟨#[], #[.slice none 0 0], []⟩ 8 (by kernel_rfl) (by kernel_rfl) (by kernel_rfl) (by kernel_rfl))
    rfl rfl rfl (by kernel_rfl) (by intro ds h; match ds, h with | [_], _ => rfl) historyChecks_laidOut (by kernel_rfl) (by kernel_rfl) historyChecks_walk
theorem historyChecks_holds : Rows.HistoryChecksSaid :=
  OpenClaim.holds_of_wide 3 Try.f3 rfl rfl rfl rfl rfl rfl rfl ⟨rfl, rfl, rfl, rfl, rfl⟩ rfl rfl rfl rfl rfl (by kernel_rfl) Try.func3 (by kernel_rfl)
    (of_decide_eq_true (by kernel_rfl)) (by unfold Func.isWrapper; first | (rw [if_pos (by decide +kernel)]; kernel_rfl) | (rw [if_neg (by decide +kernel)]; exact ⟨rfl, rfl⟩))
    (fun os started H enc _ => historyChecks_lifted os started H enc)
end Go.Proofs.Ytmjgakhnhjpclaa

