/- The row of the law HistoryFenced. -/
import Derived.Test.YtmjgakhnhjpclaaGreatVZLawFenced
import Derived.Test.YtmjgakhnhjpclaaGreatRows
import Derived.Test.YtmjgakhnhjpclaaGreatVZVE
namespace Go.Proofs.YtmjgakhnhjpclaaGreat
open Go Go.VI Go.RowKit
theorem historyFenced_own : ownKnob Tryz.prog.godebug = none := by kernel_rfl
theorem historyFenced_laidOut : laidOutB Tryz.prog = true := by kernel_rfl
set_option maxRecDepth 100000 in
theorem historyFenced_lifted (os : Os) (started : os.Started) (H : Type) (enc : TypeId × Value → H) :
    ReturnsInHanded {} Tryz.checked os 3 .any (Rows.historyFencedSpec.pre6 enc Tryz.prog Tryz.f3 Rows.historyFencedRow.domain false) (Rows.historyFencedSpec.post enc Tryz.prog Tryz.f3 false true false false) :=
  law_lifted (C := Tryz.checked) xs_ok (d := 9) historyFenced_own started (by kernel_rfl) Tryz.func3
    (ChangeSpec.witness6 (enc := enc) (C := Tryz.checked) false ⟨#[], #[.slice none 0 0], []⟩ 8 (by kernel_rfl) (by kernel_rfl) (by kernel_rfl) (by kernel_rfl))
    rfl rfl rfl (by kernel_rfl) (by intro ds h; match ds, h with | [_], _ => rfl) historyFenced_laidOut (by kernel_rfl) (by kernel_rfl) historyFenced_walk
theorem historyFenced_holds : Rows.HistoryFencedSaid :=
  OpenClaim.holds_of_wide 3 Tryz.f3 rfl rfl rfl rfl rfl rfl rfl ⟨rfl, rfl, rfl, rfl, rfl⟩ rfl rfl rfl rfl rfl (by kernel_rfl) Tryz.func3 (by kernel_rfl)
    (of_decide_eq_true (by kernel_rfl)) (by unfold Func.isWrapper; first | (rw [if_pos (by decide +kernel)]; kernel_rfl) | (rw [if_neg (by decide +kernel)]; exact ⟨rfl, rfl⟩))
    (fun os started H enc _ => historyFenced_lifted os started H enc)
end Go.Proofs.YtmjgakhnhjpclaaGreat

