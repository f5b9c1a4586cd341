/- The row of the law TableFinishes. -/
import Derived.Test.YthibbbfhkfebkaaGreatVZLawFinishes
import Derived.Test.YthibbbfhkfebkaaGreatRows
import Derived.Test.YthibbbfhkfebkaaGreatVZVE
namespace Go.Proofs.YthibbbfhkfebkaaGreat
open Go Go.VI Go.RowKit
theorem tableFinishes_own : ownKnob Tryz.prog.godebug = none := by kernel_rfl
theorem tableFinishes_laidOut : laidOutB Tryz.prog = true := by kernel_rfl
set_option maxRecDepth 100000 in
theorem tableFinishes_lifted (os : Os) (started : os.Started) (H : Type) (enc : TypeId × Value → H) :
    ReturnsInHanded {} Tryz.checked os 4 .any (Rows.tableFinishesSpec.pre6 enc Tryz.prog Tryz.f4 Rows.tableFinishesRow.domain false) (Rows.tableFinishesSpec.post enc Tryz.prog Tryz.f4 false true false false) :=
  law_lifted (C := Tryz.checked) xs_ok (d := 9) tableFinishes_own started (by kernel_rfl) Tryz.func4
    (ChangeSpec.witness6 (enc := enc) (C := Tryz.checked) false ⟨#[], #[.agg #[.int .i64 0, .slice none 0 0, .slice none 0 0, .slice none 0 0, .slice none 0 0, .slice none 0 0], .agg #[.int .i64 0, .int .u64 0], .bool false], []⟩ 8 (by kernel_rfl) (by kernel_rfl) (by kernel_rfl) (by kernel_rfl))
    rfl rfl rfl (by kernel_rfl) (by intro ds h; match ds, h with | [_, _, _], _ => rfl) tableFinishes_laidOut (by kernel_rfl) (by kernel_rfl) tableFinishes_walk
theorem tableFinishes_holds : Rows.TableFinishesSaid :=
  OpenClaim.holds_of_wide 4 Tryz.f4 rfl rfl rfl rfl rfl rfl rfl ⟨rfl, rfl, rfl, rfl, rfl⟩ rfl rfl rfl rfl rfl (by kernel_rfl) Tryz.func4 (by kernel_rfl)
    (of_decide_eq_true (by kernel_rfl)) (by unfold Func.isWrapper; first | (rw [if_pos (by decide +kernel)]; kernel_rfl) | (rw [if_neg (by decide +kernel)]; exact ⟨rfl, rfl⟩))
    (fun os started H enc _ => tableFinishes_lifted os started H enc)
end Go.Proofs.YthibbbfhkfebkaaGreat

