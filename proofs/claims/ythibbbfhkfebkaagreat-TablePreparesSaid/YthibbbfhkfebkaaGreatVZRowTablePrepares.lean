/- The row of the law TablePrepares. -/
import Derived.Test.YthibbbfhkfebkaaGreatVZLawPrepares
import Derived.Test.YthibbbfhkfebkaaGreatRows
import Derived.Test.YthibbbfhkfebkaaGreatVZVE
namespace Go.Proofs.YthibbbfhkfebkaaGreat
open Go Go.VI Go.RowKit
theorem tablePrepares_own : ownKnob Tryz.prog.godebug = none := by kernel_rfl
theorem tablePrepares_laidOut : laidOutB Tryz.prog = true := by kernel_rfl
set_option maxRecDepth 100000 in
theorem tablePrepares_lifted (os : Os) (started : os.Started) (H : Type) (enc : TypeId × Value → H) :
    ReturnsInHanded {} Tryz.checked os 3 .any (Rows.tablePreparesSpec.pre6 enc Tryz.prog Tryz.f3 Rows.tablePreparesRow.domain false) (Rows.tablePreparesSpec.post enc Tryz.prog Tryz.f3 false true false false) :=
  law_lifted (C := Tryz.checked) xs_ok (d := 9) tablePrepares_own started (by kernel_rfl) Tryz.func3
    (ChangeSpec.witness6 (enc := enc) (C := Tryz.checked) false ⟨#[], #[.agg #[.int .i64 0, .slice none 0 0, .slice none 0 0, .slice none 0 0, .slice none 0 0, .slice none 0 0], .agg #[.int .i64 0, .int .u64 0, .int .i64 0, .slice none 0 0, .int .u64 0, .int .i64 0, .int .u64 0]], []⟩ 8 (by kernel_rfl) (by kernel_rfl) (by kernel_rfl) (by kernel_rfl))
    rfl rfl rfl (by kernel_rfl) (by intro ds h; match ds, h with | [_, _], _ => rfl) tablePrepares_laidOut (by kernel_rfl) (by kernel_rfl) tablePrepares_walk
theorem tablePrepares_holds : Rows.TablePreparesSaid :=
  OpenClaim.holds_of_wide 3 Tryz.f3 rfl rfl rfl rfl rfl rfl rfl ⟨rfl, rfl, rfl, rfl, rfl⟩ rfl rfl rfl rfl rfl (by kernel_rfl) Tryz.func3 (by kernel_rfl)
    (of_decide_eq_true (by kernel_rfl)) (by unfold Func.isWrapper; first | (rw [if_pos (by decide +kernel)]; kernel_rfl) | (rw [if_neg (by decide +kernel)]; exact ⟨rfl, rfl⟩))
    (fun os started H enc _ => tablePrepares_lifted os started H enc)
end Go.Proofs.YthibbbfhkfebkaaGreat

