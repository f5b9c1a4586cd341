/- The row of the law TableAll. -/
import Derived.Test.YthibbbfhkfebkaaVZLawAll
import Derived.Test.YthibbbfhkfebkaaRows
import Derived.Test.YthibbbfhkfebkaaVZVE
namespace Go.Proofs.Ythibbbfhkfebkaa
open Go Go.VI Go.RowKit
theorem tableAll_own : ownKnob Try.prog.godebug = none := by kernel_rfl
theorem tableAll_laidOut : laidOutB Try.prog = true := by kernel_rfl
set_option maxRecDepth 100000 in
theorem tableAll_lifted (os : Os) (started : os.Started) (H : Type) (enc : TypeId × Value → H) :
    ReturnsInHanded {} Try.checked os 3 .any (Rows.tableAllSpec.pre6 enc Try.prog Try.f3 Rows.tableAllRow.domain false) (Rows.tableAllSpec.post enc Try.prog Try.f3 false true false false) :=
  law_lifted (C := Try.checked) xs_ok (d := 9) tableAll_own started (by kernel_rfl) Try.func3
    (ChangeSpec.witness6 (enc := enc) (C := Try.checked) false ⟨#[], #[.agg #[.int .i64 0, .slice none 0 0, .slice none 0 0, .slice none 0 0, .slice none 0 0, .slice none 0 0], .agg #[.int .i64 0, .int .u64 0, .int .i64 0, .slice none 0 0, .int .u64 0, .int .i64 0, .int .u64 0]], []⟩ 8 (by kernel_rfl) (by kernel_rfl) (by kernel_rfl) (by kernel_rfl))
    rfl rfl rfl (by kernel_rfl) (by intro ds h; match ds, h with | [_, _], _ => rfl) tableAll_laidOut (by kernel_rfl) (by kernel_rfl) tableAll_walk
theorem tableAll_holds : Rows.TableAllSaid :=
  OpenClaim.holds_of_wide 3 Try.f3 rfl rfl rfl rfl rfl rfl rfl ⟨rfl, rfl, rfl, rfl, rfl⟩ rfl rfl rfl rfl rfl (by kernel_rfl) Try.func3 (by kernel_rfl)
    (of_decide_eq_true (by kernel_rfl)) (by unfold Func.isWrapper; first | (rw [if_pos (by decide +kernel)]; kernel_rfl) | (rw [if_neg (by decide +kernel)]; exact ⟨rfl, rfl⟩))
    (fun os started H enc _ => tableAll_lifted os started H enc)
end Go.Proofs.Ythibbbfhkfebkaa

