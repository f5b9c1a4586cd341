/- The row of the law RlogFull. -/
import Derived.Test.YtfghbndlpppkcaaVBack2
import Derived.Test.YtfghbndlpppkcaaVLawFull
import Derived.Test.YtfghbndlpppkcaaRows
namespace Go.Proofs.Ytfghbndlpppkcaa
open Go Go.VI Go.RowKit

theorem rlogFull_own : ownKnob Try.prog.godebug = none := by kernel_rfl
theorem rlogFull_laidOut : laidOutB Try.prog = true := by kernel_rfl

set_option maxRecDepth 100000 in
theorem rlogFull_lifted (os : Os) (started : os.Started) (H : Type) (enc : TypeId × Value → H) :
    ReturnsInHanded {} Try.checked os 5 .any (Rows.rlogFullSpec.pre6 enc Try.prog Try.f5 Rows.rlogFullRow.domain false) (Rows.rlogFullSpec.post enc Try.prog Try.f5 false true false false) :=
  law_lifted (C := Try.checked) xs_ok (d := 9) rlogFull_own started (by kernel_rfl) Try.func5
    (ChangeSpec.witness6 (enc := enc) (C := Try.checked) false ⟨#[], #[.int .u8 0], []⟩ 8 (by kernel_rfl) (by kernel_rfl) (by kernel_rfl) (by kernel_rfl))
    rfl rfl rfl (by kernel_rfl) (by intro ds h; match ds, h with | [_], _ => rfl) rlogFull_laidOut (by kernel_rfl) (by kernel_rfl) rlogFull_walk

theorem rlogFull_holds : Rows.RlogFullSaid :=
  OpenClaim.holds_of_wide 5 Try.f5 rfl rfl rfl rfl rfl rfl rfl ⟨rfl, rfl, rfl, rfl, rfl⟩ rfl rfl rfl rfl rfl (by kernel_rfl) Try.func5 (by kernel_rfl)
    (of_decide_eq_true (by kernel_rfl)) (by unfold Func.isWrapper; first | (rw [if_pos (by decide +kernel)]; kernel_rfl) | (rw [if_neg (by decide +kernel)]; exact ⟨rfl, rfl⟩))
    (fun os started H enc _ => rlogFull_lifted os started H enc)
end Go.Proofs.Ytfghbndlpppkcaa
