/- The row of the law RlogTells, the second form. -/
import Derived.Test.YtfghbndlpppkcaaVBack2
import Derived.Test.YtfghbndlpppkcaaVLawTells
import Derived.Test.YtfghbndlpppkcaaVUpto
namespace Go.Proofs.Ytfghbndlpppkcaa
open Go Go.VI Go.RowKit

theorem rlogTells_own : ownKnob Try.prog.godebug = none := by kernel_rfl
theorem rlogTells_laidOut : laidOutB Try.prog = true := by kernel_rfl

set_option maxRecDepth 100000 in
theorem rlogTells_lifted (os : Os) (started : os.Started) (H : Type) (enc : TypeId × Value → H) (F : Stop.Interp) :
    ReturnsInHanded {} Try.checked os 7 .any ((Rows.OpenSpec.upto Rows.rlogTellsSpec).pre6 enc Try.prog Try.f7 Rows.rlogTellsUptoRow.domain false) (((Rows.OpenSpec.upto Rows.rlogTellsSpec).at F).post enc Try.prog Try.f7 false true false false) :=
  law_upto (C := Try.checked) xs_ok (d := 9) rlogTells_own started (by kernel_rfl) Try.func7
    (OpenSpec.witness (enc := enc) (C := Try.checked) (s := Rows.OpenSpec.upto Rows.rlogTellsSpec) (k := Rows.uptoSmall) rfl false ⟨#[], #[.agg #[.int .u64 0, .int .u64 0, .int .i64 0, .slice none 0 0, .slice none 0 0], .int .u64 0, .agg #[.int .i64 0, .int .i64 0]], []⟩ 8 (by kernel_rfl) (by kernel_rfl) (by kernel_rfl)
      (x := ([.agg [.agg [.lit (.int .u64 0), .lit (.int .u64 0), .lit (.int .i64 0), .nil], .nil], .lit (.int .u64 0), .agg [.lit (.int .i64 0), .lit (.int .i64 0)]], [], [])) (by kernel_rfl) rfl (by kernel_rfl))
    rfl rfl rfl (by kernel_rfl) (by intro ds h; match ds, h with | [_, _, _], _ => rfl) rlogTells_laidOut (by kernel_rfl) (by kernel_rfl) (by kernel_rfl) rlogTells_walk

theorem rlogTells_upto : Rows.RlogTellsUptoSaid :=
  OpenClaim.holds_of_cond 7 Try.f7 rfl rfl rfl rfl rfl rfl rfl ⟨rfl, rfl, rfl, rfl, rfl⟩ rfl rfl rfl rfl rfl (by kernel_rfl) Try.func7 (by kernel_rfl)
    (of_decide_eq_true (by kernel_rfl)) (by unfold Func.isWrapper; first | (rw [if_pos (by decide +kernel)]; kernel_rfl) | (rw [if_neg (by decide +kernel)]; exact ⟨rfl, rfl⟩))
    (fun os started H enc _ F => rlogTells_lifted os started H enc F)
end Go.Proofs.Ytfghbndlpppkcaa
