/- The row of the law RlogKeeps, the second form. -/
import Derived.Test.YtfghbndlpppkcaaVBack2
import Derived.Test.YtfghbndlpppkcaaVLawKeeps
import Derived.Test.YtfghbndlpppkcaaVUpto
namespace Go.Proofs.Ytfghbndlpppkcaa
open Go Go.VI Go.RowKit

theorem rlogKeeps_own : ownKnob Try.prog.godebug = none := by kernel_rfl
theorem rlogKeeps_laidOut : laidOutB Try.prog = true := by kernel_rfl

set_option maxRecDepth 100000 in
theorem rlogKeeps_lifted (os : Os) (started : os.Started) (H : Type) (enc : TypeId × Value → H) (F : Stop.Interp) :
    ReturnsInHanded {} Try.checked os 6 .any ((Rows.OpenSpec.upto Rows.rlogKeepsSpec).pre6 enc Try.prog Try.f6 Rows.rlogKeepsUptoRow.domain false) (((Rows.OpenSpec.upto Rows.rlogKeepsSpec).at F).post enc Try.prog Try.f6 false true false false) :=
  law_upto (C := Try.checked) xs_ok (d := 9) rlogKeeps_own started (by kernel_rfl) Try.func6
    (OpenSpec.witness (enc := enc) (C := Try.checked) (s := Rows.OpenSpec.upto Rows.rlogKeepsSpec) (k := Rows.uptoSmall) rfl false ⟨#[], #[.agg #[.int .u64 0, .int .u64 0, .int .i64 0, .slice none 0 0, .slice none 0 0], .agg #[.int .u64 0, .int .u64 0, .int .i64 0, .slice none 0 0], .slice none 0 0], []⟩ 8 (by kernel_rfl) (by kernel_rfl) (by kernel_rfl)
      (x := ([.agg [.agg [.lit (.int .u64 0), .lit (.int .u64 0), .lit (.int .i64 0), .nil], .nil], .agg [.lit (.int .u64 0), .lit (.int .u64 0), .lit (.int .i64 0), .nil], .nil], [], [])) (by kernel_rfl) rfl (by kernel_rfl))
    rfl rfl rfl (by kernel_rfl) (by intro ds h; match ds, h with | [_, _, _], _ => rfl) rlogKeeps_laidOut (by kernel_rfl) (by kernel_rfl) (by kernel_rfl) rlogKeeps_walk

theorem rlogKeeps_upto : Rows.RlogKeepsUptoSaid :=
  OpenClaim.holds_of_cond 6 Try.f6 rfl rfl rfl rfl rfl rfl rfl ⟨rfl, rfl, rfl, rfl, rfl⟩ rfl rfl rfl rfl rfl (by kernel_rfl) Try.func6 (by kernel_rfl)
    (of_decide_eq_true (by kernel_rfl)) (by unfold Func.isWrapper; first | (rw [if_pos (by decide +kernel)]; kernel_rfl) | (rw [if_neg (by decide +kernel)]; exact ⟨rfl, rfl⟩))
    (fun os started H enc _ F => rlogKeeps_lifted os started H enc F)
end Go.Proofs.Ytfghbndlpppkcaa
