/- The row of the law RaftProposes, the second form. -/
import Derived.Test.YtfllmhjjfapnmaaGreatVZWalkProposes
import Derived.Test.YtfllmhjjfapnmaaGreatVZBack2
import Derived.Test.YtfllmhjjfapnmaaGreatVZVE
namespace Go.Proofs.YtfllmhjjfapnmaaGreat
set_option maxRecDepth 100000
open Go Go.VI Go.RowKit
theorem raftProposes_own : ownKnob Tryz.prog.godebug = none := by kernel_rfl
theorem raftProposes_laidOut : laidOutB Tryz.prog = true := by kernel_rfl
set_option maxRecDepth 100000 in
theorem raftProposes_lifted (os : Os) (started : os.Started) (H : Type) (enc : TypeId × Value → H) (F : Stop.Interp) :
    ReturnsInHanded {} Tryz.checked os 5 .any ((Rows.OpenSpec.upto Rows.raftProposesSpec).pre6 enc Tryz.prog Tryz.f5 Rows.raftProposesUptoRow.domain false) (((Rows.OpenSpec.upto Rows.raftProposesSpec).at F).post enc Tryz.prog Tryz.f5 false true false false) :=
  law_upto (C := Tryz.checked) xs_ok (d := 9) raftProposes_own started (by kernel_rfl) Tryz.func5
    (OpenSpec.witness (enc := enc) (C := Tryz.checked) (s := Rows.OpenSpec.upto Rows.raftProposesSpec) (k := Rows.uptoSmall) rfl false ⟨#[], #[.agg #[.int .i64 0, .int .u64 0, .int .i64 0, .int .u64 0, .int .u64 0, .int .i64 0, .slice none 0 0, .slice none 0 0, .int .u64 0, .int .i64 0, .int .i64 0, .int .i64 0, .slice none 0 0, .slice none 0 0], .agg #[.int .u64 0, .int .u64 0, .int .i64 0, .slice none 0 0]], []⟩ 8 (by kernel_rfl) (by kernel_rfl) (by kernel_rfl)
      (x := ([.agg [.lit (.int .i64 0), .lit (.int .u64 0), .lit (.int .i64 0), .agg [.agg [.lit (.int .u64 0), .lit (.int .u64 0), .lit (.int .i64 0), .nil], .nil], .lit (.int .u64 0), .lit (.int .i64 0), .lit (.int .i64 0), .lit (.int .i64 0), .nil, .nil], .agg [.lit (.int .u64 0), .lit (.int .u64 0), .lit (.int .i64 0), .nil]], [], [])) (by kernel_rfl) rfl (by kernel_rfl))
    rfl rfl rfl (by kernel_rfl) (by intro ds h; match ds, h with | [_, _], _ => rfl) raftProposes_laidOut (by kernel_rfl) (by kernel_rfl) (by kernel_rfl) raftProposes_walk
theorem raftProposes_upto : Rows.RaftProposesUptoSaid :=
  OpenClaim.holds_of_cond 5 Tryz.f5 rfl rfl rfl rfl rfl rfl rfl ⟨rfl, rfl, rfl, rfl, rfl⟩ rfl rfl rfl rfl rfl (by kernel_rfl) Tryz.func5 (by kernel_rfl)
    (of_decide_eq_true (by kernel_rfl)) (by unfold Func.isWrapper; first | (rw [if_pos (by decide +kernel)]; kernel_rfl) | (rw [if_neg (by decide +kernel)]; exact ⟨rfl, rfl⟩))
    (fun os started H enc _ F => raftProposes_lifted os started H enc F)
end Go.Proofs.YtfllmhjjfapnmaaGreat

