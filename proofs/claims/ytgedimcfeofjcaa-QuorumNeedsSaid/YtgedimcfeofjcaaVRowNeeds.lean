/- The row of the law QuorumNeeds. -/
import Derived.Test.YtgedimcfeofjcaaVNeeds
import Derived.Test.YtgedimcfeofjcaaRows
namespace Go.Proofs.Ytgedimcfeofjcaa
open Go Go.VI Go.RowKit

theorem own : ownKnob Try.prog.godebug = none := by kernel_rfl
theorem laidOut : laidOutB Try.prog = true := by kernel_rfl

theorem quorumNeeds_walk : ∀ avs, TyVs Try.prog 9 Try.f4.params.toList avs → ∃ k s', run (comp Try.prog) k 4 avs Mem.zero = some (.bool true, s') := by
  intro avs h
  obtain ⟨c, _, rfl, h1, rfl⟩ := h
  obtain ⟨n, rfl, hn⟩ := TyV.int (k := .i64) (by kernel_rfl) h1
  exact C_run (needs_c n hn) tab_le

set_option maxRecDepth 100000 in
theorem quorumNeeds_lifted (os : Os) (started : os.Started) (H : Type) (enc : TypeId × Value → H) :
    ReturnsInHanded {} Try.checked os 4 .any (Rows.quorumNeedsSpec.pre6 enc Try.prog Try.f4 Rows.quorumNeedsRow.domain false) (Rows.quorumNeedsSpec.post enc Try.prog Try.f4 false true false false) :=
  law_lifted (C := Try.checked) (d := 9) own started (by kernel_rfl) Try.func4
    (ChangeSpec.witness6 (enc := enc) (C := Try.checked) false ⟨#[], #[.int .i64 0], []⟩ 8 (by kernel_rfl) (by kernel_rfl) (by kernel_rfl) (by kernel_rfl))
    rfl rfl rfl (by kernel_rfl) (by intro ds h; match ds, h with | [_], _ => rfl) laidOut (by kernel_rfl) (by kernel_rfl) quorumNeeds_walk

theorem quorumNeeds_holds : Rows.QuorumNeedsSaid :=
  OpenClaim.holds_of_wide 4 Try.f4 rfl rfl rfl rfl rfl rfl rfl ⟨rfl, rfl, rfl, rfl, rfl⟩ rfl rfl rfl rfl rfl (by kernel_rfl) Try.func4 (by kernel_rfl)
    (of_decide_eq_true (by kernel_rfl)) (by unfold Func.isWrapper; first | (rw [if_pos (by decide +kernel)]; kernel_rfl) | (rw [if_neg (by decide +kernel)]; exact ⟨rfl, rfl⟩))
    (fun os started H enc _ => quorumNeeds_lifted os started H enc)
end Go.Proofs.Ytgedimcfeofjcaa
