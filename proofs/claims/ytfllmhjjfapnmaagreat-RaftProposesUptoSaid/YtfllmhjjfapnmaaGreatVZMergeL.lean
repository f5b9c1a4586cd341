/- What merging gives. No statement of the seat is proved here. -/
import Derived.Test.YtfllmhjjfapnmaaGreatVZLC
import Derived.Test.YtfllmhjjfapnmaaGreatVZVE
namespace Go.Proofs.YtfllmhjjfapnmaaGreat
open Go Go.VI
set_option linter.unusedSimpArgs false
theorem logOk_cons {l : Log} (h : logOk l = true) : Cons l.base.index l.l ∧ l.base.index ≤ 4611686018427387904 := by
  simp only [logOk, Bool.and_eq_true, decide_eq_true_eq] at h
  exact ⟨beh_cons _ _ _ h.2, h.1.1.2⟩
theorem termO_in {b t ix : Int} {es : List Entry} {x : Int} (hc : Cons b es) (h : termO b t es ix = (x, true)) : b ≤ ix ∧ ix ≤ b + es.length := by
  by_cases h1 : b ≤ ix ∧ ix ≤ b + es.length
  · exact h1
  · simp only [termO] at h
    rw [if_neg (by omega), find_out hc (by omega)] at h
    simp at h
end Go.Proofs.YtfllmhjjfapnmaaGreat

