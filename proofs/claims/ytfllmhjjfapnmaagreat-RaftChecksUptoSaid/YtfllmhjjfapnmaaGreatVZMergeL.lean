/- What merging gives. No statement of the seat is proved here. -/
import Derived.Test.YtfllmhjjfapnmaaGreatVZLC
import Derived.Test.YtfllmhjjfapnmaaGreatVZVE
namespace Go.Proofs.YtfllmhjjfapnmaaGreat
open Go Go.VI
set_option linter.unusedSimpArgs false

def mrg (b t : Int) (ls : List Entry) : List Entry → List Entry
  | [] => ls
  | e :: es => if termO b t ls e.index = (e.term, true) then mrg b t ls es else ls.take (e.index - b - 1).toNat ++ e :: es
def mergeOut (l : Log) (ix tm : Int) (es : List Entry) : Log × Int × Int :=
  if logOk l = false ∨ beh ix tm es = false then (zeroL, 0, 1)
  else if ix < l.base.index then (zeroL, 0, 7)
  else if termO l.base.index l.base.term l.l ix ≠ (tm, true) then (zeroL, 0, 12)
  else if 4096 < (mrg l.base.index l.base.term l.l es).length then (zeroL, 0, 2)
  else (⟨l.base, mrg l.base.index l.base.term l.l es⟩, IntKind.u64.wrap (ix + IntKind.u64.wrap es.length), 0)

theorem logOk_cons {l : Log} (h : logOk l = true) : Cons l.base.index l.l ∧ l.base.index ≤ 4611686018427387904 := by
  simp only [logOk, Bool.and_eq_true, decide_eq_true_eq] at h
  exact ⟨beh_cons _ _ _ h.2, h.1.1.2⟩
theorem termO_in {b t ix : Int} {es : List Entry} {x : Int} (hc : Cons b es) (h : termO b t es ix = (x, true)) : b ≤ ix ∧ ix ≤ b + es.length := by
  by_cases h1 : b ≤ ix ∧ ix ≤ b + es.length
  · exact h1
  · simp only [termO] at h
    rw [if_neg (by omega), find_out hc (by omega)] at h
    simp at h
theorem mrg_cut {b t : Int} {ls es : List Entry} {i : Nat} {e : Entry} (he : es[i]? = some e) (hd : mrg b t ls es = mrg b t ls (es.drop i)) :
    (termO b t ls e.index = (e.term, true) → mrg b t ls es = mrg b t ls (es.drop (i + 1))) ∧
    (termO b t ls e.index ≠ (e.term, true) → mrg b t ls es = ls.take (e.index - b - 1).toNat ++ es.drop i) := by
  have := drop_cons he
  constructor
  · intro h; rw [hd, this, mrg, if_pos h]
  · intro h; rw [hd]; rw [this]; rw [mrg, if_neg h]
end Go.Proofs.YtfllmhjjfapnmaaGreat
