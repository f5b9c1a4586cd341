/- What merging keeps. No statement of the seat is proved here. -/
import Derived.Test.YtfllmhjjfapnmaaGreatVZMergeL
import Derived.Test.YtfllmhjjfapnmaaGreatVZVE
namespace Go.Proofs.YtfllmhjjfapnmaaGreat
open Go Go.VI
set_option linter.unusedSimpArgs false
def endOf : Int → Int → List Entry → Int × Int
  | b, t, [] => (b, t)
  | _, _, e :: es => endOf e.index e.term es
theorem beh_append : ∀ (xs ys : List Entry) (b t : Int), beh b t (xs ++ ys) = (beh b t xs && beh (endOf b t xs).1 (endOf b t xs).2 ys) := by
  intro xs
  induction xs with
  | nil => intro ys b t; simp [beh, endOf]
  | cons e xs ih =>
    intro ys b t
    simp only [List.cons_append, beh, endOf, ih, Bool.and_assoc]
theorem endOf_last : ∀ (xs : List Entry) (b t : Int) (e : Entry), endOf b t (xs ++ [e]) = (e.index, e.term) := by
  intro xs
  induction xs with
  | nil => intro b t e; rfl
  | cons x xs ih => intro b t e; rw [List.cons_append, endOf, ih]
structure Kept (l : Log) (ix : Int) (es m : List Entry) : Prop where
  ok : beh l.base.index l.base.term m = true
  same : ∀ (j : Nat) (e : Entry), l.l[j]? = some e → e.index ≤ ix → m[j]? = some e
  all : ∀ e ∈ es, termO l.base.index l.base.term m e.index = (e.term, true)
  last : (l.base.index + m.length = ix + es.length) ∨ (m.length = l.l.length ∧ ix + es.length ≤ l.base.index + m.length)
end Go.Proofs.YtfllmhjjfapnmaaGreat

