/- Small words of logs. No statement of the seat is proved here. -/
import Derived.Test.YtfllmhjjfapnmaaGreatVZMergeL
import Derived.Test.YtfllmhjjfapnmaaGreatVZCuts
import Derived.Test.YtfllmhjjfapnmaaGreatVZVE
namespace Go.Proofs.YtfllmhjjfapnmaaGreat
open Go Go.VI
set_option linter.unusedSimpArgs false
theorem Cons.tail {b : Int} {e : Entry} {es : List Entry} (h : Cons b (e :: es)) : e.index = b + 1 ∧ Cons (b + 1) es := by
  refine ⟨by simpa using h 0 e rfl, fun j x hx => ?_⟩
  have := h (j + 1) x (by simpa using hx)
  rw [this]; push_cast; omega
theorem OwnE.ents {s : Mem} {b : Nat} {v : AV} {es : List Entry} (h : OwnE s b v es) : Ents s (fun q => b ≤ q ∧ q < s.next) v es := by
  obtain ⟨xs, h1, h2⟩ := h
  exact ⟨xs, h1.sl h2.sizes fun r n h => h1.row r 0 n 4 h, h2.mono fun r hr => ⟨hr.1, hr.2.1⟩⟩
abbrev logRow (l : Log) (d w : AV) : Row := ⟨28, 5, [[.int .u64 l.base.index, .int .u64 l.base.term, .int .i64 l.base.kind, d, w]]⟩
theorem filter_snoc {α : Type} {p : α → Bool} {l : List α} {i : Nat} {a : α} (h : l[i]? = some a) : (l.take (i + 1)).filter p = (l.take i).filter p ++ if p a then [a] else [] := by
  rw [take_snoc h, List.filter_append]
  congr 1
  cases hp : p a <;> simp [hp]
end Go.Proofs.YtfllmhjjfapnmaaGreat

