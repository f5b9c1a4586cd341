/- Messages, lists of numbers, entries as arguments. No statement of the seat is proved here. -/
import Derived.Test.YtfllmhjjfapnmaaGreatVZRaftArgs
import Derived.Test.YtfllmhjjfapnmaaGreatVZRaftMsg
import Derived.Test.YtfllmhjjfapnmaaGreatVZVE
namespace Go.Proofs.YtfllmhjjfapnmaaGreat
open Go Go.VI
set_option maxRecDepth 100000

theorem tyV_msg {d : Nat} {c : AV} (h : TyV Tryz.prog upTo (d + 6) 45 c) : ∃ (m : Msg) (cs : List AV), c = .agg cs ∧ (∀ s D, MsgC s D cs m) ∧ MsgIn m := by
  obtain ⟨h1, a, h2, h3⟩ := h
  obtain ⟨x0, _, hx, t0, x1, _, rfl, t1, x2, _, rfl, t2, x3, _, rfl, t3, x4, _, rfl, t4, x5, _, rfl, t5, x6, _, rfl, t6, x7, _, rfl, t7, x8, _, rfl, t8, x9, _, rfl, t9, x10, _, rfl, t10, rfl⟩ := Ty.fields (ts := [3, 3, 3, 22, 22, 22, 26, 22, 4, 22, 25]) (by kernel_rfl) h1
  obtain ⟨n0, rfl, _⟩ := Ty.int (k := .i64) (by kernel_rfl) t0
  obtain ⟨n1, rfl, _⟩ := Ty.int (k := .i64) (by kernel_rfl) t1
  obtain ⟨n2, rfl, _⟩ := Ty.int (k := .i64) (by kernel_rfl) t2
  obtain ⟨n3, rfl, w3⟩ := Ty.int (k := .u64) (by kernel_rfl) t3
  obtain ⟨n4, rfl, w4⟩ := Ty.int (k := .u64) (by kernel_rfl) t4
  obtain ⟨n5, rfl, w5⟩ := Ty.int (k := .u64) (by kernel_rfl) t5
  obtain ⟨ev, es, rfl, q1, q2, q3⟩ := ty_entries t6
  obtain ⟨n7, rfl, w7⟩ := Ty.int (k := .u64) (by kernel_rfl) t7
  obtain ⟨n8, rfl⟩ := Ty.bool (by kernel_rfl) t8
  obtain ⟨n9, rfl, w9⟩ := Ty.int (k := .u64) (by kernel_rfl) t9
  obtain ⟨e, v, rfl, g2, g3⟩ := ty_entry t10
  have : cAgg Tryz.prog 45 = some true := by kernel_rfl
  rw [this] at h2
  obtain rfl := Option.some.inj h2
  refine ⟨⟨n0, n1, n2, n3, n4, n5, es, n7, n8, n9, e⟩, cells c, by simpa using h3, fun s D => ⟨ev, v, by rw [hx]; rfl, q1 s D, Sl.of_isSl g2 (byteC_len _)⟩, ⟨q2, Nat.lt_of_le_of_lt q3 (by decide), g3⟩, wf_inU w4, wf_inU w5, wf_inU w3, wf_inU w7, wf_inU w9⟩

theorem tyV_ints {d : Nat} {c : AV} (h : TyV Tryz.prog upTo (d + 2) 29 c) : ∃ l : List Int, (∀ s D, Sl s D c 1 (intsA .i64 l)) ∧ Fit l.length := by
  obtain ⟨v, l, h1, h2, h3⟩ := ty_ints h.1
  have := h.leaf (by kernel_rfl)
  rw [h1] at this
  cases this
  exact ⟨l, fun s D => Sl.of_isSl h2 (intsA_sz _ _), Nat.lt_of_le_of_lt h3 (by decide)⟩
end Go.Proofs.YtfllmhjjfapnmaaGreat
