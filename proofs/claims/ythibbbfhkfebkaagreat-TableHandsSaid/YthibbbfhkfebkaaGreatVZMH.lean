/- Keys taken on: the document. No statement of the seat is proved here. -/
import Derived.Test.YthibbbfhkfebkaaGreatVZMG
import Derived.Test.YthibbbfhkfebkaaGreatVZMF
import Derived.Test.YthibbbfhkfebkaaGreatVZFE
import Derived.Test.YthibbbfhkfebkaaGreatVZVE
import Derived.Test.YthibbbfhkfebkaaGreatVZFG
namespace Go.Proofs.YthibbbfhkfebkaaGreat
open Go Go.VI
set_option linter.unusedSimpArgs false
attribute [local irreducible] Ws Wp W C
set_option maxHeartbeats 8000000
end Go.Proofs.YthibbbfhkfebkaaGreat
/- Parcels as arguments; parcels alike; what comes of moves is small. No statement of the seat is proved here. -/
namespace Go.Proofs.YthibbbfhkfebkaaGreat
open Go Go.VI Go.RowKit
set_option maxRecDepth 100000
set_option linter.unusedSimpArgs false
theorem ty_mark2 {B d : Nat} {c : List AV} (h : Ty Tryz.prog B (d + 2) 68 c) : ∃ a, c = markC a ∧ 0 ≤ a.token := by
  obtain ⟨a, _, rfl, h1, b, _, rfl, h2, rfl⟩ := Ty.fields (ts := [9, 28]) (by kernel_rfl) h
  obtain ⟨n, rfl, _⟩ := Ty.str (by kernel_rfl) h1
  obtain ⟨m, rfl, hm⟩ := Ty.int (k := .u64) (by kernel_rfl) h2
  exact ⟨⟨n, m⟩, rfl, wf_u64 hm⟩
theorem ty_marks {B d : Nat} {c : List AV} (h : Ty Tryz.prog B (d + 3) 24 c) : ∃ v l, c = [v] ∧ isSl v (List.map markC l) ∧ l.length ≤ B ∧ ∀ x ∈ l, 0 ≤ x.token := by
  rcases Ty.slice (e := 68) (by kernel_rfl) h with rfl | ⟨xs, rfl, h1, h2⟩
  · exact ⟨.nilS, [], rfl, .inl ⟨rfl, rfl⟩, Nat.zero_le _, by simp⟩
  · have hxl : xs.length ≤ B := Nat.le_trans (Nat.le_mul_of_pos_right _ (Nat.le_of_ble_eq_true (by kernel_rfl))) h1
    have : ∃ l, xs = List.map markC l ∧ ∀ x ∈ l, 0 ≤ x.token := by
      clear h h1 hxl
      induction xs with
      | nil => exact ⟨[], rfl, by simp⟩
      | cons x xs ih =>
        obtain ⟨l, g1, g3⟩ := ih (fun y hy => h2 y (List.mem_cons_of_mem _ hy))
        obtain ⟨a, g2, g4⟩ := ty_mark2 (h2 x (List.mem_cons_self ..))
        refine ⟨a :: l, by rw [g1, g2]; rfl, fun y hy => ?_⟩
        rcases List.mem_cons.mp hy with rfl | hy
        · exact g4
        · exact g3 y hy
    obtain ⟨l, rfl, hl⟩ := this
    exact ⟨_, l, rfl, .inr rfl, by simpa using hxl, hl⟩
theorem tyV_span {B d : Nat} {c : AV} (h : TyV Tryz.prog B (d + 2) 47 c) : ∃ x : Span, c = .agg (spanC x) := by
  obtain ⟨h1, a, h2, h3⟩ := h
  obtain ⟨x, hx⟩ := ty_span h1
  have : cAgg Tryz.prog 47 = some true := by kernel_rfl
  rw [this] at h2
  obtain rfl := Option.some.inj h2
  refine ⟨x, ?_⟩
  rw [hx] at h3
  simpa using h3
theorem exp_small {t : Table} {plan : Int} {x : Span} (hs : Small t) : Small2 (expP t plan x).2.1 ∧ (expP t plan x).2.2.ho.length ≤ t.holds.length ∧ (expP t plan x).2.2.ma.length ≤ t.marks.length := by
  have z : Small2 zeroT := ⟨by decide, by decide, by decide, by decide, by decide⟩
  obtain ⟨a1, a2, a3, a4, a5⟩ := hs
  have b1 := less_len t.spans x
  have b2 := less_len t.frozen x
  have c1 := List.length_filter_le (fun h : Hold => !hasP x h.key) t.holds
  have c2 := List.length_filter_le (fun h : Hold => hasP x h.key) t.holds
  have c3 := List.length_filter_le (fun h : Mark => !hasP x h.key) t.marks
  have c4 := List.length_filter_le (fun h : Mark => hasP x h.key) t.marks
  unfold expP
  repeat' split
  all_goals first
    | exact ⟨z, Nat.zero_le _, Nat.zero_le _⟩
    | exact ⟨⟨by show (lessP t.spans x).length < _; omega, by show (lessP t.frozen x).length < _; omega, by show (t.holds.filter fun h => !hasP x h.key).length < _; omega, by show (t.marks.filter fun h => !hasP x h.key).length < _; omega, by show t.ints.length < _; omega⟩, by show ((t.holds.filter fun h => hasP x h.key).map _).length ≤ _; rw [List.length_map]; exact c2, c4⟩
attribute [local irreducible] Ws Wp W C
set_option maxHeartbeats 4000000
end Go.Proofs.YthibbbfhkfebkaaGreat

