/- Tables as arguments. No statement of the seat is proved here. -/
import Derived.Test.YthibbbfhkfebkaaGreatVZTJ
import Derived.Test.YthibbbfhkfebkaaGreatVZVE
namespace Go.Proofs.YthibbbfhkfebkaaGreat
open Go Go.VI Go.RowKit
set_option maxRecDepth 100000
set_option linter.unusedSimpArgs false
theorem ty_list {α : Type} {f : α → List AV} {t e : TypeId} {B d : Nat} {c : List AV} (hu : Tryz.prog.underlying t = some (.slice e)) (he : ∀ x, Ty Tryz.prog B d e x → ∃ a, x = f a) (hb : Nat.ble 1 (Tryz.prog.bytesOf e) = true) (h : Ty Tryz.prog B (d + 1) t c) : ∃ v l, c = [v] ∧ isSl v (List.map f l) ∧ l.length ≤ B := by
  rcases Ty.slice hu h with rfl | ⟨xs, rfl, h1, h2⟩
  · exact ⟨.nilS, [], rfl, .inl ⟨rfl, rfl⟩, Nat.zero_le _⟩
  · have hxl : xs.length ≤ B := Nat.le_trans (Nat.le_mul_of_pos_right _ (Nat.le_of_ble_eq_true hb)) h1
    have : ∃ l, xs = List.map f l := by
      clear h h1 hxl
      induction xs with
      | nil => exact ⟨[], rfl⟩
      | cons x xs ih =>
        obtain ⟨l, g1⟩ := ih (fun y hy => h2 y (List.mem_cons_of_mem _ hy))
        obtain ⟨a, g2⟩ := he x (h2 x (List.mem_cons_self ..))
        exact ⟨a :: l, by rw [g1, g2]; rfl⟩
    obtain ⟨l, rfl⟩ := this
    exact ⟨_, l, rfl, .inr rfl, by simpa using hxl⟩
theorem ty_span {B d : Nat} {c : List AV} (h : Ty Tryz.prog B (d + 2) 47 c) : ∃ a, c = spanC a := by
  obtain ⟨a, _, rfl, h1, b, _, rfl, h2, rfl⟩ := Ty.fields (ts := [9, 9]) (by kernel_rfl) h
  obtain ⟨n, rfl, _⟩ := Ty.str (by kernel_rfl) h1
  obtain ⟨m, rfl, _⟩ := Ty.str (by kernel_rfl) h2
  exact ⟨⟨n, m⟩, rfl⟩
theorem ty_hold {B d : Nat} {c : List AV} (h : Ty Tryz.prog B (d + 2) 58 c) : ∃ a, c = holdC a := by
  obtain ⟨a, _, rfl, h1, b, _, rfl, h2, c, _, rfl, h3, rfl⟩ := Ty.fields (ts := [9, 28, 3]) (by kernel_rfl) h
  obtain ⟨n, rfl, _⟩ := Ty.str (by kernel_rfl) h1
  obtain ⟨m, rfl, _⟩ := Ty.int (k := .u64) (by kernel_rfl) h2
  obtain ⟨q, rfl, _⟩ := Ty.int (k := .i64) (by kernel_rfl) h3
  exact ⟨⟨n, m, q⟩, rfl⟩
theorem ty_mark {B d : Nat} {c : List AV} (h : Ty Tryz.prog B (d + 2) 68 c) : ∃ a, c = markC a := by
  obtain ⟨a, _, rfl, h1, b, _, rfl, h2, rfl⟩ := Ty.fields (ts := [9, 28]) (by kernel_rfl) h
  obtain ⟨n, rfl, _⟩ := Ty.str (by kernel_rfl) h1
  obtain ⟨m, rfl, _⟩ := Ty.int (k := .u64) (by kernel_rfl) h2
  exact ⟨⟨n, m⟩, rfl⟩
theorem ty_id {B d : Nat} {c : List AV} (h : Ty Tryz.prog B (d + 2) 30 c) : ∃ a b : Int, c = [.int .i64 a, .int .u64 b] := by
  obtain ⟨a, _, rfl, h1, b, _, rfl, h2, rfl⟩ := Ty.fields (ts := [3, 28]) (by kernel_rfl) h
  obtain ⟨n, rfl, _⟩ := Ty.int (k := .i64) (by kernel_rfl) h1
  obtain ⟨m, rfl, _⟩ := Ty.int (k := .u64) (by kernel_rfl) h2
  exact ⟨n, m, rfl⟩
structure Txn where
  c : Int
  q : Int
  call : Call
  token : Int
end Go.Proofs.YthibbbfhkfebkaaGreat
/- Tables as arguments: tokens are not negative. No statement of the seat is proved here. -/
namespace Go.Proofs.YthibbbfhkfebkaaGreat
open Go Go.VI Go.RowKit
set_option maxRecDepth 100000
set_option linter.unusedSimpArgs false
theorem wf_u64 {n : Int} (h : (Lit.int .u64 n).wf = true) : 0 ≤ n := by
  have : 0 ≤ n ∧ n ≤ 18446744073709551615 := by simpa [Lit.wf, IntKind.min, IntKind.max, IntKind.signed, IntKind.bits] using h
  exact this.1
theorem ty_int2 {B d : Nat} {c : List AV} (h : Ty Tryz.prog B (d + 3) 70 c) : ∃ a, c = intC a ∧ 0 ≤ a.token := by
  obtain ⟨a, _, rfl, h1, b, _, rfl, h2, c, _, rfl, h3, x, _, rfl, h4, y, _, rfl, h5, rfl⟩ := Ty.fields (ts := [9, 30, 3, 28, 3]) (by kernel_rfl) h
  obtain ⟨n, rfl, _⟩ := Ty.str (by kernel_rfl) h1
  obtain ⟨p, q, rfl⟩ := ty_id h2
  obtain ⟨k, rfl, _⟩ := Ty.int (k := .i64) (by kernel_rfl) h3
  obtain ⟨m, rfl, hm⟩ := Ty.int (k := .u64) (by kernel_rfl) h4
  obtain ⟨z, rfl, _⟩ := Ty.int (k := .i64) (by kernel_rfl) h5
  exact ⟨⟨n, p, q, k, m, z⟩, rfl, wf_u64 hm⟩
theorem ty_ints {B d : Nat} {c : List AV} (h : Ty Tryz.prog B (d + 4) 25 c) : ∃ v l, c = [v] ∧ isSl v (List.map intC l) ∧ l.length ≤ B ∧ ∀ x ∈ l, 0 ≤ x.token := by
  rcases Ty.slice (e := 70) (by kernel_rfl) h with rfl | ⟨xs, rfl, h1, h2⟩
  · exact ⟨.nilS, [], rfl, .inl ⟨rfl, rfl⟩, Nat.zero_le _, by simp⟩
  · have hxl : xs.length ≤ B := Nat.le_trans (Nat.le_mul_of_pos_right _ (Nat.le_of_ble_eq_true (by kernel_rfl))) h1
    have : ∃ l, xs = List.map intC l ∧ ∀ x ∈ l, 0 ≤ x.token := by
      clear h h1 hxl
      induction xs with
      | nil => exact ⟨[], rfl, by simp⟩
      | cons x xs ih =>
        obtain ⟨l, g1, g3⟩ := ih (fun y hy => h2 y (List.mem_cons_of_mem _ hy))
        obtain ⟨a, g2, g4⟩ := ty_int2 (h2 x (List.mem_cons_self ..))
        refine ⟨a :: l, by rw [g1, g2]; rfl, fun y hy => ?_⟩
        rcases List.mem_cons.mp hy with rfl | hy
        · exact g4
        · exact g3 y hy
    obtain ⟨l, rfl, hl⟩ := this
    exact ⟨_, l, rfl, .inr rfl, by simpa using hxl, hl⟩
theorem tyV_table2 {d : Nat} {c : AV} (h : TyV Tryz.prog reachBytes (d + 5) 27 c) : ∃ (t : Table) (w : TV), c = .agg (tabC t w) ∧ (∀ s D, TabIn s D w t) ∧ Small3 t ∧ ∀ x ∈ t.ints, 0 ≤ x.token := by
  obtain ⟨h1, a, h2, h3⟩ := h
  obtain ⟨x0, _, hx, t0, x1, _, rfl, t1, x2, _, rfl, t2, x3, _, rfl, t3, x4, _, rfl, t4, x5, _, rfl, t5, rfl⟩ := Ty.fields (ts := [3, 22, 22, 23, 24, 25]) (by kernel_rfl) h1
  obtain ⟨n0, rfl, _⟩ := Ty.int (k := .i64) (by kernel_rfl) t0
  obtain ⟨v1, l1, rfl, p1, q1⟩ := ty_list (f := spanC) (e := 47) (by kernel_rfl) (fun x hx => ty_span hx) (by kernel_rfl) t1
  obtain ⟨v2, l2, rfl, p2, q2⟩ := ty_list (f := spanC) (e := 47) (by kernel_rfl) (fun x hx => ty_span hx) (by kernel_rfl) t2
  obtain ⟨v3, l3, rfl, p3, q3⟩ := ty_list (f := holdC) (e := 58) (by kernel_rfl) (fun x hx => ty_hold hx) (by kernel_rfl) t3
  obtain ⟨v4, l4, rfl, p4, q4⟩ := ty_list (f := markC) (e := 68) (by kernel_rfl) (fun x hx => ty_mark hx) (by kernel_rfl) t4
  obtain ⟨v5, l5, rfl, p5, q5, hk⟩ := ty_ints t5
  have : cAgg Tryz.prog 27 = some true := by kernel_rfl
  rw [this] at h2
  obtain rfl := Option.some.inj h2
  have hb : reachBytes < 1000000000000000000 := by decide
  refine ⟨⟨n0, l1, l2, l3, l4, l5⟩, ⟨v1, v2, v3, v4, v5⟩, ?_, fun s D => ⟨Sl.of_isSl p1 (span_cells _), Sl.of_isSl p2 (span_cells _), Sl.of_isSl p3 (hold_cells _), Sl.of_isSl p4 (mark_cells _), Sl.of_isSl p5 (int_cells _)⟩, ⟨Nat.lt_of_le_of_lt q1 hb, Nat.lt_of_le_of_lt q2 hb, Nat.lt_of_le_of_lt q3 hb, Nat.lt_of_le_of_lt q4 hb, Nat.lt_of_le_of_lt q5 hb⟩, hk⟩
  rw [hx] at h3
  have h4 : c = .agg [.int .i64 n0, v1, v2, v3, v4, v5] := by simpa using h3
  exact h4
end Go.Proofs.YthibbbfhkfebkaaGreat

