/- Tables as arguments. No statement of the seat is proved here. -/
import Derived.Test.YthibbbfhkfebkaaGreatVZTK
import Derived.Test.YthibbbfhkfebkaaGreatVZVE
namespace Go.Proofs.YthibbbfhkfebkaaGreat
open Go Go.VI Go.RowKit
set_option maxRecDepth 100000
set_option linter.unusedSimpArgs false
theorem ty_list {α : Type} {f : α → List AV} {t e : TypeId} {B d : Nat} {c : List AV} (hu : Tryz.prog.underlying t = some (.slice e)) (he : ∀ x, Ty Tryz.prog B d e x → ∃ a, x = f a) (hb : Nat.ble 1 (Tryz.prog.bytesOf e) = true) (h : Ty Tryz.prog B (d + 1) t c) : ∃ v l, c = [v] ∧ isSl v (List.map f l) ∧ l.length ≤ B := by
  rcases Ty.slice hu h with rfl | ⟨xs, rfl, h1, h2⟩
  · exact ⟨.nilS, [], rfl, .inl ⟨rfl, rfl⟩, Nat.zero_le _⟩
  · have hxl : xs.length ≤ B := Nat.le_trans (Nat.le_mul_of_pos_right _ (Nat.le_of_ble_eq_true hb)) h1
    have : ∃ l, xs = List.map f l := by
      clear h h1 hxl
      induction xs with
      | nil => exact ⟨[], rfl⟩
      | cons x xs ih =>
        obtain ⟨l, g1⟩ := ih (fun y hy => h2 y (List.mem_cons_of_mem _ hy))
        obtain ⟨a, g2⟩ := he x (h2 x (List.mem_cons_self ..))
        exact ⟨a :: l, by rw [g1, g2]; rfl⟩
    obtain ⟨l, rfl⟩ := this
    exact ⟨_, l, rfl, .inr rfl, by simpa using hxl⟩
theorem ty_txt {B d : Nat} {c : List AV} (h : Ty Tryz.prog B (d + 1) 9 c) : ∃ a, c = txtC a := by
  obtain ⟨n, g, _⟩ := Ty.str (by kernel_rfl) h
  exact ⟨n, g⟩
theorem ty_span {B d : Nat} {c : List AV} (h : Ty Tryz.prog B (d + 2) 47 c) : ∃ a, c = spanC a := by
  obtain ⟨a, _, rfl, h1, b, _, rfl, h2, rfl⟩ := Ty.fields (ts := [9, 9]) (by kernel_rfl) h
  obtain ⟨n, rfl, _⟩ := Ty.str (by kernel_rfl) h1
  obtain ⟨m, rfl, _⟩ := Ty.str (by kernel_rfl) h2
  exact ⟨⟨n, m⟩, rfl⟩
theorem ty_hold {B d : Nat} {c : List AV} (h : Ty Tryz.prog B (d + 2) 58 c) : ∃ a, c = holdC a := by
  obtain ⟨a, _, rfl, h1, b, _, rfl, h2, c, _, rfl, h3, rfl⟩ := Ty.fields (ts := [9, 28, 3]) (by kernel_rfl) h
  obtain ⟨n, rfl, _⟩ := Ty.str (by kernel_rfl) h1
  obtain ⟨m, rfl, _⟩ := Ty.int (k := .u64) (by kernel_rfl) h2
  obtain ⟨q, rfl, _⟩ := Ty.int (k := .i64) (by kernel_rfl) h3
  exact ⟨⟨n, m, q⟩, rfl⟩
theorem ty_mark {B d : Nat} {c : List AV} (h : Ty Tryz.prog B (d + 2) 68 c) : ∃ a, c = markC a := by
  obtain ⟨a, _, rfl, h1, b, _, rfl, h2, rfl⟩ := Ty.fields (ts := [9, 28]) (by kernel_rfl) h
  obtain ⟨n, rfl, _⟩ := Ty.str (by kernel_rfl) h1
  obtain ⟨m, rfl, _⟩ := Ty.int (k := .u64) (by kernel_rfl) h2
  exact ⟨⟨n, m⟩, rfl⟩
theorem ty_id {B d : Nat} {c : List AV} (h : Ty Tryz.prog B (d + 2) 30 c) : ∃ a b : Int, c = [.int .i64 a, .int .u64 b] := by
  obtain ⟨a, _, rfl, h1, b, _, rfl, h2, rfl⟩ := Ty.fields (ts := [3, 28]) (by kernel_rfl) h
  obtain ⟨n, rfl, _⟩ := Ty.int (k := .i64) (by kernel_rfl) h1
  obtain ⟨m, rfl, _⟩ := Ty.int (k := .u64) (by kernel_rfl) h2
  exact ⟨n, m, rfl⟩
theorem ty_int {B d : Nat} {c : List AV} (h : Ty Tryz.prog B (d + 3) 70 c) : ∃ a, c = intC a := by
  obtain ⟨a, _, rfl, h1, b, _, rfl, h2, c, _, rfl, h3, x, _, rfl, h4, y, _, rfl, h5, rfl⟩ := Ty.fields (ts := [9, 30, 3, 28, 3]) (by kernel_rfl) h
  obtain ⟨n, rfl, _⟩ := Ty.str (by kernel_rfl) h1
  obtain ⟨p, q, rfl⟩ := ty_id h2
  obtain ⟨k, rfl, _⟩ := Ty.int (k := .i64) (by kernel_rfl) h3
  obtain ⟨m, rfl, _⟩ := Ty.int (k := .u64) (by kernel_rfl) h4
  obtain ⟨z, rfl, _⟩ := Ty.int (k := .i64) (by kernel_rfl) h5
  exact ⟨⟨n, p, q, k, m, z⟩, rfl⟩
theorem ty_call {B d : Nat} {c : List AV} (h : Ty Tryz.prog B (d + 3) 33 c) : ∃ (k : Call) (v : AV), c = callC v k ∧ isSl v (List.map txtC k.keys) ∧ k.keys.length ≤ B := by
  obtain ⟨p, _, rfl, g3, q, _, rfl, g4, r, _, rfl, g5, u, _, rfl, g6, rfl⟩ := Ty.fields (ts := [3, 31, 28, 3]) (by kernel_rfl) h
  obtain ⟨kind, rfl, _⟩ := Ty.int (k := .i64) (t := 3) (by kernel_rfl) g3
  obtain ⟨v, ks, rfl, hk, hl⟩ := ty_list (f := txtC) (e := 9) (by kernel_rfl) (fun x hx => ty_txt hx) (by kernel_rfl) g4
  obtain ⟨tok, rfl, _⟩ := Ty.int (k := .u64) (t := 28) (by kernel_rfl) g5
  obtain ⟨ttl, rfl, _⟩ := Ty.int (k := .i64) (t := 3) (by kernel_rfl) g6
  exact ⟨⟨kind, ks, tok, ttl⟩, v, rfl, hk, hl⟩
theorem tyV_table {d : Nat} {c : AV} (h : TyV Tryz.prog reachBytes (d + 5) 27 c) : ∃ (t : Table) (w : TV), c = .agg (tabC t w) ∧ (∀ s D, TabIn s D w t) ∧ Small3 t := by
  obtain ⟨h1, a, h2, h3⟩ := h
  obtain ⟨x0, _, hx, t0, x1, _, rfl, t1, x2, _, rfl, t2, x3, _, rfl, t3, x4, _, rfl, t4, x5, _, rfl, t5, rfl⟩ := Ty.fields (ts := [3, 22, 22, 23, 24, 25]) (by kernel_rfl) h1
  obtain ⟨n0, rfl, _⟩ := Ty.int (k := .i64) (by kernel_rfl) t0
  obtain ⟨v1, l1, rfl, p1, q1⟩ := ty_list (f := spanC) (e := 47) (by kernel_rfl) (fun x hx => ty_span hx) (by kernel_rfl) t1
  obtain ⟨v2, l2, rfl, p2, q2⟩ := ty_list (f := spanC) (e := 47) (by kernel_rfl) (fun x hx => ty_span hx) (by kernel_rfl) t2
  obtain ⟨v3, l3, rfl, p3, q3⟩ := ty_list (f := holdC) (e := 58) (by kernel_rfl) (fun x hx => ty_hold hx) (by kernel_rfl) t3
  obtain ⟨v4, l4, rfl, p4, q4⟩ := ty_list (f := markC) (e := 68) (by kernel_rfl) (fun x hx => ty_mark hx) (by kernel_rfl) t4
  obtain ⟨v5, l5, rfl, p5, q5⟩ := ty_list (f := intC) (e := 70) (by kernel_rfl) (fun x hx => ty_int hx) (by kernel_rfl) t5
  have : cAgg Tryz.prog 27 = some true := by kernel_rfl
  rw [this] at h2
  obtain rfl := Option.some.inj h2
  have hb : reachBytes < 1000000000000000000 := by decide
  refine ⟨⟨n0, l1, l2, l3, l4, l5⟩, ⟨v1, v2, v3, v4, v5⟩, ?_, fun s D => ⟨Sl.of_isSl p1 (span_cells _), Sl.of_isSl p2 (span_cells _), Sl.of_isSl p3 (hold_cells _), Sl.of_isSl p4 (mark_cells _), Sl.of_isSl p5 (int_cells _)⟩, ⟨Nat.lt_of_le_of_lt q1 hb, Nat.lt_of_le_of_lt q2 hb, Nat.lt_of_le_of_lt q3 hb, Nat.lt_of_le_of_lt q4 hb, Nat.lt_of_le_of_lt q5 hb⟩⟩
  rw [hx] at h3
  have h4 : c = .agg [.int .i64 n0, v1, v2, v3, v4, v5] := by simpa using h3
  exact h4
structure Txn where
  c : Int
  q : Int
  call : Call
  token : Int
def txnC (v : AV) (x : Txn) : List AV := [.int .i64 x.c, .int .u64 x.q, .int .i64 x.call.kind, v, .int .u64 x.call.token, .int .i64 x.call.ttl, .int .u64 x.token]
theorem tyV_txn {d : Nat} {c : AV} (h : TyV Tryz.prog reachBytes (d + 5) 35 c) : ∃ (x : Txn) (v : AV), c = .agg (txnC v x) ∧ isSl v (List.map txtC x.call.keys) ∧ x.call.keys.length < 1000000000000000000 := by
  obtain ⟨h1, a, h2, h3⟩ := h
  obtain ⟨x0, _, hx, t0, x1, _, rfl, t1, x2, _, rfl, t2, rfl⟩ := Ty.fields (ts := [30, 33, 28]) (by kernel_rfl) h1
  obtain ⟨p, q, rfl⟩ := ty_id t0
  obtain ⟨k, v, rfl, hk, hl⟩ := ty_call t1
  obtain ⟨m, rfl, _⟩ := Ty.int (k := .u64) (by kernel_rfl) t2
  have : cAgg Tryz.prog 35 = some true := by kernel_rfl
  rw [this] at h2
  obtain rfl := Option.some.inj h2
  have hb : reachBytes < 1000000000000000000 := by decide
  refine ⟨⟨p, q, k, m⟩, v, ?_, hk, Nat.lt_of_le_of_lt hl hb⟩
  rw [hx] at h3
  have h4 : c = .agg (.int .i64 p :: .int .u64 q :: (callC v k ++ [.int .u64 m])) := by simpa using h3
  exact h4
end Go.Proofs.YthibbbfhkfebkaaGreat

