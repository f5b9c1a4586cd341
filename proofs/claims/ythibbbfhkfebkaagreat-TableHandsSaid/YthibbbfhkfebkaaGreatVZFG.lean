/- Tables as arguments. No statement of the seat is proved here. -/
import Derived.Test.YthibbbfhkfebkaaGreatVZTJ
import Derived.Test.YthibbbfhkfebkaaGreatVZVE
namespace Go.Proofs.YthibbbfhkfebkaaGreat
open Go Go.VI Go.RowKit
set_option maxRecDepth 100000
set_option linter.unusedSimpArgs false
theorem ty_list {α : Type} {f : α → List AV} {t e : TypeId} {B d : Nat} {c : List AV} (hu : Tryz.prog.underlying t = some (.slice e)) (he : ∀ x, Ty Tryz.prog B d e x → ∃ a, x = f a) (hb : Nat.ble 1 (Tryz.prog.bytesOf e) = true) (h : Ty Tryz.prog B (d + 1) t c) : ∃ v l, c = [v] ∧ isSl v (List.map f l) ∧ l.length ≤ B := by
  rcases Ty.slice hu h with rfl | ⟨xs, rfl, h1, h2⟩
  · exact ⟨.nilS, [], rfl, .inl ⟨rfl, rfl⟩, Nat.zero_le _⟩
  · have hxl : xs.length ≤ B := Nat.le_trans (Nat.le_mul_of_pos_right _ (Nat.le_of_ble_eq_true hb)) h1
    have : ∃ l, xs = List.map f l := by
      clear h h1 hxl
      induction xs with
      | nil => exact ⟨[], rfl⟩
      | cons x xs ih =>
        obtain ⟨l, g1⟩ := ih (fun y hy => h2 y (List.mem_cons_of_mem _ hy))
        obtain ⟨a, g2⟩ := he x (h2 x (List.mem_cons_self ..))
        exact ⟨a :: l, by rw [g1, g2]; rfl⟩
    obtain ⟨l, rfl⟩ := this
    exact ⟨_, l, rfl, .inr rfl, by simpa using hxl⟩
theorem ty_span {B d : Nat} {c : List AV} (h : Ty Tryz.prog B (d + 2) 47 c) : ∃ a, c = spanC a := by
  obtain ⟨a, _, rfl, h1, b, _, rfl, h2, rfl⟩ := Ty.fields (ts := [9, 9]) (by kernel_rfl) h
  obtain ⟨n, rfl, _⟩ := Ty.str (by kernel_rfl) h1
  obtain ⟨m, rfl, _⟩ := Ty.str (by kernel_rfl) h2
  exact ⟨⟨n, m⟩, rfl⟩
theorem ty_hold {B d : Nat} {c : List AV} (h : Ty Tryz.prog B (d + 2) 58 c) : ∃ a, c = holdC a := by
  obtain ⟨a, _, rfl, h1, b, _, rfl, h2, c, _, rfl, h3, rfl⟩ := Ty.fields (ts := [9, 28, 3]) (by kernel_rfl) h
  obtain ⟨n, rfl, _⟩ := Ty.str (by kernel_rfl) h1
  obtain ⟨m, rfl, _⟩ := Ty.int (k := .u64) (by kernel_rfl) h2
  obtain ⟨q, rfl, _⟩ := Ty.int (k := .i64) (by kernel_rfl) h3
  exact ⟨⟨n, m, q⟩, rfl⟩
theorem ty_id {B d : Nat} {c : List AV} (h : Ty Tryz.prog B (d + 2) 30 c) : ∃ a b : Int, c = [.int .i64 a, .int .u64 b] := by
  obtain ⟨a, _, rfl, h1, b, _, rfl, h2, rfl⟩ := Ty.fields (ts := [3, 28]) (by kernel_rfl) h
  obtain ⟨n, rfl, _⟩ := Ty.int (k := .i64) (by kernel_rfl) h1
  obtain ⟨m, rfl, _⟩ := Ty.int (k := .u64) (by kernel_rfl) h2
  exact ⟨n, m, rfl⟩
structure Txn where
  c : Int
  q : Int
  call : Call
  token : Int
end Go.Proofs.YthibbbfhkfebkaaGreat
/- Tables as arguments: tokens are not negative. No statement of the seat is proved here. -/
namespace Go.Proofs.YthibbbfhkfebkaaGreat
open Go Go.VI Go.RowKit
set_option maxRecDepth 100000
set_option linter.unusedSimpArgs false
theorem wf_u64 {n : Int} (h : (Lit.int .u64 n).wf = true) : 0 ≤ n := by
  have : 0 ≤ n ∧ n ≤ 18446744073709551615 := by simpa [Lit.wf, IntKind.min, IntKind.max, IntKind.signed, IntKind.bits] using h
  exact this.1
theorem ty_int2 {B d : Nat} {c : List AV} (h : Ty Tryz.prog B (d + 3) 70 c) : ∃ a, c = intC a ∧ 0 ≤ a.token := by
  obtain ⟨a, _, rfl, h1, b, _, rfl, h2, c, _, rfl, h3, x, _, rfl, h4, y, _, rfl, h5, rfl⟩ := Ty.fields (ts := [9, 30, 3, 28, 3]) (by kernel_rfl) h
  obtain ⟨n, rfl, _⟩ := Ty.str (by kernel_rfl) h1
  obtain ⟨p, q, rfl⟩ := ty_id h2
  obtain ⟨k, rfl, _⟩ := Ty.int (k := .i64) (by kernel_rfl) h3
  obtain ⟨m, rfl, hm⟩ := Ty.int (k := .u64) (by kernel_rfl) h4
  obtain ⟨z, rfl, _⟩ := Ty.int (k := .i64) (by kernel_rfl) h5
  exact ⟨⟨n, p, q, k, m, z⟩, rfl, wf_u64 hm⟩
theorem ty_ints {B d : Nat} {c : List AV} (h : Ty Tryz.prog B (d + 4) 25 c) : ∃ v l, c = [v] ∧ isSl v (List.map intC l) ∧ l.length ≤ B ∧ ∀ x ∈ l, 0 ≤ x.token := by
  rcases Ty.slice (e := 70) (by kernel_rfl) h with rfl | ⟨xs, rfl, h1, h2⟩
  · exact ⟨.nilS, [], rfl, .inl ⟨rfl, rfl⟩, Nat.zero_le _, by simp⟩
  · have hxl : xs.length ≤ B := Nat.le_trans (Nat.le_mul_of_pos_right _ (Nat.le_of_ble_eq_true (by kernel_rfl))) h1
    have : ∃ l, xs = List.map intC l ∧ ∀ x ∈ l, 0 ≤ x.token := by
      clear h h1 hxl
      induction xs with
      | nil => exact ⟨[], rfl, by simp⟩
      | cons x xs ih =>
        obtain ⟨l, g1, g3⟩ := ih (fun y hy => h2 y (List.mem_cons_of_mem _ hy))
        obtain ⟨a, g2, g4⟩ := ty_int2 (h2 x (List.mem_cons_self ..))
        refine ⟨a :: l, by rw [g1, g2]; rfl, fun y hy => ?_⟩
        rcases List.mem_cons.mp hy with rfl | hy
        · exact g4
        · exact g3 y hy
    obtain ⟨l, rfl, hl⟩ := this
    exact ⟨_, l, rfl, .inr rfl, by simpa using hxl, hl⟩
end Go.Proofs.YthibbbfhkfebkaaGreat

