/- Small laws for the steps. No statement of the seat is proved here. -/
import Derived.Test.YtdbbmeihhemflaaVLaw
namespace Go.VI
open Go

theorem intsA_len (k : IntKind) (l : List Int) : (intsA k l).length = l.length := by simp [intsA]
theorem intsA_get (k : IntKind) (l : List Int) (i : Nat) : (intsA k l)[i]? = (l[i]?).map fun n => [AV.int k n] := by simp [intsA]
theorem toNat_cast (i : Nat) : toNat? (i : Int) = some i := by simp [toNat?]
theorem load_ref1 (s : Mem) (c : AV) : loadA s false 1 (.ref [c]) = some c := rfl
theorem load_ptr1 {s : Mem} {r i : Nat} {row : Row} {c : AV} (h : s.get r = some row) (hi : row.els[i]? = some [c]) : loadA s false 1 (.ptr r i 0) = some c := by simp [loadA, h, hi, slice1, pickCells]
theorem lt_cast (a b : Nat) : decide ((a : Int) < (b : Int)) = decide (a < b) := by simp
theorem succ_cast {i : Nat} (h : i < 4611686018427387904) : IntKind.i64.wrap ((i : Int) + 1) = ((i + 1 : Nat) : Int) := by
  rw [wrap_i64 (by omega)]; simp
theorem isSl.at_ {v : AV} {xs : List (List AV)} (h : isSl v xs) {sz : Nat} {k : IntKind} {j : Nat} {c : List AV} (hj : xs[j]? = some c) (hc : c.length = sz) : atA sz v (.int k (j : Int)) = some (.ref c) := by
  rcases h with ⟨rfl, rfl⟩ | rfl
  · simp at hj
  · simp [atA, toNat_cast, hj, hc]
theorem isSl.ints {v : AV} {k j : IntKind} {l : List Int} (h : isSl v (intsA k l)) {i : Nat} {a : Int} (hi : l[i]? = some a) : atA 1 v (.int j (i : Int)) = some (.ref [.int k a]) :=
  h.at_ (by rw [intsA_get, hi]; rfl) rfl
theorem eqA_b (a b : Bool) : eqA .b (.bool a) (.bool b) = some (a == b) := rfl
/-- A literal of one element, of no elements. -/
def one1 (v : AV) : Option (List (List AV)) := if (cells v).length = 1 ∧ (cells v).all isCell = true then some [cells v] else none
theorem fill_one (e : Env) (t : Nat) (c : List AV) : fillLit 1 e [(0, .t t)] (List.replicate 1 c) = one1 (e.get t) := by
  simp [fillLit, one1, ev, List.replicate]
theorem one1_int (k : IntKind) (n : Int) : one1 (.int k n) = some [[.int k n]] := rfl
theorem fill_none (sz : Nat) (e : Env) (c : List AV) : fillLit sz e [] (List.replicate 0 c) = some [] := rfl
theorem mem_eta (s : Mem) : Mem.mk s.next s.floor s.t = s := rfl
theorem load_floor (s : Mem) (n f : Nat) (agg : Bool) (sz : Nat) (v : AV) : loadA ⟨n, f, s.t⟩ agg sz v = loadA s agg sz v := by cases v <;> rfl

/-- A slice that reads as whole numbers. -/
structure Ints (s : Mem) (v : AV) (k : IntKind) (l : List Int) : Prop where
  len : lenA false v = some l.length
  get : ∀ (j : IntKind) (i : Nat) (a : Int), l[i]? = some a → ∃ p, atA 1 v (.int j (i : Int)) = some p ∧ loadA s false 1 p = some (.int k a)
theorem isSl.toInts {v : AV} {k : IntKind} {l : List Int} (h : isSl v (intsA k l)) (s : Mem) : Ints s v k l :=
  ⟨by rw [h.len, intsA_len], fun j _ _ hi => ⟨_, h.ints (j := j) hi, rfl⟩⟩
theorem lt_true {i n : Nat} (h : i < n) : decide ((i : Int) < (n : Int)) = true := by simp; exact h
theorem lt_false {i n : Nat} (h : ¬ i < n) : decide ((i : Int) < (n : Int)) = false := by simp; omega
end Go.VI
