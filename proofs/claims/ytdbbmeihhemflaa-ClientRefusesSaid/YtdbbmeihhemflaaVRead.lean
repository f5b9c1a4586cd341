/- What a slice, a struct, a text reads as; what abides. No statement of the seat is proved here. -/
import Derived.Test.YtdbbmeihhemflaaVInv
namespace Go.VI
open Go

/-! ## Slices -/
/-- A slice that reads as `xs`; its row, if it has one, is among `D`. -/
def Sl (s : Mem) (D : Nat → Prop) (v : AV) (sz : Nat) (xs : List (List AV)) : Prop :=
  (∀ c ∈ xs, c.length = sz) ∧ ((v = .nilS ∧ xs = []) ∨ (v = .emp ∧ xs = []) ∨ v = .sl xs ∨ ∃ r i n row, v = .own r i n sz ∧ D r ∧ s.get r = some row ∧ i + n ≤ row.els.length ∧ xs = (row.els.drop i).take n)

/-- The address of a part. -/
def adr (p : AV) (off : Nat) : AV :=
  match p with
  | .ptr r i o => .ptr r i (o + off)
  | .ref cs => .ref (cs.drop off)
  | v => v

/-- An address at which these cells are. -/
structure Pt (s : Mem) (p : AV) (c : List AV) : Prop where
  nil : nilA p = some p
  adr : ∀ off, addrA off p = some (adr p off)
  ld : ∀ agg n, loadA s agg n p = (slice1 c 0 n).bind (pickCells agg)
  ldf : ∀ off agg n, off ≤ c.length → loadA s agg n (VI.adr p off) = (slice1 c off n).bind (pickCells agg)

theorem Pt.of_ref (s : Mem) (c : List AV) : Pt s (.ref c) c := by
  refine ⟨rfl, fun _ => rfl, fun agg n => rfl, fun off agg n h => ?_⟩
  simp only [VI.adr, loadA, Option.bind_eq_bind, slice1, List.length_drop, Nat.zero_add, List.drop_zero]
  by_cases h1 : off + n ≤ c.length
  · rw [if_pos h1, if_pos (by omega)]
  · rw [if_neg h1, if_neg (by omega)]
theorem Pt.of_ptr {s : Mem} {r i o : Nat} {row : Row} {c : List AV} (h : s.get r = some row) (hi : row.els[i]? = some c) (ho : o ≤ c.length) : Pt s (.ptr r i o) (c.drop o) := by
  have key : ∀ off agg n, loadA s agg n (.ptr r i (o + off)) = (slice1 (c.drop o) off n).bind (pickCells agg) := by
    intro off agg n
    simp only [loadA, Option.bind_eq_bind, h, Option.bind_some, hi, slice1, List.length_drop, List.drop_drop]
    by_cases h1 : o + off + n ≤ c.length
    · rw [if_pos h1, if_pos (by omega)]
    · rw [if_neg h1, if_neg (by omega)]
  exact ⟨rfl, fun _ => rfl, fun agg n => key 0 agg n, fun off agg n _ => key off agg n⟩

section
variable {s s' : Mem} {D D' : Nat → Prop} {v : AV} {sz : Nat} {xs : List (List AV)}

theorem Sl.keep (h : Sl s D v sz xs) (hD : ∀ r, D r → s'.get r = s.get r) : Sl s' D v sz xs := by
  refine ⟨h.1, ?_⟩
  rcases h.2 with h | h | h | ⟨r, i, n, row, h1, h2, h3, h4, h5⟩
  · exact .inl h
  · exact .inr (.inl h)
  · exact .inr (.inr (.inl h))
  · exact .inr (.inr (.inr ⟨r, i, n, row, h1, h2, by rw [hD r h2]; exact h3, h4, h5⟩))
theorem Sl.mono (h : Sl s D v sz xs) (hD : ∀ r, D r → D' r) : Sl s D' v sz xs := by
  refine ⟨h.1, ?_⟩
  rcases h.2 with h | h | h | ⟨r, i, n, row, h1, h2, h3, h4, h5⟩
  · exact .inl h
  · exact .inr (.inl h)
  · exact .inr (.inr (.inl h))
  · exact .inr (.inr (.inr ⟨r, i, n, row, h1, hD r h2, h3, h4, h5⟩))
theorem Sl.nil (s : Mem) (D : Nat → Prop) (sz : Nat) : Sl s D .nilS sz [] := ⟨by simp, .inl ⟨rfl, rfl⟩⟩
theorem Sl.of_sl (hz : ∀ c ∈ xs, c.length = sz) : Sl s D (.sl xs) sz xs := ⟨hz, .inr (.inr (.inl rfl))⟩
theorem Sl.of_isSl (h : isSl v xs) (hz : ∀ c ∈ xs, c.length = sz) : Sl s D v sz xs := by
  rcases h with ⟨rfl, rfl⟩ | rfl
  · exact Sl.nil _ _ _
  · exact Sl.of_sl hz
theorem Sl.of_row {r ty n : Nat} (h : s.get r = some ⟨ty, sz, xs⟩) (hD : D r) (hz : ∀ c ∈ xs, c.length = sz) (hn : n = xs.length) : Sl s D (.own r 0 n sz) sz xs :=
  ⟨hz, .inr (.inr (.inr ⟨r, 0, n, _, rfl, hD, h, by simp [hn], by simp [hn]⟩))⟩
theorem Sl.len (h : Sl s D v sz xs) : lenA false v = some xs.length := by
  rcases h.2 with ⟨rfl, rfl⟩ | ⟨rfl, rfl⟩ | rfl | ⟨r, i, n, row, rfl, _, _, h4, rfl⟩
  · rfl
  · rfl
  · rfl
  · simp [lenA]; omega
theorem Sl.read (h : Sl s D v sz xs) : readAll s v = some xs := by
  rcases h.2 with ⟨rfl, rfl⟩ | ⟨rfl, rfl⟩ | rfl | ⟨r, i, n, row, rfl, _, h3, h4, rfl⟩
  · rfl
  · rfl
  · rfl
  · simp [readAll, h3, h4]
theorem Sl.uni (h : Sl s D v sz xs) : uni sz xs = true := by
  simp only [VI.uni, List.all_eq_true, beq_iff_eq]
  exact h.1
theorem Sl.at (h : Sl s D v sz xs) {i : Nat} {c : List AV} (hi : xs[i]? = some c) : ∃ p, (∀ j, atA sz v (.int j (i : Int)) = some p) ∧ Pt s p c := by
  rcases h.2 with ⟨rfl, rfl⟩ | ⟨rfl, rfl⟩ | rfl | ⟨r, k, n, row, rfl, _, h3, h4, rfl⟩
  · simp at hi
  · simp at hi
  · refine ⟨.ref c, fun j => ?_, Pt.of_ref s c⟩
    have := h.1 c (List.mem_of_getElem? hi)
    simp [atA, toNat_cast, hi, this]
  · rw [List.getElem?_take] at hi
    split at hi
    · rename_i hlt
      rw [List.getElem?_drop] at hi
      refine ⟨.ptr r (k + i) 0, fun j => ?_, ?_⟩
      · simp [atA, toNat_cast, hlt]
      · simpa using Pt.of_ptr (o := 0) h3 hi (Nat.zero_le _)
    · cases hi
/-- A part of a slice. -/
theorem Sl.cut (h : Sl s D v sz xs) {lo hi : Option Nat} (h1 : lo.getD 0 ≤ hi.getD xs.length) (h2 : hi.getD xs.length ≤ xs.length) :
    ∃ v', cutA sz v lo hi = some v' ∧ Sl s D v' sz ((xs.take (hi.getD xs.length)).drop (lo.getD 0)) := by
  have hz : ∀ c ∈ (xs.take (hi.getD xs.length)).drop (lo.getD 0), c.length = sz := fun c hc => h.1 c (List.mem_of_mem_take (List.mem_of_mem_drop hc))
  rcases h.2 with ⟨rfl, rfl⟩ | ⟨rfl, rfl⟩ | rfl | ⟨r, k, n, row, rfl, hD, h3, h4, rfl⟩
  · have e1 : hi.getD 0 = 0 := by simpa using h2
    have e2 : lo.getD 0 = 0 := by simp at h1 h2; omega
    exact ⟨.nilS, by simp [cutA, e1, e2], hz, .inl ⟨rfl, by simp⟩⟩
  · have e1 : hi.getD 0 = 0 := by simpa using h2
    have e2 : lo.getD 0 = 0 := by simp at h1 h2; omega
    exact ⟨.emp, by simp [cutA, e1, e2], hz, .inr (.inl ⟨rfl, by simp⟩)⟩
  · exact ⟨_, by simp only [cutA]; rw [if_pos ⟨h1, h2, h.uni⟩], hz, .inr (.inr (.inl rfl))⟩
  · have hl : ((row.els.drop k).take n).length = n := by simp; omega
    rw [hl] at h1 h2 hz ⊢
    refine ⟨.own r (k + lo.getD 0) (hi.getD n - lo.getD 0) sz, by simp only [cutA]; rw [if_pos ⟨h1, h2, trivial⟩], hz, .inr (.inr (.inr ⟨r, _, _, row, rfl, hD, h3, by omega, ?_⟩))⟩
    rw [List.take_take, Nat.min_eq_left h2, ← List.drop_drop, List.drop_take]
end

/-! ## Texts, bytes -/
def byteC (b : UInt8) : List AV := [.int .u8 (b.toNat : Int)]
theorem byteC_len (bs : List UInt8) : ∀ c ∈ bs.map byteC, c.length = 1 := by
  intro c hc
  obtain ⟨b, _, rfl⟩ := List.mem_map.mp hc
  rfl
abbrev Byt (s : Mem) (D : Nat → Prop) (v : AV) (bs : List UInt8) : Prop := Sl s D v 1 (bs.map byteC)
theorem byteOf_byteC (b : UInt8) : byteOf (byteC b) = some b := by simp [byteOf, byteC]
theorem mapM_byteC : ∀ (bs : List UInt8), (bs.map byteC).mapM byteOf = some bs := by
  intro bs
  induction bs with
  | nil => rfl
  | cons b bs ih => simp [byteOf_byteC, ih]
theorem Sl.text {s : Mem} {D : Nat → Prop} {v : AV} {bs : List UInt8} (h : Byt s D v bs) : strA s v = some (.str bs) := by
  simp only [strA, h.read, Option.bind_some, mapM_byteC, Option.map_some]
theorem Sl.lenB {s : Mem} {D : Nat → Prop} {v : AV} {sz : Nat} {α : Type} {f : α → List AV} {l : List α} (h : Sl s D v sz (l.map f)) : lenA false v = some l.length := by
  rw [h.len, List.length_map]
theorem Sl.atB {s : Mem} {D : Nat → Prop} {v : AV} {sz : Nat} {α : Type} {f : α → List AV} {l : List α} (h : Sl s D v sz (l.map f)) {i : Nat} {a : α} (hi : l[i]? = some a) : ∃ p, (∀ j, atA sz v (.int j (i : Int)) = some p) ∧ Pt s p (f a) :=
  h.at (by rw [List.getElem?_map, hi]; rfl)
theorem Sl.ints {s : Mem} {D : Nat → Prop} {v : AV} {k : IntKind} {l : List Int} (h : Sl s D v 1 (intsA k l)) : Ints s v k l := by
  refine ⟨by rw [h.len, intsA_len], ?_⟩
  intro j i a hi
  obtain ⟨p, h1, h2⟩ := h.at (by rw [intsA_get, hi]; rfl)
  exact ⟨p, h1 j, by rw [h2.ld]; rfl⟩
theorem Sl.els {s : Mem} {D : Nat → Prop} {v : AV} {sz : Nat} {xs : List (List AV)} (h : Sl s D v sz xs) : Els s v sz xs := by
  refine ⟨h.len, ?_⟩
  intro j i c hc
  obtain ⟨p, h1, h2⟩ := h.at hc
  refine ⟨p, h1 j, fun agg n hn => by rw [h2.ld]; simp [slice1, hn], fun off => ⟨_, h2.adr off, fun agg n hn => ?_⟩⟩
  rw [h2.ldf off agg n (by omega)]; simp [slice1, hn]

/-- A row of one's own. -/
theorem OwnL.sl {s : Mem} {b ty sz : Nat} {v : AV} {xs : List (List AV)} {D : Nat → Prop} (h : OwnL s b v ty sz xs) (hz : ∀ c ∈ xs, c.length = sz) (hD : ∀ r n, v = .own r 0 n sz → D r) : Sl s D v sz xs := by
  rcases h with ⟨rfl | rfl, rfl⟩ | ⟨r, rfl, h, _⟩
  · exact Sl.nil _ _ _
  · exact ⟨by simp, .inr (.inl ⟨rfl, rfl⟩)⟩
  · exact Sl.of_row h (hD r _ rfl) hz rfl

/-! ## What abides -/
/-- Rows below a number. -/
def Lt (b r : Nat) : Prop := r < b
theorem Keep.D {b : Nat} {s s' : Mem} (h : Keep b s s') : ∀ r, Lt b r → s'.get r = s.get r := h.get
theorem Lt.mono {a b r : Nat} (h : Lt a r) (hab : a ≤ b) : Lt b r := Nat.lt_of_lt_of_le h hab

theorem drop_cons {α : Type} {l : List α} {i : Nat} {a : α} (h : l[i]? = some a) : l.drop i = a :: l.drop (i + 1) := by
  obtain ⟨hi, rfl⟩ := List.getElem?_eq_some_iff.mp h
  rw [List.drop_eq_getElem_cons hi]
theorem drop_end {α : Type} {l : List α} {i : Nat} (h : ¬ i < l.length) : l.drop i = [] := List.drop_eq_nil_of_le (by omega)
theorem get_of {α : Type} {l : List α} {i : Nat} (h : i < l.length) : ∃ a, l[i]? = some a := ⟨l[i], List.getElem?_eq_getElem h⟩
end Go.VI
