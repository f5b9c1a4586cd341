/- What merging keeps. No statement of the seat is proved here. -/
import Derived.Test.YtfllmhjjfapnmaaGreatVZMergeL
import Derived.Test.YtfllmhjjfapnmaaGreatVZVE
namespace Go.Proofs.YtfllmhjjfapnmaaGreat
open Go Go.VI
set_option linter.unusedSimpArgs false

/-- Where a list of entries ends: index and term. -/
def endOf : Int → Int → List Entry → Int × Int
  | b, t, [] => (b, t)
  | _, _, e :: es => endOf e.index e.term es
theorem beh_append : ∀ (xs ys : List Entry) (b t : Int), beh b t (xs ++ ys) = (beh b t xs && beh (endOf b t xs).1 (endOf b t xs).2 ys) := by
  intro xs
  induction xs with
  | nil => intro ys b t; simp [beh, endOf]
  | cons e xs ih =>
    intro ys b t
    simp only [List.cons_append, beh, endOf, ih, Bool.and_assoc]
theorem endOf_index : ∀ (xs : List Entry) (b t : Int), Cons b xs → (endOf b t xs).1 = b + xs.length := by
  intro xs
  induction xs with
  | nil => intro b t _; simp [endOf]
  | cons e xs ih =>
    intro b t h
    have h1 : e.index = b + 1 := by simpa using h 0 e rfl
    have h2 : Cons e.index xs := fun j x hx => by
      have := h (j + 1) x (by simpa using hx)
      rw [this, h1]; push_cast; omega
    rw [endOf, ih _ _ h2, h1, List.length_cons]; push_cast; omega
theorem endOf_last : ∀ (xs : List Entry) (b t : Int) (e : Entry), endOf b t (xs ++ [e]) = (e.index, e.term) := by
  intro xs
  induction xs with
  | nil => intro b t e; rfl
  | cons x xs ih => intro b t e; rw [List.cons_append, endOf, ih]
theorem endOf_take {es : List Entry} {b t : Int} {k : Nat} {e : Entry} (h : es[k]? = some e) : endOf b t (es.take (k + 1)) = (e.index, e.term) := by
  rw [take_snoc h, endOf_last]
theorem termO_end {b t : Int} {es : List Entry} {k : Nat} (hc : Cons b es) (hk : k ≤ es.length) : termO b t es (b + k) = ((endOf b t (es.take k)).2, true) := by
  cases k with
  | zero => simp [termO, endOf]
  | succ k =>
    obtain ⟨e, he⟩ := get_of (l := es) (i := k) (by omega)
    rw [endOf_take he]
    have := hc k e he
    simp only [termO]
    rw [if_neg (by push_cast; omega), show b + ((k + 1 : Nat) : Int) = e.index by rw [this]; push_cast; omega, find_in hc he]
theorem beh_take {b t : Int} {es : List Entry} (h : beh b t es = true) (k : Nat) : beh b t (es.take k) = true := by
  rw [← List.take_append_drop k es, beh_append, Bool.and_eq_true] at h
  exact h.1

/-- The two shapes of what merging gives. -/
theorem mrg_shape {l : Log} {ix : Int} {es : List Entry} (hc : Cons l.base.index l.l) (hE : Cons ix es) : ∀ (n i : Nat), i + n = es.length → ix + i ≤ l.base.index + l.l.length →
    (∀ j e, j < i → es[j]? = some e → termO l.base.index l.base.term l.l e.index = (e.term, true)) → mrg l.base.index l.base.term l.l es = mrg l.base.index l.base.term l.l (es.drop i) →
    (mrg l.base.index l.base.term l.l es = l.l ∧ (∀ e ∈ es, termO l.base.index l.base.term l.l e.index = (e.term, true)) ∧ ix + es.length ≤ l.base.index + l.l.length) ∨
    ∃ (i : Nat) (x : Entry), es[i]? = some x ∧ ix + i ≤ l.base.index + l.l.length ∧ (∀ j e, j < i → es[j]? = some e → termO l.base.index l.base.term l.l e.index = (e.term, true)) ∧ mrg l.base.index l.base.term l.l es = l.l.take (x.index - l.base.index - 1).toNat ++ es.drop i := by
  intro n
  induction n with
  | zero =>
    intro i hi hle hm heq
    left
    rw [List.drop_eq_nil_of_le (by omega), mrg] at heq
    refine ⟨heq, ?_, by omega⟩
    intro e he
    obtain ⟨j, hj⟩ := List.mem_iff_getElem?.mp he
    exact hm j e (by have := (List.getElem?_eq_some_iff.mp hj).1; omega) hj
  | succ n ih =>
    intro i hi hle hm heq
    obtain ⟨x, hx⟩ := get_of (l := es) (i := i) (by omega)
    obtain ⟨c1, c2⟩ := mrg_cut hx heq
    by_cases h : termO l.base.index l.base.term l.l x.index = (x.term, true)
    · refine ih (i + 1) (by omega) ?_ ?_ (c1 h)
      · have := (termO_in hc h).2
        have := hE i x hx
        push_cast; omega
      · intro j e hj he
        by_cases hji : j = i
        · subst hji
          rw [hx] at he
          obtain rfl := Option.some.inj he
          exact h
        · exact hm j e (by omega) he
    · exact .inr ⟨i, x, hx, hle, hm, c2 h⟩

structure Kept (l : Log) (ix : Int) (es m : List Entry) : Prop where
  ok : beh l.base.index l.base.term m = true
  same : ∀ (j : Nat) (e : Entry), l.l[j]? = some e → e.index ≤ ix → m[j]? = some e
  all : ∀ e ∈ es, termO l.base.index l.base.term m e.index = (e.term, true)
  last : (l.base.index + m.length = ix + es.length) ∨ (m.length = l.l.length ∧ ix + es.length ≤ l.base.index + m.length)

theorem kept {l : Log} {ix tm : Int} {es : List Entry} (h1 : beh l.base.index l.base.term l.l = true) (h2 : beh ix tm es = true) (h3 : termO l.base.index l.base.term l.l ix = (tm, true)) :
    Kept l ix es (mrg l.base.index l.base.term l.l es) := by
  have hc := beh_cons _ _ _ h1
  have hE := beh_cons _ _ _ h2
  obtain ⟨hlo, hhi⟩ := termO_in hc h3
  rcases mrg_shape hc hE es.length 0 (by omega) (by simpa using hhi) (fun j e h => by omega) rfl with ⟨e1, e2, e3⟩ | ⟨i, x, hx, hle, hm, e1⟩
  · rw [e1]
    exact ⟨h1, fun j e h _ => h, e2, .inr ⟨rfl, e3⟩⟩
  · have hxi := hE i x hx
    have hil := (List.getElem?_eq_some_iff.mp hx).1
    obtain ⟨k, hk⟩ : ∃ k : Nat, ix + i = l.base.index + k := ⟨(ix + i - l.base.index).toNat, by omega⟩
    have hkl : k ≤ l.l.length := by omega
    have hxk : (x.index - l.base.index - 1).toNat = k := by omega
    rw [e1, hxk]
    have htl : (l.l.take k).length = k := by rw [List.length_take]; omega
    have hiE : (endOf ix tm (es.take i)).1 = ix + i := by
      rw [endOf_index _ _ _ (hE.take i), List.length_take]; congr 1; omega
    have hkE : (endOf l.base.index l.base.term (l.l.take k)).1 = l.base.index + k := by
      rw [endOf_index _ _ _ (hc.take k), htl]
    have hT : (endOf ix tm (es.take i)).2 = (endOf l.base.index l.base.term (l.l.take k)).2 := by
      have ht := termO_end (t := l.base.term) hc hkl
      rw [← hk] at ht
      cases i with
      | zero =>
        have : ix + ((0 : Nat) : Int) = ix := by simp
        rw [this, h3] at ht
        exact (Prod.mk.inj ht).1
      | succ i =>
        obtain ⟨y, hy⟩ := get_of (l := es) (i := i) (by omega)
        have hyi := hE i y hy
        have := hm i y (by omega) hy
        rw [show y.index = ix + ((i + 1 : Nat) : Int) by rw [hyi]; push_cast; omega, ht] at this
        rw [endOf_take hy]
        exact (Prod.mk.inj this).1.symm
    have hok : beh l.base.index l.base.term (l.l.take k ++ es.drop i) = true := by
      rw [beh_append, beh_take h1, Bool.true_and, hkE, ← hT, ← hk, ← hiE]
      have := h2
      rw [← List.take_append_drop i es, beh_append, Bool.and_eq_true] at this
      exact this.2
    have hcm := beh_cons _ _ _ hok
    refine ⟨hok, ?_, ?_, .inl ?_⟩
    · intro j e hj hle'
      have := hc j e hj
      rw [List.getElem?_append_left (by rw [htl]; omega), List.getElem?_take, if_pos (by omega)]
      exact hj
    · intro e he
      obtain ⟨j, hj⟩ := List.mem_iff_getElem?.mp he
      have hji := hE j e hj
      have hne : ¬ e.index = l.base.index := by omega
      by_cases hlt : j < i
      · have ht := hm j e hlt hj
        obtain ⟨p, hp⟩ : ∃ p : Nat, e.index = l.base.index + 1 + p := ⟨(e.index - l.base.index - 1).toNat, by omega⟩
        obtain ⟨y, hy⟩ := get_of (l := l.l) (i := p) (by omega)
        have hyi := hc p y hy
        have hey : e.index = y.index := by omega
        have hmy : (l.l.take k ++ es.drop i)[p]? = some y := by
          rw [List.getElem?_append_left (by rw [htl]; omega), List.getElem?_take, if_pos (by omega)]; exact hy
        simp only [termO] at ht ⊢
        rw [if_neg hne] at ht ⊢
        rw [hey, find_in hc hy] at ht
        rw [hey, find_in hcm hmy]
        exact ht
      · have hme : (l.l.take k ++ es.drop i)[k + (j - i)]? = some e := by
          rw [List.getElem?_append_right (by rw [htl]; omega), htl, List.getElem?_drop, show i + (k + (j - i) - k) = j by omega]; exact hj
        simp only [termO]
        rw [if_neg hne, find_in hcm hme]
    · rw [List.length_append, htl, List.length_drop]; push_cast; omega
end Go.Proofs.YtfllmhjjfapnmaaGreat
