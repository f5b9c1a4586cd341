/- Majorities of numbers, plainly. No statement of the seat is proved here. -/
import Derived.Test.YtfllmhjjfapnmaaGreatVZQSort
import Derived.Test.YtfllmhjjfapnmaaGreatVZVE
namespace Go.Proofs.YtfllmhjjfapnmaaGreat.Q
open Go Go.VI
set_option linter.unusedSimpArgs false
abbrev Peer := Int × Int × Int
def firstM (ps : List Peer) (n : Int) : Int := match ps.find? (fun p => p.1 == n) with
  | some p => p.2.2
  | none => 0
theorem firstM_none {ps : List Peer} {n : Int} (h : ∀ q ∈ ps, q.1 ≠ n) : firstM ps n = 0 := by
  have : ps.find? (fun p => p.1 == n) = none := List.find?_eq_none.mpr (by intro x hx; simpa using h x hx)
  simp [firstM, this]
theorem firstM_at {ps : List Peer} {n : Int} {i : Nat} {p : Peer} (hi : ps[i]? = some p) (hp : p.1 = n) (hj : ∀ q ∈ ps.take i, q.1 ≠ n) : firstM ps n = p.2.2 := by
  have hlt := (List.getElem?_eq_some_iff.mp hi).1
  have hs : ps = ps.take i ++ p :: ps.drop (i + 1) := by
    have hg : ps[i] = p := (List.getElem?_eq_some_iff.mp hi).2
    rw [← hg, ← List.drop_eq_getElem_cons hlt, List.take_append_drop]
  have h1 : (ps.take i).find? (fun p => p.1 == n) = none := List.find?_eq_none.mpr (by intro x hx; simpa using hj x hx)
  have : ps.find? (fun p => p.1 == n) = some p := by
    rw [hs, List.find?_append, h1]
    simp [hp]
  simp [firstM, this]
def ms (vs : List Int) (ps : List Peer) : List Int := vs.map (firstM ps)
theorem ms_len (vs : List Int) (ps : List Peer) : (ms vs ps).length = vs.length := by simp [ms]
theorem ms_take (vs : List Int) (ps : List Peer) (i : Nat) (a : Int) (h : vs[i]? = some a) : ms (vs.take (i + 1)) ps = ms (vs.take i) ps ++ [firstM ps a] := by
  simp [ms, List.take_add_one, h]
def mid (l : List Int) : Int := (isrt l (l.length - 1)).getD (l.length - (l.length / 2 + 1)) 0
def met (ps : List Peer) (n : Int) : Bool := ps.any fun p => p.1 == n
theorem firstM_snoc (ps : List Peer) (p : Peer) (n : Int) : firstM (ps ++ [p]) n = if met ps n = true then firstM ps n else if p.1 == n then p.2.2 else 0 := by
  have hs : (ps.find? fun p => p.1 == n).isSome = met ps n := by rw [Bool.eq_iff_iff, List.find?_isSome, met, List.any_eq_true]
  unfold firstM
  rw [List.find?_append]
  cases hf : ps.find? fun p => p.1 == n with
  | none =>
    rw [hf] at hs
    rw [← hs]
    simp only [Option.isSome_none, Bool.false_eq_true, if_false, Option.none_or, List.find?_cons, List.find?_nil]
    cases hp : p.1 == n <;> simp
  | some q =>
    rw [hf] at hs
    rw [← hs]
    simp
theorem met_snoc (ps : List Peer) (p : Peer) (n : Int) : met (ps ++ [p]) n = (met ps n || p.1 == n) := by simp [met]
theorem take_snoc {α : Type} {l : List α} {i : Nat} {a : α} (h : l[i]? = some a) : l.take (i + 1) = l.take i ++ [a] := by simp [List.take_add_one, h]
theorem firstM_unmet {ps : List Peer} {n : Int} (h : met ps n = false) : firstM ps n = 0 := by
  apply firstM_none
  intro q hq
  have := List.any_eq_false.mp h q hq
  simpa using this
def ge (l : List Int) (x : Int) : Nat := (l.filter fun y => decide (x ≤ y)).length
theorem ge_le (l : List Int) (x : Int) : ge l x ≤ l.length := List.length_filter_le _ _
theorem ge_take (l : List Int) (x : Int) (i : Nat) (a : Int) (h : l[i]? = some a) : ge (l.take (i + 1)) x = ge (l.take i) x + if x ≤ a then 1 else 0 := by
  unfold ge
  rw [take_snoc h, List.filter_append, List.length_append]
  congr 1
  simp only [List.filter_cons, List.filter_nil, decide_eq_true_eq]
  split <;> rfl
def bst (l : List Int) : Nat → Int
  | 0 => 0
  | i + 1 => match l[i]? with
    | some x => if l.length < 2 * ge l x ∧ bst l i < x then x else bst l i
    | none => bst l i
theorem swp_perm : ∀ (j : Nat) (xs : List Int), j + 1 < xs.length → (swp xs j).Perm xs
  | 0, a :: b :: xs, _ => by
    simp only [swp]
    exact List.Perm.swap a b xs
  | j + 1, a :: xs, h => by
    have : swp (a :: xs) (j + 1) = a :: swp xs j := by simp [swp]
    rw [this]
    exact (swp_perm j xs (by simpa using h)).cons a
  | 0, [a], h => by simp at h
  | 0, [], h => by simp at h
  | j + 1, [], h => by simp at h
theorem sd_perm : ∀ (j : Nat) (xs : List Int), j < xs.length → (sd j xs).Perm xs := by
  intro j
  induction j with
  | zero => intro xs _; exact .refl _
  | succ j ih =>
    intro xs h
    simp only [sd]
    split
    · exact (ih _ (by rw [swp_len]; omega)).trans (swp_perm j xs h)
    · exact .refl _
theorem isrt_perm (xs : List Int) : ∀ i, i < xs.length ∨ i = 0 → (isrt xs i).Perm xs := by
  intro i
  induction i with
  | zero => intro _; exact .refl _
  | succ i ih =>
    intro h
    exact (sd_perm (i + 1) _ (by rw [isrt_len]; omega)).trans (ih (by omega))
theorem swp_get (xs : List Int) (j t : Nat) (h : j + 1 < xs.length) : (swp xs j).getD t 0 = if t = j then xs.getD (j + 1) 0 else if t = j + 1 then xs.getD j 0 else xs.getD t 0 := by
  simp only [swp, List.getD_eq_getElem?_getD, List.getElem?_set, List.length_set]
  by_cases h1 : j = t
  · subst h1
    rw [if_pos rfl, if_pos (by omega), if_pos rfl]
    rfl
  · rw [if_neg h1]
    by_cases h2 : j + 1 = t
    · subst h2
      rw [if_pos rfl, if_pos h, if_neg (by omega), if_pos rfl]
      rfl
    · rw [if_neg h2, if_neg (fun g => h1 g.symm), if_neg (fun g => h2 g.symm)]
def Srt (xs : List Int) (n : Nat) : Prop := ∀ a b, a < b → b < n → xs.getD a 0 ≤ xs.getD b 0
theorem sd_srt : ∀ (j : Nat) (xs : List Int) (i : Nat), j ≤ i → i < xs.length → (∀ a b, a < b → b ≤ i → a ≠ j → b ≠ j → xs.getD a 0 ≤ xs.getD b 0) → (∀ b, j < b → b ≤ i → xs.getD j 0 ≤ xs.getD b 0) → Srt (sd j xs) (i + 1) := by
  intro j
  induction j with
  | zero =>
    intro xs i hj hi h1 h2 a b hab hb
    by_cases ha : a = 0
    · subst ha; exact h2 b hab (by omega)
    · exact h1 a b hab (by omega) ha (by omega)
  | succ j ih =>
    intro xs i hj hi h1 h2
    simp only [sd]
    split
    · rename_i hlt
      refine ih (swp xs j) i (by omega) (by rw [swp_len]; exact hi) ?_ ?_
      · intro a b hab hb ha hb'
        rw [swp_get _ _ _ (by omega), swp_get _ _ _ (by omega), if_neg ha, if_neg hb']
        by_cases h3 : a = j + 1
        · rw [if_pos h3, if_neg (by omega)]
          exact h1 j b (by omega) hb (by omega) (by omega)
        · rw [if_neg h3]
          by_cases h4 : b = j + 1
          · rw [if_pos h4]
            exact h1 a j (by omega) (by omega) h3 (by omega)
          · rw [if_neg h4]
            exact h1 a b hab hb h3 h4
      · intro b hb hbi
        rw [swp_get _ _ _ (by omega), swp_get _ _ _ (by omega), if_pos rfl, if_neg (by omega)]
        by_cases h4 : b = j + 1
        · rw [if_pos h4]; omega
        · rw [if_neg h4]
          exact h2 b (by omega) hbi
    · rename_i hlt
      intro a b hab hb
      by_cases h3 : a = j + 1
      · subst h3; exact h2 b hab (by omega)
      · by_cases h4 : b = j + 1
        · subst h4
          by_cases h5 : a = j
          · subst h5; omega
          · have := h1 a j (by omega) (by omega) h3 (by omega)
            omega
        · exact h1 a b hab (by omega) h3 h4
theorem isrt_srt (xs : List Int) : ∀ i, i < xs.length → Srt (isrt xs i) (i + 1) := by
  intro i
  induction i with
  | zero => intro _ a b hab hb; omega
  | succ i ih =>
    intro h
    refine sd_srt (i + 1) _ (i + 1) (Nat.le_refl _) (by rw [isrt_len]; exact h) ?_ ?_
    · intro a b hab hb ha hb'
      exact ih (by omega) a b hab (by omega)
    · intro b h1 h2; omega
theorem ge_append (a b : List Int) (x : Int) : ge (a ++ b) x = ge a x + ge b x := by simp [ge]
theorem ge_perm {a b : List Int} (h : a.Perm b) (x : Int) : ge a x = ge b x := (h.filter _).length_eq
theorem ge_all {l : List Int} {x : Int} (h : ∀ y ∈ l, x ≤ y) : ge l x = l.length := by
  unfold ge
  rw [List.filter_eq_self.mpr (by intro a ha; simpa using h a ha)]
theorem ge_zero {l : List Int} {x : Int} (h : ∀ y ∈ l, y < x) : ge l x = 0 := by
  unfold ge
  rw [List.filter_eq_nil_iff.mpr (by intro a ha; have := h a ha; simp; omega)]
  rfl
theorem mem_getD {l : List Int} {y : Int} (h : y ∈ l) : ∃ i, i < l.length ∧ l.getD i 0 = y := by
  obtain ⟨i, hi, rfl⟩ := List.getElem_of_mem h
  exact ⟨i, hi, by simp [List.getD_eq_getElem?_getD, hi]⟩
theorem srt_at {t : List Int} {k : Nat} (hs : Srt t t.length) (hk : k < t.length) : t.length - k ≤ ge t (t.getD k 0) := by
  have h1 : ge t (t.getD k 0) = ge (t.take k) (t.getD k 0) + ge (t.drop k) (t.getD k 0) := by rw [← ge_append, List.take_append_drop]
  have h2 : ge (t.drop k) (t.getD k 0) = (t.drop k).length := by
    refine ge_all ?_
    intro y hy
    obtain ⟨i, hi, rfl⟩ := mem_getD hy
    have : (t.drop k).getD i 0 = t.getD (k + i) 0 := by simp [List.getD_eq_getElem?_getD, List.getElem?_drop]
    rw [this]
    rw [List.length_drop] at hi
    by_cases h0 : i = 0
    · subst h0; simp
    · exact hs k (k + i) (by omega) (by omega)
  rw [List.length_drop] at h2
  omega
theorem srt_above {t : List Int} {k : Nat} {z : Int} (hs : Srt t t.length) (hk : k < t.length) (hz : t.getD k 0 < z) : ge t z ≤ t.length - (k + 1) := by
  have h1 : ge t z = ge (t.take (k + 1)) z + ge (t.drop (k + 1)) z := by rw [← ge_append, List.take_append_drop]
  have h2 : ge (t.take (k + 1)) z = 0 := by
    refine ge_zero ?_
    intro y hy
    obtain ⟨i, hi, rfl⟩ := mem_getD hy
    have hi' : i < k + 1 := by rw [List.length_take] at hi; omega
    have : (t.take (k + 1)).getD i 0 = t.getD i 0 := by simp [List.getD_eq_getElem?_getD, hi']
    rw [this]
    by_cases h0 : i = k
    · subst h0; exact hz
    · have := hs i k (by omega) hk
      omega
  have h3 := ge_le (t.drop (k + 1)) z
  rw [List.length_drop] at h3
  omega
theorem mid_spec {l : List Int} (h : 0 < l.length) : mid l ∈ l ∧ l.length < 2 * ge l (mid l) ∧ ∀ z, l.length < 2 * ge l z → z ≤ mid l := by
  have hp := isrt_perm l (l.length - 1) (by omega)
  have hl := isrt_len l (l.length - 1)
  have hs := isrt_srt l (l.length - 1) (by omega)
  rw [show l.length - 1 + 1 = l.length by omega] at hs
  have hk : l.length - (l.length / 2 + 1) < (isrt l (l.length - 1)).length := by omega
  have hs' : Srt (isrt l (l.length - 1)) (isrt l (l.length - 1)).length := by rw [hl]; exact hs
  refine ⟨?_, ?_, ?_⟩
  · rw [← hp.mem_iff]
    unfold mid
    rw [List.getD_eq_getElem?_getD, List.getElem?_eq_getElem hk]
    exact List.getElem_mem _
  · have := srt_at hs' hk
    rw [← ge_perm hp]
    unfold mid
    omega
  · intro z hz
    rw [← ge_perm hp] at hz
    apply Int.not_lt.mp
    intro hlt
    have := srt_above hs' hk hlt
    omega
theorem bst_spec (l : List Int) : ∀ i, i ≤ l.length → 0 ≤ bst l i ∧ (bst l i = 0 ∨ l.length < 2 * ge l (bst l i)) ∧ ∀ (j : Nat) (z : Int), j < i → l[j]? = some z → l.length < 2 * ge l z → z ≤ bst l i := by
  intro i
  induction i with
  | zero => intro _; exact ⟨Int.le_refl _, .inl rfl, fun j z hj => by omega⟩
  | succ i ih =>
    intro hi
    obtain ⟨h1, h2, h3⟩ := ih (by omega)
    obtain ⟨x, hx⟩ : ∃ a, l[i]? = some a := ⟨l[i]'(by omega), List.getElem?_eq_getElem _⟩
    have hb : bst l (i + 1) = if l.length < 2 * ge l x ∧ bst l i < x then x else bst l i := by simp only [bst, hx]
    rw [hb]
    split
    · rename_i hc
      refine ⟨by omega, .inr hc.1, ?_⟩
      intro j z hj hz hg
      by_cases hji : j = i
      · subst hji; rw [hx] at hz; obtain rfl := Option.some.inj hz; omega
      · have := h3 j z (by omega) hz hg; omega
    · rename_i hc
      refine ⟨h1, h2, ?_⟩
      intro j z hj hz hg
      by_cases hji : j = i
      · subst hji; rw [hx] at hz; obtain rfl := Option.some.inj hz
        apply Int.not_lt.mp
        intro hlt
        exact hc ⟨hg, hlt⟩
      · exact h3 j z (by omega) hz hg
theorem mid_bst {l : List Int} (h : 0 < l.length) (h0 : ∀ x ∈ l, 0 ≤ x) : mid l = bst l l.length := by
  obtain ⟨m1, m2, m3⟩ := mid_spec h
  obtain ⟨b1, b2, b3⟩ := bst_spec l l.length (Nat.le_refl _)
  have hm0 := h0 _ m1
  obtain ⟨j, hj, hjm⟩ := List.getElem_of_mem m1
  have h4 := b3 j (mid l) hj (by rw [List.getElem?_eq_getElem hj, hjm]) m2
  rcases b2 with h | h
  · omega
  · have := m3 _ h
    omega
end Go.Proofs.YtfllmhjjfapnmaaGreat.Q

