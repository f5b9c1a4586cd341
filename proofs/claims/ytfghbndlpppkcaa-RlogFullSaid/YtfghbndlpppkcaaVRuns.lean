/- Lists of entries that follow on, without data. No statement of the seat is proved here. -/
import Derived.Test.YtfghbndlpppkcaaVMergeL
namespace Go.Proofs.Ytfghbndlpppkcaa
open Go Go.VI
set_option linter.unusedSimpArgs false

/-- Entries behind `b`, of one term. -/
def runE (b t : Int) : Nat → List Entry
  | 0 => []
  | k + 1 => ⟨b + 1, t, 0, []⟩ :: runE (b + 1) t k
theorem runE_len (t : Int) : ∀ (k : Nat) (b : Int), (runE b t k).length = k := by
  intro k
  induction k with
  | zero => intro b; rfl
  | succ k ih => intro b; simp [runE, ih]
theorem runE_get (t : Int) : ∀ (k : Nat) (b : Int) (j : Nat), j < k → (runE b t k)[j]? = some ⟨b + 1 + j, t, 0, []⟩ := by
  intro k
  induction k with
  | zero => intro b j h; omega
  | succ k ih =>
    intro b j h
    cases j with
    | zero => simp [runE]
    | succ j =>
      simp only [runE, List.getElem?_cons_succ]
      rw [ih (b + 1) j (by omega)]
      congr 2
      push_cast; omega
theorem runE_snoc (t : Int) : ∀ (k : Nat) (b : Int), runE b t (k + 1) = runE b t k ++ [⟨b + 1 + k, t, 0, []⟩] := by
  intro k
  induction k with
  | zero => intro b; simp [runE]
  | succ k ih =>
    intro b
    rw [runE, ih (b + 1)]
    simp only [runE, List.cons_append]
    congr 3
    push_cast; congr 1; omega
theorem ent_plain (i t : Int) : entOk ⟨i, t, 0, []⟩ = true := by simp [entOk]
theorem beh_run {t : Int} {ys : List Entry} : ∀ (k : Nat) (b t0 : Int), t0 ≤ t → 0 < k → beh b t0 (runE b t k ++ ys) = beh (b + k) t ys := by
  intro k
  induction k with
  | zero => intro b t0 _ h; omega
  | succ k ih =>
    intro b t0 h _
    simp only [runE, List.cons_append, beh]
    rw [ent_plain]
    have e1 : decide (t0 ≤ t) = true := by simp [h]
    simp only [decide_true, e1, Bool.and_true, Bool.true_and]
    cases k with
    | zero => simp [runE]
    | succ k =>
      rw [ih (b + 1) t (Int.le_refl _) (by omega)]
      congr 1
      push_cast; omega
theorem beh_run0 {t : Int} (k : Nat) (b t0 : Int) (h : t0 ≤ t) : beh b t0 (runE b t k) = true := by
  cases k with
  | zero => rfl
  | succ k =>
    have := beh_run (t := t) (ys := []) (k + 1) b t0 h (by omega)
    rw [List.append_nil] at this
    rw [this]; rfl
theorem runE_wf {t : Int} (ht : 0 ≤ t ∧ t ≤ 18446744073709551615) : ∀ (k : Nat) (b : Int), 0 ≤ b → b + k ≤ 18446744073709551615 → ∀ e ∈ runE b t k, e.Wf := by
  intro k
  induction k with
  | zero => intro b _ _ e he; simp [runE] at he
  | succ k ih =>
    intro b h0 h1 e he
    rcases List.mem_cons.mp he with rfl | he
    · exact ⟨⟨by show 0 ≤ b + 1; omega, by show b + 1 ≤ _; omega⟩, ht, ⟨by show (-9223372036854775808 : Int) ≤ 0; omega, by show (0 : Int) ≤ _; omega⟩, show ([] : List UInt8).length < 1000000000000 by decide⟩
    · exact ih (b + 1) (by omega) (by omega) e he

theorem runE_zero (b t : Int) : runE b t 0 = [] := rfl
theorem runE_succ (b t : Int) (k : Nat) : runE b t (k + 1) = ⟨b + 1, t, 0, []⟩ :: runE (b + 1) t k := rfl
attribute [local irreducible] runE

theorem base1_wf : Entry.Wf ⟨0, 0, 0, [1]⟩ := ⟨⟨by decide, by decide⟩, ⟨by decide, by decide⟩, ⟨by decide, by decide⟩, by decide⟩
/-- The log that is nearly full. -/
def bigL (m : Nat) : Log := ⟨⟨0, 0, 0, [1]⟩, runE 0 1 4094 ++ runE 4094 2 m⟩
theorem bigL_len (m : Nat) : (bigL m).l.length = 4094 + m := by simp [bigL, runE_len]
theorem bigL_ok {m : Nat} (h : m ≤ 2) : logOk (bigL m) = true := by
  have h1 : okV (nodes [1]) = true := by decide
  have h2 : beh 0 0 (runE 0 1 4094 ++ runE 4094 2 m) = true := by
    rw [beh_run 4094 0 0 (by decide) (by decide)]
    exact beh_run0 m _ _ (by decide)
  have h3 := bigL_len m
  have h4 : decide ((bigL m).l.length ≤ 4096) = true := by simp; omega
  simp only [logOk, h4]
  show (decide ((0 : Int) = 0) && okV (nodes [1]) && decide ((0 : Int) ≤ 4611686018427387904) && true && beh 0 0 (runE 0 1 4094 ++ runE 4094 2 m)) = true
  rw [h1, h2]; rfl
theorem bigL_wf (m : Nat) (h : m ≤ 4) : (bigL m).Wf := by
  refine ⟨base1_wf, ?_, ?_⟩
  · intro e he
    rcases List.mem_append.mp he with he | he
    · exact runE_wf (by decide) _ _ (by decide) (by decide) e he
    · exact runE_wf (by decide) _ _ (by decide) (by omega) e he
  · have := bigL_len m
    show (bigL m).l.length < 1000000000000; omega
theorem bigL_last0 : lastE (bigL 0) = ⟨4094, 1, 0, []⟩ := by
  refine lastE_of ?_
  rw [bigL_len]
  show (runE 0 1 4094 ++ runE 4094 2 0)[4093]? = some _
  rw [runE_zero, List.append_nil, runE_get 1 4094 0 4093 (by omega), show (0 : Int) + 1 + ((4093 : Nat) : Int) = 4094 by omega]
theorem bigL_last {m : Nat} (h : 0 < m) : lastE (bigL m) = ⟨4094 + m, 2, 0, []⟩ := by
  refine lastE_of ?_
  rw [bigL_len]
  show (runE 0 1 4094 ++ runE 4094 2 m)[4094 + m - 1]? = _
  rw [List.getElem?_append_right (by rw [runE_len]; omega), runE_len, runE_get 2 m 4094 _ (by omega), show (4094 : Int) + 1 + ((4094 + m - 1 - 4094 : Nat) : Int) = 4094 + m by omega]

theorem big_merge (m : Nat) (h : m ≤ 4) : mergeOut (bigL 0) 4094 1 (runE 4094 2 m) = if m ≤ 2 then (bigL m, IntKind.u64.wrap (4094 + IntKind.u64.wrap m), 0) else (zeroL, 0, 2) := by
  have hc := (logOk_cons (bigL_ok (m := 0) (by decide))).1
  have h1 : beh 4094 1 (runE 4094 2 m) = true := beh_run0 m _ _ (by decide)
  have h2 : termO (bigL 0).base.index (bigL 0).base.term (bigL 0).l 4094 = (1, true) := by
    have hx : (bigL 0).l[4093]? = some ⟨4094, 1, 0, []⟩ := by
      show (runE 0 1 4094 ++ runE 4094 2 0)[4093]? = some _
      rw [runE_zero, List.append_nil, runE_get 1 4094 0 4093 (by omega), show (0 : Int) + 1 + ((4093 : Nat) : Int) = 4094 by omega]
    simp only [termO]
    rw [if_neg (by decide)]
    have := find_in hc hx
    show (match List.find? (fun e => decide (e.index = 4094)) (bigL 0).l with | some e => (e.term, true) | none => (0, false)) = _
    rw [show List.find? (fun e => decide (e.index = 4094)) (bigL 0).l = some ⟨4094, 1, 0, []⟩ from this]
  have h3 : mrg (bigL 0).base.index (bigL 0).base.term (bigL 0).l (runE 4094 2 m) = (bigL m).l := by
    cases m with
    | zero => rw [runE_zero, mrg]
    | succ m =>
      rw [runE_succ 4094 2 m, mrg, if_neg]
      · have hl : (bigL 0).l.length = 4094 := bigL_len 0
        have : ((4094 + 1 : Int) - (bigL 0).base.index - 1).toNat = (bigL 0).l.length := by rw [hl]; rfl
        rw [this, List.take_length]
        show (runE 0 1 4094 ++ runE 4094 2 0) ++ _ = runE 0 1 4094 ++ runE 4094 2 (m + 1)
        rw [runE_zero, List.append_nil, runE_succ 4094 2 m]
      · simp only [termO]
        rw [if_neg (by decide), find_out hc (by rw [bigL_len]; right; decide)]
        simp
  unfold mergeOut
  rw [bigL_ok (by decide), h1, h2, h3, bigL_len, runE_len]
  simp only [Bool.true_eq_false, or_self, if_false, ne_eq, not_true_eq_false]
  rw [if_neg (show ¬ (4094 : Int) < (bigL 0).base.index by decide)]
  by_cases hm : m ≤ 2
  · rw [if_neg (by omega), if_pos hm]; rfl
  · rw [if_pos (by omega), if_neg hm]

theorem big_append (m : Nat) (h : m ≤ 2) : (appOut (bigL m) 2 0 []).2 = if m = 2 then 2 else 0 := by
  have h1 := bigL_ok h
  have h2 : ¬ 2 < (lastE (bigL m)).term := by
    rcases Nat.eq_zero_or_pos m with rfl | h0
    · rw [bigL_last0]; decide
    · rw [bigL_last h0]; exact Int.lt_irrefl 2
  have h3 : entOk (newE (bigL m) 2 0 []) = true := ent_plain _ _
  have h4 : ¬ 4611686018427387904 ≤ (lastE (bigL m)).index := by
    rcases Nat.eq_zero_or_pos m with rfl | h0
    · rw [bigL_last0]; decide
    · rw [bigL_last h0]; show ¬ 4611686018427387904 ≤ (4094 + m : Int); omega
  unfold appOut
  rw [h1, h3, bigL_len, decide_eq_false h2, decide_eq_false h4]
  by_cases hm : m = 2
  · subst hm; rfl
  · have : decide (4096 ≤ 4094 + m) = false := by simp; omega
    rw [this, if_neg hm]; rfl
end Go.Proofs.Ytfghbndlpppkcaa
