/- Majorities meet: the plain law. No statement of the seat is proved here. -/
import Derived.Test.YtgedimcfeofjcaaVLawCounts
namespace Go.Proofs.Ytgedimcfeofjcaa
open Go Go.VI
set_option linter.unusedSimpArgs false

/-- The nodes from 1 on, so many. -/
def rg : Nat → List Int
  | 0 => []
  | i + 1 => rg i ++ [(i : Int) + 1]
theorem rg_mem : ∀ {i : Nat} {n : Int}, n ∈ rg i ↔ 1 ≤ n ∧ n ≤ i := by
  intro i
  induction i with
  | zero => intro n; simp [rg]; omega
  | succ i ih =>
    intro n
    simp only [rg, List.mem_append, ih, List.mem_singleton]
    omega

/-- What rises, above a number. -/
def inc (lo : Int) : List Int → Prop
  | [] => True
  | x :: t => lo < x ∧ x ≤ 7 ∧ inc x t
theorem inc_gt : ∀ {l : List Int} {lo : Int}, inc lo l → ∀ n ∈ l, lo < n ∧ n ≤ 7 := by
  intro l
  induction l with
  | nil => intro lo _ n hn; simp at hn
  | cons x t ih =>
    intro lo h n hn
    rcases List.mem_cons.mp hn with rfl | hn
    · exact ⟨h.1, h.2.1⟩
    · have := ih h.2.2 n hn
      have := h.1
      omega
theorem good_inc : ∀ (l : List Int) (lo : Int), (∀ i a, l[i]? = some a → a ≤ 7 ∧ (i = 0 → lo < a) ∧ ∀ b, 0 < i → l[i - 1]? = some b → b < a) → inc lo l := by
  intro l
  induction l with
  | nil => intro lo _; trivial
  | cons x t ih =>
    intro lo h
    have h0 := h 0 x rfl
    refine ⟨h0.2.1 rfl, h0.1, ih x ?_⟩
    intro i a ha
    have h1 := h (i + 1) a (by simpa using ha)
    refine ⟨h1.1, fun hi => ?_, fun b hi hb => ?_⟩
    · subst hi
      exact h1.2.2 x (by omega) (by simp)
    · refine h1.2.2 b (by omega) ?_
      match i, hi with
      | j + 1, _ => simpa using hb

/-- Numbers above one, so many. -/
def up (lo : Int) : Nat → List Int
  | 0 => []
  | k + 1 => (lo + 1) :: up (lo + 1) k
theorem up_gt : ∀ {k : Nat} {lo n : Int}, n ∈ up lo k → lo < n := by
  intro k
  induction k with
  | zero => intro lo n h; simp [up] at h
  | succ k ih =>
    intro lo n h
    rcases List.mem_cons.mp h with rfl | h
    · omega
    · have := ih h; omega
theorem up_snoc : ∀ (k : Nat) (lo : Int), up lo (k + 1) = up lo k ++ [lo + k + 1] := by
  intro k
  induction k with
  | zero => intro lo; simp [up]
  | succ k ih =>
    intro lo
    rw [up, ih (lo + 1), up, List.cons_append]
    congr 3
    push_cast; omega
theorem rg_up (i : Nat) : rg i = up 0 i := by
  induction i with
  | zero => rfl
  | succ i ih => rw [rg, ih, up_snoc]; congr 2; omega

theorem inc_filter : ∀ (k : Nat) (lo : Int) (l : List Int), inc lo l → (∀ n ∈ l, n ≤ lo + k) → (up lo k).filter (fun n => l.contains n) = l := by
  intro k
  induction k with
  | zero =>
    intro lo l h hk
    match l, h, hk with
    | [], _, _ => rfl
    | x :: t, h, hk => have := h.1; have := hk x (List.mem_cons_self ..); omega
  | succ k ih =>
    intro lo l h hk
    match l, h, hk with
    | [], _, _ => simp [up]
    | x :: t, h, hk =>
      simp only [up, List.filter_cons]
      by_cases hx : x = lo + 1
      · subst hx
        have c : ((lo + 1) :: t).contains (lo + 1) = true := by simp
        rw [c, if_pos rfl]
        congr 1
        have IH := ih (lo + 1) t h.2.2 (fun n hn => by have := hk n (List.mem_cons_of_mem _ hn); push_cast at this; omega)
        conv => rhs; rw [← IH]
        refine List.filter_congr ?_
        intro n hn
        have hgt := up_gt hn
        rw [List.contains_cons]
        have : (n == lo + 1) = false := by simp; omega
        rw [this, Bool.false_or]
      · have c : (x :: t).contains (lo + 1) = false := by
          rw [Bool.eq_false_iff]
          intro hc
          rw [List.contains_iff_mem] at hc
          have h1 := h.1
          rcases List.mem_cons.mp hc with h2 | h2
          · exact hx h2.symm
          · have := (inc_gt h.2.2 _ h2).1; omega
        rw [c, if_neg (by simp)]
        refine ih (lo + 1) (x :: t) ⟨by have := h.1; omega, h.2⟩ fun n hn => by have := hk n hn; push_cast at this; omega

theorem good_filter {a : List Int} (h : good a) : (rg 7).filter (fun n => a.contains n) = a := by
  rw [rg_up]
  have hi : inc 0 a := good_inc a 0 fun i x hx => by
    have := h i x hx
    exact ⟨this.2.1, fun _ => by omega, this.2.2⟩
  exact inc_filter 7 0 a hi fun n hn => by have := (inc_gt hi n hn).2; simpa using this

theorem cnt_filter {a p : List Int} (h : good a) : cnt a p = ((rg 7).filter fun n => a.contains n && p.contains n).length := by
  unfold cnt
  conv => lhs; rw [← good_filter h]
  rw [List.filter_filter]
  congr 2
  funext n
  exact Bool.and_comm _ _

theorem one_rg (x : Int) : ∀ i : Nat, ((rg i).filter fun n => n == x).length ≤ 1 := by
  intro i
  induction i with
  | zero => simp [rg]
  | succ i ih =>
    rw [rg, List.filter_append, List.length_append]
    by_cases hx : ((i : Int) + 1) = x
    · have : (rg i).filter (fun n => n == x) = [] := by
        rw [List.filter_eq_nil_iff]
        intro n hn hc
        have := rg_mem.mp hn
        simp at hc; omega
      rw [this]
      have h2 := List.length_filter_le (fun n => n == x) [(i : Int) + 1]
      simp only [List.length_nil, List.length_singleton] at h2 ⊢
      omega
    · have : [(i : Int) + 1].filter (fun n => n == x) = [] := by simp [hx]
      rw [this]; simpa using ih

theorem sum_meets (a b : Int → Bool) (x : Int) (p q : Int → Bool) (hp : ∀ n, p n = true → a n = true) (hq : ∀ n, q n = true → b n = true) (hpq : ∀ n, ¬ (p n = true ∧ q n = true)) (hab : ∀ n, n ≠ x → a n = b n) :
    ∀ R : List Int, 2 * ((R.filter p).length + (R.filter q).length) ≤ (R.filter a).length + (R.filter b).length + (R.filter fun n => n == x).length := by
  intro R
  induction R with
  | nil => simp
  | cons n R ih =>
    have h1 := hp n
    have h2 := hq n
    have h3 := hpq n
    have h4 := hab n
    simp only [List.filter_cons]
    by_cases hx : n = x
    · subst hx
      simp only [beq_self_eq_true, if_true]
      cases e1 : p n <;> cases e2 : q n <;> cases e3 : a n <;> cases e4 : b n <;> simp_all <;> omega
    · have hx' : (n == x) = false := by simp [hx]
      have h5 := h4 hx
      simp only [hx', Bool.false_eq_true, if_false]
      cases e1 : p n <;> cases e2 : q n <;> cases e3 : a n <;> cases e4 : b n <;> simp_all <;> omega

/-- THE LAW: majorities of voters that may follow one another have a node in common. -/
theorem meets {a b : List Int} {f g : Int → Bool} (x : Int) (ha : good a) (hb : good b) (hab : ∀ n ∈ rg 7, n ≠ x → (n ∈ a ↔ n ∈ b))
    (h1 : a.length < 2 * cnt a ((rg 7).filter fun n => f n && a.contains n)) (h2 : b.length < 2 * cnt b ((rg 7).filter fun n => g n && b.contains n)) :
    0 < cnt ((rg 7).filter fun n => f n && a.contains n) ((rg 7).filter fun n => g n && b.contains n) := by
  rcases Nat.eq_zero_or_pos (cnt ((rg 7).filter fun n => f n && a.contains n) ((rg 7).filter fun n => g n && b.contains n)) with h0 | h0
  · exfalso
    rw [cnt_filter ha] at h1
    rw [cnt_filter hb] at h2
    unfold cnt at h0
    rw [List.filter_filter] at h0
    have none := List.filter_eq_nil_iff.mp (List.length_eq_zero_iff.mp h0)
    have inF : ∀ (φ : Int → Bool) (n : Int), ((rg 7).filter φ).contains n = true ↔ n ∈ rg 7 ∧ φ n = true := by
      intro φ n
      rw [List.contains_iff_mem, List.mem_filter]
    have key := sum_meets (fun n => decide (n ∈ rg 7) && a.contains n) (fun n => decide (n ∈ rg 7) && b.contains n) x
      (fun n => a.contains n && ((rg 7).filter fun n => f n && a.contains n).contains n) (fun n => b.contains n && ((rg 7).filter fun n => g n && b.contains n).contains n) ?_ ?_ ?_ ?_ (rg 7)
    · have e1 : (rg 7).filter (fun n => decide (n ∈ rg 7) && a.contains n) = a := by
        conv => rhs; rw [← good_filter ha]
        refine List.filter_congr fun n hn => ?_
        simp [hn]
      have e2 : (rg 7).filter (fun n => decide (n ∈ rg 7) && b.contains n) = b := by
        conv => rhs; rw [← good_filter hb]
        refine List.filter_congr fun n hn => ?_
        simp [hn]
      rw [e1, e2] at key
      have := one_rg x 7
      omega
    · intro n h
      simp only [Bool.and_eq_true, inF, decide_eq_true_eq] at h ⊢
      exact ⟨h.2.1, h.1⟩
    · intro n h
      simp only [Bool.and_eq_true, inF, decide_eq_true_eq] at h ⊢
      exact ⟨h.2.1, h.1⟩
    · rintro n ⟨h3, h4⟩
      simp only [Bool.and_eq_true, inF] at h3 h4
      refine none n h3.2.1 ?_
      simp only [Bool.and_eq_true, inF]
      exact ⟨h4.2, h3.2.2⟩
    · intro n hn
      by_cases hr : n ∈ rg 7
      · have := hab n hr hn
        simp only [hr, decide_true, Bool.true_and]
        rw [Bool.eq_iff_iff, List.contains_iff_mem, List.contains_iff_mem]; exact this
      · simp [hr]
  · exact h0
end Go.Proofs.Ytgedimcfeofjcaa
