/- Lists of spans with the same keys are the same; what is added, what is cut off: the plain law. No statement of the seat is proved here. -/
import Derived.Test.YthibbbfhkfebkaaGreatVZTB
import Derived.Test.YthibbbfhkfebkaaGreatVZVE
import Derived.Test.YthibbbfhkfebkaaGreatVZTD
namespace Go.Proofs.YthibbbfhkfebkaaGreat
open Go Go.VI
set_option linter.unusedSimpArgs false
def rk (L : List Txt) (t : Txt) : Nat := L.countP fun a => bl a t
theorem rk_le {L : List Txt} {a b : Txt} (h : bl a b = true) : rk L a ≤ rk L b := List.countP_mono_left fun _ _ hx => bl_trans hx h
theorem rk_lt {L : List Txt} {a b : Txt} (ha : a ∈ L) (h : bl a b = true) : rk L a < rk L b := by
  obtain ⟨p, q, rfl⟩ := List.append_of_mem ha
  have h1 : rk p a ≤ rk p b := rk_le h
  have h2 : rk q a ≤ rk q b := rk_le h
  unfold rk at h1 h2 ⊢
  rw [List.countP_append, List.countP_append, List.countP_cons, List.countP_cons]
  simp only [bl_irrefl, h, Bool.false_eq_true, if_false, if_true]
  omega
theorem rk_ex (L : List Txt) (h0 : [] ∈ L) : ∃ r : Txt → Nat, (∀ a b, a ∈ L → b ∈ L → bl a b = decide (r a < r b)) ∧ (∀ a, a ∈ L → (a == []) = decide (r a = 0)) ∧ (∀ a, a ∈ L → (a = []) = (r a = 0)) ∧ ∀ a b, a ∈ L → b ∈ L → r a = r b → a = b := by
  have key : ∀ a b, a ∈ L → b ∈ L → rk L a = rk L b → a = b := fun a b ha hb h => by
    refine bl_total ?_ ?_
    · cases hh : bl a b with
      | false => rfl
      | true => have := rk_lt ha hh; omega
    · cases hh : bl b a with
      | false => rfl
      | true => have := rk_lt hb hh; omega
  have hz : rk L [] = 0 := by unfold rk; rw [List.countP_eq_zero]; intro a _; rw [bl_nil]; simp
  have h3 : ∀ a, a ∈ L → (a = []) = (rk L a = 0) := fun a ha => by
    rw [eq_iff_iff]
    constructor
    · rintro rfl; exact hz
    · intro h; exact key _ _ ha h0 (by rw [h, hz])
  refine ⟨rk L, fun a b ha hb => ?_, fun a ha => ?_, h3, key⟩
  · cases hh : bl a b with
    | true => have := rk_lt ha hh; simp [this]
    | false =>
      cases h2 : bl b a with
      | true => have := rk_lt hb h2; simp; omega
      | false => rw [bl_total hh h2]; simp
  · rw [Bool.eq_iff_iff, beq_iff_eq, decide_eq_true_eq, h3 a ha]
def okS (s : Span) : Prop := s.to = [] ∨ bl s.frm s.to = true
theorem may_ok {s : Span} (h : mayS s = true) : okS s := by
  simp only [mayS, Bool.and_eq_true, Bool.or_eq_true, beq_iff_eq] at h
  exact h.2
structure Canon (l : List Span) : Prop where
  ok : ∀ x ∈ l, okS x
  up : l.Pairwise fun x y => aheadS x.to y.frm = true
theorem form_canon {l : List Span} (h : formS l = true) : Canon l := by
  simp only [formS, Bool.and_eq_true] at h
  obtain ⟨h1, h2, _⟩ := rising_form l none h.2
  exact ⟨fun x hx => may_ok (h1 x hx), h2⟩
theorem apart {x y : Span} {k : Txt} (h : aheadS x.to y.frm = true) (hy : hasS y k = true) : hasS x k = false := by
  obtain ⟨h1, h2⟩ := ahead_iff.mp h
  obtain ⟨h3, _⟩ := (has_iff y k).mp hy
  cases hx : hasS x k with
  | false => rfl
  | true =>
    obtain ⟨_, h5⟩ := (has_iff x k).mp hx
    rcases h5 with h5 | h5
    · exact absurd h5 h1
    · have := bl_trans h5 h2; rw [h3] at this; cases this
structure PJ (q : List Txt) (op : Bool) (out : List Span) : Prop where
  sp : ∃ cl, ((out = cl ∧ op = false) ∨ ∃ f, out = cl ++ [⟨f, []⟩] ∧ op = true ∧ f ∈ q ∧ ∀ x ∈ cl, bl x.to f = true) ∧ (∀ x ∈ cl, x.to ≠ [] ∧ x.to ∈ q ∧ bl x.frm x.to = true) ∧ cl.Pairwise fun x y => aheadS x.to y.frm = true
theorem PJ.next {is : Txt → Bool} {q : List Txt} {op : Bool} {out : List Span} (h : PJ q op out) {a : Txt} (hq : ∀ b ∈ q, bl b a = true) (ha : q ≠ [] → a ≠ []) : PJ (q ++ [a]) (is a) (nextOut is op out a) := by
  obtain ⟨cl, hcl, hok, hup⟩ := h.sp
  have mono : ∀ x ∈ cl, x.to ≠ [] ∧ x.to ∈ q ++ [a] ∧ bl x.frm x.to = true := fun x hx => by
    obtain ⟨h1, h2, h3⟩ := hok x hx
    exact ⟨h1, List.mem_append_left _ h2, h3⟩
  rcases hcl with ⟨rfl, rfl⟩ | ⟨f, rfl, rfl, hf, hlf⟩
  · cases hi : is a with
    | true =>
      have e : nextOut is false out a = out ++ [⟨a, []⟩] := by simp [nextOut, hi]
      rw [e]
      exact ⟨⟨out, .inr ⟨a, rfl, rfl, by simp, fun x hx => hq _ (hok x hx).2.1⟩, mono, hup⟩⟩
    | false =>
      have e : nextOut is false out a = out := by simp [nextOut, hi]
      rw [e]
      exact ⟨⟨out, .inl ⟨rfl, rfl⟩, mono, hup⟩⟩
  · have hfa := hq f hf
    have hane : a ≠ [] := ha (by intro e; rw [e] at hf; cases hf)
    cases hi : is a with
    | true =>
      have e : nextOut is true (cl ++ [⟨f, []⟩]) a = cl ++ [⟨f, []⟩] := by simp [nextOut, hi]
      rw [e]
      exact ⟨⟨cl, .inr ⟨f, rfl, rfl, List.mem_append_left _ hf, hlf⟩, mono, hup⟩⟩
    | false =>
      have e : nextOut is true (cl ++ [⟨f, []⟩]) a = cl ++ [⟨f, a⟩] := by simp [nextOut, hi, setTo_snoc]
      rw [e]
      refine ⟨⟨cl ++ [⟨f, a⟩], .inl ⟨rfl, rfl⟩, fun x hx => ?_, ?_⟩⟩
      · rcases List.mem_append.mp hx with hx | hx
        · exact mono x hx
        · simp at hx; subst hx
          exact ⟨hane, by simp, hfa⟩
      · refine List.pairwise_append.mpr ⟨hup, by simp, fun x hx y hy => ?_⟩
        simp at hy; subst hy
        exact ahead_iff.mpr ⟨(hok x hx).1, hlf x hx⟩
def mnS (a b : Txt) : Txt := if bl a b || a == b then a else b
def mxS (a b : Txt) : Txt := if bl a b then b else a
def leastS (a b : Txt) : Txt := if belowS a b then a else b
def mrg (s x : Span) : Span := ⟨mnS s.frm x.frm, if belowS s.to x.to then x.to else s.to⟩
theorem mrg_ok {s x : Span} (hs : okS s) (hx : okS x) : okS (mrg s x) := by
  unfold okS mrg mnS belowS at *
  obtain ⟨r, h1, h2, h3, h4⟩ := rk_ex [[], s.frm, s.to, x.frm, x.to] (by simp)
  have e : (s.frm == x.frm) = decide (r s.frm = r x.frm) := by
    rw [Bool.eq_iff_iff, beq_iff_eq, decide_eq_true_eq]
    exact ⟨fun e => by rw [e], h4 _ _ (by simp) (by simp)⟩
  simp only [e, h1, h2, h3, List.mem_cons, true_or, or_true] at *
  split <;> split <;> simp only [h1, h2, h3, List.mem_cons, true_or, or_true, decide_eq_true_eq, Bool.or_eq_true, Bool.and_eq_true, Bool.not_eq_true', decide_eq_false_iff_not] at * <;> omega
theorem mrg_has {s x : Span} (k : Txt) (hs : okS s) (hx : okS x) (n1 : aheadS x.to s.frm = false) (n2 : aheadS s.to x.frm = false) : hasS (mrg s x) k = (hasS s k || hasS x k) := by
  unfold okS at hs hx
  unfold aheadS at n1 n2
  unfold mrg mnS belowS hasS
  obtain ⟨r, h1, h2, h3, h4⟩ := rk_ex [[], k, s.frm, s.to, x.frm, x.to] (by simp)
  have e : (s.frm == x.frm) = decide (r s.frm = r x.frm) := by
    rw [Bool.eq_iff_iff, beq_iff_eq, decide_eq_true_eq]
    exact ⟨fun e => by rw [e], h4 _ _ (by simp) (by simp)⟩
  simp only [e, h1, h2, h3, List.mem_cons, true_or, or_true] at *
  rw [Bool.eq_iff_iff]
  split <;> split <;> simp only [h1, h2, h3, List.mem_cons, true_or, or_true, decide_eq_true_eq, Bool.or_eq_true, Bool.and_eq_true, Bool.not_eq_true', decide_eq_false_iff_not, Bool.and_eq_false_imp] at * <;> omega
end Go.Proofs.YthibbbfhkfebkaaGreat
/- A list and a span more, a list without a span's keys, what two have: the plain law. No statement of the seat is proved here. -/
namespace Go.Proofs.YthibbbfhkfebkaaGreat
open Go Go.VI
set_option linter.unusedSimpArgs false
structure AddSt where
  low : List Span
  s : Span
  high : List Span
def addStep (st : AddSt) (x : Span) : AddSt :=
  if aheadS x.to st.s.frm then ⟨st.low ++ [x], st.s, st.high⟩ else if aheadS st.s.to x.frm then ⟨st.low, st.s, st.high ++ [x]⟩ else ⟨st.low, mrg st.s x, st.high⟩
def AddSt.out (st : AddSt) : List Span := st.low ++ [st.s] ++ st.high
def addP (l : List Span) (s : Span) : List Span := (l.foldl addStep ⟨[], s, []⟩).out
theorem ahead_trans {a b c d : Txt} (h1 : aheadS a b = true) (h2 : bl b c = true) (h3 : bl c d = true) : aheadS a d = true := by
  obtain ⟨p, q⟩ := ahead_iff.mp h1
  exact ahead_iff.mpr ⟨p, bl_trans (bl_trans q h2) h3⟩
structure AddI (s0 : Span) (p : List Span) (st : AddSt) : Prop where
  lo : ∀ x ∈ st.low, x ∈ p
  hi : ∀ x ∈ st.high, x ∈ p
  ok : okS st.s
  l1 : st.low.Pairwise fun x y => aheadS x.to y.frm = true
  h1 : st.high.Pairwise fun x y => aheadS x.to y.frm = true
  l2 : ∀ x ∈ st.low, aheadS x.to st.s.frm = true
  h2 : ∀ x ∈ st.high, aheadS st.s.to x.frm = true
  sem : ∀ k, (st.out.any fun x => hasS x k) = ((p.any fun x => hasS x k) || hasS s0 k)
theorem AddI.step {s0 : Span} {p : List Span} {st : AddSt} (h : AddI s0 p st) {x : Span} (hx : okS x) (hp : ∀ y ∈ p, okS y ∧ aheadS y.to x.frm = true) : AddI s0 (p ++ [x]) (addStep st x) := by
  have mem : ∀ y, y ∈ p → y ∈ p ++ [x] := fun y hy => List.mem_append_left _ hy
  have sem := h.sem
  simp only [AddSt.out, List.any_append, List.any_cons, List.any_nil, Bool.or_false] at sem
  unfold addStep
  by_cases c1 : aheadS x.to st.s.frm = true
  · rw [if_pos c1]
    refine ⟨fun y hy => ?_, fun y hy => mem y (h.hi y hy), h.ok, List.pairwise_append.mpr ⟨h.l1, by simp, fun y hy z hz => ?_⟩, h.h1, fun y hy => ?_, h.h2, fun k => ?_⟩
    · rcases List.mem_append.mp hy with hy | hy
      · exact mem y (h.lo y hy)
      · simp at hy; subst hy; simp
    · simp at hz; subst hz
      exact (hp y (h.lo y hy)).2
    · rcases List.mem_append.mp hy with hy | hy
      · exact h.l2 y hy
      · simp at hy; subst hy; exact c1
    · have := sem k
      simp only [AddSt.out, List.any_append, List.any_cons, List.any_nil, Bool.or_false]
      revert this
      cases st.low.any fun x => hasS x k <;> cases hasS x k <;> cases hasS st.s k <;> cases st.high.any fun x => hasS x k <;> cases p.any fun x => hasS x k <;> cases hasS s0 k <;> simp
  · rw [if_neg c1]
    by_cases c2 : aheadS st.s.to x.frm = true
    · rw [if_pos c2]
      refine ⟨fun y hy => mem y (h.lo y hy), fun y hy => ?_, h.ok, h.l1, List.pairwise_append.mpr ⟨h.h1, by simp, fun y hy z hz => ?_⟩, h.l2, fun y hy => ?_, fun k => ?_⟩
      · rcases List.mem_append.mp hy with hy | hy
        · exact mem y (h.hi y hy)
        · simp at hy; subst hy; simp
      · simp at hz; subst hz
        exact (hp y (h.hi y hy)).2
      · rcases List.mem_append.mp hy with hy | hy
        · exact h.h2 y hy
        · simp at hy; subst hy; exact c2
      · have := sem k
        simp only [AddSt.out, List.any_append, List.any_cons, List.any_nil, Bool.or_false]
        revert this
        cases st.low.any fun x => hasS x k <;> cases hasS x k <;> cases hasS st.s k <;> cases st.high.any fun x => hasS x k <;> cases p.any fun x => hasS x k <;> cases hasS s0 k <;> simp
    · rw [if_neg c2]
      have hh : st.high = [] := by
        cases hq : st.high with
        | nil => rfl
        | cons y r =>
          exfalso
          have hy : y ∈ st.high := by rw [hq]; simp
          obtain ⟨o1, o2⟩ := hp y (h.hi y hy)
          have o3 := h.h2 y hy
          refine c2 ?_
          obtain ⟨a1, a2⟩ := ahead_iff.mp o2
          rcases o1 with e | e
          · exact absurd e a1
          · exact ahead_trans o3 e a2
      refine ⟨fun y hy => mem y (h.lo y hy), fun y hy => mem y (h.hi y hy), mrg_ok h.ok hx, h.l1, h.h1, fun y hy => ?_, fun y hy => ?_, fun k => ?_⟩
      · show aheadS y.to (mnS st.s.frm x.frm) = true
        unfold mnS
        split
        · exact h.l2 y hy
        · exact (hp y (h.lo y hy)).2
      · have hy' : y ∈ st.high := hy
        rw [hh] at hy'; cases hy'
      · have := sem k
        have hm := mrg_has k h.ok hx (by simpa using c1) (by simpa using c2)
        simp only [AddSt.out, List.any_append, List.any_cons, List.any_nil, Bool.or_false, hm]
        revert this
        cases st.low.any fun x => hasS x k <;> cases hasS x k <;> cases hasS st.s k <;> cases st.high.any fun x => hasS x k <;> cases p.any fun x => hasS x k <;> cases hasS s0 k <;> simp
theorem AddI.all {s0 : Span} : ∀ (r p : List Span) (st : AddSt), AddI s0 p st → Canon (p ++ r) → AddI s0 (p ++ r) (r.foldl addStep st)
  | [], p, st, h, _ => by simpa using h
  | x :: r, p, st, h, hc => by
    have e : p ++ x :: r = (p ++ [x]) ++ r := by simp
    rw [e] at hc ⊢
    refine AddI.all r (p ++ [x]) _ (h.step (hc.ok x (by simp)) fun y hy => ⟨hc.ok y (by simp [hy]), ?_⟩) hc
    have := (List.pairwise_append.mp (List.pairwise_append.mp hc.up).1).2.2
    exact this y hy x (by simp)
theorem add_len (l : List Span) (s : Span) : (addP l s).length ≤ l.length + 1 := by
  have key : ∀ (r : List Span) (st : AddSt), (r.foldl addStep st).out.length ≤ st.out.length + r.length := by
    intro r
    induction r with
    | nil => intro st; simp
    | cons x r ih =>
      intro st
      have h1 := ih (addStep st x)
      have h2 : (addStep st x).out.length ≤ st.out.length + 1 := by
        unfold addStep AddSt.out
        split
        · simp only [List.length_append, List.length_cons, List.length_nil]; omega
        · split
          · simp only [List.length_append, List.length_cons, List.length_nil]; omega
          · simp only [List.length_append, List.length_cons, List.length_nil]; omega
      rw [List.foldl_cons, List.length_cons]
      omega
  have := key l ⟨[], s, []⟩
  simp only [AddSt.out, List.nil_append, List.append_nil, List.length_cons, List.length_nil] at this
  unfold addP AddSt.out
  omega
def cutL (s x : Span) : List Span := (if bl x.frm s.frm then [⟨x.frm, leastS x.to s.frm⟩] else []) ++ (if belowS s.to x.to then [⟨mxS s.to x.frm, x.to⟩] else [])
def lessP (l : List Span) (s : Span) : List Span := l.flatMap (cutL s)
theorem cut_in {s x y : Span} (h : y ∈ cutL s x) : (y = ⟨x.frm, leastS x.to s.frm⟩ ∧ bl x.frm s.frm = true) ∨ (y = ⟨mxS s.to x.frm, x.to⟩ ∧ belowS s.to x.to = true) := by
  unfold cutL at h
  rcases List.mem_append.mp h with h | h
  · split at h
    · rename_i hc; simp at h; exact .inl ⟨h, hc⟩
    · cases h
  · split at h
    · rename_i hc; simp at h; exact .inr ⟨h, hc⟩
    · cases h
theorem cut_facts {s x : Span} (hs : okS s) (hx : okS x) : (bl x.frm s.frm = true → okS ⟨x.frm, leastS x.to s.frm⟩ ∧ leastS x.to s.frm ≠ [] ∧ (x.to ≠ [] → bl x.to (leastS x.to s.frm) = false)) ∧
    (belowS s.to x.to = true → okS ⟨mxS s.to x.frm, x.to⟩ ∧ bl (mxS s.to x.frm) x.frm = false) ∧ (bl x.frm s.frm = true → belowS s.to x.to = true → aheadS (leastS x.to s.frm) (mxS s.to x.frm) = true) := by
  unfold okS at hs hx
  unfold okS leastS mxS belowS aheadS
  obtain ⟨r, h1, h2, h3, h4⟩ := rk_ex [[], s.frm, s.to, x.frm, x.to] (by simp)
  simp only [h1, h2, h3, List.mem_cons, true_or, or_true, ne_eq] at *
  refine ⟨fun h => ?_, fun h => ?_, fun h g => ?_⟩
  · split <;> simp only [h1, h2, h3, List.mem_cons, true_or, or_true, decide_eq_true_eq, Bool.or_eq_true, Bool.and_eq_true, Bool.not_eq_true', decide_eq_false_iff_not, Bool.and_eq_false_imp, Bool.or_eq_false_iff, Bool.not_eq_true, Bool.and_eq_false_imp] at * <;> omega
  · split <;> simp only [h1, h2, h3, List.mem_cons, true_or, or_true, decide_eq_true_eq, Bool.or_eq_true, Bool.and_eq_true, Bool.not_eq_true', decide_eq_false_iff_not, Bool.and_eq_false_imp, Bool.or_eq_false_iff, Bool.not_eq_true] at * <;> omega
  · split <;> split <;> simp only [h1, h2, h3, List.mem_cons, true_or, or_true, decide_eq_true_eq, Bool.or_eq_true, Bool.and_eq_true, Bool.not_eq_true', decide_eq_false_iff_not, Bool.and_eq_false_imp, Bool.or_eq_false_iff, Bool.not_eq_true] at * <;> omega
theorem cut_has {s x : Span} (k : Txt) (hs : okS s) (hx : okS x) : ((cutL s x).any fun y => hasS y k) = (hasS x k && !hasS s k) := by
  unfold okS at hs hx
  unfold cutL leastS mxS belowS
  obtain ⟨r, h1, h2, h3, h4⟩ := rk_ex [[], k, s.frm, s.to, x.frm, x.to] (by simp)
  simp only [hasS, h1, h2, h3, List.mem_cons, true_or, or_true] at *
  rw [Bool.eq_iff_iff]
  repeat' split
  all_goals simp only [List.any_append, List.any_cons, List.any_nil, Bool.or_false, false_or, or_false, false_iff, h1, h2, h3, List.mem_cons, true_or, or_true, decide_eq_true_eq, Bool.or_eq_true, Bool.and_eq_true, Bool.not_eq_true', decide_eq_false_iff_not, Bool.and_eq_false_imp, Bool.or_eq_false_iff, Bool.not_eq_true, Bool.false_eq_true] at * <;> omega
theorem cut_pair {s x : Span} (hs : okS s) (hx : okS x) : (cutL s x).Pairwise fun x y => aheadS x.to y.frm = true := by
  obtain ⟨_, _, h3⟩ := cut_facts hs hx
  unfold cutL
  by_cases c1 : bl x.frm s.frm = true
  · by_cases c2 : belowS s.to x.to = true
    · simp only [c1, c2, if_true]
      simpa using h3 c1 c2
    · simp [c1, c2]
  · by_cases c2 : belowS s.to x.to = true
    · simp [c1, c2]
    · simp [c1, c2]
theorem cut_cross {s x y a b : Span} (hs : okS s) (hx : okS x) (hy : okS y) (h : aheadS x.to y.frm = true) (ha : a ∈ cutL s x) (hb : b ∈ cutL s y) : aheadS a.to b.frm = true := by
  obtain ⟨x1, x2, _⟩ := cut_facts hs hx
  obtain ⟨y1, y2, _⟩ := cut_facts hs hy
  obtain ⟨q1, q2⟩ := ahead_iff.mp h
  have hb' : bl b.frm y.frm = false := by
    rcases cut_in hb with ⟨rfl, hc⟩ | ⟨rfl, hc⟩
    · exact bl_irrefl _
    · exact (y2 hc).2
  have ha' : a.to ≠ [] ∧ bl x.to a.to = false := by
    rcases cut_in ha with ⟨rfl, hc⟩ | ⟨rfl, hc⟩
    · exact ⟨(x1 hc).2.1, (x1 hc).2.2 q1⟩
    · exact ⟨q1, bl_irrefl _⟩
  refine ahead_iff.mpr ⟨ha'.1, ?_⟩
  exact lt_le (le_lt ha'.2 q2) hb'
theorem less_ok {l : List Span} {s : Span} (hl : Canon l) (hs : okS s) : Canon (lessP l s) ∧ ∀ k, ((lessP l s).any fun x => hasS x k) = ((l.any fun x => hasS x k) && !hasS s k) := by
  refine ⟨⟨fun x hx => ?_, ?_⟩, fun k => ?_⟩
  · obtain ⟨y, hy, hxy⟩ := List.mem_flatMap.mp hx
    obtain ⟨y1, y2, _⟩ := cut_facts hs (hl.ok y hy)
    rcases cut_in hxy with ⟨rfl, hc⟩ | ⟨rfl, hc⟩
    · exact (y1 hc).1
    · exact (y2 hc).1
  · have ok := hl.ok
    have up := hl.up
    unfold lessP
    clear hl
    induction l with
    | nil => simp
    | cons x r ih =>
      rw [List.flatMap_cons]
      obtain ⟨u1, u2⟩ := List.pairwise_cons.mp up
      refine List.pairwise_append.mpr ⟨cut_pair hs (ok x (by simp)), ih (fun y hy => ok y (List.mem_cons_of_mem _ hy)) u2, fun a ha b hb => ?_⟩
      obtain ⟨y, hy, hby⟩ := List.mem_flatMap.mp hb
      exact cut_cross hs (ok x (by simp)) (ok y (List.mem_cons_of_mem _ hy)) (u1 y hy) ha hby
  · unfold lessP
    rw [any_flat, any_same (g := fun x => hasS x k && !hasS s k) fun x hx => cut_has k hs (hl.ok x hx)]
    cases hasS s k <;> simp
theorem cut_len (s x : Span) : (cutL s x).length ≤ 2 := by
  unfold cutL
  split <;> split <;> simp
theorem less_len (l : List Span) (s : Span) : (lessP l s).length ≤ 2 * l.length := by
  unfold lessP
  induction l with
  | nil => simp
  | cons x r ih => rw [List.flatMap_cons, List.length_append, List.length_cons]; have := cut_len s x; omega
theorem less_snoc (l : List Span) (s x : Span) : lessP (l ++ [x]) s = lessP l s ++ cutL s x := by simp [lessP]
def meetS (x s : Span) : Span := ⟨mxS x.frm s.frm, leastS x.to s.to⟩
def meetB (s x : Span) : Bool := mayS x && mayS s && mayS (meetS x s)
theorem meet_iff {x s : Span} (hx : mayS x = true) (hs : mayS s = true) : meetB s x = true ↔ ∃ k, hasS x k = true ∧ hasS s k = true := by
  have e : meetB s x = true ↔ okS (meetS x s) := by
    have l1 : decide (x.frm.length ≤ 64) = true ∧ decide (x.to.length ≤ 64) = true := by simp only [mayS, Bool.and_eq_true] at hx; exact hx.1
    have l2 : decide (s.frm.length ≤ 64) = true ∧ decide (s.to.length ≤ 64) = true := by simp only [mayS, Bool.and_eq_true] at hs; exact hs.1
    have m1 : decide ((meetS x s).frm.length ≤ 64) = true := by simp only [meetS, mxS]; split; exact l2.1; exact l1.1
    have m2 : decide ((meetS x s).to.length ≤ 64) = true := by simp only [meetS, leastS]; split; exact l1.2; exact l2.2
    unfold meetB
    rw [hx, hs, Bool.true_and, Bool.true_and]
    unfold mayS okS
    rw [m1, m2]
    simp
  rw [e]
  have hxo := may_ok hx
  have hso := may_ok hs
  constructor
  · intro h
    refine ⟨mxS x.frm s.frm, ?_⟩
    unfold okS meetS at *
    unfold mxS leastS belowS hasS at *
    obtain ⟨r, h1, h2, h3, h4⟩ := rk_ex [[], s.frm, s.to, x.frm, x.to] (by simp)
    simp only [h1, h2, h3, List.mem_cons, true_or, or_true] at *
    revert h
    repeat' split
    all_goals simp only [h1, h2, h3, List.mem_cons, true_or, or_true, decide_eq_true_eq, Bool.or_eq_true, Bool.and_eq_true, Bool.not_eq_true', decide_eq_false_iff_not, Bool.and_eq_false_imp, Bool.or_eq_false_iff, Bool.not_eq_true] at *
    all_goals omega
  · rintro ⟨k, k1, k2⟩
    unfold okS meetS at *
    unfold mxS leastS belowS
    unfold hasS at k1 k2
    obtain ⟨r, h1, h2, h3, h4⟩ := rk_ex [[], k, s.frm, s.to, x.frm, x.to] (by simp)
    simp only [h1, h2, h3, List.mem_cons, true_or, or_true] at *
    split <;> split <;> simp only [h1, h2, h3, List.mem_cons, true_or, or_true, decide_eq_true_eq, Bool.or_eq_true, Bool.and_eq_true, Bool.not_eq_true', decide_eq_false_iff_not, Bool.and_eq_false_imp, Bool.or_eq_false_iff, Bool.not_eq_true] at * <;> omega
theorem piece_two {l : List Span} {s : Span} : (pieceP l s 2 ≠ []) ↔ ∃ x ∈ l, ∃ k, hasS x k = true ∧ hasS s k = true := by
  constructor
  · intro h
    obtain ⟨y, hy⟩ := List.exists_mem_of_ne_nil _ h
    have h1 := piece_sem l s 2 y.frm
    have h2 : ((pieceP l s 2).any fun x => hasS x y.frm) = true := List.any_eq_true.mpr ⟨y, hy, piece_ne hy⟩
    rw [h2] at h1
    have h3 : ((l.any fun x => hasS x y.frm) && hasS s y.frm) = true := by simpa [isK] using h1.symm
    rw [Bool.and_eq_true, List.any_eq_true] at h3
    obtain ⟨⟨x, hx, hxk⟩, hsk⟩ := h3
    exact ⟨x, hx, _, hxk, hsk⟩
  · rintro ⟨x, hx, k, h1, h2⟩ e
    have := piece_sem l s 2 k
    rw [e] at this
    have h3 : (l.any fun x => hasS x k) = true := List.any_eq_true.mpr ⟨x, hx, h1⟩
    simp [isK, h3, h2] at this
end Go.Proofs.YthibbbfhkfebkaaGreat
/- Lists of spans one behind another. No statement of the seat is proved here. -/
namespace Go.Proofs.YthibbbfhkfebkaaGreat
open Go Go.VI
set_option linter.unusedSimpArgs false
def OwnP (s : Mem) (b : Nat) (v : AV) (ty sz : Nat) (xs : List (List AV)) : Prop :=
  ∃ r els, v = .own r 0 xs.length sz ∧ s.get r = some ⟨ty, sz, els⟩ ∧ els.take xs.length = xs ∧ xs.length ≤ els.length ∧ s.floor ≤ r ∧ b ≤ r ∧ r < s.next
theorem OwnP.row {s : Mem} {b ty sz : Nat} {v : AV} {xs : List (List AV)} (h : OwnP s b v ty sz xs) : ∀ r i n z, v = .own r i n z → b ≤ r ∧ r < s.next := by
  obtain ⟨r, els, h1, _, _, _, _, h6, h7⟩ := h
  rintro q i n z rfl
  obtain ⟨rfl, _⟩ := AV.own.inj h1
  exact ⟨h6, h7⟩
theorem app_p {F : Nat → Option CFunc} {ty sz bytes b : Nat} {ox oy : Opd} {e : Env} {s : Mem} {xs ys : List (List AV)} {K : AV → Mem → Prop} (hf : s.floor ≤ b) (hb : b ≤ s.next) (hx : OwnP s b (ev e ox) ty sz xs) (hy : readAll s (ev e oy) = some ys) (hu : uni sz ys = true)
    (hroom : roomOk (xs.length + ys.length) bytes = true) (hK : ∀ v' s', OwnP s' b v' ty sz (xs ++ ys) → OwnL s' b v' ty sz (xs ++ ys) → KeepX (ev e ox) s s' → K v' s') : Wp F (.app ty sz bytes ox oy) e s K := by
  obtain ⟨r, els, h1, h2, h3, h4, h5, h6, h7⟩ := hx
  rw [Wp_app]
  simp only [stepOp, appA, Option.bind_eq_bind, hy, Option.bind_some, if_pos hu, h1, h2]
  rw [if_pos ⟨trivial, h4, trivial, trivial, h5, hroom⟩, K2_some, h3]
  have h8 : (s.put r none).floor ≤ b := hf
  have h9 : b ≤ (s.put r none).next := hb
  have := OwnL.of_push (ty := ty) (sz := sz) (xs := xs ++ ys) h8 h9
  rw [List.length_append, Mem.next_put] at this
  refine hK _ _ ⟨s.next, xs ++ ys, by rw [List.length_append], by rw [Mem.get_push, Mem.next_put, if_pos rfl], List.take_length .., Nat.le_refl _, by rw [Mem.floor_push]; exact Nat.le_trans hf hb, hb, by rw [Mem.next_push, Mem.next_put]; omega⟩ this ⟨by rw [Mem.next_push, Mem.next_put]; omega, rfl, ?_⟩
  intro q hq hne
  rw [Mem.get_push, Mem.next_put, if_neg (by omega), Mem.get_put, if_neg]
  intro he
  subst he
  exact hne _ _ _ (by rw [h1])
theorem wrap_nat {n : Nat} (h : n < 4611686018427387904) : IntKind.i64.wrap (n : Int) = (n : Int) := by rw [wrap_i64 (by omega)]
theorem wrap_add {a b : Nat} (h : a + b < 4611686018427387904) : IntKind.i64.wrap ((a : Int) + (b : Int)) = ((a + b : Nat) : Int) := by rw [wrap_i64 (by omega)]; omega
attribute [local irreducible] Ws Wp W C
set_option maxHeartbeats 4000000
theorem least_c {a b : Txt} {s : Mem} {K : AV → Mem → Prop} (hK : K (.str (leastS a b)) s) : C tab 114 [.str a, .str b] s K := by
  refine C_enter (cf := cf114) rfl (Nat.le_of_ble_eq_true rfl) ?_
  simp only [cf114, oo, on, om, og, oc, ou]
  unfold leastS at hK
  (repeat' (with_reducible first|refine w_1 ?_|refine w_2 ?_|simp (maxDischargeDepth:=12) only [viz,↓reduceIte,Nat.reduceAdd]))
  refine below_c ?_
  (repeat' (with_reducible first|refine w_1 ?_|refine w_2 ?_|refine w_4 ?_|refine w_5 ?_|refine w_6 ?_|(refine w_8 (fun hb=>?_) (fun hb=>?_)<;>(try simp only [Bool.not_eq_true',Bool.not_eq_false'] at hb)<;>try simp only [hb])|simp (maxDischargeDepth:=12) only [viz,↓reduceIte,Nat.reduceEqDiff,reduceCtorEq]))
  all_goals
    rw [hb] at hK
    exact hK
theorem told_c {v : AV} {n : Nat} {s : Mem} {K : AV → Mem → Prop} (hl : lenA false v = some n) (hK : K (if n ≤ 64 then .tup [v, .int .i64 0] else .tup [.nilS, .int .i64 2]) s) : C tab 112 [v] s K := by
  refine C_enter (cf := cf112) rfl (Nat.le_of_ble_eq_true rfl) ?_
  simp only [cf112, oo, on, om, og, oc, ou]
  (repeat' (with_reducible first|refine w_1 ?_|refine w_2 ?_|refine w_4 ?_|refine w_5 ?_|refine w_6 ?_|(refine w_8 (fun hb=>?_) (fun hb=>?_)<;>(try simp only [Bool.not_eq_true',Bool.not_eq_false'] at hb)<;>try simp only [hb])|simp (maxDischargeDepth:=12) only [viz,↓reduceIte,reduceCtorEq,Nat.reduceAdd,hl]))
  · have : ¬ n ≤ 64 := by simp at hb; omega
    rw [if_neg this] at hK
    exact hK
  · have : n ≤ 64 := by simp at hb; omega
    rw [if_pos this] at hK
    exact hK
theorem grow_c {n : Nat} {s : Mem} {K : AV → Mem → Prop} (h0 : 0 < n) (hn : n < 10000) (hK : K (.own s.next 0 0 2) (s.push ⟨47, 2, List.replicate n [.str [], .str []]⟩)) : C tab 139 [.nilS, .int .i64 (n : Int)] s K := by
  refine C_enter (cf := cf139) rfl (Nat.le_of_ble_eq_true rfl) ?_
  simp only [cf139, oo, on, om, og, oc, ou]
  have e1 : decide ((n : Int) < 0) = false := by simp
  have e2 : decide ((n : Int) > 0) = true := by simp; exact h0
  have e3 : IntKind.i64.wrap ((0 : Int) - 0) = 0 := by decide
  have e4 : IntKind.i64.wrap ((n : Int) - 0) = (n : Int) := by rw [Int.sub_zero]; exact wrap_nat (by omega)
  have hr : roomOk n 32 = true := room (by omega) (by omega)
  have t0 : toNat? (n : Int) = some n := toNat_cast n
  have hlen : ([.str [], .str []] : List AV).length = 2 := rfl
  have z0 : (((0 : Nat)) : Int) = 0 := rfl
  have c1 : cutA 2 .nilS none (some 0) = some .nilS := rfl
  have c2 : cutA 2 (.own s.next 0 n 2) none (some 0) = some (.own s.next 0 0 2) := by simp [cutA]
  have bz : ∀ K : Option Nat → Prop, bdV (.int .i64 0) K = K (some 0) := fun K => bdV_nat .i64 0 K
  (repeat' (with_reducible first|refine w_1 ?_|refine w_2 ?_|refine w_4 ?_|refine w_5 ?_|simp (maxDischargeDepth:=12) only [viz,↓reduceIte,Nat.reduceEqDiff,reduceCtorEq,Nat.reduceAdd,Wp_cap,capA,z0,e1,e2,e3,e4,Wp_appZ,bdA_some,bz,c1]))
  simp only [stepOp, ev, Env.get_set, ↓reduceIte, Nat.reduceEqDiff, t0, h0, hr, hlen, and_self, K2_some]
  (repeat' (with_reducible first|refine w_1 ?_|refine w_2 ?_|refine w_6 ?_|simp (maxDischargeDepth:=12) only [viz,↓reduceIte,c2]))
  exact hK
theorem concat_c {vs : List AV} {ls : List (List Span)} {r ty : Nat} {D : Nat → Prop} {s : Mem} {K : AV → Mem → Prop} (hf : s.floor ≤ s.next) (hI : In D s) (hr : r < s.next) (hg : s.get r = some ⟨ty, 1, vs.map fun v => [v]⟩) (hl : vs.length = ls.length)
    (hv : ∀ (i : Nat) (v : AV) (l : List Span), vs[i]? = some v → ls[i]? = some l → Spans s D v l) (h0 : 0 < ls.flatten.length) (hn : ls.flatten.length < 5000) (hls : ls.length < 100)
    (hK : ∀ v' s', Keep s.next s s' → OwnL s' s.next v' 47 2 (ls.flatten.map spanC) → K v' s') : C tab 113 [.own r 0 ls.length 1] s K := by
  refine C_enter (cf := cf113) rfl (Nat.le_of_ble_eq_true rfl) ?_
  simp only [cf113, oo, on, om, og, oc, ou]
  have len_le : ∀ i, (ls.take i).flatten.length ≤ ls.flatten.length := fun i => by
    have := congrArg (fun x => (List.flatten x).length) (List.take_append_drop i ls)
    simp only [List.flatten_append, List.length_append] at this
    omega
  have step : ∀ (i : Nat) (l : List Span), ls[i]? = some l → (ls.take (i + 1)).flatten = (ls.take i).flatten ++ l := fun i l h => by rw [List.take_add_one, h]; simp
  have hcell : ∀ (i : Nat) (v : AV), vs[i]? = some v → (vs.map fun v => [v])[i]? = some [v] := fun i v h => by rw [List.getElem?_map, h]; rfl
  have ex : ∀ i, i < ls.length → ∃ v l, vs[i]? = some v ∧ ls[i]? = some l := fun i h => by
    obtain ⟨l, hl'⟩ := get_of h
    obtain ⟨v, hv'⟩ := get_of (l := vs) (i := i) (by omega)
    exact ⟨v, l, hv', hl'⟩
  (repeat' (with_reducible first|refine w_1 ?_|refine w_2 ?_|refine w_3 ?_|simp (maxDischargeDepth:=12) only [viz,↓reduceIte,Nat.reduceAdd]))
  refine W_inv ls.length (fun i E s' => s' = s ∧ E.get 3 = .int .i64 (((ls.take i).flatten.length : Nat) : Int) ∧ E.get 0 = .own r 0 ls.length 1 ∧ E.get 9 = .own r 0 ls.length 1 ∧ E.get 10 = .int .i64 ls.length ∧ E.get 11 = .int .i64 i) (by delta cf113l0 oo on om og oc ou; exact rfl) ?_ ?_
  · refine ⟨rfl, ?_, (by simp only [ev, Env.get_set, ↓reduceIte, Nat.reduceEqDiff]), (by simp only [ev, Env.get_set, ↓reduceIte, Nat.reduceEqDiff]), ?_, ?_⟩
    all_goals simp only [ev, Env.get_set, ↓reduceIte, Nat.reduceEqDiff]
    all_goals rfl
  rintro i E s' hile _ ⟨rfl, g3, g0, g9, g10, g11⟩
  by_cases hlt : i < ls.length
  · obtain ⟨v, l, h1, h2⟩ := ex i hlt
    have hat : atA 1 (.own r 0 ls.length 1) (.int .i64 (i : Int)) = some (.ptr r i 0) := at0 hlt
    have hle : lenA false v = some l.length := (hv i v l h1 h2).lenB
    have hs := step i l h2
    have hb1 := len_le (i + 1)
    rw [hs, List.length_append] at hb1
    have hw := wrap_add (a := (ls.take i).flatten.length) (b := l.length) (by omega)
    have hneg : decide ((((ls.take i).flatten.length + l.length : Nat) : Int) < 0) = false := by simp; omega
    (repeat' (with_reducible first|refine w_1 ?_|refine w_2 ?_|refine w_3 ?_|refine w_4 ?_|refine w_5 ?_|simp (maxDischargeDepth:=12) only [viz,↓reduceIte,Nat.reduceEqDiff,reduceCtorEq,g3,g0,g9,g10,g11,lt_true hlt,hat,hg,hcell i v h1,hle,hw,hneg]))
    refine ⟨hlt, ?_, succ_av (by omega)⟩
    rw [hs, List.length_append]
  · have hte : ls.take i = ls := List.take_of_length_le (by omega)
    rw [hte] at g3
    (repeat' (with_reducible first|refine w_1 ?_|refine w_2 ?_|refine w_4 ?_|refine w_7 ?_|simp (maxDischargeDepth:=12) only [viz,↓reduceIte,Nat.reduceEqDiff,g3,g10,g11,lt_false hlt]))
    refine grow_c h0 (by omega) ?_
    (repeat' (with_reducible first|refine w_1 ?_|refine w_2 ?_|refine w_3 ?_|simp (maxDischargeDepth:=12) only [viz,↓reduceIte,reduceCtorEq,g0]))
    refine W_inv ls.length (fun i E s2 => ∃ w, Keep s'.next s' s2 ∧ OwnP s2 s'.next w 47 2 (((ls.take i).flatten).map spanC) ∧ (0 < i → OwnL s2 s'.next w 47 2 (((ls.take i).flatten).map spanC)) ∧ E.get 6 = w ∧ E.get 25 = .own r 0 ls.length 1 ∧ E.get 26 = .int .i64 ls.length ∧ E.get 27 = .int .i64 i) (by delta cf113l1 oo on om og oc ou; exact rfl) ?_ ?_
    · refine ⟨.own s'.next 0 0 2, pushes _ _, ?_, fun h => absurd h (Nat.lt_irrefl _), ?_, ?_, ?_, ?_⟩
      · refine ⟨s'.next, _, rfl, by rw [Mem.get_push, if_pos rfl], rfl, Nat.zero_le _, by rw [floor_push']; exact hf, Nat.le_refl _, by rw [next_push']; omega⟩
      all_goals simp only [ev, Env.get_set, ↓reduceIte, Nat.reduceEqDiff]
      · rfl
    rintro j E2 s2 hjle _ ⟨w, hk, hp, hp2, k6, k25, k26, k27⟩
    by_cases hjt : j < ls.length
    · obtain ⟨v, l, h1, h2⟩ := ex j hjt
      have hat : atA 1 (.own r 0 ls.length 1) (.int .i64 (j : Int)) = some (.ptr r j 0) := at0 hjt
      have hg2 : s2.get r = some ⟨ty, 1, vs.map fun v => [v]⟩ := (hk.get r hr).trans hg
      have hs := step j l h2
      have hb1 := len_le (j + 1)
      rw [hs, List.length_append] at hb1
      have hvl := hv j v l h1 h2
      (repeat' (with_reducible first|refine w_1 ?_|refine w_2 ?_|refine w_3 ?_|refine w_4 ?_|refine w_5 ?_|simp (maxDischargeDepth:=12) only [viz,↓reduceIte,Nat.reduceEqDiff,k6,k25,k26,k27,lt_true hjt,hat,hg2,hcell j v h1]))
      refine app_p (b := s'.next) (xs := ((ls.take j).flatten).map spanC) (ys := l.map spanC) (by rw [hk.floor]; exact hf) hk.next (by simp only [ev, Env.get_set, ↓reduceIte, Nat.reduceEqDiff, k6]; exact hp) ?_ hvl.uni (room (by rw [List.length_map, List.length_map]; omega) (by rw [List.length_map, List.length_map]; omega)) ?_
      · simp only [ev, Env.get_set, ↓reduceIte, Nat.reduceEqDiff]
        exact hvl.readk hI _ hk
      · intro w3 s3 o3 o4 hx3
        (repeat' (with_reducible first|refine w_2 ?_|simp (maxDischargeDepth:=12) only [viz,↓reduceIte,Nat.reduceEqDiff,k25,k26,k27]))
        have e : ((ls.take (j + 1)).flatten).map spanC = ((ls.take j).flatten).map spanC ++ l.map spanC := by rw [hs, List.map_append]
        refine ⟨hjt, w3, hk.trans (hx3.keep hk.next fun r i n z h => ?_), by rw [e]; exact o3, fun _ => by rw [e]; exact o4, rfl, succ_av (by omega)⟩
        simp only [ev, Env.get_set, ↓reduceIte, Nat.reduceEqDiff, k6] at h
        exact (hp.row r i n z h).1
    · have hte : ls.take j = ls := List.take_of_length_le (by omega)
      rw [hte] at hp hp2
      (repeat' (with_reducible first|refine w_1 ?_|refine w_2 ?_|refine w_4 ?_|refine w_6 ?_|refine w_7 ?_|simp (maxDischargeDepth:=12) only [viz,↓reduceIte,Nat.reduceEqDiff,k6,k26,k27,lt_false hjt]))
      refine hK _ _ hk (hp2 ?_)
      have : 0 < ls.length := by
        cases ls with
        | nil => simp at h0
        | cons a b => simp
      omega
end Go.Proofs.YthibbbfhkfebkaaGreat

