/- Pieces of spans: the plain law. No statement of the seat is proved here. -/
import Derived.Test.YthibbbfhkfebkaaGreatVZTA
import Derived.Test.YthibbbfhkfebkaaGreatVZVE
namespace Go.Proofs.YthibbbfhkfebkaaGreat
open Go Go.VI
set_option linter.unusedSimpArgs false
def lastLe (q : List Txt) (k : Txt) : Option Txt := (q.filter fun a => !bl k a).getLast?
def seen (is : Txt → Bool) (q : List Txt) (k : Txt) : Bool := match lastLe q k with | some a => is a | none => false
theorem lastLe_snoc (q : List Txt) (a k : Txt) : lastLe (q ++ [a]) k = if bl k a then lastLe q k else some a := by
  unfold lastLe
  rw [List.filter_append]
  cases h : bl k a with
  | true => simp [h]
  | false => simp [h]
theorem seen_snoc (is : Txt → Bool) (q : List Txt) (a k : Txt) : seen is (q ++ [a]) k = if bl k a then seen is q k else is a := by
  unfold seen
  rw [lastLe_snoc]
  cases h : bl k a <;> simp
def setTo (out : List Span) (a : Txt) : List Span := match out.getLast? with
  | some x => out.dropLast ++ [⟨x.frm, a⟩]
  | none => out
theorem setTo_snoc (cl : List Span) (x : Span) (a : Txt) : setTo (cl ++ [x]) a = cl ++ [⟨x.frm, a⟩] := by simp [setTo]
def nextOut (is : Txt → Bool) (op : Bool) (out : List Span) (a : Txt) : List Span := if is a && !op then out ++ [⟨a, []⟩] else if !is a && op then setTo out a else out
structure PI (is : Txt → Bool) (q : List Txt) (op : Bool) (out : List Span) : Prop where
  sp : ∃ cl, ((out = cl ∧ op = false) ∨ ∃ f, out = cl ++ [⟨f, []⟩] ∧ op = true ∧ f ∈ q) ∧ ∀ x ∈ cl, x.to ≠ [] ∧ x.to ∈ q ∧ bl x.frm x.to = true
  sem : ∀ k, out.any (fun x => hasS x k) = seen is q k
theorem PI.nil (is : Txt → Bool) : PI is [] false [] := ⟨⟨[], .inl ⟨rfl, rfl⟩, by simp⟩, fun k => rfl⟩
theorem le_lt {a b c : Txt} (h : bl b a = false) (k : bl b c = true) : bl a c = true := by
  cases h2 : bl a b with
  | true => exact bl_trans h2 k
  | false => rw [bl_total h2 h]; exact k
theorem lt_le {a b c : Txt} (h : bl a b = true) (k : bl c b = false) : bl a c = true := by
  cases h2 : bl b c with
  | true => exact bl_trans h h2
  | false => rw [← bl_total h2 k]; exact h
theorem has_open (f k : Txt) : hasS ⟨f, []⟩ k = !bl k f := by simp [hasS]
theorem has_closed {f t : Txt} (ht : t ≠ []) (k : Txt) : hasS ⟨f, t⟩ k = (!bl k f && bl k t) := by
  have : (t == []) = false := by rw [beq_eq_false_iff_ne]; exact ht
  simp [hasS, this]
theorem PI.next {is : Txt → Bool} {q : List Txt} {op : Bool} {out : List Span} (h : PI is q op out) {a : Txt} (hq : ∀ b ∈ q, bl b a = true) (ha : q ≠ [] → a ≠ []) : PI is (q ++ [a]) (is a) (nextOut is op out a) := by
  obtain ⟨cl, hcl, hok⟩ := h.sp
  have hsem := h.sem
  have mono : ∀ x ∈ cl, x.to ≠ [] ∧ x.to ∈ q ++ [a] ∧ bl x.frm x.to = true := fun x hx => by
    obtain ⟨h1, h2, h3⟩ := hok x hx
    exact ⟨h1, List.mem_append_left _ h2, h3⟩
  have off : ∀ k, bl k a = false → cl.any (fun x => hasS x k) = false := fun k hk => by
    rw [List.any_eq_false]
    intro x hx
    obtain ⟨h1, h2, h3⟩ := hok x hx
    have : bl k x.to = false := by
      cases hb : bl k x.to with
      | false => rfl
      | true => have := bl_trans hb (hq _ h2); rw [hk] at this; cases this
    cases x
    rw [has_closed h1, this]; simp
  rcases hcl with ⟨rfl, rfl⟩ | ⟨f, rfl, rfl, hf⟩
  · cases hi : is a with
    | true =>
      have e : nextOut is false out a = out ++ [⟨a, []⟩] := by simp [nextOut, hi]
      rw [e]
      refine ⟨⟨out, .inr ⟨a, rfl, rfl, by simp⟩, mono⟩, fun k => ?_⟩
      rw [List.any_append, hsem, seen_snoc, hi]
      cases hk : bl k a <;> simp [has_open, hk]
    | false =>
      have e : nextOut is false out a = out := by simp [nextOut, hi]
      rw [e]
      refine ⟨⟨out, .inl ⟨rfl, rfl⟩, mono⟩, fun k => ?_⟩
      rw [seen_snoc, hi]
      cases hk : bl k a with
      | true => simpa using hsem k
      | false => simpa using off k hk
  · have hfa := hq f hf
    have hane : a ≠ [] := ha (by intro e; rw [e] at hf; cases hf)
    cases hi : is a with
    | true =>
      have e : nextOut is true (cl ++ [⟨f, []⟩]) a = cl ++ [⟨f, []⟩] := by simp [nextOut, hi]
      rw [e]
      refine ⟨⟨cl, .inr ⟨f, rfl, rfl, List.mem_append_left _ hf⟩, mono⟩, fun k => ?_⟩
      rw [seen_snoc, hi]
      cases hk : bl k a with
      | true => simpa using hsem k
      | false =>
        have : bl k f = false := by
          cases hb : bl k f with
          | false => rfl
          | true => have := bl_trans hb hfa; rw [hk] at this; cases this
        rw [List.any_append]
        simp [has_open, this]
    | false =>
      have e : nextOut is true (cl ++ [⟨f, []⟩]) a = cl ++ [⟨f, a⟩] := by simp [nextOut, hi, setTo_snoc]
      rw [e]
      refine ⟨⟨cl ++ [⟨f, a⟩], .inl ⟨rfl, rfl⟩, fun x hx => ?_⟩, fun k => ?_⟩
      · rcases List.mem_append.mp hx with hx | hx
        · exact mono x hx
        · simp at hx; subst hx
          exact ⟨hane, by simp, hfa⟩
      · rw [seen_snoc, hi]
        have hs := hsem k
        rw [List.any_append] at hs ⊢
        simp only [List.any_cons, List.any_nil, Bool.or_false, has_open] at hs ⊢
        rw [has_closed hane]
        cases hk : bl k a with
        | true => simpa [hk] using hs
        | false => rw [off k hk]; simp
end Go.Proofs.YthibbbfhkfebkaaGreat
/- Places, pieces, covers: the plain law. No statement of the seat is proved here. -/
namespace Go.Proofs.YthibbbfhkfebkaaGreat
open Go Go.VI
set_option linter.unusedSimpArgs false
abbrev Up (p : List Txt) : Prop := p.Pairwise fun a b => bl a b = true
def insR : List Txt → Txt → List Txt
  | [], s => [s]
  | x :: r, s => if bl x s then x :: insR r s else if x == s then x :: r else s :: x :: r
theorem insR_mem {p : List Txt} {s x : Txt} : x ∈ insR p s ↔ x ∈ p ∨ x = s := by
  induction p with
  | nil => simp [insR]
  | cons y p ih =>
    unfold insR
    split
    · rw [List.mem_cons, ih, List.mem_cons]; grind
    · split
      · rename_i h
        rw [beq_iff_eq] at h
        subst h
        simp only [List.mem_cons]; grind
      · simp only [List.mem_cons]; grind
theorem insR_up {p : List Txt} (s : Txt) (h : Up p) : Up (insR p s) := by
  induction p with
  | nil => simp [insR, Up]
  | cons y p ih =>
    have hp := List.pairwise_cons.mp h
    unfold insR
    split
    · rename_i hb
      refine List.pairwise_cons.mpr ⟨fun x hx => ?_, ih hp.2⟩
      rcases insR_mem.mp hx with h1 | rfl
      · exact hp.1 x h1
      · exact hb
    · rename_i hb
      have hb' : bl y s = false := by simpa using hb
      split
      · exact h
      · rename_i he
        have hsy : bl s y = true := by
          cases hs : bl s y with
          | true => rfl
          | false => exact absurd (by rw [bl_total hb' hs]; simp) he
        refine List.pairwise_cons.mpr ⟨fun x hx => ?_, h⟩
        rcases List.mem_cons.mp hx with rfl | hx
        · exact hsy
        · exact bl_trans hsy (hp.1 x hx)
theorem insR_at : ∀ {p : List Txt} {s : Txt} {i : Nat}, (∀ j x, j < i → p[j]? = some x → bl x s = true) → (∀ x, p[i]? = some x → bl x s = false) → i ≤ p.length →
    insR p s = if p[i]? = some s then p else p.take i ++ [s] ++ p.drop i
  | [], s, 0, _, _, _ => by simp [insR]
  | [], s, i + 1, _, _, h => by simp at h
  | x :: p, s, 0, h1, h2, _ => by
    have := h2 x rfl
    unfold insR
    rw [if_neg (by rw [this]; simp)]
    simp only [List.getElem?_cons_zero, Option.some.injEq, beq_iff_eq, List.take_zero, List.nil_append, List.drop_zero, List.cons_append]
  | x :: p, s, i + 1, h1, h2, hl => by
    have := h1 0 x (by omega) rfl
    unfold insR
    rw [if_pos this, insR_at (p := p) (s := s) (i := i) (fun j y hj hy => h1 (j + 1) y (by omega) hy) (fun y hy => h2 y hy) (by simpa using hl)]
    simp only [List.getElem?_cons_succ]
    split <;> simp
def placesP (l : List Span) : List Txt := l.foldl (fun p x => insR (insR p x.frm) x.to) [[]]
theorem places_snoc (l : List Span) (x : Span) : placesP (l ++ [x]) = insR (insR (placesP l) x.frm) x.to := by simp [placesP]
theorem places_ok : ∀ (l : List Span) (p : List Txt), Up p → [] ∈ p → Up (l.foldl (fun p x => insR (insR p x.frm) x.to) p) ∧ (∀ y ∈ p, y ∈ l.foldl (fun p x => insR (insR p x.frm) x.to) p) ∧ ∀ x ∈ l, x.frm ∈ l.foldl (fun p x => insR (insR p x.frm) x.to) p ∧ x.to ∈ l.foldl (fun p x => insR (insR p x.frm) x.to) p
  | [], p, h, h0 => ⟨h, fun y hy => hy, by simp⟩
  | z :: l, p, h, h0 => by
    obtain ⟨h1, h2, h3⟩ := places_ok l (insR (insR p z.frm) z.to) (insR_up _ (insR_up _ h)) (insR_mem.mpr (.inl (insR_mem.mpr (.inl h0))))
    refine ⟨h1, fun y hy => h2 y (insR_mem.mpr (.inl (insR_mem.mpr (.inl hy)))), fun x hx => ?_⟩
    rcases List.mem_cons.mp hx with rfl | hx
    · exact ⟨h2 _ (insR_mem.mpr (.inl (insR_mem.mpr (.inr rfl)))), h2 _ (insR_mem.mpr (.inr rfl))⟩
    · exact h3 x hx
theorem lastLe_spec {p : List Txt} (h : Up p) (h0 : [] ∈ p) (k : Txt) : ∃ a, lastLe p k = some a ∧ a ∈ p ∧ bl k a = false ∧ ∀ b ∈ p, bl a b = true → bl k b = true := by
  unfold lastLe
  have hm : [] ∈ p.filter fun a => !bl k a := List.mem_filter.mpr ⟨h0, by simp [bl_nil]⟩
  cases hl : (p.filter fun a => !bl k a).getLast? with
  | none => rw [List.getLast?_eq_none_iff] at hl; rw [hl] at hm; cases hm
  | some a =>
    have ham := List.mem_of_getLast? hl
    obtain ⟨h1, h2⟩ := List.mem_filter.mp ham
    refine ⟨a, rfl, h1, by simpa using h2, fun b hb hab => ?_⟩
    cases hk : bl k b with
    | true => rfl
    | false =>
      have hbm : b ∈ p.filter fun a => !bl k a := List.mem_filter.mpr ⟨hb, by simp [hk]⟩
      have hup : Up (p.filter fun a => !bl k a) := List.Pairwise.filter _ h
      obtain ⟨ys, hys⟩ := List.getLast?_eq_some_iff.mp hl
      rw [hys] at hbm hup
      rcases List.mem_append.mp hbm with hb2 | hb2
      · have := (List.pairwise_append.mp hup).2.2 b hb2 a (by simp)
        have := bl_asymm this
        rw [hab] at this; cases this
      · simp at hb2; subst hb2; rw [bl_irrefl] at hab; cases hab
theorem has_const {p : List Txt} {k a : Txt} {x : Span} (h1 : bl k a = false) (h2 : ∀ b ∈ p, bl a b = true → bl k b = true) (hf : x.frm ∈ p) (ht : x.to ∈ p) : hasS x k = hasS x a := by
  have key : ∀ b ∈ p, bl k b = bl a b := fun b hb => by
    cases hab : bl a b with
    | true => exact h2 b hb hab
    | false =>
      cases hk : bl k b with
      | false => rfl
      | true => have := le_lt h1 hk; rw [hab] at this; cases this
  simp only [hasS, key _ hf, key _ ht]
def isK (l : List Span) (s : Span) (kind : Int) (k : Txt) : Bool := if kind = 1 then (l.any fun x => hasS x k) && !hasS s k else if kind = 2 then (l.any fun x => hasS x k) && hasS s k else (l.any fun x => hasS x k) || hasS s k
def scanTo (is : Txt → Bool) (p : List Txt) : Bool × List Span := p.foldl (fun st a => (is a, nextOut is st.1 st.2 a)) (false, [])
theorem scan_snoc (is : Txt → Bool) (p : List Txt) (a : Txt) : scanTo is (p ++ [a]) = (is a, nextOut is (scanTo is p).1 (scanTo is p).2 a) := by simp [scanTo]
theorem scan_pi (is : Txt → Bool) (p : List Txt) (h : Up p) : ∀ n, n ≤ p.length → PI is (p.take n) (scanTo is (p.take n)).1 (scanTo is (p.take n)).2
  | 0, _ => PI.nil is
  | n + 1, hn => by
    have ih := scan_pi is p h n (by omega)
    obtain ⟨a, ha⟩ := get_of (l := p) (i := n) (by omega)
    have e : p.take (n + 1) = p.take n ++ [a] := by rw [List.take_add_one, ha]; rfl
    rw [e, scan_snoc]
    have hup : Up (p.take n ++ [a]) := by rw [← e]; exact List.Pairwise.sublist (List.take_sublist _ _) h
    have hall := (List.pairwise_append.mp hup).2.2
    refine ih.next (fun b hb => hall b hb a (by simp)) fun hne hea => ?_
    subst hea
    obtain ⟨b, hb⟩ := List.exists_mem_of_ne_nil _ hne
    have := hall b hb [] (by simp)
    rw [bl_nil] at this; cases this
def pieceP (l : List Span) (s : Span) (kind : Int) : List Span := (scanTo (isK l s kind) (placesP (l ++ [s]))).2
theorem piece_pi (l : List Span) (s : Span) (kind : Int) : ∃ op, PI (isK l s kind) (placesP (l ++ [s])) op (pieceP l s kind) := by
  have h := scan_pi (isK l s kind) (placesP (l ++ [s])) (places_ok (l ++ [s]) [[]] (by simp [Up]) (by simp)).1 _ (Nat.le_refl _)
  rw [List.take_length] at h
  exact ⟨_, h⟩
theorem any_same {α : Type} {l : List α} {f g : α → Bool} (h : ∀ x ∈ l, f x = g x) : l.any f = l.any g := by
  rw [Bool.eq_iff_iff, List.any_eq_true, List.any_eq_true]
  constructor
  · rintro ⟨x, hx, h1⟩; exact ⟨x, hx, by rw [← h x hx]; exact h1⟩
  · rintro ⟨x, hx, h1⟩; exact ⟨x, hx, by rw [h x hx]; exact h1⟩
theorem piece_sem (l : List Span) (s : Span) (kind : Int) (k : Txt) : ((pieceP l s kind).any fun x => hasS x k) = isK l s kind k := by
  obtain ⟨op, h⟩ := piece_pi l s kind
  rw [h.sem k]
  obtain ⟨h1, h2, h3⟩ := places_ok (l ++ [s]) [[]] (by simp [Up]) (by simp)
  obtain ⟨a, ha, ham, hka, hlast⟩ := lastLe_spec h1 (h2 [] (by simp)) k
  have hx : ∀ x ∈ l ++ [s], hasS x k = hasS x a := fun x hx => has_const hka hlast (h3 x hx).1 (h3 x hx).2
  have hl : (l.any fun x => hasS x k) = l.any fun x => hasS x a := any_same fun x hm => hx x (List.mem_append_left _ hm)
  unfold seen
  rw [show lastLe (placesP (l ++ [s])) k = some a from ha]
  simp only [isK]
  rw [hl, hx s (by simp)]
theorem piece_ne {l : List Span} {s : Span} {kind : Int} {x : Span} (h : x ∈ pieceP l s kind) : hasS x x.frm = true := by
  obtain ⟨op, hp⟩ := piece_pi l s kind
  obtain ⟨cl, hcl, hok⟩ := hp.sp
  have hin : ∀ y ∈ cl, hasS y y.frm = true := fun y hy => by
    obtain ⟨h1, _, h3⟩ := hok y hy
    have := has_closed (f := y.frm) h1 y.frm
    rw [bl_irrefl, h3] at this
    exact this
  rcases hcl with ⟨e, _⟩ | ⟨f, e, _⟩
  · rw [e] at h; exact hin x h
  · rw [e] at h
    rcases List.mem_append.mp h with h | h
    · exact hin x h
    · simp at h; subst h; rw [has_open, bl_irrefl]; rfl
def leftTo (l : List Span) (left : List Span) : List Span := l.foldl (fun left x => left.flatMap fun y => pieceP [y] x 1) left
theorem any_flat {α β : Type} (l : List α) (f : α → List β) (p : β → Bool) : (l.flatMap f).any p = l.any fun x => (f x).any p := by simp [List.any_flatMap]
theorem left_sem : ∀ (l left : List Span) (k : Txt), ((leftTo l left).any fun x => hasS x k) = ((left.any fun x => hasS x k) && !(l.any fun x => hasS x k))
  | [], left, k => by simp [leftTo]
  | z :: l, left, k => by
    have ih := left_sem l (left.flatMap fun y => pieceP [y] z 1) k
    have e : leftTo (z :: l) left = leftTo l (left.flatMap fun y => pieceP [y] z 1) := rfl
    rw [e, ih, any_flat]
    have h1 : (left.any fun y => (pieceP [y] z 1).any fun x => hasS x k) = left.any fun y => hasS y k && !hasS z k := any_same fun y _ => by rw [piece_sem]; simp [isK]
    rw [h1]
    have h2 : (left.any fun y => hasS y k && !hasS z k) = ((left.any fun y => hasS y k) && !hasS z k) := by
      cases hasS z k <;> simp
    rw [h2, List.any_cons]
    cases left.any fun y => hasS y k <;> cases hasS z k <;> cases l.any fun x => hasS x k <;> rfl
theorem left_ne : ∀ (l left : List Span), (∀ x ∈ left, hasS x x.frm = true) → ∀ x ∈ leftTo l left, hasS x x.frm = true
  | [], left, h => h
  | z :: l, left, h => by
    refine left_ne l (left.flatMap fun y => pieceP [y] z 1) fun x hx => ?_
    obtain ⟨y, _, hy⟩ := List.mem_flatMap.mp hx
    exact piece_ne hy
theorem may_has {s : Span} (h : mayS s = true) : hasS s s.frm = true := by
  simp only [mayS, Bool.and_eq_true] at h
  simp only [hasS, bl_irrefl, Bool.not_false, Bool.true_and]
  exact h.2
theorem left_covers (l : List Span) {s : Span} (hs : mayS s = true) : (leftTo l [s]).isEmpty = true ↔ ∀ k, hasS s k = true → (l.any fun x => hasS x k) = true := by
  constructor
  · intro h k hk
    have := left_sem l [s] k
    rw [List.isEmpty_iff.mp h] at this
    simp only [List.any_nil, List.any_cons, Bool.or_false, hk, Bool.true_and] at this
    cases hl : l.any fun x => hasS x k with
    | true => rfl
    | false => rw [hl] at this; cases this
  · intro h
    rw [List.isEmpty_iff]
    cases hl : leftTo l [s] with
    | nil => rfl
    | cons x r =>
      have hx : x ∈ leftTo l [s] := by rw [hl]; exact List.mem_cons_self ..
      have h1 := left_ne l [s] (by simp only [List.mem_singleton, forall_eq]; exact may_has hs) x hx
      have h2 := left_sem l [s] x.frm
      have h3 : ((leftTo l [s]).any fun y => hasS y x.frm) = true := List.any_eq_true.mpr ⟨x, hx, h1⟩
      rw [h3] at h2
      simp only [List.any_cons, List.any_nil, Bool.or_false] at h2
      have h4 : hasS s x.frm = true := by
        cases hh : hasS s x.frm with
        | true => rfl
        | false => rw [hh] at h2; cases h2
      rw [h4, h _ h4] at h2; cases h2
end Go.Proofs.YthibbbfhkfebkaaGreat
/- A list in form: one span covers what all cover. No statement of the seat is proved here. -/
namespace Go.Proofs.YthibbbfhkfebkaaGreat
open Go Go.VI
set_option linter.unusedSimpArgs false
theorem ahead_iff {a b : Txt} : aheadS a b = true ↔ a ≠ [] ∧ bl a b = true := by simp [aheadS]
theorem rising_form : ∀ (l : List Span) (p : Option Span), rising formOk p l = true →
    (∀ x ∈ l, mayS x = true) ∧ (l.Pairwise fun x y => aheadS x.to y.frm = true) ∧ ∀ q, p = some q → ∀ y ∈ l, aheadS q.to y.frm = true
  | [], p, _ => ⟨by simp, by simp, by simp⟩
  | x :: l, p, h => by
    simp only [rising, Bool.and_eq_true, formOk] at h
    obtain ⟨⟨hm, hp⟩, hr⟩ := h
    obtain ⟨h1, h2, h3⟩ := rising_form l (some x) hr
    have hx := h3 x rfl
    refine ⟨fun y hy => ?_, List.pairwise_cons.mpr ⟨hx, h2⟩, fun q hq y hy => ?_⟩
    · rcases List.mem_cons.mp hy with rfl | hy
      · exact hm
      · exact h1 y hy
    · subst hq
      rcases List.mem_cons.mp hy with rfl | hy
      · exact hp
      · obtain ⟨a1, a2⟩ := ahead_iff.mp hp
        obtain ⟨b1, b2⟩ := ahead_iff.mp (hx y hy)
        refine ahead_iff.mpr ⟨a1, ?_⟩
        simp only [mayS, Bool.and_eq_true, Bool.or_eq_true, beq_iff_eq] at hm
        rcases hm.2 with e | e
        · exact absurd e b1
        · exact bl_trans (bl_trans a2 e) b2
theorem has_iff (x : Span) (k : Txt) : hasS x k = true ↔ bl k x.frm = false ∧ (x.to = [] ∨ bl k x.to = true) := by simp [hasS]
theorem below_iff (a b : Txt) : belowS a b = true ↔ a ≠ [] ∧ (b = [] ∨ bl a b = true) := by simp [belowS]
theorem cover_form {l : List Span} {a : Span} (hl : formS l = true) (ha : mayS a = true) : l.any (coverP a) = true ↔ ∀ k, hasS a k = true → (l.any fun x => hasS x k) = true := by
  simp only [formS, Bool.and_eq_true] at hl
  obtain ⟨hmay, hup, _⟩ := rising_form l none hl.2
  constructor
  · intro h k hk
    obtain ⟨x, hx, hc⟩ := List.any_eq_true.mp h
    refine List.any_eq_true.mpr ⟨x, hx, ?_⟩
    simp only [coverP, Bool.and_eq_true, Bool.not_eq_true'] at hc
    obtain ⟨k1, k2⟩ := (has_iff a k).mp hk
    refine (has_iff x k).mpr ⟨?_, ?_⟩
    · cases hb : bl k x.frm with
      | false => rfl
      | true => have := lt_le hb hc.1; rw [k1] at this; cases this
    · by_cases hx0 : x.to = []
      · exact .inl hx0
      · right
        have hnb : ¬ (x.to ≠ [] ∧ (a.to = [] ∨ bl x.to a.to = true)) := fun h => by
          have := (below_iff _ _).mpr h; rw [hc.2] at this; cases this
        have ha0 : a.to ≠ [] := fun e => hnb ⟨hx0, .inl e⟩
        have hxa : bl x.to a.to = false := by
          cases hb : bl x.to a.to with
          | false => rfl
          | true => exact absurd ⟨hx0, .inr hb⟩ hnb
        rcases k2 with e | e
        · exact absurd e ha0
        · exact lt_le e hxa
  · intro h
    obtain ⟨x, hx, hxa⟩ := List.any_eq_true.mp (h a.frm (may_has ha))
    obtain ⟨x1, x2⟩ := (has_iff x a.frm).mp hxa
    refine List.any_eq_true.mpr ⟨x, hx, ?_⟩
    simp only [coverP, x1, Bool.not_false, Bool.true_and, Bool.not_eq_true']
    cases hb : belowS x.to a.to with
    | false => rfl
    | true =>
      exfalso
      obtain ⟨t0, t1⟩ := (below_iff _ _).mp hb
      have hft : bl a.frm x.to = true := by
        rcases x2 with e | e
        · exact absurd e t0
        · exact e
      have hat : hasS a x.to = true := (has_iff a x.to).mpr ⟨bl_asymm hft, t1⟩
      obtain ⟨y, hy, hyt⟩ := List.any_eq_true.mp (h x.to hat)
      obtain ⟨y1, y2⟩ := (has_iff y x.to).mp hyt
      obtain ⟨i, hi⟩ := List.mem_iff_getElem?.mp hx
      obtain ⟨j, hj⟩ := List.mem_iff_getElem?.mp hy
      obtain ⟨hil, rfl⟩ := List.getElem?_eq_some_iff.mp hi
      obtain ⟨hjl, rfl⟩ := List.getElem?_eq_some_iff.mp hj
      rw [List.pairwise_iff_getElem] at hup
      have hmx := hmay _ (List.getElem_mem hil)
      simp only [mayS, Bool.and_eq_true, Bool.or_eq_true, beq_iff_eq] at hmx
      have hxx : bl l[i].frm l[i].to = true := by
        rcases hmx.2 with e | e
        · exact absurd e t0
        · exact e
      by_cases h1 : i < j
      · have := (ahead_iff.mp (hup i j hil hjl h1)).2
        rw [y1] at this; cases this
      by_cases h2 : j < i
      · obtain ⟨b1, b2⟩ := ahead_iff.mp (hup j i hjl hil h2)
        rcases y2 with e | e
        · exact b1 e
        · have := bl_trans (bl_trans e b2) hxx
          rw [bl_irrefl] at this; cases this
      · have : i = j := by omega
        subst this
        rcases y2 with e | e
        · exact t0 e
        · rw [bl_irrefl] at e; cases e
end Go.Proofs.YthibbbfhkfebkaaGreat
/- Holds, marks: which lists may be. No statement of the seat is proved here. -/
namespace Go.Proofs.YthibbbfhkfebkaaGreat
open Go Go.VI
set_option linter.unusedSimpArgs false
abbrev Holds (s : Mem) (D : Nat → Prop) (v : AV) (l : List Hold) : Prop := Sl s D v 3 (l.map holdC)
abbrev Marks (s : Mem) (D : Nat → Prop) (v : AV) (l : List Mark) : Prop := Sl s D v 2 (l.map markC)
def mayH (h : Hold) : Bool := decide (h.key.length ≤ 64) && !decide (h.token = 0) && decide (0 ≤ h.till) && decide (h.till ≤ 2147483647)
def holdOk (p : Option Hold) (h : Hold) : Bool := mayH h && (match p with | none => true | some q => bl q.key h.key)
def holdsS (l : List Hold) : Bool := decide (l.length ≤ 1024) && rising holdOk none l
def markOk (p : Option Mark) (m : Mark) : Bool := decide (m.key.length ≤ 64) && !decide (m.token = 0) && (match p with | none => true | some q => bl q.key m.key)
def marksS (l : List Mark) : Bool := decide (l.length ≤ 1024) && rising markOk none l
attribute [local irreducible] Ws Wp W C
set_option maxHeartbeats 4000000
theorem le64 (n : Nat) : decide ((n : Int) ≤ 64) = decide (n ≤ 64) := by
  by_cases hn : n ≤ 64
  · simp [hn]; omega
  · simp [hn]; omega
theorem gt64 (n : Nat) : decide ((n : Int) > 64) = !decide (n ≤ 64) := by
  by_cases hn : n ≤ 64
  · simp [hn]; omega
  · simp [hn]; omega
theorem le_not' (a b : Txt) : (Op.bytesLess a b || a == b) = !Op.bytesLess b a := le_not a b
theorem hold_c {h : Hold} {s : Mem} {K : AV → Mem → Prop} (hK : ∀ s', Keep s.next s s' → K (.bool (mayH h)) s') : C tab 119 [.agg (holdC h)] s K := by
  refine C_enter (cf := cf119) rfl (Nat.le_of_ble_eq_true rfl) ?_
  simp only [cf119, oo, on, om, og, oc, ou, holdC]
  (repeat' (with_reducible first|refine w_1 ?_|refine w_2 ?_|refine w_6 ?_|(refine w_8 (fun hb=>?_) (fun hb=>?_)<;>(try simp only [Bool.not_eq_true',Bool.not_eq_false'] at hb)<;>try simp only [hb])|refine w_13 (fun hc=>(by (try simp only [Bool.and_eq_true] at hc);simp (maxDischargeDepth:=12) only [viz,↓reduceIte,Nat.reduceEqDiff,Nat.reduceAdd,cond_false,hc];first|exact ⟨rfl,rfl⟩|exact rfl)) ?_|refine w_12 ?_|((try refine w_9 ?_);simp (maxDischargeDepth:=12) only [viz,↓reduceIte,Nat.reduceAdd])))
  all_goals rw [le64] at hb
  · refine C_enter (cf := cf136) rfl (Nat.le_of_ble_eq_true rfl) ?_
    simp only [cf136, oo, on, om, og, oc, ou]
    (repeat' (with_reducible first|refine w_1 ?_|refine w_2 ?_|refine w_6 ?_|refine w_13 (fun hc=>(by (try simp only [Bool.and_eq_true] at hc);simp (maxDischargeDepth:=12) only [viz,↓reduceIte,cond_false,hc];first|exact ⟨rfl,rfl⟩|exact rfl)) ?_|((try refine w_9 ?_);simp (maxDischargeDepth:=12) only [viz,↓reduceIte,Nat.reduceAdd])))
    exact K_of hK (pushes _ _) (by grind [mayH])
  · exact K_of hK (pushes _ _) (by grind [mayH])
theorem rising_end {α : Type} {ok : Option α → α → Bool} {l : List α} {i : Nat} (h : ¬ i < l.length) (p : Option α) : rising ok p (l.drop i) = true := by rw [drop_end h]; rfl
theorem lcheck_c {l : List Hold} {v : AV} {D : Nat → Prop} {s : Mem} {K : AV → Mem → Prop} (hf : s.floor ≤ s.next) (hI : In D s) (hv : Holds s D v l) (hl : l.length < 1000000000) (hK : ∀ s', Keep s.next s s' → K (.int .i64 (if holdsS l then 0 else 1)) s') : C tab 66 [v] s K := by
  refine C_enter (cf := cf66) rfl (Nat.le_of_ble_eq_true rfl) ?_
  simp only [cf66, oo, on, om, og, oc, ou]
  have hlen : lenA false v = some l.length := hv.lenB
  (repeat' (with_reducible first|refine w_1 ?_|refine w_2 ?_|refine w_3 ?_|simp (maxDischargeDepth:=12) only [viz,↓reduceIte,Nat.reduceAdd,hlen]))
  refine W_inv l.length (fun i E s' => Keep s.next s s' ∧ E.get 0 = v ∧ E.get 5 = v ∧ E.get 6 = .int .i64 l.length ∧ E.get 7 = .int .i64 i ∧ rising holdOk none l = rising holdOk (prevOf l i) (l.drop i)) (by delta cf66l0 oo on om og oc ou; exact rfl) ?_ ?_
  · (repeat' with_reducible simp (maxDischargeDepth:=12) only [viz,↓reduceIte,reduceCtorEq])
    exact ⟨rfl, rfl⟩
  rintro i E s' hile _ ⟨hi, g0, g5, g6, g7, hr⟩
  by_cases hlt : i < l.length
  · obtain ⟨x, hx⟩ := get_of hlt
    obtain ⟨p, hp, P, hld⟩ := hv.ldk hI hx rfl rfl
    have hld' := hld _ hi
    have hfl := hi.ok hf
    rw [rising_step hx] at hr
    simp only [holdC] at hld'
    have hlx := lt_true hlt
    have q0 := Kp.of_push s' ⟨58, 3, [holdC x]⟩
    rcases i with _ | j
    all_goals first
      | (have h0 : ((0 : Nat) : Int) = 0 := rfl
         rw [h0] at hp hlx
         (repeat' (with_reducible first|refine w_1 ?_|refine w_2 ?_|refine w_3 ?_|refine w_4 ?_|refine w_5 ?_|simp (maxDischargeDepth:=12) only [viz,↓reduceIte,Nat.reduceEqDiff,Nat.reduceAdd,g5,g6,g7,h0,hlx,hp,hld',hfl, Int.reduceBEq, Int.reduceBNe, Int.reduceLT, Int.reduceLE, Int.reduceGT, Int.reduceGE]))
         refine hold_c (h := x) fun s2 h2 => ?_
         have q := q0.then h2
         have qg := q.g
         simp only [holdC] at qg
         (repeat' (with_reducible first|refine w_1 ?_|refine w_2 ?_|refine w_4 ?_|refine w_5 ?_|refine w_6 ?_|(refine w_8 (fun hb=>?_) (fun hb=>?_)<;>(try simp only [Bool.not_eq_true',Bool.not_eq_false'] at hb)<;>try simp only [hb])|refine w_13 (fun hc=>(by (try simp only [Bool.and_eq_true] at hc);simp (maxDischargeDepth:=12) only [viz,↓reduceIte,Nat.reduceEqDiff, Int.reduceBEq, Int.reduceBNe, Int.reduceLT, Int.reduceLE, Int.reduceGT, Int.reduceGE,cond_true,hc];first|exact ⟨rfl,rfl⟩|exact rfl)) ?_|((try refine w_9 ?_);simp (maxDischargeDepth:=12) only [viz,↓reduceIte,Nat.reduceEqDiff,reduceCtorEq,Nat.reduceAdd,g0,g5,g6,g7, Int.reduceBEq, Int.reduceBNe, Int.reduceLT, Int.reduceLE, Int.reduceGT, Int.reduceGE]))))
      | (obtain ⟨y, hy⟩ := get_of (l := l) (i := j) (by omega)
         obtain ⟨p2, hp2, P2, hld2⟩ := hv.ldk hI hy rfl rfl
         have hj : decide (((j + 1 : Nat) : Int) > 0) = true := by simp
         have hpj := pred_cast j (by omega)
         (repeat' (with_reducible first|refine w_1 ?_|refine w_2 ?_|refine w_3 ?_|refine w_4 ?_|refine w_5 ?_|simp (maxDischargeDepth:=12) only [viz,↓reduceIte,Nat.reduceEqDiff,Nat.reduceAdd,g5,g6,g7,hlx,hp,hld',hfl]))
         refine hold_c (h := x) fun s2 h2 => ?_
         have q := q0.then h2
         have qg := q.g
         simp only [holdC] at qg
         have hs2 := hi.then q.k
         have hld3 : loadA s2 false 1 (VI.adr p2 0) = some (.str y.key) := by
           have := P2.ldf _ hs2 0 false 1 (by simp [holdC])
           rw [this]; rfl
         (repeat' (with_reducible first|refine w_1 ?_|refine w_2 ?_|refine w_4 ?_|refine w_5 ?_|refine w_6 ?_|(refine w_8 (fun hb=>?_) (fun hb=>?_)<;>(try simp only [Bool.not_eq_true',Bool.not_eq_false'] at hb)<;>try simp only [hb])|refine w_13 (fun hc=>(by (try simp only [Bool.and_eq_true] at hc);simp (maxDischargeDepth:=12) only [viz,↓reduceIte,Nat.reduceEqDiff,reduceCtorEq,Nat.reduceAdd,g0,qg,hj,hpj,hp2,P2.adr,hld3,le_not',cond_true,hc];first|exact ⟨rfl,rfl⟩|exact rfl)) ?_|((try refine w_9 ?_);simp (maxDischargeDepth:=12) only [viz,↓reduceIte,Nat.reduceEqDiff,reduceCtorEq,g0,g5,g6,g7]))))
    · exact K_v hK (hi.then q.k) (by simp [holdsS, hr, holdOk, hb])
    · refine ⟨hlt, hi.then q.k, rfl, ?_⟩
      rw [hr]; simp [holdOk, prevOf, hb]
    · have e : holdOk (prevOf l (j + 1)) x = false := by simp only [holdOk, prevOf_succ, hy, bl]; grind
      exact K_v hK (hi.then q.k) (by simp [holdsS, hr, e])
    · have e : holdOk (prevOf l (j + 1)) x = true := by simp only [holdOk, prevOf_succ, hy, bl]; grind
      refine ⟨hlt, hi.then q.k, succ_av (by omega), ?_⟩
      rw [hr, e, Bool.true_and]
  · (repeat' (with_reducible first|refine w_1 ?_|refine w_2 ?_|refine w_4 ?_|refine w_5 ?_|refine w_6 ?_|refine w_7 ?_|(refine w_8 (fun hb=>?_) (fun hb=>?_)<;>(try simp only [Bool.not_eq_true',Bool.not_eq_false'] at hb)<;>try simp only [hb])|simp (maxDischargeDepth:=12) only [viz,↓reduceIte,reduceCtorEq,g0,g6,g7,lt_false hlt,hlen]))
    all_goals rw [rising_end hlt] at hr
    · exact K_v hK hi (by have := of_decide_eq_true hb; rw [holdsS, hr, if_neg (by simp; omega)])
    · exact K_v hK hi (by have := of_decide_eq_false hb; rw [holdsS, hr, if_pos (by simp; omega)])
theorem lmarks_c {l : List Mark} {v : AV} {D : Nat → Prop} {s : Mem} {K : AV → Mem → Prop} (hf : s.floor ≤ s.next) (hI : In D s) (hv : Marks s D v l) (hl : l.length < 1000000000) (hK : ∀ s', Keep s.next s s' → K (.int .i64 (if marksS l then 0 else 1)) s') : C tab 67 [v] s K := by
  refine C_enter (cf := cf67) rfl (Nat.le_of_ble_eq_true rfl) ?_
  simp only [cf67, oo, on, om, og, oc, ou]
  have hlen : lenA false v = some l.length := hv.lenB
  (repeat' (with_reducible first|refine w_1 ?_|refine w_2 ?_|refine w_3 ?_|simp (maxDischargeDepth:=12) only [viz,↓reduceIte,Nat.reduceAdd,hlen]))
  refine W_inv l.length (fun i E s' => Keep s.next s s' ∧ E.get 0 = v ∧ E.get 5 = v ∧ E.get 6 = .int .i64 l.length ∧ E.get 7 = .int .i64 i ∧ rising markOk none l = rising markOk (prevOf l i) (l.drop i)) (by delta cf67l0 oo on om og oc ou; exact rfl) ?_ ?_
  · (repeat' with_reducible simp (maxDischargeDepth:=12) only [viz,↓reduceIte,reduceCtorEq])
    exact ⟨rfl, rfl⟩
  rintro i E s' hile _ ⟨hi, g0, g5, g6, g7, hr⟩
  by_cases hlt : i < l.length
  · obtain ⟨x, hx⟩ := get_of hlt
    obtain ⟨p, hp, P, hld⟩ := hv.ldk hI hx rfl rfl
    have hld' := hld _ hi
    have hfl := hi.ok hf
    rw [rising_step hx] at hr
    simp only [markC] at hld'
    have hlx := lt_true hlt
    have q := pushes s' ⟨68, 2, [markC x]⟩
    have e0 := gt64 x.key.length
    rcases i with _ | j
    all_goals first
      | (have h0 : ((0 : Nat) : Int) = 0 := rfl
         rw [h0] at hp hlx
         (repeat' (with_reducible first|refine w_1 ?_|refine w_2 ?_|refine w_3 ?_|refine w_4 ?_|refine w_5 ?_|refine w_6 ?_|(refine w_8 (fun hb=>?_) (fun hb=>?_)<;>(try simp only [Bool.not_eq_true',Bool.not_eq_false'] at hb)<;>try simp only [hb])|refine w_13 (fun hc=>(by (try simp only [Bool.and_eq_true] at hc);simp (maxDischargeDepth:=12) only [viz,↓reduceIte,Nat.reduceEqDiff,Nat.reduceAdd, Int.reduceBEq, Int.reduceBNe, Int.reduceLT, Int.reduceLE, Int.reduceGT, Int.reduceGE,cond_true,cond_false,hc];first|exact ⟨rfl,rfl⟩|exact rfl)) ?_|((try refine w_9 ?_);simp (maxDischargeDepth:=12) only [viz,↓reduceIte,Nat.reduceEqDiff,reduceCtorEq,Nat.reduceAdd,g0,g5,g6,g7,h0,hlx,hp,hld',hfl, Int.reduceBEq, Int.reduceBNe, Int.reduceLT, Int.reduceLE, Int.reduceGT, Int.reduceGE]))))
      | (obtain ⟨y, hy⟩ := get_of (l := l) (i := j) (by omega)
         obtain ⟨p2, hp2, P2, hld2⟩ := hv.ldk hI hy rfl rfl
         have hj : decide (((j + 1 : Nat) : Int) > 0) = true := by simp
         have hpj := pred_cast j (by omega)
         have hld3 : ∀ M, Keep s.next s M → loadA M false 1 (VI.adr p2 0) = some (.str y.key) := fun M hM => by
           have := P2.ldf _ hM 0 false 1 (by simp [markC])
           rw [this]; rfl
         have hld4 : ∀ f, loadA ((s'.at f).push ⟨68, 2, [[.str x.key, .int .u64 x.token]]⟩) false 1 (VI.adr p2 0) = some (.str y.key) := fun f =>
           (mat_load (s'.push ⟨68, 2, [markC x]⟩) f false 1 _).trans (hld3 _ (hi.then q))
         (repeat' (with_reducible first|refine w_1 ?_|refine w_2 ?_|refine w_3 ?_|refine w_4 ?_|refine w_5 ?_|refine w_6 ?_|(refine w_8 (fun hb=>?_) (fun hb=>?_)<;>(try simp only [Bool.not_eq_true',Bool.not_eq_false'] at hb)<;>try simp only [hb])|refine w_13 (fun hc=>(by (try simp only [Bool.and_eq_true] at hc);simp (maxDischargeDepth:=12) only [viz,↓reduceIte,Nat.reduceEqDiff,reduceCtorEq,Nat.reduceAdd,g0,hj,hpj,hp2,P2.adr,hld4,le_not',cond_true,cond_false,hc];first|exact ⟨rfl,rfl⟩|exact rfl)) ?_|((try refine w_9 ?_);simp (maxDischargeDepth:=12) only [viz,↓reduceIte,Nat.reduceEqDiff,reduceCtorEq,Nat.reduceAdd,g0,g5,g6,g7,hlx,hp,hld',hfl]))))
    · have e : markOk (prevOf l 0) x = false := by simp only [markOk]; grind
      exact K_v hK (hi.then q) (by simp [marksS, hr, e])
    · have e : markOk (prevOf l 0) x = true := by simp only [markOk, prevOf_zero]; grind
      refine ⟨hlt, hi.then q, rfl, ?_⟩
      rw [hr, e, Bool.true_and]
    · have e : markOk (prevOf l (j + 1)) x = false := by simp only [markOk, prevOf_succ, hy, bl]; grind
      exact K_v hK (hi.then q) (by simp [marksS, hr, e])
    · have e : markOk (prevOf l (j + 1)) x = true := by simp only [markOk, prevOf_succ, hy, bl]; grind
      refine ⟨hlt, hi.then q, succ_av (by omega), ?_⟩
      rw [hr, e, Bool.true_and]
  · (repeat' (with_reducible first|refine w_1 ?_|refine w_2 ?_|refine w_4 ?_|refine w_5 ?_|refine w_6 ?_|refine w_7 ?_|(refine w_8 (fun hb=>?_) (fun hb=>?_)<;>(try simp only [Bool.not_eq_true',Bool.not_eq_false'] at hb)<;>try simp only [hb])|simp (maxDischargeDepth:=12) only [viz,↓reduceIte,reduceCtorEq,g0,g6,g7,lt_false hlt,hlen]))
    all_goals rw [rising_end hlt] at hr
    · exact K_v hK hi (by have := of_decide_eq_true hb; rw [marksS, hr, if_neg (by simp; omega)])
    · exact K_v hK hi (by have := of_decide_eq_false hb; rw [marksS, hr, if_pos (by simp; omega)])
end Go.Proofs.YthibbbfhkfebkaaGreat
/- Holds, marks: the document's word on which lists may be. No statement of the seat is proved here. -/
namespace Go.Proofs.YthibbbfhkfebkaaGreat
open Go Go.VI
set_option linter.unusedSimpArgs false
attribute [local irreducible] Ws Wp W C
set_option maxHeartbeats 4000000
end Go.Proofs.YthibbbfhkfebkaaGreat

