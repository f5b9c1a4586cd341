/- Both answer alike: the plain law. No statement of the seat is proved here. -/
import Derived.Test.YtmjgakhnhjpclaaGreatVZFC
import Derived.Test.YtmjgakhnhjpclaaGreatVZFB
import Derived.Test.YtmjgakhnhjpclaaGreatVZVE
namespace Go.Proofs.YtmjgakhnhjpclaaGreat
open Go Go.VI
set_option linter.unusedSimpArgs false
theorem mem_ids {l : List Event} {i j : Nat} {e : Event} (h : l[i]? = some e) (hj : i < j) : idOf e ∈ ids e.done (l.take j) := by
  unfold ids
  refine List.mem_map.mpr ⟨e, List.mem_filter.mpr ⟨?_, by simp⟩, rfl⟩
  exact List.mem_iff_getElem?.mpr ⟨i, by rw [List.getElem?_take, if_pos hj]; exact h⟩
theorem ids_mem {l : List Event} {b : Bool} {j : Nat} {q : Idn} (h : q ∈ ids b (l.take j)) : ∃ i e, i < j ∧ l[i]? = some e ∧ e.done = b ∧ idOf e = q := by
  unfold ids at h
  obtain ⟨e, he, rfl⟩ := List.mem_map.mp h
  obtain ⟨h1, h2⟩ := List.mem_filter.mp he
  obtain ⟨i, hi⟩ := List.mem_iff_getElem?.mp h1
  rw [List.getElem?_take] at hi
  split at hi
  · rename_i hlt; exact ⟨i, e, hlt, hi, by simpa using h2, rfl⟩
  · cases hi
section
variable {l : List Event} (hc : chk l = 0)
include hc
theorem ok_of {i : Nat} {e : Event} (h : l[i]? = some e) : evOk (prevOf l i) (ids false (l.take i)) (ids true (l.take i)) e = true := by
  have := (chk_zero hc).2 i
  rwa [okAt_some h] at this
theorem same_lt {i j : Nat} {e f : Event} (he : l[i]? = some e) (hf : l[j]? = some f) (hd : e.done = f.done) (hq : idOf e = idOf f) : ¬ i < j := by
  intro hlt
  have h1 := mem_ids he hlt
  have h2 := ok_of hc hf
  rw [hd, hq] at h1
  unfold evOk at h2
  cases hfd : f.done with
  | true =>
    rw [hfd] at h1 h2
    simp only [if_true, Bool.and_eq_true, Bool.not_eq_true', List.contains_iff_mem] at h2
    have := h2.2.1.1.2
    rw [← Bool.not_eq_true, List.contains_iff_mem] at this
    exact this h1
  | false =>
    rw [hfd] at h1 h2
    simp only [Bool.false_eq_true, if_false, Bool.and_eq_true, Bool.not_eq_true'] at h2
    have := h2.2.1.1.1
    rw [← Bool.not_eq_true, List.contains_iff_mem] at this
    exact this h1
theorem same_eq {i j : Nat} {e f : Event} (he : l[i]? = some e) (hf : l[j]? = some f) (hd : e.done = f.done) (hq : idOf e = idOf f) : i = j := by
  have h1 := same_lt hc he hf hd hq
  have h2 := same_lt hc hf he hd.symm hq.symm
  omega
theorem end_after {i k : Nat} {e f : Event} (he : l[i]? = some e) (hf : l[k]? = some f) (hde : e.done = false) (hdf : f.done = true) (hq : idOf f = idOf e) : i < k := by
  have h2 := ok_of hc hf
  unfold evOk at h2
  rw [hdf] at h2
  simp only [if_true, Bool.and_eq_true] at h2
  have h3 := h2.2.1.1.1
  rw [List.contains_iff_mem] at h3
  obtain ⟨j, g, hj, hg, hdg, hqg⟩ := ids_mem h3
  have := same_eq hc hg he (by rw [hdg, hde]) (by rw [hqg, hq])
  omega
theorem endR_spec {q : Idn} {k : Nat} (h : endR l q = some k) : ∃ f, l[k]? = some f ∧ f.done = true ∧ idOf f = q ∧ f.unknown = false ∧ endP l q = some k := by
  obtain ⟨f, hf, h1⟩ := endR_get h
  simp only [isEnd, Bool.and_eq_true, beq_iff_eq, Bool.not_eq_true'] at h1
  refine ⟨f, hf, h1.1.1, h1.1.2, h1.2, ?_⟩
  cases hE : endP l q with
  | none =>
    have := List.findIdx?_eq_none_iff.mp hE f (List.mem_of_getElem? hf)
    simp [h1.1.1, h1.1.2] at this
  | some j =>
    obtain ⟨g, hg, hgd, hgq, _⟩ := endP_spec hE
    rw [same_eq hc hg hf (by rw [hgd, h1.1.1]) (by rw [hgq, h1.1.2])]
theorem spanOf_some {i k : Nat} {e f : Event} (h : endR l (idOf e) = some k) (hf : l[k]? = some f) : spanOf l i e = ⟨e.call, i, k, true, f.reply, e.time, f.time⟩ := by
  obtain ⟨g, hg, _, _, hu, hE⟩ := endR_spec hc h
  rw [hf] at hg; obtain rfl := Option.some.inj hg
  simp [spanOf, hE, hf, hu]
omit hc in
theorem spanOf_none {i : Nat} {e : Event} (h : endR l (idOf e) = none) : spanOf l i e = ⟨e.call, i, l.length, false, ⟨0, 0, []⟩, e.time, 0⟩ := by
  have : ((endP l (idOf e)).bind fun k => (l[k]?).bind fun f => if f.unknown then none else some (k, f)) = none := by
    cases hE : endP l (idOf e) with
    | none => rfl
    | some j =>
      obtain ⟨g, hg, hgd, hgq, _⟩ := endP_spec hE
      have := List.findIdx?_eq_none_iff.mp h g (List.mem_of_getElem? hg)
      simp only [isEnd, hgd, hgq, beq_self_eq_true, Bool.true_and, Bool.not_eq_false'] at this
      simp [hg, this]
  unfold spanOf
  rw [this]
theorem taken_el {a : Sp} (h : a ∈ (spans l).filter took) : ∃ i e k f, l[i]? = some e ∧ l[k]? = some f ∧ tk l i = some k ∧ e.done = false ∧ endR l (idOf e) = some k ∧ a = ⟨e.call, i, k, true, f.reply, e.time, f.time⟩ := by
  obtain ⟨h1, h2⟩ := List.mem_filter.mp h
  obtain ⟨i, e, he, hd, rfl⟩ := spans_mem h1
  cases hE : endR l (idOf e) with
  | none => rw [spanOf_none hE] at h2; simp [took] at h2
  | some k =>
    obtain ⟨f, hf, hfd, hfq, hfu, _⟩ := endR_spec hc hE
    rw [spanOf_some hc hE hf] at h2 ⊢
    simp only [took, Bool.true_and, Bool.and_eq_true, decide_eq_true_eq] at h2
    exact ⟨i, e, k, f, he, hf, by simp [tk, he, hd, h2.1, hE, hf, h2.2], hd, hE, rfl⟩
theorem taken_le {i k : Nat} {e f : Event} (h : tk l i = some k) (he : l[i]? = some e) (hf : l[k]? = some f) : (⟨e.call, i, k, true, f.reply, e.time, f.time⟩ : Sp) ∈ (spans l).filter took := by
  obtain ⟨e', f', he', hf', hd, hk, hE, hcode⟩ := tk_get h
  rw [he] at he'; obtain rfl := Option.some.inj he'
  rw [hf] at hf'; obtain rfl := Option.some.inj hf'
  rw [← spanOf_some hc hE hf]
  refine List.mem_filter.mpr ⟨?_, by rw [spanOf_some hc hE hf]; simp [took, hk, hcode]⟩
  unfold spans spansTo
  refine List.mem_filterMap.mpr ⟨i, List.mem_range.mpr (List.getElem?_eq_some_iff.mp he).1, ?_⟩
  rw [he, Option.bind_some, hd]; rfl
end
theorem spanOf_frm (l : List Event) (i : Nat) (e : Event) : (spanOf l i e).frm = i := by unfold spanOf; split <;> rfl
theorem spans_up (l : List Event) : (spans l).Pairwise fun a b => a.frm < b.frm := by
  unfold spans spansTo
  rw [List.pairwise_filterMap]
  refine List.pairwise_lt_range.imp ?_
  intro i j hij a ha b hb
  have key : ∀ (i : Nat) (a : Sp), ((l[i]?).bind fun e => if e.done then none else some (spanOf l i e)) = some a → a.frm = i := by
    intro i a h
    cases he : l[i]? with
    | none => rw [he] at h; cases h
    | some e =>
      rw [he, Option.bind_some] at h
      split at h
      · cases h
      · rw [← Option.some.inj h]; exact spanOf_frm l i e
  rw [key i a ha, key j b hb]; exact hij
theorem frm_inj {l : List Event} {p q : Nat} {a b : Sp} (ha : ((spans l).filter took)[p]? = some a) (hb : ((spans l).filter took)[q]? = some b) (h : a.frm = b.frm) : p = q := by
  have hp := List.Pairwise.filter took (spans_up l)
  rw [List.pairwise_iff_getElem] at hp
  obtain ⟨hpl, rfl⟩ := List.getElem?_eq_some_iff.mp ha
  obtain ⟨hql, rfl⟩ := List.getElem?_eq_some_iff.mp hb
  by_cases h1 : p < q
  · have := hp p q hpl hql h1; omega
  by_cases h2 : q < p
  · have := hp q p hql hpl h2; omega
  omega
section
variable {l : List Event} (hc : chk l = 0)
include hc
theorem tk_lt {i k : Nat} (h : tk l i = some k) : i < k := by
  obtain ⟨e, f, he, hf, hd, _, hE, _⟩ := tk_get h
  obtain ⟨g, hg, hgd, hgq, _⟩ := endR_spec hc hE
  rw [hf] at hg; obtain rfl := Option.some.inj hg
  exact end_after hc he hf hd hgd hgq
theorem fenced_same : Fenced ((spans l).filter took) ↔ FencedR l := by
  constructor
  · intro h i k hi hk
    unfold badFR
    cases ha : tk l i with
    | none => rfl
    | some a =>
      cases hb : tk l k with
      | none => rfl
      | some b =>
        obtain ⟨e, f, he, hf, _⟩ := tk_get ha
        obtain ⟨e', f', he', hf', _⟩ := tk_get hb
        obtain ⟨p, hp⟩ := List.mem_iff_getElem?.mp (taken_le hc ha he hf)
        obtain ⟨q, hq⟩ := List.mem_iff_getElem?.mp (taken_le hc hb he' hf')
        have := h p q _ _ hp hq
        have t1 : tokAt l a = f.reply.token := by simp [tokAt, hf]
        have t2 : tokAt l b = f'.reply.token := by simp [tokAt, hf']
        by_cases hik : i = k
        · simp [hik]
        have hpq : p ≠ q := fun e => by
          subst e; rw [hp] at hq
          have := congrArg Sp.frm (Option.some.inj hq)
          exact hik this
        simp only [badF, hpq, decide_false, Bool.not_false, Bool.true_and] at this
        simp only [t1, t2]
        grind
  · intro h p q a b ha hb
    obtain ⟨i, e, k, f, he, hf, ht, _, _, rfl⟩ := taken_el hc (List.mem_of_getElem? ha)
    obtain ⟨i', e', k', f', he', hf', ht', _, _, rfl⟩ := taken_el hc (List.mem_of_getElem? hb)
    have t1 : tokAt l k = f.reply.token := by simp [tokAt, hf]
    have t2 : tokAt l k' = f'.reply.token := by simp [tokAt, hf']
    by_cases hii : i = i'
    · have hpq := frm_inj ha hb hii
      subst hpq
      rw [ha] at hb
      have := Option.some.inj hb
      subst hii
      have hik := tk_lt hc ht
      simp only [badF, decide_true, Bool.not_true, Bool.false_and, Bool.false_or]
      have : ¬ k < i := by omega
      simp [this]
    · have hpq : p ≠ q := fun e => by
        subst e; rw [ha] at hb
        exact hii (congrArg Sp.frm (Option.some.inj hb))
      have := h i i' (List.getElem?_eq_some_iff.mp he).1 (List.getElem?_eq_some_iff.mp he').1
      simp only [badFR, ht, ht', t1, t2, hii, decide_false, Bool.not_false, Bool.true_and] at this
      simp only [badF, hpq, decide_false, Bool.not_false, Bool.true_and]
      grind
theorem freed_same {tok : Int} {key : Txt} {b : Nat} (hb : b ≤ l.length) : (spans l).any (frees tok key b) = true ↔ freedR l tok key b := by
  have one : ∀ {i : Nat} {e : Event}, l[i]? = some e → e.done = false → (frees tok key b (spanOf l i e) = true ↔ (i < b ∧ freesR l tok key i = true)) := by
    intro i e he hd
    have e1 : freesR l tok key i = (!(e.done || !decide (e.call.kind = 2) || !decide (e.call.token = tok) || !e.call.keys.contains key) && (match (endR l (idOf e)).bind fun k => l[k]? with | none => true | some f => decide (f.reply.code = 0))) := by simp only [freesR, he]; rfl
    cases hE : endR l (idOf e) with
    | none =>
      rw [hE] at e1
      rw [spanOf_none hE, e1]
      simp only [frees, hd, Option.bind_none]
      grind
    | some k =>
      obtain ⟨f, hf, _⟩ := endR_spec hc hE
      rw [hE, Option.bind_some, hf] at e1
      rw [spanOf_some hc hE hf, e1]
      simp only [frees, hd]
      grind
  constructor
  · intro h
    obtain ⟨x, hx, hfx⟩ := List.any_eq_true.mp h
    obtain ⟨i, e, he, hd, rfl⟩ := spans_mem hx
    obtain ⟨h1, h2⟩ := (one he hd).mp hfx
    exact ⟨i, h1, h2⟩
  · rintro ⟨i, hi, h⟩
    obtain ⟨e, he⟩ := get_of (l := l) (i := i) (by omega)
    have hd : e.done = false := by
      simp only [freesR, he] at h
      cases hd : e.done with
      | false => rfl
      | true => rw [hd] at h; simp at h
    refine List.any_eq_true.mpr ⟨spanOf l i e, ?_, (one he hd).mpr ⟨hi, h⟩⟩
    unfold spans spansTo
    exact List.mem_filterMap.mpr ⟨i, List.mem_range.mpr (List.getElem?_eq_some_iff.mp he).1, by rw [he, Option.bind_some, hd]; rfl⟩
theorem leased_same : Leased (spans l) ((spans l).filter took) ↔ LeasedR l := by
  constructor
  · intro h i k _ _ a b e f x y ha hb he hf hx hy hpr key hkey hct
    obtain ⟨p, hp⟩ := List.mem_iff_getElem?.mp (taken_le hc ha he hx)
    obtain ⟨q, hq⟩ := List.mem_iff_getElem?.mp (taken_le hc hb hf hy)
    have hh := h p q _ _ hp hq
    rw [← freed_same hc (Nat.le_of_lt (List.getElem?_eq_some_iff.mp hy).1)]
    cases hz : (spans l).any (frees x.reply.token key b) with
    | true => rfl
    | false =>
      have hl : e.call.keys.any (lost (spans l) ⟨e.call, i, a, true, x.reply, e.time, x.time⟩ ⟨f.call, k, b, true, y.reply, f.time, y.time⟩) = true :=
        List.any_eq_true.mpr ⟨key, hkey, by simp only [lost, hct, hz, Bool.not_false, Bool.and_self]⟩
      rw [badL] at hh
      simp only [hl, hpr, Bool.not_false, Bool.and_self] at hh
      cases hh
  · intro h p q a b ha hb
    obtain ⟨i, e, k, f, he, hf, ht, _, _, rfl⟩ := taken_el hc (List.mem_of_getElem? ha)
    obtain ⟨i', e', k', f', he', hf', ht', _, _, rfl⟩ := taken_el hc (List.mem_of_getElem? hb)
    have hh := h i i' (List.getElem?_eq_some_iff.mp he).1 (List.getElem?_eq_some_iff.mp he').1 k k' e e' f f' ht ht' he he' hf hf'
    cases hpr : (decide (f.reply.token ≥ f'.reply.token) || decide (IntKind.i64.wrap (f'.time - e.time) ≥ e.call.ttl)) with
    | true => simp only [badL, hpr, Bool.not_true, Bool.false_and]
    | false =>
      have hall := hh hpr
      have : e.call.keys.any (lost (spans l) ⟨e.call, i, k, true, f.reply, e.time, f.time⟩ ⟨e'.call, i', k', true, f'.reply, e'.time, f'.time⟩) = false := by
        rw [List.any_eq_false]
        intro key hkey
        cases hct : e'.call.keys.contains key with
        | false => simp only [lost, hct, Bool.false_and]; simp
        | true =>
          have := (freed_same hc (Nat.le_of_lt (List.getElem?_eq_some_iff.mp hf').1)).mpr (hall key hkey hct)
          simp only [lost, hct, this]; simp
      simp only [badL, this, Bool.and_false]
end
end Go.Proofs.YtmjgakhnhjpclaaGreat

