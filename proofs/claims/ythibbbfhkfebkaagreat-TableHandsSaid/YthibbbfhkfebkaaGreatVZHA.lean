/- The theorem of handing over: the plain law. No statement of the seat is proved here. -/
import Derived.Test.YthibbbfhkfebkaaGreatVZMF
import Derived.Test.YthibbbfhkfebkaaGreatVZTG
import Derived.Test.YthibbbfhkfebkaaGreatVZVE
import Derived.Test.YthibbbfhkfebkaaGreatVZMH
namespace Go.Proofs.YthibbbfhkfebkaaGreat
open Go Go.VI
set_option linter.unusedSimpArgs false
theorem form_of : ∀ (l : List Span) (p : Option Span), (∀ x ∈ l, mayS x = true) → (l.Pairwise fun x y => aheadS x.to y.frm = true) → (∀ q, p = some q → ∀ y ∈ l, aheadS q.to y.frm = true) → rising formOk p l = true
  | [], _, _, _, _ => rfl
  | x :: l, p, h1, h2, h3 => by
    obtain ⟨u1, u2⟩ := List.pairwise_cons.mp h2
    simp only [rising, Bool.and_eq_true, formOk]
    refine ⟨⟨h1 x (by simp), ?_⟩, form_of l (some x) (fun y hy => h1 y (List.mem_cons_of_mem _ hy)) u2 fun q hq y hy => by
      obtain rfl := Option.some.inj hq; exact u1 y hy⟩
    cases p with
    | none => rfl
    | some q => exact h3 q rfl x (by simp)
theorem form_mk {l : List Span} (h : Canon l) (hm : ∀ x ∈ l, mayS x = true) (hl : l.length ≤ 64) : formS l = true := by
  simp only [formS, Bool.and_eq_true, decide_eq_true_eq]
  exact ⟨hl, form_of l none hm h.up fun q hq => by cases hq⟩
theorem may_len {x : Span} (h : mayS x = true) : x.frm.length ≤ 64 ∧ x.to.length ≤ 64 := by
  simp only [mayS, Bool.and_eq_true, decide_eq_true_eq] at h
  exact h.1
theorem may_mk {x : Span} (h1 : x.frm.length ≤ 64) (h2 : x.to.length ≤ 64) (h3 : okS x) : mayS x = true := by
  simp only [mayS, Bool.and_eq_true, decide_eq_true_eq, Bool.or_eq_true, beq_iff_eq]
  exact ⟨⟨h1, h2⟩, h3⟩
theorem less_may {l : List Span} {s : Span} (hl : ∀ x ∈ l, mayS x = true) (hs : mayS s = true) : ∀ y ∈ lessP l s, mayS y = true := fun y hy => by
  obtain ⟨x, hx, hxy⟩ := List.mem_flatMap.mp hy
  have hxm := hl x hx
  obtain ⟨a1, a2⟩ := may_len hxm
  obtain ⟨b1, b2⟩ := may_len hs
  obtain ⟨y1, y2, _⟩ := cut_facts (may_ok hs) (may_ok hxm)
  rcases cut_in hxy with ⟨rfl, hc⟩ | ⟨rfl, hc⟩
  · refine may_mk a1 ?_ (y1 hc).1
    show (leastS x.to s.frm).length ≤ 64
    unfold leastS; split; exact a2; exact b1
  · refine may_mk ?_ a2 (y2 hc).1
    show (mxS s.to x.frm).length ≤ 64
    unfold mxS; split; exact a1; exact b2
theorem put_new {α : Type} {key : α → Txt} {h : α} : ∀ {l : List α}, (∀ x ∈ l, key x ≠ key h) → (putG key h l).length = l.length + 1 ∧ (∀ y, y ∈ putG key h l ↔ y = h ∨ y ∈ l)
  | [], _ => by simp [putG]
  | x :: r, hn => by
    obtain ⟨i1, i2⟩ := put_new (l := r) (h := h) fun y hy => hn y (List.mem_cons_of_mem _ hy)
    unfold putG
    split
    · refine ⟨by simp [i1], fun y => ?_⟩
      rw [List.mem_cons, i2, List.mem_cons]
      constructor
      · rintro (h | h | h)
        · exact .inr (.inl h)
        · exact .inl h
        · exact .inr (.inr h)
      · rintro (h | h | h)
        · exact .inr (.inl h)
        · exact .inl h
        · exact .inr (.inr h)
    · have e : (x :: r).filter (fun y => !(key y == key h)) = x :: r := by
        rw [List.filter_eq_self]
        intro y hy
        have := hn y hy
        simp [this]
      rw [e]
      exact ⟨by simp, fun y => by rw [List.mem_cons]⟩
theorem puts_new : ∀ (hs l : List Hold), hs.Pairwise (fun a b => bl a.key b.key = true) → (∀ x ∈ l, ∀ h ∈ hs, x.key ≠ h.key) → (hs.foldl setF l).length = l.length + hs.length ∧ ∀ y, y ∈ hs.foldl setF l ↔ y ∈ hs ∨ y ∈ l
  | [], l, _, _ => by simp
  | h :: hs, l, hp, hn => by
    obtain ⟨u1, u2⟩ := List.pairwise_cons.mp hp
    obtain ⟨p1, p2⟩ := put_new (key := Hold.key) (h := h) (l := l) fun x hx => hn x hx h (by simp)
    obtain ⟨q1, q2⟩ := puts_new hs (setF l h) u2 fun x hx g hg => by
      rcases (p2 x).mp hx with rfl | hx
      · intro e; have := u1 g hg; rw [e, bl_irrefl] at this; cases this
      · exact hn x hx g (List.mem_cons_of_mem _ hg)
    rw [List.foldl_cons, List.length_cons]
    refine ⟨by rw [q1]; unfold setF; rw [p1]; omega, fun y => ?_⟩
    rw [q2]
    unfold setF
    rw [p2, List.mem_cons]
    constructor
    · rintro (h | h | h)
      · exact .inl (.inr h)
      · exact .inl (.inl h)
      · exact .inr h
    · rintro ((h | h) | h)
      · exact .inr (.inl h)
      · exact .inl h
      · exact .inr (.inr h)
theorem find_mem {l : List Hold} {h : Hold} (hl : holdsS l = true) (hm : h ∈ l) : findH l h.key = some h := by
  have hp := ((holds_iff l).mp hl).2.2
  clear hl
  unfold findH
  induction l with
  | nil => cases hm
  | cons x r ih =>
    obtain ⟨u1, u2⟩ := List.pairwise_cons.mp hp
    rcases List.mem_cons.mp hm with rfl | hm
    · simp
    · have := u1 h hm
      have hne : (x.key == h.key) = false := by
        rw [beq_eq_false_iff_ne]; intro e; rw [e, bl_irrefl] at this; cases this
      rw [List.find?_cons, hne]
      exact ih hm u2
theorem rising_imp {α : Type} {ok ok' : Option α → α → Bool} : ∀ (l : List α) (p : Option α), (∀ x ∈ l, ∀ p, ok p x = true → ok' p x = true) → rising ok p l = true → rising ok' p l = true
  | [], _, _, _ => rfl
  | x :: l, p, h, hr => by
    simp only [rising, Bool.and_eq_true] at hr ⊢
    exact ⟨h x (by simp) p hr.1, rising_imp l (some x) (fun y hy => h y (List.mem_cons_of_mem _ hy)) hr.2⟩
theorem may_within {t : Table} (h : mayT t = true) : (∀ x ∈ t.holds, inR t.spans x.key = true ∧ markedS t.marks x.key = false) ∧ (∀ m ∈ t.marks, inR t.spans m.key = true) ∧ (∀ x ∈ t.ints, inR t.spans x.key = true) ∧ (∀ y ∈ t.frozen, (leftTo t.spans [y]).isEmpty = true) := by
  simp only [mayT, Bool.and_eq_true] at h
  obtain ⟨⟨⟨⟨_, hfr⟩, hwi⟩, _⟩, hri⟩ := h
  simp only [withinS, Bool.and_eq_true, List.all_eq_true, Bool.not_eq_true'] at hwi
  refine ⟨hwi.1, hwi.2, fun x hx => ?_, List.all_eq_true.mp hfr⟩
  obtain ⟨q, hq⟩ := rising_mem hri x hx
  simp only [intR, Bool.and_eq_true] at hq
  exact hq.2
theorem in_less {l : List Span} {s : Span} {k : Txt} (hl : Canon l) (hs : okS s) : inR (lessP l s) k = (inR l k && !hasS s k) := (less_ok hl hs).2 k
theorem out_may {f : Table} {s : Span} (hm : mayT f = true) (hs : mayS s = true) (hi : (f.ints.any fun i => hasP s i.key) = false) (l1 : (lessP f.spans s).length ≤ 64) (l2 : (lessP f.frozen s).length ≤ 64) : mayT (outT f s) = true := by
  obtain ⟨fo1, fo2⟩ := may_form hm
  obtain ⟨n0, n1, hoo, mao⟩ := may_parts hm
  obtain ⟨kh, km, ki⟩ := may_keys hm
  obtain ⟨w1, w2, w3, w4⟩ := may_within hm
  have c1 := form_canon fo1
  have c2 := form_canon fo2
  have so := may_ok hs
  have hP : ∀ k : Txt, k.length ≤ 64 → hasP s k = hasS s k := fun k hk => by simp [hasP, hs, hk]
  have g1 : formS (lessP f.spans s) = true := form_mk (less_ok c1 so).1 (less_may (form_may fo1) hs) l1
  have g2 : formS (lessP f.frozen s) = true := form_mk (less_ok c2 so).1 (less_may (form_may fo2) hs) l2
  have hroom : roomS (outT f s) = true := by
    simp only [mayT, Bool.and_eq_true] at hm
    have := hm.1.2
    simp only [roomS, decide_eq_true_eq] at this ⊢
    have a1 := List.length_filter_le (fun h : Hold => !hasP s h.key) f.holds
    have a2 := List.length_filter_le (fun m : Mark => !hasP s m.key) f.marks
    show (f.holds.filter fun h => !hasP s h.key).length + (f.marks.filter fun m => !hasP s m.key).length + f.ints.length ≤ 1024
    omega
  have hfr : ((lessP f.frozen s).all fun y => (leftTo (lessP f.spans s) [y]).isEmpty) = true := by
    rw [List.all_eq_true]
    intro y hy
    have hym := less_may (form_may fo2) hs y hy
    refine (left_covers _ hym).mpr fun k hk => ?_
    have h1 : ((lessP f.frozen s).any fun x => hasS x k) = true := List.any_eq_true.mpr ⟨y, hy, hk⟩
    rw [(less_ok c2 so).2 k, Bool.and_eq_true] at h1
    obtain ⟨z, hz, hzk⟩ := List.any_eq_true.mp h1.1
    have h2 := (left_covers f.spans (form_may fo2 z hz)).mp (w4 z hz) k hzk
    rw [(less_ok c1 so).2 k, h2, h1.2]; rfl
  have hwi : withinS (lessP f.spans s) (f.holds.filter fun h => !hasP s h.key) (f.marks.filter fun m => !hasP s m.key) = true := by
    simp only [withinS, Bool.and_eq_true, List.all_eq_true, Bool.not_eq_true']
    refine ⟨fun x hx => ?_, fun m hx => ?_⟩
    · obtain ⟨hx1, hx2⟩ := List.mem_filter.mp hx
      refine ⟨?_, ?_⟩
      · rw [in_less c1 so, (w1 x hx1).1, ← hP _ (kh x hx1)]; simpa using hx2
      · have := (w1 x hx1).2
        cases hq : markedS (f.marks.filter fun m => !hasP s m.key) x.key with
        | false => rfl
        | true =>
          have hmm := (marked_iff (marks_filter (fun m => !hasP s m.key) mao) x.key)
          rw [hmm] at hq
          rw [marked_iff mao] at this
          obtain ⟨m, hm1, hm2⟩ := List.any_eq_true.mp hq
          have : (f.marks.any fun m => m.key == x.key) = true := List.any_eq_true.mpr ⟨m, (List.mem_filter.mp hm1).1, hm2⟩
          simp_all
    · obtain ⟨hx1, hx2⟩ := List.mem_filter.mp hx
      rw [in_less c1 so, w2 m hx1, ← hP _ (km m hx1)]; simpa using hx2
  have hri : rising (intR (lessP f.spans s)) none f.ints = true := by
    simp only [mayT, Bool.and_eq_true] at hm
    refine rising_imp f.ints none (fun x hx p h => ?_) hm.2
    simp only [intR, Bool.and_eq_true] at h ⊢
    refine ⟨h.1, ?_⟩
    rw [in_less c1 so, w3 x hx, ← hP _ (ki x hx)]
    have := List.any_eq_false.mp hi x hx
    simpa using this
  show (decide (0 ≤ f.now) && decide (f.now ≤ 2147483647) && formS (lessP f.spans s) && formS (lessP f.frozen s) && holdsS (f.holds.filter fun h => !hasP s h.key) && marksS (f.marks.filter fun m => !hasP s m.key) && ((lessP f.frozen s).all fun y => (leftTo (lessP f.spans s) [y]).isEmpty) && withinS (lessP f.spans s) (f.holds.filter fun h => !hasP s h.key) (f.marks.filter fun m => !hasP s m.key) && roomS (outT f s) && rising (intR (lessP f.spans s)) none f.ints) = true
  rw [g1, g2, holds_filter _ hoo, marks_filter _ mao, hfr, hwi, hroom, hri]
  simp [n0, n1]
end Go.Proofs.YthibbbfhkfebkaaGreat
/- The theorem of handing over: what comes of it. No statement of the seat is proved here. -/
namespace Go.Proofs.YthibbbfhkfebkaaGreat
open Go Go.VI
set_option linter.unusedSimpArgs false
theorem frz_ok {t : Table} {x : Span} (h : (frzP t x).1 = 0) : mayT t = true ∧ mayS x = true ∧ (frzP t x).2 = withF t (addP t.frozen x) := by
  unfold frzP at h ⊢
  split at h
  · cases h
  · rename_i h0
    split at h
    · cases h
    · rename_i h1
      split at h
      · rename_i h2
        rw [if_neg h0, if_neg h1, if_pos h2]
        simp only [Bool.not_eq_false, Bool.and_eq_true] at h0
        exact ⟨h0.1, h0.2, rfl⟩
      · cases h
theorem exp_ok {f : Table} {plan : Int} {x : Span} (h : (expP f plan x).1 = 0) : mayT f = true ∧ mayS x = true ∧ (f.ints.any fun i => hasP x i.key) = false ∧ (lessP f.spans x).length ≤ 64 ∧ (lessP f.frozen x).length ≤ 64 ∧ (expP f plan x).2 = (outT f x, outP f plan x) := by
  unfold expP at h ⊢
  split at h
  · cases h
  · rename_i h0
    split at h
    · cases h
    · rename_i h1
      split at h
      · cases h
      · rename_i h2
        split at h
        · rename_i h3
          rw [if_neg h0, if_neg h1, if_neg h2, if_pos h3]
          simp only [Bool.not_eq_false, Bool.and_eq_true] at h0 h2
          exact ⟨h0.1, h0.2, by simpa using h2.2, h3.1, h3.2, rfl⟩
        · cases h
theorem imp_ok {u : Table} {p : Parcel} (h : (impP u p).1 = 0) : mayT u = true ∧ mayP p = true ∧ u.spans.any (meetB p.sp) = false ∧ (impP u p).2 = inT u p := by
  unfold impP at h ⊢
  split at h
  · cases h
  · rename_i h0
    split at h
    · cases h
    · rename_i h1
      split at h
      · rename_i h2
        rw [if_neg h0, if_neg h1, if_pos h2]
        simp only [Bool.not_eq_false, Bool.and_eq_true] at h0
        exact ⟨h0.1, h0.2, by simpa using h1, rfl⟩
      · cases h
theorem tills_up (g : Int → Int) {l : List Hold} (h : l.Pairwise fun a b => bl a.key b.key = true) : (l.map (tillG g)).Pairwise fun a b => bl a.key b.key = true := by
  rw [List.pairwise_map]; exact h
theorem filt_sum {α : Type} (p : α → Bool) : ∀ l : List α, (l.filter fun x => !p x).length + (l.filter p).length = l.length
  | [] => rfl
  | x :: l => by
    have := filt_sum p l
    cases h : p x <;> simp [List.filter_cons, h] <;> omega
structure Handed (t u a b : Table) (x : Span) : Prop where
  piece : pieceP a.spans x 2 = []
  count : a.holds.length + b.holds.length = t.holds.length + u.holds.length
  find : ∀ h ∈ t.holds, hasS x h.key = true → findH b.holds h.key = some ⟨h.key, h.token, unpG u.now (packG t.now h.till)⟩
  may : mayT a = true
  out : ∀ h ∈ t.holds, hasS x h.key = true → inR a.spans h.key = false
theorem handed {t u : Table} {plan : Int} {x : Span} (h1 : (frzP t x).1 = 0) (h2 : (expP (frzP t x).2 plan x).1 = 0) (h3 : (impP u (expP (frzP t x).2 plan x).2.2).1 = 0)
    (hl : t.holds.length ≤ 100) (hu : u.holds.length ≤ 100) : Handed t u (expP (frzP t x).2 plan x).2.1 (impP u (expP (frzP t x).2 plan x).2.2).2 x := by
  obtain ⟨mt, mx, ef⟩ := frz_ok h1
  rw [ef] at h2 h3 ⊢
  obtain ⟨mf, _, hi, l1, l2, ee⟩ := exp_ok h2
  rw [ee] at h3 ⊢
  obtain ⟨mu, mp, hno, eb⟩ := imp_ok h3
  rw [eb]
  clear h1 h2 h3 ef ee eb
  obtain ⟨fo1, fo2⟩ := may_form mf
  obtain ⟨_, _, hoo, _⟩ := may_parts mt
  obtain ⟨nu0, nu1, huo, _⟩ := may_parts mu
  obtain ⟨kh, _, _⟩ := may_keys mt
  obtain ⟨kuh, _, _⟩ := may_keys mu
  have hP : ∀ k : Txt, k.length ≤ 64 → hasP x k = hasS x k := fun k hk => by simp [hasP, mx, hk]
  have c1 := form_canon fo1
  have so := may_ok mx
  have hmp := mp
  simp only [mayP, Bool.and_eq_true] at hmp
  obtain ⟨⟨⟨ms, mh⟩, mm⟩, _⟩ := hmp
  have hin : ∀ k : Txt, inR (lessP (withF t (addP t.frozen x)).spans x) k = (inR t.spans k && !hasS x k) := fun k => in_less c1 so
  have hself : ∀ h ∈ t.holds.filter fun h => hasP x h.key, hasS x h.key = true := fun h hh => by
    obtain ⟨q1, q2⟩ := List.mem_filter.mp hh
    rw [← hP _ (kh h q1)]; exact q2
  have hnew : ∀ y ∈ u.holds, ∀ h ∈ ((t.holds.filter fun h => hasP x h.key).map (tillG (packG t.now))).map (tillG (unpG u.now)), y.key ≠ h.key := fun y hy h hh e => by
    rw [List.map_map] at hh
    obtain ⟨g, hg, rfl⟩ := List.mem_map.mp hh
    have hk : hasS x g.key = true := hself g hg
    have e' : y.key = g.key := e
    obtain ⟨z, hz, hzk⟩ := List.any_eq_true.mp ((may_within mu).1 y hy).1
    rw [e'] at hzk
    have hfu := form_may (may_form mu).1 z hz
    have : u.spans.any (meetB x) = true := List.any_eq_true.mpr ⟨z, hz, (meet_iff hfu mx).mpr ⟨_, hzk, hk⟩⟩
    have hno' : u.spans.any (meetB x) = false := hno
    rw [this] at hno'; cases hno'
  have hup : (((t.holds.filter fun h => hasP x h.key).map (tillG (packG t.now))).map (tillG (unpG u.now))).Pairwise fun a b => bl a.key b.key = true := tills_up _ (tills_up _ ((((holds_iff _).mp hoo).2.2).filter _))
  obtain ⟨p1, p2⟩ := puts_new _ u.holds hup hnew
  refine ⟨?_, ?_, fun h hh hk => ?_, out_may mf mx hi l1 l2, fun h hh hk => ?_⟩
  · cases hq : pieceP (outT (withF t (addP t.frozen x)) x).spans x 2 with
    | nil => rfl
    | cons a l =>
      have hne : pieceP (outT (withF t (addP t.frozen x)) x).spans x 2 ≠ [] := by rw [hq]; simp
      obtain ⟨y, hy, k, k1, k2⟩ := piece_two.mp hne
      have h4 : inR (lessP (withF t (addP t.frozen x)).spans x) k = true := List.any_eq_true.mpr ⟨y, hy, k1⟩
      rw [hin, k2] at h4
      simp at h4
  · show (t.holds.filter fun h => !hasP x h.key).length + ((((t.holds.filter fun h => hasP x h.key).map (tillG (packG t.now))).map (tillG (unpG u.now))).foldl setF u.holds).length = _
    rw [p1, List.length_map, List.length_map]
    have := filt_sum (fun h : Hold => hasP x h.key) t.holds
    omega
  · have hm : (⟨h.key, h.token, unpG u.now (packG t.now h.till)⟩ : Hold) ∈ (((t.holds.filter fun h => hasP x h.key).map (tillG (packG t.now))).map (tillG (unpG u.now))).foldl setF u.holds := by
      refine (p2 _).mpr (.inl ?_)
      rw [List.map_map]
      exact List.mem_map.mpr ⟨h, List.mem_filter.mpr ⟨hh, by rw [hP _ (kh h hh)]; exact hk⟩, rfl⟩
    have hb : holdsS ((((t.holds.filter fun h => hasP x h.key).map (tillG (packG t.now))).map (tillG (unpG u.now))).foldl setF u.holds) = true := by
      refine (setFs_ok _ u.holds huo (till_may nu0 mh) ?_).1
      have := List.length_filter_le (fun h : Hold => hasP x h.key) t.holds
      rw [List.length_map]
      show u.holds.length + ((t.holds.filter fun h => hasP x h.key).map (tillG (packG t.now))).length < 1000
      rw [List.length_map]
      omega
    exact find_mem hb hm
  · show inR (lessP (withF t (addP t.frozen x)).spans x) h.key = false
    rw [hin, hk]; simp
end Go.Proofs.YthibbbfhkfebkaaGreat
/- Tables as arguments: marks' tokens too; keys that a table has not. No statement of the seat is proved here. -/
namespace Go.Proofs.YthibbbfhkfebkaaGreat
open Go Go.VI Go.RowKit
set_option maxRecDepth 100000
set_option linter.unusedSimpArgs false
theorem tyV_table3 {d : Nat} {c : AV} (h : TyV Tryz.prog reachBytes (d + 5) 27 c) : ∃ (t : Table) (w : TV), c = .agg (tabC t w) ∧ (∀ s D, TabIn s D w t) ∧ Small3 t ∧ ∀ x ∈ t.marks, 0 ≤ x.token := by
  obtain ⟨h1, a, h2, h3⟩ := h
  obtain ⟨x0, _, hx, t0, x1, _, rfl, t1, x2, _, rfl, t2, x3, _, rfl, t3, x4, _, rfl, t4, x5, _, rfl, t5, rfl⟩ := Ty.fields (ts := [3, 22, 22, 23, 24, 25]) (by kernel_rfl) h1
  obtain ⟨n0, rfl, _⟩ := Ty.int (k := .i64) (by kernel_rfl) t0
  obtain ⟨v1, l1, rfl, p1, q1⟩ := ty_list (f := spanC) (e := 47) (by kernel_rfl) (fun x hx => ty_span hx) (by kernel_rfl) t1
  obtain ⟨v2, l2, rfl, p2, q2⟩ := ty_list (f := spanC) (e := 47) (by kernel_rfl) (fun x hx => ty_span hx) (by kernel_rfl) t2
  obtain ⟨v3, l3, rfl, p3, q3⟩ := ty_list (f := holdC) (e := 58) (by kernel_rfl) (fun x hx => ty_hold hx) (by kernel_rfl) t3
  obtain ⟨v4, l4, rfl, p4, q4, hk⟩ := ty_marks t4
  obtain ⟨v5, l5, rfl, p5, q5, _⟩ := ty_ints t5
  have : cAgg Tryz.prog 27 = some true := by kernel_rfl
  rw [this] at h2
  obtain rfl := Option.some.inj h2
  have hb : reachBytes < 1000000000000000000 := by decide
  refine ⟨⟨n0, l1, l2, l3, l4, l5⟩, ⟨v1, v2, v3, v4, v5⟩, ?_, fun s D => ⟨Sl.of_isSl p1 (span_cells _), Sl.of_isSl p2 (span_cells _), Sl.of_isSl p3 (hold_cells _), Sl.of_isSl p4 (mark_cells _), Sl.of_isSl p5 (int_cells _)⟩, ⟨Nat.lt_of_le_of_lt q1 hb, Nat.lt_of_le_of_lt q2 hb, Nat.lt_of_le_of_lt q3 hb, Nat.lt_of_le_of_lt q4 hb, Nat.lt_of_le_of_lt q5 hb⟩, hk⟩
  rw [hx] at h3
  have h4 : c = .agg [.int .i64 n0, v1, v2, v3, v4, v5] := by simpa using h3
  exact h4
theorem zero_small : Small zeroT := ⟨by decide, by decide, by decide, by decide, by decide⟩
theorem frz_small2 {t : Table} {x : Span} (hs : Small t) (h24 : t.frozen.length ≤ 24) : Small (frzP t x).2 ∧ (frzP t x).2.spans.length ≤ t.spans.length ∧ (frzP t x).2.frozen.length ≤ 25 ∧ (frzP t x).2.holds.length ≤ t.holds.length ∧ (frzP t x).2.marks.length ≤ t.marks.length ∧ ∀ m ∈ (frzP t x).2.marks, m ∈ t.marks := by
  obtain ⟨a1, a2, a3, a4, a5⟩ := hs
  have := add_len t.frozen x
  unfold frzP
  repeat' split
  all_goals first
    | exact ⟨zero_small, Nat.zero_le _, Nat.zero_le _, Nat.zero_le _, Nat.zero_le _, fun m hm => by cases hm⟩
    | exact ⟨⟨a1, by show (addP t.frozen x).length ≤ 100; omega, a3, a4, a5⟩, Nat.le_refl _, by show (addP t.frozen x).length ≤ 25; omega, Nat.le_refl _, Nat.le_refl _, fun m hm => hm⟩
theorem exp_small2 {t : Table} {plan : Int} {x : Span} (hs : Small t) (h1 : t.spans.length ≤ 24) (h2 : t.frozen.length ≤ 25) : Small (expP t plan x).2.1 ∧ ∀ m ∈ (expP t plan x).2.2.ma, m ∈ t.marks := by
  obtain ⟨a1, a2, a3, a4, a5⟩ := hs
  have b1 := less_len t.spans x
  have b2 := less_len t.frozen x
  have c1 := List.length_filter_le (fun h : Hold => !hasP x h.key) t.holds
  have c3 := List.length_filter_le (fun h : Mark => !hasP x h.key) t.marks
  unfold expP
  repeat' split
  all_goals first
    | exact ⟨zero_small, fun m hm => by cases hm⟩
    | exact ⟨⟨by show (lessP t.spans x).length ≤ 100; omega, by show (lessP t.frozen x).length ≤ 100; omega, by show (t.holds.filter fun h => !hasP x h.key).length ≤ _; omega, by show (t.marks.filter fun h => !hasP x h.key).length ≤ _; omega, a5⟩, fun m hm => (List.mem_filter.mp hm).1⟩
attribute [local irreducible] Ws Wp W C
set_option maxHeartbeats 4000000
theorem inspectN_c {t : Table} {w : TV} {k : Txt} {D : Nat → Prop} {s : Mem} {K : AV → Mem → Prop} (hf : s.floor ≤ s.next) (hI : In D s) (hw : TabIn s D w t) (hs : Small t) (hm : mayT t = true) (h64 : k.length ≤ 64) (hin : inR t.spans k = false)
    (hK : ∀ s', Keep s.next s s' → K (.tup [.int .u64 0, .int .i64 10]) s') : C tab 25 [.agg (tabC t w), .str k] s K := by
  refine C_enter (cf := cf25) rfl (Nat.le_of_ble_eq_true rfl) ?_
  simp only [cf25, oo, on, om, og, oc, ou, tabC]
  have hup := mayT_up hm
  have hfs := (may_form hm).1
  have q0 := Kp.of_push s ⟨27, 6, [[.int .i64 t.now, w.sp, w.fr, w.ho, w.ma, w.it]]⟩
  have hli := hs.it
  have hls := hs.sp
  have e64 : decide ((k.length : Int) > 64) = false := by simp; omega
  (repeat' (with_reducible first|refine w_1 ?_|refine w_2 ?_|simp (maxDischargeDepth:=12) only [viz,↓reduceIte,Nat.reduceEqDiff,Nat.reduceAdd,hw.sp.cell,hw.fr.cell,hw.ho.cell,hw.ma.cell,hw.it.cell]))
  generalize s.push _ = S0 at *
  refine tfind_c (t := t) (w := w) (hI.keep q0.k) (hw.keep fun r hr => q0.k.get r (hI r hr)) (by omega) hup.upK fun i s1 _ h1 _ _ => ?_
  have q1 := q0.then h1
  have g1 := q1.g
  (repeat' (with_reducible first|refine w_1 ?_|refine w_2 ?_|refine w_3 ?_|simp (maxDischargeDepth:=12) only [viz,↓reduceIte,Nat.reduceEqDiff,g1]))
  refine check_c (t := t) (w := w) (D := D) (q1.k.ok hf) (hI.keep q1.k) (hw.keep fun r hr => q1.k.get r (hI r hr)) hs fun s2 h2 => ?_
  have q2 := q1.then h2
  have g2 := q2.g
  rw [tab_same, hm]
  (repeat' (with_reducible first|refine w_1 ?_|refine w_2 ?_|refine w_4 ?_|((try refine w_9 ?_);simp (maxDischargeDepth:=12) only [viz,↓reduceIte,Nat.reduceEqDiff,Nat.reduceAdd,g2,e64,bne_self_eq_false, Int.reduceBEq, Int.reduceBNe, Int.reduceLT, Int.reduceLE, Int.reduceGT, Int.reduceGE])))
  refine sin_c (D := D) (q2.k.ok hf) (hI.keep q2.k) (hw.sp.keep fun r hr => q2.k.get r (hI r hr)) (by omega) fun s3 h3 => ?_
  have q3 := q2.then h3
  have g3 := q3.g
  rw [in_same hfs h64, hin]
  (repeat' (with_reducible first|refine w_1 ?_|refine w_2 ?_|refine w_4 ?_|refine w_6 ?_|simp (maxDischargeDepth:=12) only [viz,↓reduceIte]))
  exact hK _ q3.k
end Go.Proofs.YthibbbfhkfebkaaGreat

