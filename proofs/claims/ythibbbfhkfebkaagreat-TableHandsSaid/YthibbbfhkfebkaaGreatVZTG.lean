/- What is found, and within, by the document. No statement of the seat is proved here. -/
import Derived.Test.YthibbbfhkfebkaaGreatVZTF
import Derived.Test.YthibbbfhkfebkaaGreatVZVE
namespace Go.Proofs.YthibbbfhkfebkaaGreat
open Go Go.VI
set_option linter.unusedSimpArgs false
theorem find_at {α : Type} {l : List α} {p : α → Bool} {i : Nat} {x : α} (hx : l[i]? = some x) (h : p x = true) (hn : ∀ j y, j < i → l[j]? = some y → p y = false) : l.find? p = some x := by
  obtain ⟨y, h1, h2⟩ := find_some (idx_at hx h hn)
  rw [hx] at h1; rw [h2, h1]
theorem find_no {α : Type} {l : List α} {p : α → Bool} (hn : ∀ j y, j < l.length → l[j]? = some y → p y = false) : l.find? p = none := find_none (idx_no hn)
attribute [local irreducible] Ws Wp W C
set_option maxHeartbeats 4000000
theorem rfind_c {l : List Hold} {k : Txt} {v : AV} {D : Nat → Prop} {s : Mem} {K : AV → Mem → Prop} (hf : s.floor ≤ s.next) (hI : In D s) (hv : Holds s D v l) (hl : l.length < 1000000000)
    (hK : ∀ s', Keep s.next s s' → K (.tup [.agg (holdC (gotH (findH l k))), .bool (findH l k).isSome]) s') : C tab 24 [v, .str k] s K := by
  refine C_enter (cf := cf24) rfl (Nat.le_of_ble_eq_true rfl) ?_
  simp only [cf24, oo, on, om, og, oc, ou]
  have hlen : lenA false v = some l.length := hv.lenB
  (repeat' (with_reducible first|refine w_1 ?_|refine w_2 ?_|refine w_3 ?_|simp (maxDischargeDepth:=12) only [viz,Nat.reduceAdd]))
  have hp := pushes s ⟨58, 3, [[.str [], .int .u64 0, .int .i64 0]]⟩
  refine W_inv l.length (fun i E s' => s' = s.push ⟨58, 3, [[.str [], .int .u64 0, .int .i64 0]]⟩ ∧ E.get 0 = v ∧ E.get 1 = .str k ∧ E.get 4 = .ptr s.next 0 0 ∧ E.get 6 = .int .i64 i ∧ ∀ j x, j < i → l[j]? = some x → (x.key == k) = false) (by delta cf24l0 oo on om og oc ou; exact rfl) ?_ ?_
  · (repeat' with_reducible simp (maxDischargeDepth:=12) only [viz,↓reduceIte,reduceCtorEq])
    exact ⟨rfl, by omega⟩
  rintro i E s' hile _ ⟨rfl, g0, g1, g4, g6, hno⟩
  by_cases hlt : i < l.length
  · obtain ⟨x, hx⟩ := get_of hlt
    obtain ⟨q, hq, P, hld⟩ := hv.ldk hI hx rfl rfl
    have hld' := hld _ hp
    have l0 : loadA (s.push ⟨58, 3, [[.str [], .int .u64 0, .int .i64 0]]⟩) false 1 (VI.adr q 0) = some (.str x.key) := by
      have := P.ldf _ hp 0 false 1 (by simp [holdC])
      rw [this]; rfl
    simp only [holdC] at hld'
    (repeat' (with_reducible first|refine w_1 ?_|refine w_2 ?_|refine w_3 ?_|refine w_4 ?_|refine w_5 ?_|refine w_6 ?_|(refine w_8 (fun hb=>?_) (fun hb=>?_)<;>(try simp only [Bool.not_eq_true',Bool.not_eq_false'] at hb)<;>try simp only [hb])|simp (maxDischargeDepth:=12) only [viz,↓reduceIte,Nat.reduceEqDiff,reduceCtorEq,Nat.reduceAdd,g0,g1,g4,g6,hlen,lt_true hlt,hq,P.adr,l0,hld',hf]))
    · have := find_at hx hb hno
      unfold findH at hK
      rw [this] at hK
      exact hK _ (pushes _ _)
    · refine ⟨hlt, succ_av (by omega), fun j y hj hy => ?_⟩
      by_cases hji : j = i
      · rw [hji, hx] at hy; obtain rfl := Option.some.inj hy; exact hb
      · exact hno j y (by omega) hy
  · (repeat' (with_reducible first|refine w_1 ?_|refine w_2 ?_|refine w_4 ?_|refine w_6 ?_|refine w_7 ?_|simp (maxDischargeDepth:=12) only [viz,↓reduceIte,Nat.reduceEqDiff,reduceCtorEq,Nat.reduceAdd,g0,g4,g6,hlen,lt_false hlt,hf]))
    unfold findH at hK
    rw [find_no fun j x hj => hno j x (by omega)] at hK
    exact hK _ (pushes _ _)
def markedS (l : List Mark) (k : Txt) : Bool := lastM l k != 0
def inR (l : List Span) (k : Txt) : Bool := l.any fun x => hasS x k
def withinS (sp : List Span) (ho : List Hold) (ma : List Mark) : Bool := (ho.all fun h => inR sp h.key && !markedS ma h.key) && ma.all fun m => inR sp m.key
end Go.Proofs.YthibbbfhkfebkaaGreat
/- Which tables may be, by the document. No statement of the seat is proved here. -/
namespace Go.Proofs.YthibbbfhkfebkaaGreat
open Go Go.VI
set_option linter.unusedSimpArgs false
def intR (sp : List Span) (p : Option Intent) (x : Intent) : Bool := intOk p x && inR sp x.key
def mayT (t : Table) : Bool := decide (0 ≤ t.now) && decide (t.now ≤ 2147483647) && formS t.spans && formS t.frozen && holdsS t.holds && marksS t.marks && (t.frozen.all fun s => (leftTo t.spans [s]).isEmpty) && withinS t.spans t.holds t.marks && roomS t && rising (intR t.spans) none t.ints
attribute [local irreducible] Ws Wp W C
set_option maxHeartbeats 4000000
end Go.Proofs.YthibbbfhkfebkaaGreat
/- Tables that may be: both say the same. No statement of the seat is proved here. -/
namespace Go.Proofs.YthibbbfhkfebkaaGreat
open Go Go.VI
set_option linter.unusedSimpArgs false
theorem rising_mem {α : Type} {ok : Option α → α → Bool} : ∀ {l : List α} {p : Option α}, rising ok p l = true → ∀ x ∈ l, ∃ q, ok q x = true
  | [], _, _, x, hx => by cases hx
  | y :: l, p, h, x, hx => by
    simp only [rising, Bool.and_eq_true] at h
    rcases List.mem_cons.mp hx with rfl | hx
    · exact ⟨p, h.1⟩
    · exact rising_mem h.2 x hx
theorem form_may {l : List Span} (h : formS l = true) : ∀ x ∈ l, mayS x = true := fun x hx => by
  simp only [formS, Bool.and_eq_true] at h
  obtain ⟨q, hq⟩ := rising_mem h.2 x hx
  simp only [formOk, Bool.and_eq_true] at hq
  exact hq.1
theorem in_same {sp : List Span} {k : Txt} (hf : formS sp = true) (hk : k.length ≤ 64) : inS sp k = inR sp k := by
  simp only [inS, inR, hf, Bool.true_and]
  refine any_same fun x hx => ?_
  simp [hasP, form_may hf x hx, hk]
theorem covers_same {sp : List Span} {s : Span} (hf : formS sp = true) (hs : mayS s = true) : coversS sp s = (leftTo sp [s]).isEmpty := by
  have h1 := cover_form hf hs
  have h2 := left_covers sp hs
  simp only [coversS, hf, hs, Bool.true_and]
  rw [Bool.eq_iff_iff, h1, h2]
theorem hold_key {l : List Hold} (h : holdsS l = true) : ∀ x ∈ l, x.key.length ≤ 64 := fun x hx => by
  simp only [holdsS, Bool.and_eq_true] at h
  obtain ⟨q, hq⟩ := rising_mem h.2 x hx
  simp only [holdOk, mayH, Bool.and_eq_true, decide_eq_true_eq] at hq
  omega
theorem mark_key {l : List Mark} (h : marksS l = true) : ∀ x ∈ l, x.key.length ≤ 64 ∧ x.token ≠ 0 := fun x hx => by
  simp only [marksS, Bool.and_eq_true] at h
  obtain ⟨q, hq⟩ := rising_mem h.2 x hx
  simp only [markOk, Bool.and_eq_true, decide_eq_true_eq, Bool.not_eq_true', decide_eq_false_iff_not] at hq
  exact ⟨hq.1.1, hq.1.2⟩
theorem marked_iff {l : List Mark} (h : marksS l = true) (k : Txt) : markedS l k = l.any fun m => m.key == k := by
  unfold markedS lastM
  cases hE : l.find? fun x => x.key == k with
  | none =>
    have := List.find?_eq_none.mp hE
    have : (l.any fun m => m.key == k) = false := by
      rw [List.any_eq_false]; exact this
    rw [this]; rfl
  | some m =>
    have h1 := List.mem_of_find?_eq_some hE
    have h2 := List.find?_some hE
    have : (l.any fun m => m.key == k) = true := List.any_eq_true.mpr ⟨m, h1, h2⟩
    rw [this]
    simpa using (mark_key h m h1).2
theorem here_same {t : Table} (hf : formS t.spans = true) (hh : holdsS t.holds = true) (hm : marksS t.marks = true) : hereS t.spans t.holds t.marks = withinS t.spans t.holds t.marks := by
  rw [Bool.eq_iff_iff]
  simp only [hereS, withinS, Bool.and_eq_true, List.all_eq_true, Bool.not_eq_true', List.any_eq_false, marked_iff hm]
  constructor
  · rintro ⟨h1, h2⟩
    refine ⟨fun x hx => ⟨by rw [← in_same hf (hold_key hh x hx)]; exact h1 x hx, fun m hm' => ?_⟩, fun m hm' => ?_⟩
    · have := h2 m hm'
      simp only [Bool.or_eq_true, not_or] at this
      intro e
      refine this.1 (List.any_eq_true.mpr ⟨x, hx, ?_⟩)
      rw [beq_iff_eq] at e ⊢; exact e.symm
    · have := h2 m hm'
      simp only [Bool.or_eq_true, not_or] at this
      rw [← in_same hf (mark_key hm m hm').1]
      simpa using this.2
  · rintro ⟨h1, h2⟩
    refine ⟨fun x hx => by rw [in_same hf (hold_key hh x hx)]; exact (h1 x hx).1, fun m hm' => ?_⟩
    simp only [Bool.or_eq_true, not_or]
    refine ⟨fun e => ?_, ?_⟩
    · obtain ⟨x, hx, e⟩ := List.any_eq_true.mp e
      refine (h1 x hx).2 m hm' ?_
      rw [beq_iff_eq] at e ⊢; exact e.symm
    · rw [in_same hf (mark_key hm m hm').1, h2 m hm']; simp
theorem ints_same {sp : List Span} (hf : formS sp = true) (l : List Intent) (p : Option Intent) : rising (intIn sp) p l = rising (intR sp) p l := by
  have : intIn sp = intR sp := by
    funext q x
    simp only [intIn, intR]
    by_cases h : x.key.length ≤ 64
    · rw [in_same hf h]
    · simp [intOk, h]
  rw [this]
theorem tab_same (t : Table) : tabS t = mayT t := by
  by_cases hA : (formS t.spans && formS t.frozen && holdsS t.holds && marksS t.marks) = true
  · simp only [Bool.and_eq_true] at hA
    obtain ⟨⟨⟨h1, h2⟩, h3⟩, h4⟩ := hA
    have hc : coverAll t.spans t.frozen = t.frozen.all fun s => (leftTo t.spans [s]).isEmpty := by
      rw [coverAll, Bool.eq_iff_iff]
      simp only [Bool.not_eq_true', List.any_eq_false, List.all_eq_true]
      constructor
      · intro h x hx
        rw [← covers_same h1 (form_may h2 x hx)]
        simpa using h x hx
      · intro h x hx
        rw [covers_same h1 (form_may h2 x hx), h x hx]; simp
    simp only [tabS, mayT, h1, h2, h3, h4, hc, here_same h1 h3 h4, intsS, ints_same h1]
    generalize (t.frozen.all fun s => (leftTo t.spans [s]).isEmpty) = c
    generalize withinS t.spans t.holds t.marks = d
    generalize roomS t = e
    generalize rising (intR t.spans) none t.ints = f
    cases c <;> cases d <;> cases e <;> cases f <;> simp
  · simp only [Bool.and_eq_true] at hA
    simp only [tabS, mayT]
    grind
end Go.Proofs.YthibbbfhkfebkaaGreat
/- Places in rising lists. No statement of the seat is proved here. -/
namespace Go.Proofs.YthibbbfhkfebkaaGreat
open Go Go.VI
set_option linter.unusedSimpArgs false
def UpK {α : Type} (key : α → Txt) (l : List α) : Prop := ∀ (i j : Nat) (a b : α), i < j → l[i]? = some a → l[j]? = some b → bl (key a) (key b) = true
def atK {α : Type} (key : α → Txt) (l : List α) (i : Nat) (k : Txt) : Bool := match l[i]? with | some x => key x == k | none => false
theorem cmp_lt (a b : Txt) : decide (cmpS a b < 0) = Op.bytesLess a b := by
  unfold cmpS
  cases h : Op.bytesLess a b with
  | true => simp
  | false => by_cases e : a = b <;> simp [e]
theorem cmp_eq (a b : Txt) : (cmpS a b == 0) = (a == b) := by
  unfold cmpS
  cases h : Op.bytesLess a b with
  | true =>
    have : (a == b) = false := by
      rw [beq_eq_false_iff_ne]; intro e; subst e
      have := bl_irrefl a
      simp only [bl] at this; rw [this] at h; cases h
    rw [this]; rfl
  | false => by_cases e : a = b <;> simp [e]
attribute [local irreducible] Ws Wp W C
set_option maxHeartbeats 4000000
theorem compare_c {a b : Txt} {s : Mem} {K : AV → Mem → Prop} (hK : K (.int .i64 (cmpS a b)) s) : C tab 97 [.str a, .str b] s K := by
  refine C_enter (cf := cf97) rfl (Nat.le_of_ble_eq_true rfl) ?_
  simp only [cf97, oo, on, om, og, oc, ou]
  (repeat' (with_reducible first|refine w_1 ?_|refine w_2 ?_|simp (maxDischargeDepth:=12) only [viz,↓reduceIte,Nat.reduceAdd]))
  refine C_prim (p := .cmp) (cf := cf134) rfl rfl (fun _ h => by cases h) rfl rfl ?_
  (repeat' (with_reducible first|refine w_6 ?_|simp (maxDischargeDepth:=12) only [viz,↓reduceIte]))
  exact hK
theorem itcmp_c {x : Intent} {k : Txt} {s : Mem} {K : AV → Mem → Prop} (hK : ∀ s', Keep s.next s s' → K (.int .i64 (cmpS x.key k)) s') : C tab 96 [.agg (intC x), .str k] s K := by
  refine C_enter (cf := cf96) rfl (Nat.le_of_ble_eq_true rfl) ?_
  simp only [cf96, oo, on, om, og, oc, ou, intC]
  (repeat' (with_reducible first|refine w_1 ?_|refine w_2 ?_|simp (maxDischargeDepth:=12) only [viz,↓reduceIte,Nat.reduceAdd]))
  refine compare_c ?_
  (repeat' (with_reducible first|refine w_6 ?_|simp (maxDischargeDepth:=12) only [viz,↓reduceIte]))
  exact hK _ (pushes _ _)
theorem itsearch_l {l : List Intent} {k : Txt} {s : Mem} {Q : Ex → Env → Mem → Prop} {v : AV} {D : Nat → Prop} (hI : In D s) (hv : Ints s D v l) (hlen : l.length < 5000)
    (hs : UpK Intent.key l)
    (hQ : ∀ e' (i : Nat) s', i ≤ l.length → Keep s.next s s' → (∀ (j : Nat) (a : Intent), j < i → l[j]? = some a → bl a.key k = true) → (∀ (j : Nat) (a : Intent), i ≤ j → l[j]? = some a → bl a.key k = false) → e'.get 0 = v → e'.get 1 = .str k → e'.get 2 = .fn 96 [] → e'.get 8 = .int .i64 l.length → e'.get 9 = .int .i64 i → Q (.exit 0) e' s') :
    ∀ (n i j : Nat) (e : Env) (s1 : Mem), j - i ≤ n → i ≤ j → j ≤ l.length → Keep s.next s s1 → (∀ (p : Nat) (a : Intent), p < i → l[p]? = some a → bl a.key k = true) → (∀ (p : Nat) (a : Intent), j ≤ p → l[p]? = some a → bl a.key k = false) → e.get 0 = v → e.get 1 = .str k → e.get 2 = .fn 96 [] → e.get 8 = .int .i64 l.length → e.get 9 = .int .i64 i → e.get 10 = .int .i64 j → W tab (.loop cf95l0) e s1 Q := by
  intro n
  induction n with
  | zero =>
    intro i j e s1 hn hij hj hk h1 h2 g0 g1 g2 g8 g9 g10
    have hlt := lt_false (show ¬ i < j by omega)
    refine W_loop' (by delta cf95l0 oo on om og oc ou; exact rfl) ?_
    (repeat' (with_reducible first|refine w_1 ?_|refine w_2 ?_|refine w_4 ?_|refine w_7 ?_|simp (maxDischargeDepth:=12) only [viz,↓reduceIte,g9,g10,hlt]))
    exact hQ _ i _ (by omega) hk h1 (fun p a hp => h2 p a (by omega)) (by simp only [Env.get_set, ↓reduceIte, Nat.reduceEqDiff, g0]) (by simp only [Env.get_set, ↓reduceIte, Nat.reduceEqDiff, g1]) (by simp only [Env.get_set, ↓reduceIte, Nat.reduceEqDiff, g2]) (by simp only [Env.get_set, ↓reduceIte, Nat.reduceEqDiff, g8]) (by simp only [Env.get_set, ↓reduceIte, Nat.reduceEqDiff, g9])
  | succ n ih =>
    intro i j e s1 hn hij hj hk h1 h2 g0 g1 g2 g8 g9 g10
    by_cases hc : i < j
    case neg =>
      have hlt := lt_false hc
      refine W_loop' (by delta cf95l0 oo on om og oc ou; exact rfl) ?_
      (repeat' (with_reducible first|refine w_1 ?_|refine w_2 ?_|refine w_4 ?_|refine w_7 ?_|simp (maxDischargeDepth:=12) only [viz,↓reduceIte,g9,g10,hlt]))
      exact hQ _ i _ (by omega) hk h1 (fun p a hp => h2 p a (by omega)) (by simp only [Env.get_set, ↓reduceIte, Nat.reduceEqDiff, g0]) (by simp only [Env.get_set, ↓reduceIte, Nat.reduceEqDiff, g1]) (by simp only [Env.get_set, ↓reduceIte, Nat.reduceEqDiff, g2]) (by simp only [Env.get_set, ↓reduceIte, Nat.reduceEqDiff, g8]) (by simp only [Env.get_set, ↓reduceIte, Nat.reduceEqDiff, g9])
    have hlt := lt_true hc
    obtain ⟨a, ha⟩ := get_of (l := l) (i := (i + j) / 2) (by omega)
    obtain ⟨p, hp, P, hld⟩ := hv.ldk hI ha rfl rfl
    have hld' := hld _ hk
    simp only [intC] at hld'
    refine W_loop' (by delta cf95l0 oo on om og oc ou; exact rfl) ?_
    have z1 : ((1 : Int) < 0) = False := by simp
    have w1 : (IntKind.u64.wrap (IntKind.i64.wrap ((i : Int) + (j : Int)))).fdiv (2 ^ min (Int.toNat 1) IntKind.u64.bits) = (((i + j) / 2 : Nat) : Int) := by
      rw [wrap_i64 (by omega), wrap_u64 (by omega)]
      have e : (2 : Int) ^ min (Int.toNat 1) IntKind.u64.bits = 2 := rfl
      rw [e, Int.fdiv_eq_ediv_of_nonneg _ (by omega)]
      omega
    have w2 : IntKind.i64.wrap (((i + j) / 2 : Nat) : Int) = (((i + j) / 2 : Nat) : Int) := wrap_i64 (by omega)
    generalize hm : (i + j) / 2 = q at ha hp w1 w2
    (repeat' (with_reducible first|refine w_1 ?_|refine w_2 ?_|refine w_3 ?_|refine w_4 ?_|refine w_5 ?_|simp (maxDischargeDepth:=12) only [viz,↓reduceIte,Nat.reduceEqDiff,reduceCtorEq,g0,g1,g2,g9,g10,hlt,z1,w1,w2,hp,hld']))
    refine itcmp_c (x := a) fun s2 h2k => ?_
    (repeat' (with_reducible first|refine w_2 ?_|refine w_4 ?_|(refine w_8 (fun hb=>?_) (fun hb=>?_)<;>(try simp only [Bool.not_eq_true',Bool.not_eq_false'] at hb)<;>try simp only [hb])|simp (maxDischargeDepth:=12) only [viz,↓reduceIte,Nat.reduceEqDiff,succ_cast (show q < 4611686018427387904 by omega),cmp_lt]))
    · refine ih (q + 1) j _ _ (by omega) (by omega) hj (hk.then h2k) (fun p b hp hpb => ?_) h2 (by simp only [Env.get_set, ↓reduceIte, Nat.reduceEqDiff, g0]) (by simp only [Env.get_set, ↓reduceIte, Nat.reduceEqDiff, g1]) (by simp only [Env.get_set, ↓reduceIte, Nat.reduceEqDiff, g2]) (by simp only [Env.get_set, ↓reduceIte, Nat.reduceEqDiff, g8]) (by simp only [Env.get_set, ↓reduceIte, Nat.reduceEqDiff]) (by simp only [Env.get_set, ↓reduceIte, Nat.reduceEqDiff, g10])
      by_cases hpq : p = q
      · rw [hpq, ha] at hpb; injection hpb with e; rw [← e]; exact hb
      · exact bl_trans (hs p q b a (by omega) hpb ha) hb
    · refine ih i q _ _ (by omega) (by omega) (by omega) (hk.then h2k) h1 (fun p b hp hpb => ?_) (by simp only [Env.get_set, ↓reduceIte, Nat.reduceEqDiff, g0]) (by simp only [Env.get_set, ↓reduceIte, Nat.reduceEqDiff, g1]) (by simp only [Env.get_set, ↓reduceIte, Nat.reduceEqDiff, g2]) (by simp only [Env.get_set, ↓reduceIte, Nat.reduceEqDiff, g8]) (by simp only [Env.get_set, ↓reduceIte, Nat.reduceEqDiff, g9]) (by simp only [Env.get_set, ↓reduceIte, Nat.reduceEqDiff])
      by_cases hpq : p = q
      · rw [hpq, ha] at hpb; injection hpb with e; rw [← e]; exact hb
      · cases hbk : bl b.key k with
        | false => rfl
        | true =>
          have h3 := bl_trans (hs q p a b (by omega) ha hpb) hbk
          have h4 : bl a.key k = false := hb
          rw [h4] at h3; cases h3
theorem itsearch_c {l : List Intent} {k : Txt} {s : Mem} {v : AV} {D : Nat → Prop} {K : AV → Mem → Prop} (hI : In D s) (hv : Ints s D v l) (hlen : l.length < 5000) (hs : UpK Intent.key l)
    (hK : ∀ (i : Nat) s', i ≤ l.length → Keep s.next s s' → (∀ (j : Nat) (a : Intent), j < i → l[j]? = some a → bl a.key k = true) → (∀ (j : Nat) (a : Intent), i ≤ j → l[j]? = some a → bl a.key k = false) → K (.tup [.int .i64 i, .bool (atK Intent.key l i k)]) s') :
    C tab 95 [v, .str k, .fn 96 []] s K := by
  refine C_enter (cf := cf95) rfl (Nat.le_of_ble_eq_true rfl) ?_
  simp only [cf95, oo, on, om, og, oc, ou]
  have hln : lenA false v = some l.length := hv.lenB
  (repeat' (with_reducible first|refine w_1 ?_|refine w_2 ?_|refine w_3 ?_|simp (maxDischargeDepth:=12) only [viz,↓reduceIte,Nat.reduceEqDiff,reduceCtorEq,Nat.reduceAdd,hln]))
  refine itsearch_l (k := k) hI hv hlen hs ?_ l.length 0 l.length _ s (by omega) (by omega) (by omega) (Keep.refl _ _) (fun p a h => by omega) (fun p a h ha => ?_) ?_ ?_ ?_ ?_ ?_ ?_
  · intro e' i s1 hi hk1 h1 h2 g0 g1 g2 g8 g9
    have hk := fun s2 (h : Keep s1.next s1 s2) => hK i s2 hi (hk1.then h) h1 h2
    by_cases hc : i < l.length
    · have hlt := lt_true hc
      obtain ⟨a, ha⟩ := get_of hc
      obtain ⟨p, hp, P, hld⟩ := hv.ldk hI ha rfl rfl
      have hld' := hld _ hk1
      simp only [intC] at hld'
      (repeat' (with_reducible first|refine w_1 ?_|refine w_2 ?_|((try refine w_9 ?_);simp (maxDischargeDepth:=12) only [viz,↓reduceIte,Nat.reduceEqDiff,reduceCtorEq,g0,g1,g2,g8,g9,hlt,hp,hld'])))
      refine itcmp_c (x := a) fun s2 h2k => ?_
      (repeat' (with_reducible first|refine w_6 ?_|((try refine w_9 ?_);simp (maxDischargeDepth:=12) only [viz,↓reduceIte,Nat.reduceEqDiff,cmp_eq])))
      have e : atK Intent.key l i k = (a.key == k) := by simp [atK, ha]
      rw [e] at hk
      exact hk _ h2k
    · have hlt := lt_false hc
      (repeat' (with_reducible first|refine w_1 ?_|refine w_2 ?_|refine w_6 ?_|((try refine w_9 ?_);simp (maxDischargeDepth:=12) only [viz,↓reduceIte,Nat.reduceEqDiff,g8,g9,hlt])))
      have e : atK Intent.key l i k = false := by simp [atK, List.getElem?_eq_none (show l.length ≤ i by omega)]
      rw [e] at hk
      exact hk _ (Keep.refl _ _)
  · rw [List.getElem?_eq_none (by omega)] at ha; cases ha
  all_goals simp only [Env.get_set, ↓reduceIte, Nat.reduceEqDiff]
  all_goals rfl
end Go.Proofs.YthibbbfhkfebkaaGreat
/- Places in rising lists: holds, marks. No statement of the seat is proved here. -/
namespace Go.Proofs.YthibbbfhkfebkaaGreat
open Go Go.VI
set_option linter.unusedSimpArgs false
attribute [local irreducible] Ws Wp W C
set_option maxHeartbeats 4000000
theorem hocmp_c {x : Hold} {k : Txt} {s : Mem} {K : AV → Mem → Prop} (hK : ∀ s', Keep s.next s s' → K (.int .i64 (cmpS x.key k)) s') : C tab 141 [.agg (holdC x), .str k] s K := by
  refine C_enter (cf := cf141) rfl (Nat.le_of_ble_eq_true rfl) ?_
  simp only [cf141, oo, on, om, og, oc, ou, holdC]
  (repeat' (with_reducible first|refine w_1 ?_|refine w_2 ?_|simp (maxDischargeDepth:=12) only [viz,↓reduceIte,Nat.reduceAdd]))
  refine compare_c ?_
  (repeat' (with_reducible first|refine w_6 ?_|simp (maxDischargeDepth:=12) only [viz,↓reduceIte]))
  exact hK _ (pushes _ _)
theorem hosearch_l {l : List Hold} {k : Txt} {s : Mem} {Q : Ex → Env → Mem → Prop} {v : AV} {D : Nat → Prop} (hI : In D s) (hv : Holds s D v l) (hlen : l.length < 5000)
    (hs : UpK Hold.key l)
    (hQ : ∀ e' (i : Nat) s', i ≤ l.length → Keep s.next s s' → (∀ (j : Nat) (a : Hold), j < i → l[j]? = some a → bl a.key k = true) → (∀ (j : Nat) (a : Hold), i ≤ j → l[j]? = some a → bl a.key k = false) → e'.get 0 = v → e'.get 1 = .str k → e'.get 2 = .fn 141 [] → e'.get 8 = .int .i64 l.length → e'.get 9 = .int .i64 i → Q (.exit 0) e' s') :
    ∀ (n i j : Nat) (e : Env) (s1 : Mem), j - i ≤ n → i ≤ j → j ≤ l.length → Keep s.next s s1 → (∀ (p : Nat) (a : Hold), p < i → l[p]? = some a → bl a.key k = true) → (∀ (p : Nat) (a : Hold), j ≤ p → l[p]? = some a → bl a.key k = false) → e.get 0 = v → e.get 1 = .str k → e.get 2 = .fn 141 [] → e.get 8 = .int .i64 l.length → e.get 9 = .int .i64 i → e.get 10 = .int .i64 j → W tab (.loop cf140l0) e s1 Q := by
  intro n
  induction n with
  | zero =>
    intro i j e s1 hn hij hj hk h1 h2 g0 g1 g2 g8 g9 g10
    have hlt := lt_false (show ¬ i < j by omega)
    refine W_loop' (by delta cf140l0 oo on om og oc ou; exact rfl) ?_
    (repeat' (with_reducible first|refine w_1 ?_|refine w_2 ?_|refine w_4 ?_|refine w_7 ?_|simp (maxDischargeDepth:=12) only [viz,↓reduceIte,g9,g10,hlt]))
    exact hQ _ i _ (by omega) hk h1 (fun p a hp => h2 p a (by omega)) (by simp only [Env.get_set, ↓reduceIte, Nat.reduceEqDiff, g0]) (by simp only [Env.get_set, ↓reduceIte, Nat.reduceEqDiff, g1]) (by simp only [Env.get_set, ↓reduceIte, Nat.reduceEqDiff, g2]) (by simp only [Env.get_set, ↓reduceIte, Nat.reduceEqDiff, g8]) (by simp only [Env.get_set, ↓reduceIte, Nat.reduceEqDiff, g9])
  | succ n ih =>
    intro i j e s1 hn hij hj hk h1 h2 g0 g1 g2 g8 g9 g10
    by_cases hc : i < j
    case neg =>
      have hlt := lt_false hc
      refine W_loop' (by delta cf140l0 oo on om og oc ou; exact rfl) ?_
      (repeat' (with_reducible first|refine w_1 ?_|refine w_2 ?_|refine w_4 ?_|refine w_7 ?_|simp (maxDischargeDepth:=12) only [viz,↓reduceIte,g9,g10,hlt]))
      exact hQ _ i _ (by omega) hk h1 (fun p a hp => h2 p a (by omega)) (by simp only [Env.get_set, ↓reduceIte, Nat.reduceEqDiff, g0]) (by simp only [Env.get_set, ↓reduceIte, Nat.reduceEqDiff, g1]) (by simp only [Env.get_set, ↓reduceIte, Nat.reduceEqDiff, g2]) (by simp only [Env.get_set, ↓reduceIte, Nat.reduceEqDiff, g8]) (by simp only [Env.get_set, ↓reduceIte, Nat.reduceEqDiff, g9])
    have hlt := lt_true hc
    obtain ⟨a, ha⟩ := get_of (l := l) (i := (i + j) / 2) (by omega)
    obtain ⟨p, hp, P, hld⟩ := hv.ldk hI ha rfl rfl
    have hld' := hld _ hk
    simp only [holdC] at hld'
    refine W_loop' (by delta cf140l0 oo on om og oc ou; exact rfl) ?_
    have z1 : ((1 : Int) < 0) = False := by simp
    have w1 : (IntKind.u64.wrap (IntKind.i64.wrap ((i : Int) + (j : Int)))).fdiv (2 ^ min (Int.toNat 1) IntKind.u64.bits) = (((i + j) / 2 : Nat) : Int) := by
      rw [wrap_i64 (by omega), wrap_u64 (by omega)]
      have e : (2 : Int) ^ min (Int.toNat 1) IntKind.u64.bits = 2 := rfl
      rw [e, Int.fdiv_eq_ediv_of_nonneg _ (by omega)]
      omega
    have w2 : IntKind.i64.wrap (((i + j) / 2 : Nat) : Int) = (((i + j) / 2 : Nat) : Int) := wrap_i64 (by omega)
    generalize hm : (i + j) / 2 = q at ha hp w1 w2
    (repeat' (with_reducible first|refine w_1 ?_|refine w_2 ?_|refine w_3 ?_|refine w_4 ?_|refine w_5 ?_|simp (maxDischargeDepth:=12) only [viz,↓reduceIte,Nat.reduceEqDiff,reduceCtorEq,g0,g1,g2,g9,g10,hlt,z1,w1,w2,hp,hld']))
    refine hocmp_c (x := a) fun s2 h2k => ?_
    (repeat' (with_reducible first|refine w_2 ?_|refine w_4 ?_|(refine w_8 (fun hb=>?_) (fun hb=>?_)<;>(try simp only [Bool.not_eq_true',Bool.not_eq_false'] at hb)<;>try simp only [hb])|simp (maxDischargeDepth:=12) only [viz,↓reduceIte,Nat.reduceEqDiff,succ_cast (show q < 4611686018427387904 by omega),cmp_lt]))
    · refine ih (q + 1) j _ _ (by omega) (by omega) hj (hk.then h2k) (fun p b hp hpb => ?_) h2 (by simp only [Env.get_set, ↓reduceIte, Nat.reduceEqDiff, g0]) (by simp only [Env.get_set, ↓reduceIte, Nat.reduceEqDiff, g1]) (by simp only [Env.get_set, ↓reduceIte, Nat.reduceEqDiff, g2]) (by simp only [Env.get_set, ↓reduceIte, Nat.reduceEqDiff, g8]) (by simp only [Env.get_set, ↓reduceIte, Nat.reduceEqDiff]) (by simp only [Env.get_set, ↓reduceIte, Nat.reduceEqDiff, g10])
      by_cases hpq : p = q
      · rw [hpq, ha] at hpb; injection hpb with e; rw [← e]; exact hb
      · exact bl_trans (hs p q b a (by omega) hpb ha) hb
    · refine ih i q _ _ (by omega) (by omega) (by omega) (hk.then h2k) h1 (fun p b hp hpb => ?_) (by simp only [Env.get_set, ↓reduceIte, Nat.reduceEqDiff, g0]) (by simp only [Env.get_set, ↓reduceIte, Nat.reduceEqDiff, g1]) (by simp only [Env.get_set, ↓reduceIte, Nat.reduceEqDiff, g2]) (by simp only [Env.get_set, ↓reduceIte, Nat.reduceEqDiff, g8]) (by simp only [Env.get_set, ↓reduceIte, Nat.reduceEqDiff, g9]) (by simp only [Env.get_set, ↓reduceIte, Nat.reduceEqDiff])
      by_cases hpq : p = q
      · rw [hpq, ha] at hpb; injection hpb with e; rw [← e]; exact hb
      · cases hbk : bl b.key k with
        | false => rfl
        | true =>
          have h3 := bl_trans (hs q p a b (by omega) ha hpb) hbk
          have h4 : bl a.key k = false := hb
          rw [h4] at h3; cases h3
theorem hosearch_c {l : List Hold} {k : Txt} {s : Mem} {v : AV} {D : Nat → Prop} {K : AV → Mem → Prop} (hI : In D s) (hv : Holds s D v l) (hlen : l.length < 5000) (hs : UpK Hold.key l)
    (hK : ∀ (i : Nat) s', i ≤ l.length → Keep s.next s s' → (∀ (j : Nat) (a : Hold), j < i → l[j]? = some a → bl a.key k = true) → (∀ (j : Nat) (a : Hold), i ≤ j → l[j]? = some a → bl a.key k = false) → K (.tup [.int .i64 i, .bool (atK Hold.key l i k)]) s') :
    C tab 140 [v, .str k, .fn 141 []] s K := by
  refine C_enter (cf := cf140) rfl (Nat.le_of_ble_eq_true rfl) ?_
  simp only [cf140, oo, on, om, og, oc, ou]
  have hln : lenA false v = some l.length := hv.lenB
  (repeat' (with_reducible first|refine w_1 ?_|refine w_2 ?_|refine w_3 ?_|simp (maxDischargeDepth:=12) only [viz,↓reduceIte,Nat.reduceEqDiff,reduceCtorEq,Nat.reduceAdd,hln]))
  refine hosearch_l (k := k) hI hv hlen hs ?_ l.length 0 l.length _ s (by omega) (by omega) (by omega) (Keep.refl _ _) (fun p a h => by omega) (fun p a h ha => ?_) ?_ ?_ ?_ ?_ ?_ ?_
  · intro e' i s1 hi hk1 h1 h2 g0 g1 g2 g8 g9
    have hk := fun s2 (h : Keep s1.next s1 s2) => hK i s2 hi (hk1.then h) h1 h2
    by_cases hc : i < l.length
    · have hlt := lt_true hc
      obtain ⟨a, ha⟩ := get_of hc
      obtain ⟨p, hp, P, hld⟩ := hv.ldk hI ha rfl rfl
      have hld' := hld _ hk1
      simp only [holdC] at hld'
      (repeat' (with_reducible first|refine w_1 ?_|refine w_2 ?_|((try refine w_9 ?_);simp (maxDischargeDepth:=12) only [viz,↓reduceIte,Nat.reduceEqDiff,reduceCtorEq,g0,g1,g2,g8,g9,hlt,hp,hld'])))
      refine hocmp_c (x := a) fun s2 h2k => ?_
      (repeat' (with_reducible first|refine w_6 ?_|((try refine w_9 ?_);simp (maxDischargeDepth:=12) only [viz,↓reduceIte,Nat.reduceEqDiff,cmp_eq])))
      have e : atK Hold.key l i k = (a.key == k) := by simp [atK, ha]
      rw [e] at hk
      exact hk _ h2k
    · have hlt := lt_false hc
      (repeat' (with_reducible first|refine w_1 ?_|refine w_2 ?_|refine w_6 ?_|((try refine w_9 ?_);simp (maxDischargeDepth:=12) only [viz,↓reduceIte,Nat.reduceEqDiff,g8,g9,hlt])))
      have e : atK Hold.key l i k = false := by simp [atK, List.getElem?_eq_none (show l.length ≤ i by omega)]
      rw [e] at hk
      exact hk _ (Keep.refl _ _)
  · rw [List.getElem?_eq_none (by omega)] at ha; cases ha
  all_goals simp only [Env.get_set, ↓reduceIte, Nat.reduceEqDiff]
  all_goals rfl
theorem macmp_c {x : Mark} {k : Txt} {s : Mem} {K : AV → Mem → Prop} (hK : ∀ s', Keep s.next s s' → K (.int .i64 (cmpS x.key k)) s') : C tab 144 [.agg (markC x), .str k] s K := by
  refine C_enter (cf := cf144) rfl (Nat.le_of_ble_eq_true rfl) ?_
  simp only [cf144, oo, on, om, og, oc, ou, markC]
  (repeat' (with_reducible first|refine w_1 ?_|refine w_2 ?_|simp (maxDischargeDepth:=12) only [viz,↓reduceIte,Nat.reduceAdd]))
  refine compare_c ?_
  (repeat' (with_reducible first|refine w_6 ?_|simp (maxDischargeDepth:=12) only [viz,↓reduceIte]))
  exact hK _ (pushes _ _)
theorem masearch_l {l : List Mark} {k : Txt} {s : Mem} {Q : Ex → Env → Mem → Prop} {v : AV} {D : Nat → Prop} (hI : In D s) (hv : Marks s D v l) (hlen : l.length < 5000)
    (hs : UpK Mark.key l)
    (hQ : ∀ e' (i : Nat) s', i ≤ l.length → Keep s.next s s' → (∀ (j : Nat) (a : Mark), j < i → l[j]? = some a → bl a.key k = true) → (∀ (j : Nat) (a : Mark), i ≤ j → l[j]? = some a → bl a.key k = false) → e'.get 0 = v → e'.get 1 = .str k → e'.get 2 = .fn 144 [] → e'.get 8 = .int .i64 l.length → e'.get 9 = .int .i64 i → Q (.exit 0) e' s') :
    ∀ (n i j : Nat) (e : Env) (s1 : Mem), j - i ≤ n → i ≤ j → j ≤ l.length → Keep s.next s s1 → (∀ (p : Nat) (a : Mark), p < i → l[p]? = some a → bl a.key k = true) → (∀ (p : Nat) (a : Mark), j ≤ p → l[p]? = some a → bl a.key k = false) → e.get 0 = v → e.get 1 = .str k → e.get 2 = .fn 144 [] → e.get 8 = .int .i64 l.length → e.get 9 = .int .i64 i → e.get 10 = .int .i64 j → W tab (.loop cf143l0) e s1 Q := by
  intro n
  induction n with
  | zero =>
    intro i j e s1 hn hij hj hk h1 h2 g0 g1 g2 g8 g9 g10
    have hlt := lt_false (show ¬ i < j by omega)
    refine W_loop' (by delta cf143l0 oo on om og oc ou; exact rfl) ?_
    (repeat' (with_reducible first|refine w_1 ?_|refine w_2 ?_|refine w_4 ?_|refine w_7 ?_|simp (maxDischargeDepth:=12) only [viz,↓reduceIte,g9,g10,hlt]))
    exact hQ _ i _ (by omega) hk h1 (fun p a hp => h2 p a (by omega)) (by simp only [Env.get_set, ↓reduceIte, Nat.reduceEqDiff, g0]) (by simp only [Env.get_set, ↓reduceIte, Nat.reduceEqDiff, g1]) (by simp only [Env.get_set, ↓reduceIte, Nat.reduceEqDiff, g2]) (by simp only [Env.get_set, ↓reduceIte, Nat.reduceEqDiff, g8]) (by simp only [Env.get_set, ↓reduceIte, Nat.reduceEqDiff, g9])
  | succ n ih =>
    intro i j e s1 hn hij hj hk h1 h2 g0 g1 g2 g8 g9 g10
    by_cases hc : i < j
    case neg =>
      have hlt := lt_false hc
      refine W_loop' (by delta cf143l0 oo on om og oc ou; exact rfl) ?_
      (repeat' (with_reducible first|refine w_1 ?_|refine w_2 ?_|refine w_4 ?_|refine w_7 ?_|simp (maxDischargeDepth:=12) only [viz,↓reduceIte,g9,g10,hlt]))
      exact hQ _ i _ (by omega) hk h1 (fun p a hp => h2 p a (by omega)) (by simp only [Env.get_set, ↓reduceIte, Nat.reduceEqDiff, g0]) (by simp only [Env.get_set, ↓reduceIte, Nat.reduceEqDiff, g1]) (by simp only [Env.get_set, ↓reduceIte, Nat.reduceEqDiff, g2]) (by simp only [Env.get_set, ↓reduceIte, Nat.reduceEqDiff, g8]) (by simp only [Env.get_set, ↓reduceIte, Nat.reduceEqDiff, g9])
    have hlt := lt_true hc
    obtain ⟨a, ha⟩ := get_of (l := l) (i := (i + j) / 2) (by omega)
    obtain ⟨p, hp, P, hld⟩ := hv.ldk hI ha rfl rfl
    have hld' := hld _ hk
    simp only [markC] at hld'
    refine W_loop' (by delta cf143l0 oo on om og oc ou; exact rfl) ?_
    have z1 : ((1 : Int) < 0) = False := by simp
    have w1 : (IntKind.u64.wrap (IntKind.i64.wrap ((i : Int) + (j : Int)))).fdiv (2 ^ min (Int.toNat 1) IntKind.u64.bits) = (((i + j) / 2 : Nat) : Int) := by
      rw [wrap_i64 (by omega), wrap_u64 (by omega)]
      have e : (2 : Int) ^ min (Int.toNat 1) IntKind.u64.bits = 2 := rfl
      rw [e, Int.fdiv_eq_ediv_of_nonneg _ (by omega)]
      omega
    have w2 : IntKind.i64.wrap (((i + j) / 2 : Nat) : Int) = (((i + j) / 2 : Nat) : Int) := wrap_i64 (by omega)
    generalize hm : (i + j) / 2 = q at ha hp w1 w2
    (repeat' (with_reducible first|refine w_1 ?_|refine w_2 ?_|refine w_3 ?_|refine w_4 ?_|refine w_5 ?_|simp (maxDischargeDepth:=12) only [viz,↓reduceIte,Nat.reduceEqDiff,reduceCtorEq,g0,g1,g2,g9,g10,hlt,z1,w1,w2,hp,hld']))
    refine macmp_c (x := a) fun s2 h2k => ?_
    (repeat' (with_reducible first|refine w_2 ?_|refine w_4 ?_|(refine w_8 (fun hb=>?_) (fun hb=>?_)<;>(try simp only [Bool.not_eq_true',Bool.not_eq_false'] at hb)<;>try simp only [hb])|simp (maxDischargeDepth:=12) only [viz,↓reduceIte,Nat.reduceEqDiff,succ_cast (show q < 4611686018427387904 by omega),cmp_lt]))
    · refine ih (q + 1) j _ _ (by omega) (by omega) hj (hk.then h2k) (fun p b hp hpb => ?_) h2 (by simp only [Env.get_set, ↓reduceIte, Nat.reduceEqDiff, g0]) (by simp only [Env.get_set, ↓reduceIte, Nat.reduceEqDiff, g1]) (by simp only [Env.get_set, ↓reduceIte, Nat.reduceEqDiff, g2]) (by simp only [Env.get_set, ↓reduceIte, Nat.reduceEqDiff, g8]) (by simp only [Env.get_set, ↓reduceIte, Nat.reduceEqDiff]) (by simp only [Env.get_set, ↓reduceIte, Nat.reduceEqDiff, g10])
      by_cases hpq : p = q
      · rw [hpq, ha] at hpb; injection hpb with e; rw [← e]; exact hb
      · exact bl_trans (hs p q b a (by omega) hpb ha) hb
    · refine ih i q _ _ (by omega) (by omega) (by omega) (hk.then h2k) h1 (fun p b hp hpb => ?_) (by simp only [Env.get_set, ↓reduceIte, Nat.reduceEqDiff, g0]) (by simp only [Env.get_set, ↓reduceIte, Nat.reduceEqDiff, g1]) (by simp only [Env.get_set, ↓reduceIte, Nat.reduceEqDiff, g2]) (by simp only [Env.get_set, ↓reduceIte, Nat.reduceEqDiff, g8]) (by simp only [Env.get_set, ↓reduceIte, Nat.reduceEqDiff, g9]) (by simp only [Env.get_set, ↓reduceIte, Nat.reduceEqDiff])
      by_cases hpq : p = q
      · rw [hpq, ha] at hpb; injection hpb with e; rw [← e]; exact hb
      · cases hbk : bl b.key k with
        | false => rfl
        | true =>
          have h3 := bl_trans (hs q p a b (by omega) ha hpb) hbk
          have h4 : bl a.key k = false := hb
          rw [h4] at h3; cases h3
theorem masearch_c {l : List Mark} {k : Txt} {s : Mem} {v : AV} {D : Nat → Prop} {K : AV → Mem → Prop} (hI : In D s) (hv : Marks s D v l) (hlen : l.length < 5000) (hs : UpK Mark.key l)
    (hK : ∀ (i : Nat) s', i ≤ l.length → Keep s.next s s' → (∀ (j : Nat) (a : Mark), j < i → l[j]? = some a → bl a.key k = true) → (∀ (j : Nat) (a : Mark), i ≤ j → l[j]? = some a → bl a.key k = false) → K (.tup [.int .i64 i, .bool (atK Mark.key l i k)]) s') :
    C tab 143 [v, .str k, .fn 144 []] s K := by
  refine C_enter (cf := cf143) rfl (Nat.le_of_ble_eq_true rfl) ?_
  simp only [cf143, oo, on, om, og, oc, ou]
  have hln : lenA false v = some l.length := hv.lenB
  (repeat' (with_reducible first|refine w_1 ?_|refine w_2 ?_|refine w_3 ?_|simp (maxDischargeDepth:=12) only [viz,↓reduceIte,Nat.reduceEqDiff,reduceCtorEq,Nat.reduceAdd,hln]))
  refine masearch_l (k := k) hI hv hlen hs ?_ l.length 0 l.length _ s (by omega) (by omega) (by omega) (Keep.refl _ _) (fun p a h => by omega) (fun p a h ha => ?_) ?_ ?_ ?_ ?_ ?_ ?_
  · intro e' i s1 hi hk1 h1 h2 g0 g1 g2 g8 g9
    have hk := fun s2 (h : Keep s1.next s1 s2) => hK i s2 hi (hk1.then h) h1 h2
    by_cases hc : i < l.length
    · have hlt := lt_true hc
      obtain ⟨a, ha⟩ := get_of hc
      obtain ⟨p, hp, P, hld⟩ := hv.ldk hI ha rfl rfl
      have hld' := hld _ hk1
      simp only [markC] at hld'
      (repeat' (with_reducible first|refine w_1 ?_|refine w_2 ?_|((try refine w_9 ?_);simp (maxDischargeDepth:=12) only [viz,↓reduceIte,Nat.reduceEqDiff,reduceCtorEq,g0,g1,g2,g8,g9,hlt,hp,hld'])))
      refine macmp_c (x := a) fun s2 h2k => ?_
      (repeat' (with_reducible first|refine w_6 ?_|((try refine w_9 ?_);simp (maxDischargeDepth:=12) only [viz,↓reduceIte,Nat.reduceEqDiff,cmp_eq])))
      have e : atK Mark.key l i k = (a.key == k) := by simp [atK, ha]
      rw [e] at hk
      exact hk _ h2k
    · have hlt := lt_false hc
      (repeat' (with_reducible first|refine w_1 ?_|refine w_2 ?_|refine w_6 ?_|((try refine w_9 ?_);simp (maxDischargeDepth:=12) only [viz,↓reduceIte,Nat.reduceEqDiff,g8,g9,hlt])))
      have e : atK Mark.key l i k = false := by simp [atK, List.getElem?_eq_none (show l.length ≤ i by omega)]
      rw [e] at hk
      exact hk _ (Keep.refl _ _)
  · rw [List.getElem?_eq_none (by omega)] at ha; cases ha
  all_goals simp only [Env.get_set, ↓reduceIte, Nat.reduceEqDiff]
  all_goals rfl
end Go.Proofs.YthibbbfhkfebkaaGreat

