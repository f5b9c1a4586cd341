/- What is found, and within, by the document. No statement of the seat is proved here. -/
import Derived.Test.YthibbbfhkfebkaaGreatVZTF
import Derived.Test.YthibbbfhkfebkaaGreatVZVE
namespace Go.Proofs.YthibbbfhkfebkaaGreat
open Go Go.VI
set_option linter.unusedSimpArgs false
theorem find_at {α : Type} {l : List α} {p : α → Bool} {i : Nat} {x : α} (hx : l[i]? = some x) (h : p x = true) (hn : ∀ j y, j < i → l[j]? = some y → p y = false) : l.find? p = some x := by
  obtain ⟨y, h1, h2⟩ := find_some (idx_at hx h hn)
  rw [hx] at h1; rw [h2, h1]
theorem find_no {α : Type} {l : List α} {p : α → Bool} (hn : ∀ j y, j < l.length → l[j]? = some y → p y = false) : l.find? p = none := find_none (idx_no hn)
theorem all_at {α : Type} {l : List α} {p : α → Bool} {i : Nat} {x : α} (hx : l[i]? = some x) (h : p x = false) : l.all p = false := by
  rw [List.all_eq_false]; exact ⟨x, List.mem_of_getElem? hx, by simp [h]⟩
theorem all_snoc {α : Type} {l : List α} {p : α → Bool} {i : Nat} {x : α} (hx : l[i]? = some x) : (l.take (i + 1)).all p = ((l.take i).all p && p x) := by
  rw [List.take_add_one, hx, Option.toList_some, List.all_append]; simp
theorem all_end {α : Type} {l : List α} {p : α → Bool} {i : Nat} (h : ¬ i < l.length) : (l.take i).all p = l.all p := by rw [List.take_of_length_le (by omega)]
attribute [local irreducible] Ws Wp W C
set_option maxHeartbeats 4000000
theorem rlast_c {l : List Mark} {k : Txt} {v : AV} {D : Nat → Prop} {s : Mem} {K : AV → Mem → Prop} (hI : In D s) (hv : Marks s D v l) (hl : l.length < 1000000000)
    (hK : K (.int .u64 (lastM l k)) s) : C tab 101 [v, .str k] s K := by
  refine C_enter (cf := cf101) rfl (Nat.le_of_ble_eq_true rfl) ?_
  simp only [cf101, oo, on, om, og, oc, ou]
  have hlen : lenA false v = some l.length := hv.lenB
  (repeat' (with_reducible first|refine w_1 ?_|refine w_2 ?_|refine w_3 ?_|simp (maxDischargeDepth:=12) only [viz,Nat.reduceAdd]))
  refine W_inv l.length (fun i E s' => s' = s ∧ E.get 0 = v ∧ E.get 1 = .str k ∧ E.get 5 = .int .i64 i ∧ ∀ j x, j < i → l[j]? = some x → (x.key == k) = false) (by delta cf101l0 oo on om og oc ou; exact rfl) ?_ ?_
  · (repeat' with_reducible simp (maxDischargeDepth:=12) only [viz,↓reduceIte])
    exact ⟨rfl, by omega⟩
  rintro i E s' hile _ ⟨rfl, g0, g1, g5, hno⟩
  by_cases hlt : i < l.length
  · obtain ⟨x, hx⟩ := get_of hlt
    obtain ⟨q, hq, P, hld⟩ := hv.ldk hI hx rfl rfl
    have l0 : loadA s' false 1 (VI.adr q 0) = some (.str x.key) := by
      have := P.ldf _ (Keep.refl _ _) 0 false 1 (by simp [markC])
      rw [this]; rfl
    have l1 : loadA s' false 1 (VI.adr q 1) = some (.int .u64 x.token) := by
      have := P.ldf _ (Keep.refl _ _) 1 false 1 (by simp [markC])
      rw [this]; rfl
    (repeat' (with_reducible first|refine w_1 ?_|refine w_2 ?_|refine w_3 ?_|refine w_4 ?_|refine w_5 ?_|refine w_6 ?_|(refine w_8 (fun hb=>?_) (fun hb=>?_)<;>(try simp only [Bool.not_eq_true',Bool.not_eq_false'] at hb)<;>try simp only [hb])|simp (maxDischargeDepth:=12) only [viz,↓reduceIte,Nat.reduceEqDiff,reduceCtorEq,g0,g1,g5,hlen,lt_true hlt,hq,P.adr,l0,l1]))
    · have := find_at hx hb hno
      unfold lastM at hK
      rw [this] at hK
      exact hK
    · refine ⟨hlt, succ_av (by omega), fun j y hj hy => ?_⟩
      by_cases hji : j = i
      · rw [hji, hx] at hy; obtain rfl := Option.some.inj hy; exact hb
      · exact hno j y (by omega) hy
  · (repeat' (with_reducible first|refine w_1 ?_|refine w_2 ?_|refine w_4 ?_|refine w_6 ?_|refine w_7 ?_|simp (maxDischargeDepth:=12) only [viz,↓reduceIte,reduceCtorEq,g0,g5,hlen,lt_false hlt]))
    unfold lastM at hK
    rw [find_no fun j x hj => hno j x (by omega)] at hK
    exact hK
def markedS (l : List Mark) (k : Txt) : Bool := lastM l k != 0
theorem marked_c {l : List Mark} {k : Txt} {v : AV} {D : Nat → Prop} {s : Mem} {K : AV → Mem → Prop} (hI : In D s) (hv : Marks s D v l) (hl : l.length < 1000000000)
    (hK : K (.bool (markedS l k)) s) : C tab 130 [v, .str k] s K := by
  refine C_enter (cf := cf130) rfl (Nat.le_of_ble_eq_true rfl) ?_
  simp only [cf130, oo, on, om, og, oc, ou]
  (repeat' (with_reducible first|refine w_1 ?_|refine w_2 ?_|simp (maxDischargeDepth:=12) only [viz,↓reduceIte,Nat.reduceAdd]))
  refine rlast_c hI hv hl ?_
  (repeat' (with_reducible first|refine w_6 ?_|simp (maxDischargeDepth:=12) only [viz,↓reduceIte]))
  exact hK
def inR (l : List Span) (k : Txt) : Bool := l.any fun x => hasS x k
def withinS (sp : List Span) (ho : List Hold) (ma : List Mark) : Bool := (ho.all fun h => inR sp h.key && !markedS ma h.key) && ma.all fun m => inR sp m.key
theorem within_c {sp : List Span} {ho : List Hold} {ma : List Mark} {v w u : AV} {D : Nat → Prop} {s : Mem} {K : AV → Mem → Prop} (hI : In D s) (hv : Spans s D v sp) (hw : Holds s D w ho) (hu : Marks s D u ma) (h1 : sp.length ≤ 2000) (h2 : ho.length ≤ 2000) (h3 : ma.length ≤ 2000)
    (hK : ∀ s', Keep s.next s s' → K (.bool (withinS sp ho ma)) s') : C tab 83 [v, w, u] s K := by
  refine C_enter (cf := cf83) rfl (Nat.le_of_ble_eq_true rfl) ?_
  simp only [cf83, oo, on, om, og, oc, ou]
  have hlw : lenA false w = some ho.length := hw.lenB
  have hlu : lenA false u = some ma.length := hu.lenB
  (repeat' (with_reducible first|refine w_1 ?_|refine w_2 ?_|refine w_3 ?_|simp (maxDischargeDepth:=12) only [viz,Nat.reduceAdd]))
  refine W_inv ho.length (fun i E s' => Keep s.next s s' ∧ E.get 0 = v ∧ E.get 1 = w ∧ E.get 2 = u ∧ E.get 7 = .int .i64 i ∧ (ho.take i).all (fun h => inR sp h.key && !markedS ma h.key) = true) (by delta cf83l0 oo on om og oc ou; exact rfl) ?_ ?_
  · (repeat' with_reducible simp (maxDischargeDepth:=12) only [viz,↓reduceIte,Nat.reduceEqDiff,reduceCtorEq])
    exact ⟨rfl, rfl⟩
  rintro i E s' hile _ ⟨hk, g0, g1, g2, g7, hall⟩
  by_cases hlt : i < ho.length
  · obtain ⟨x, hx⟩ := get_of hlt
    obtain ⟨q, hq, P, _⟩ := hw.ldk hI hx rfl rfl
    have l0 : ∀ M, Keep s.next s M → loadA M false 1 (VI.adr q 0) = some (.str x.key) := fun M hM => by
      have := P.ldf _ hM 0 false 1 (by simp [holdC])
      rw [this]; rfl
    (repeat' (with_reducible first|refine w_1 ?_|refine w_2 ?_|refine w_3 ?_|refine w_4 ?_|refine w_5 ?_|simp (maxDischargeDepth:=12) only [viz,↓reduceIte,Nat.reduceEqDiff,reduceCtorEq,g0,g1,g7,hlw,lt_true hlt,hq,P.adr,l0 _ hk]))
    refine rin_c (D := D) (hI.keep hk) (hv.keep fun r hr => hk.get r (hI r hr)) (by omega) fun s1 h1 => ?_
    have hk1 := hk.then h1
    (repeat' (with_reducible first|refine w_1 ?_|refine w_2 ?_|refine w_4 ?_|refine w_6 ?_|(refine w_8 (fun hb=>?_) (fun hb=>?_)<;>(try simp only [Bool.not_eq_true',Bool.not_eq_false'] at hb)<;>try simp only [hb])|refine w_13 (fun hc=>(by (try simp only [Bool.and_eq_true] at hc);simp (maxDischargeDepth:=12) only [viz,↓reduceIte,Nat.reduceEqDiff,g1,g2,g7,hq,P.adr,l0 _ hk1,cond_false,hc];first|exact ⟨rfl,rfl⟩|exact rfl)) ?_|refine w_12 ?_|((try refine w_9 ?_);simp (maxDischargeDepth:=12) only [viz,↓reduceIte,Nat.reduceEqDiff])))
    · refine marked_c (D := D) (hI.keep hk1) (hu.keep fun r hr => hk1.get r (hI r hr)) (by omega) ?_
      (repeat' (with_reducible first|refine w_1 ?_|refine w_2 ?_|refine w_4 ?_|refine w_5 ?_|refine w_6 ?_|(refine w_8 (fun hb=>?_) (fun hb=>?_)<;>(try simp only [Bool.not_eq_true',Bool.not_eq_false'] at hb)<;>try simp only [hb])|simp (maxDischargeDepth:=12) only [viz,↓reduceIte,Nat.reduceEqDiff,reduceCtorEq,g0,g1,g2,g7]))
      · refine K_of hK hk1 ?_
        have : (ho.all fun h => inR sp h.key && !markedS ma h.key) = false := all_at hx (by simp_all)
        simp only [withinS, this, Bool.false_and]
      · refine ⟨hlt, hk1, succ_av (by omega), ?_⟩
        rw [all_snoc hx, hall, Bool.true_and]
        simp_all [inR]
    · refine K_of hK hk1 ?_
      have : (ho.all fun h => inR sp h.key && !markedS ma h.key) = false := all_at hx (by simp_all [inR])
      simp only [withinS, this, Bool.false_and]
  · (repeat' (with_reducible first|refine w_1 ?_|refine w_2 ?_|refine w_3 ?_|refine w_4 ?_|refine w_7 ?_|simp (maxDischargeDepth:=12) only [viz,↓reduceIte,Nat.reduceEqDiff,g1,g7,hlw,lt_false hlt]))
    rw [all_end hlt] at hall
    refine W_inv ma.length (fun i E s' => Keep s.next s s' ∧ E.get 0 = v ∧ E.get 2 = u ∧ E.get 8 = .int .i64 i ∧ (ma.take i).all (fun m => inR sp m.key) = true) (by delta cf83l1 oo on om og oc ou; exact rfl) ?_ ?_
    · (repeat' with_reducible simp (maxDischargeDepth:=12) only [viz,↓reduceIte,Nat.reduceEqDiff,reduceCtorEq,g0,g2])
      exact ⟨hk, rfl, rfl⟩
    rintro i E s' hile _ ⟨hk, g0, g2, g8, hal2⟩
    by_cases hlt : i < ma.length
    · obtain ⟨x, hx⟩ := get_of hlt
      obtain ⟨q, hq, P, _⟩ := hu.ldk hI hx rfl rfl
      have l0 : ∀ M, Keep s.next s M → loadA M false 1 (VI.adr q 0) = some (.str x.key) := fun M hM => by
        have := P.ldf _ hM 0 false 1 (by simp [markC])
        rw [this]; rfl
      (repeat' (with_reducible first|refine w_1 ?_|refine w_2 ?_|refine w_3 ?_|refine w_4 ?_|refine w_5 ?_|simp (maxDischargeDepth:=12) only [viz,↓reduceIte,Nat.reduceEqDiff,reduceCtorEq,g0,g2,g8,hlu,lt_true hlt,hq,P.adr,l0 _ hk]))
      refine rin_c (D := D) (hI.keep hk) (hv.keep fun r hr => hk.get r (hI r hr)) (by omega) fun s1 h1 => ?_
      (repeat' (with_reducible first|refine w_1 ?_|refine w_2 ?_|refine w_4 ?_|refine w_5 ?_|refine w_6 ?_|(refine w_8 (fun hb=>?_) (fun hb=>?_)<;>(try simp only [Bool.not_eq_true',Bool.not_eq_false'] at hb)<;>try simp only [hb])|simp (maxDischargeDepth:=12) only [viz,↓reduceIte,Nat.reduceEqDiff,reduceCtorEq,g0,g2,g8]))
      · refine K_of hK (hk.then h1) ?_
        have : (ma.all fun m => inR sp m.key) = false := all_at hx (by simp_all [inR])
        simp only [withinS, this, Bool.and_false]
      · refine ⟨hlt, hk.then h1, succ_av (by omega), ?_⟩
        rw [all_snoc hx, hal2, Bool.true_and]
        simpa only [inR] using hb
    · (repeat' (with_reducible first|refine w_1 ?_|refine w_2 ?_|refine w_4 ?_|refine w_6 ?_|refine w_7 ?_|simp (maxDischargeDepth:=12) only [viz,↓reduceIte,Nat.reduceEqDiff,g2,g8,hlu,lt_false hlt]))
      rw [all_end hlt] at hal2
      exact K_of hK hk (by simp only [withinS, hall, hal2, Bool.true_and])
end Go.Proofs.YthibbbfhkfebkaaGreat
/- Which tables may be, by the document. No statement of the seat is proved here. -/
namespace Go.Proofs.YthibbbfhkfebkaaGreat
open Go Go.VI
set_option linter.unusedSimpArgs false
def intR (sp : List Span) (p : Option Intent) (x : Intent) : Bool := intOk p x && inR sp x.key
def mayT (t : Table) : Bool := decide (0 ≤ t.now) && decide (t.now ≤ 2147483647) && formS t.spans && formS t.frozen && holdsS t.holds && marksS t.marks && (t.frozen.all fun s => (leftTo t.spans [s]).isEmpty) && withinS t.spans t.holds t.marks && roomS t && rising (intR t.spans) none t.ints
attribute [local irreducible] Ws Wp W C
set_option maxHeartbeats 4000000
theorem rMay_c {t : Table} {w : TV} {D : Nat → Prop} {s : Mem} {K : AV → Mem → Prop} (hf : s.floor ≤ s.next) (hI : In D s) (hw : TabIn s D w t) (hs : Small t)
    (hK : ∀ s', Keep s.next s s' → K (.bool (mayT t)) s') : C tab 26 [.agg (tabC t w)] s K := by
  refine C_enter (cf := cf26) rfl (Nat.le_of_ble_eq_true rfl) ?_
  simp only [cf26, oo, on, om, og, oc, ou, tabC]
  have bad : mayT t = false → ∀ s', Keep s.next s s' → K (.bool false) s' := fun h s' hs => by
    have := hK s' hs
    rw [h] at this
    exact this
  have q0 := Kp.of_push s ⟨27, 6, [[.int .i64 t.now, w.sp, w.fr, w.ho, w.ma, w.it]]⟩
  obtain ⟨a1, a2, a3, a4, a5⟩ := hs
  have hlf : lenA false w.fr = some t.frozen.length := hw.fr.lenB
  have hlen : lenA false w.it = some t.ints.length := hw.it.lenB
  have hlh : lenA false w.ho = some t.holds.length := hw.ho.lenB
  have hlm : lenA false w.ma = some t.marks.length := hw.ma.lenB
  (repeat' (with_reducible first|refine w_1 ?_|refine w_2 ?_|refine w_4 ?_|refine w_6 ?_|(refine w_8 (fun hb=>?_) (fun hb=>?_)<;>(try simp only [Bool.not_eq_true',Bool.not_eq_false'] at hb)<;>try simp only [hb])|refine w_13 (fun hc=>(by (try simp only [Bool.and_eq_true] at hc);simp (maxDischargeDepth:=12) only [viz,↓reduceIte,Nat.reduceEqDiff,Nat.reduceAdd,cond_false,hc];first|exact ⟨rfl,rfl⟩|exact rfl)) ?_|refine w_12 ?_|((try refine w_9 ?_);simp (maxDischargeDepth:=12) only [viz,↓reduceIte,Nat.reduceAdd,hw.sp.cell,hw.fr.cell,hw.ho.cell,hw.ma.cell,hw.it.cell])))
  all_goals first | exact bad (by grind [mayT]) _ q0.k | skip
  refine rform_c (l := t.spans) (D := D) (hI.keep q0.k) (hw.sp.keep fun r hr => q0.k.get r (hI r hr)) fun s1 h1 => ?_
  have q1 := q0.then h1
  have g1 := q1.g
  (repeat' (with_reducible first|refine w_1 ?_|refine w_2 ?_|refine w_4 ?_|refine w_6 ?_|(refine w_8 (fun hb=>?_) (fun hb=>?_)<;>(try simp only [Bool.not_eq_true',Bool.not_eq_false'] at hb)<;>try simp only [hb])|refine w_13 (fun hc=>(by (try simp only [Bool.and_eq_true] at hc);simp (maxDischargeDepth:=12) only [viz,↓reduceIte,Nat.reduceEqDiff,Nat.reduceAdd,g1,cond_false,hc];first|exact ⟨rfl,rfl⟩|exact rfl)) ?_|refine w_12 ?_|((try refine w_9 ?_);simp (maxDischargeDepth:=12) only [viz,↓reduceIte])))
  all_goals first | exact bad (by grind [mayT]) _ q1.k | skip
  refine rform_c (l := t.frozen) (D := D) (hI.keep q1.k) (hw.fr.keep fun r hr => q1.k.get r (hI r hr)) fun s2 h2 => ?_
  have q2 := q1.then h2
  have g2 := q2.g
  (repeat' (with_reducible first|refine w_1 ?_|refine w_2 ?_|refine w_4 ?_|refine w_6 ?_|(refine w_8 (fun hb=>?_) (fun hb=>?_)<;>(try simp only [Bool.not_eq_true',Bool.not_eq_false'] at hb)<;>try simp only [hb])|refine w_13 (fun hc=>(by (try simp only [Bool.and_eq_true] at hc);simp (maxDischargeDepth:=12) only [viz,↓reduceIte,Nat.reduceEqDiff,Nat.reduceAdd,g2,cond_false,hc];first|exact ⟨rfl,rfl⟩|exact rfl)) ?_|refine w_12 ?_|((try refine w_9 ?_);simp (maxDischargeDepth:=12) only [viz,↓reduceIte])))
  all_goals first | exact bad (by grind [mayT]) _ q2.k | skip
  refine rmayH_c (l := t.holds) (D := D) (hI.keep q2.k) (hw.ho.keep fun r hr => q2.k.get r (hI r hr)) fun s3 h3 => ?_
  have q3 := q2.then h3
  have g3 := q3.g
  (repeat' (with_reducible first|refine w_1 ?_|refine w_2 ?_|refine w_4 ?_|refine w_6 ?_|(refine w_8 (fun hb=>?_) (fun hb=>?_)<;>(try simp only [Bool.not_eq_true',Bool.not_eq_false'] at hb)<;>try simp only [hb])|refine w_13 (fun hc=>(by (try simp only [Bool.and_eq_true] at hc);simp (maxDischargeDepth:=12) only [viz,↓reduceIte,Nat.reduceEqDiff,Nat.reduceAdd,g3,cond_false,hc];first|exact ⟨rfl,rfl⟩|exact rfl)) ?_|refine w_12 ?_|((try refine w_9 ?_);simp (maxDischargeDepth:=12) only [viz,↓reduceIte])))
  all_goals first | exact bad (by grind [mayT]) _ q3.k | skip
  refine rmarks_c (l := t.marks) (D := D) (hI.keep q3.k) (hw.ma.keep fun r hr => q3.k.get r (hI r hr)) ?_
  have q4 := q3
  (repeat' (with_reducible first|refine w_1 ?_|refine w_2 ?_|refine w_3 ?_|refine w_4 ?_|refine w_5 ?_|refine w_6 ?_|(refine w_8 (fun hb=>?_) (fun hb=>?_)<;>(try simp only [Bool.not_eq_true',Bool.not_eq_false'] at hb)<;>try simp only [hb])|((try refine w_9 ?_);simp (maxDischargeDepth:=12) only [viz,↓reduceIte])))
  all_goals first | exact bad (by grind [mayT]) _ q4.k | skip
  rename_i c1 c2 c3 c4
  refine W_inv t.frozen.length (fun i E s' => Kp s ⟨27, 6, [[.int .i64 t.now, w.sp, w.fr, w.ho, w.ma, w.it]]⟩ s' ∧ E.get 1 = .ptr s.next 0 0 ∧ E.get 3 = .int .i64 i ∧ (t.frozen.take i).all (fun s => (leftTo t.spans [s]).isEmpty) = true) (by delta cf26l0 oo on om og oc ou; exact rfl) ?_ ?_
  · (repeat' with_reducible simp (maxDischargeDepth:=12) only [viz,↓reduceIte,Nat.reduceEqDiff])
    exact ⟨q4, rfl, rfl⟩
  rintro i E s' hile _ ⟨q, g1, g3, hall⟩
  have qg := q.g
  by_cases hlt : i < t.frozen.length
  · obtain ⟨x, hx⟩ := get_of hlt
    obtain ⟨p, hp, P, hld⟩ := hw.fr.ldk hI hx rfl rfl
    have hld' := hld _ q.k
    simp only [spanC] at hld'
    (repeat' (with_reducible first|refine w_1 ?_|refine w_2 ?_|refine w_3 ?_|refine w_4 ?_|refine w_5 ?_|simp (maxDischargeDepth:=12) only [viz,↓reduceIte,Nat.reduceEqDiff,Nat.reduceAdd,g1,g3,hlf,lt_true hlt,hp,hld',qg]))
    refine rcovers_c (l := t.spans) (x := x) (D := D) (q.k.ok hf) (hI.keep q.k) (hw.sp.keep fun r hr => q.k.get r (hI r hr)) a1 fun s5 h5 => ?_
    (repeat' (with_reducible first|refine w_1 ?_|refine w_2 ?_|refine w_4 ?_|refine w_5 ?_|refine w_6 ?_|(refine w_8 (fun hb=>?_) (fun hb=>?_)<;>(try simp only [Bool.not_eq_true',Bool.not_eq_false'] at hb)<;>try simp only [hb])|simp (maxDischargeDepth:=12) only [viz,↓reduceIte,Nat.reduceEqDiff,g1,g3]))
    · have : (t.frozen.all fun s => (leftTo t.spans [s]).isEmpty) = false := all_at hx hb
      exact bad (by simp only [mayT, this, Bool.and_false, Bool.false_and]) _ (q.then h5).k
    · refine ⟨hlt, q.then h5, succ_av (by omega), ?_⟩
      rw [all_snoc hx, hall, Bool.true_and]; exact hb
  · rw [all_end hlt] at hall
    (repeat' (with_reducible first|refine w_1 ?_|refine w_2 ?_|refine w_4 ?_|refine w_7 ?_|simp (maxDischargeDepth:=12) only [viz,↓reduceIte,Nat.reduceEqDiff,Nat.reduceAdd,g1,g3,hlf,lt_false hlt,qg]))
    refine within_c (D := D) (hI.keep q.k) (hw.sp.keep fun r hr => q.k.get r (hI r hr)) (hw.ho.keep fun r hr => q.k.get r (hI r hr)) (hw.ma.keep fun r hr => q.k.get r (hI r hr)) (by omega) (by omega) (by omega) fun s6 h6 => ?_
    have q6 := q.then h6
    have g6 := q6.g
    have hroom : decide (IntKind.i64.wrap (IntKind.i64.wrap ((t.holds.length : Int) + t.marks.length) + t.ints.length) > 1024) = !roomS t := by
      rw [wrap_i64 (x := (t.holds.length : Int) + t.marks.length) (by omega), wrap_i64 (x := (t.holds.length : Int) + t.marks.length + t.ints.length) (by omega), roomS]
      by_cases h : t.holds.length + t.marks.length + t.ints.length ≤ 1024
      · simp [h]; omega
      · simp [h]; omega
    (repeat' (with_reducible first|refine w_1 ?_|refine w_2 ?_|refine w_3 ?_|refine w_4 ?_|refine w_5 ?_|refine w_6 ?_|(refine w_8 (fun hb=>?_) (fun hb=>?_)<;>(try simp only [Bool.not_eq_true',Bool.not_eq_false'] at hb)<;>try simp only [hb])|refine w_13 (fun hc=>(by (try simp only [Bool.and_eq_true] at hc);simp (maxDischargeDepth:=12) only [viz,↓reduceIte,Nat.reduceEqDiff,Nat.reduceAdd,g1,g6,hlen,hlh,hlm,hroom,cond_false,hc];first|exact ⟨rfl,rfl⟩|exact rfl)) ?_|((try refine w_9 ?_);simp (maxDischargeDepth:=12) only [viz,↓reduceIte,Nat.reduceEqDiff])))
    · exact bad (by simp only [mayT, hall]; grind) _ q6.k
    have pre : mayT t = rising (intR t.spans) none t.ints := by simp only [mayT, hall]; grind
    rw [pre] at bad hK
    refine W_inv t.ints.length (fun i E s' => Kp s ⟨27, 6, [[.int .i64 t.now, w.sp, w.fr, w.ho, w.ma, w.it]]⟩ s' ∧ E.get 1 = .ptr s.next 0 0 ∧ E.get 4 = .int .i64 i ∧ rising (intR t.spans) none t.ints = rising (intR t.spans) (prevOf t.ints i) (t.ints.drop i)) (by delta cf26l1 oo on om og oc ou; exact rfl) ?_ ?_
    · (repeat' with_reducible simp (maxDischargeDepth:=12) only [viz,↓reduceIte,Nat.reduceEqDiff,g1])
      exact ⟨q6, rfl, rfl⟩
    rintro i E s' hile _ ⟨q, g1, g4, hr⟩
    have qg := q.g
    have hqn := q.n
    have hfl : s'.floor ≤ s'.next := q.k.ok hf
    by_cases hlt : i < t.ints.length
    · obtain ⟨x, hx⟩ := get_of hlt
      obtain ⟨p, hp, P, hld⟩ := hw.it.ldk hI hx rfl rfl
      have hld' := hld _ q.k
      have hlx := lt_true hlt
      have e0 := gt64 x.key.length
      have hne : (s.next = s'.next) = False := by simp; omega
      have hp1 := pushes s' ⟨70, 6, [intC x]⟩
      rw [rising_step hx] at hr
      simp only [intC] at hld' hp1
      have qx0 := Kp.of_push s' ⟨70, 6, [[.str x.key, .int .i64 x.client, .int .u64 x.seq, .int .i64 x.kind, .int .u64 x.token, .int .i64 x.ttl]]⟩
      have qt0 := q.then hp1
      rcases i with _ | j
      all_goals first
        | (have h0 : ((0 : Nat) : Int) = 0 := rfl
           rw [h0] at hp hlx
           (repeat' (with_reducible first|refine w_1 ?_|refine w_2 ?_|refine w_3 ?_|refine w_4 ?_|refine w_5 ?_|refine w_6 ?_|(refine w_8 (fun hb=>?_) (fun hb=>?_)<;>(try simp only [Bool.not_eq_true',Bool.not_eq_false'] at hb)<;>try simp only [hb])|refine w_13 (fun hc=>(by (try simp only [Bool.and_eq_true] at hc);simp (maxDischargeDepth:=12) only [viz,↓reduceIte,Nat.reduceEqDiff,Nat.reduceAdd, Int.reduceBEq, Int.reduceBNe, Int.reduceLT, Int.reduceLE, Int.reduceGT, Int.reduceGE,cond_true,cond_false,hc];first|exact ⟨rfl,rfl⟩|exact rfl)) ?_|refine w_12 ?_|((try refine w_9 ?_);simp (maxDischargeDepth:=12) only [viz,↓reduceIte,Nat.reduceEqDiff,Nat.reduceAdd,g1,g4,h0,hlx,hlen,hp,hld',hfl,qg,e0, Int.reduceBEq, Int.reduceBNe, Int.reduceLT, Int.reduceLE, Int.reduceGT, Int.reduceGE])))
           refine rid_c fun s2 h2 => ?_
           have qx := (qx0.then h2).g
           have qt := (qt0.then h2).g
           (repeat' (with_reducible first|refine w_1 ?_|refine w_2 ?_|refine w_4 ?_|refine w_6 ?_|(refine w_8 (fun hb=>?_) (fun hb=>?_)<;>(try simp only [Bool.not_eq_true',Bool.not_eq_false'] at hb)<;>try simp only [hb])|refine w_13 (fun hc=>(by (try simp only [Bool.and_eq_true] at hc);simp (maxDischargeDepth:=12) only [viz,↓reduceIte,Nat.reduceEqDiff,Nat.reduceAdd,qx, Int.reduceBEq, Int.reduceBNe, Int.reduceLT, Int.reduceLE, Int.reduceGT, Int.reduceGE,cond_true,cond_false,hc];first|exact ⟨rfl,rfl⟩|exact rfl)) ?_|refine w_12 ?_|((try refine w_9 ?_);simp (maxDischargeDepth:=12) only [viz,↓reduceIte,Nat.reduceEqDiff, Int.reduceBEq, Int.reduceBNe, Int.reduceLT, Int.reduceLE, Int.reduceGT, Int.reduceGE]))))
        | (obtain ⟨y, hy⟩ := get_of (l := t.ints) (i := j) (by omega)
           obtain ⟨p2, hp2, P2, _⟩ := hw.it.ldk hI hy rfl rfl
           have hj : decide (((j + 1 : Nat) : Int) > 0) = true := by simp
           have hpj := pred_cast j (by omega)
           (repeat' (with_reducible first|refine w_1 ?_|refine w_2 ?_|refine w_3 ?_|refine w_4 ?_|refine w_5 ?_|refine w_6 ?_|(refine w_8 (fun hb=>?_) (fun hb=>?_)<;>(try simp only [Bool.not_eq_true',Bool.not_eq_false'] at hb)<;>try simp only [hb])|refine w_13 (fun hc=>(by (try simp only [Bool.and_eq_true] at hc);simp (maxDischargeDepth:=12) only [viz,↓reduceIte,Nat.reduceEqDiff,Nat.reduceAdd,cond_true,cond_false,hc];first|exact ⟨rfl,rfl⟩|exact rfl)) ?_|refine w_12 ?_|((try refine w_9 ?_);simp (maxDischargeDepth:=12) only [viz,↓reduceIte,Nat.reduceEqDiff,Nat.reduceAdd,g1,g4,hlx,hlen,hp,hld',hfl,qg,e0])))
           refine rid_c fun s2 h2 => ?_
           have qx := (qx0.then h2).g
           have qt := (qt0.then h2).g
           have hld4 : ∀ M, Keep s.next s M → loadA M false 1 (VI.adr p2 0) = some (.str y.key) := fun M hM => by
             have := P2.ldf _ hM 0 false 1 (by simp [intC])
             rw [this]; rfl
           (repeat' (with_reducible first|refine w_1 ?_|refine w_2 ?_|refine w_4 ?_|refine w_6 ?_|(refine w_8 (fun hb=>?_) (fun hb=>?_)<;>(try simp only [Bool.not_eq_true',Bool.not_eq_false'] at hb)<;>try simp only [hb])|refine w_13 (fun hc=>(by (try simp only [Bool.and_eq_true] at hc);simp (maxDischargeDepth:=12) only [viz,↓reduceIte,Nat.reduceEqDiff,Nat.reduceAdd,qx,cond_true,cond_false,hc];first|exact ⟨rfl,rfl⟩|exact rfl)) ?_|refine w_12 ?_|((try refine w_9 ?_);simp (maxDischargeDepth:=12) only [viz,↓reduceIte,Nat.reduceEqDiff]))))
      · refine rlasts_c ?_
        (repeat' (with_reducible first|refine w_1 ?_|refine w_2 ?_|refine w_4 ?_|refine w_6 ?_|(refine w_8 (fun hb=>?_) (fun hb=>?_)<;>(try simp only [Bool.not_eq_true',Bool.not_eq_false'] at hb)<;>try simp only [hb])|refine w_13 (fun hc=>(by (try simp only [Bool.and_eq_true] at hc);simp (maxDischargeDepth:=12) only [viz,↓reduceIte,Nat.reduceEqDiff,Nat.reduceAdd,g1,qx,qt, Int.reduceBEq, Int.reduceBNe, Int.reduceLT, Int.reduceLE, Int.reduceGT, Int.reduceGE,cond_true,cond_false,hc];first|exact ⟨rfl,rfl⟩|exact rfl)) ?_|refine w_12 ?_|((try refine w_9 ?_);simp (maxDischargeDepth:=12) only [viz,↓reduceIte,Nat.reduceEqDiff, Int.reduceBEq, Int.reduceBNe, Int.reduceLT, Int.reduceLE, Int.reduceGT, Int.reduceGE])))
        · have k2 := (qt0.then h2).k
          refine rin_c (D := D) (hI.keep k2) (hw.sp.keep fun r hr => k2.get r (hI r hr)) (by omega) fun s3 h3 => ?_
          have qx3 := ((qx0.then h2).then h3).g
          have qt3 := ((qt0.then h2).then h3).g
          (repeat' (with_reducible first|refine w_1 ?_|refine w_2 ?_|refine w_4 ?_|refine w_5 ?_|refine w_6 ?_|(refine w_8 (fun hb=>?_) (fun hb=>?_)<;>(try simp only [Bool.not_eq_true',Bool.not_eq_false'] at hb)<;>try simp only [hb])|refine w_13 (fun hc=>(by (try simp only [Bool.and_eq_true] at hc);simp (maxDischargeDepth:=12) only [viz,↓reduceIte,Nat.reduceEqDiff,g4,h0, Int.reduceBEq, Int.reduceBNe, Int.reduceLT, Int.reduceLE, Int.reduceGT, Int.reduceGE,cond_true,hc];first|exact ⟨rfl,rfl⟩|exact rfl)) ?_|((try refine w_9 ?_);simp (maxDischargeDepth:=12) only [viz,↓reduceIte,Nat.reduceEqDiff,Nat.reduceAdd,g1,g4,h0, Int.reduceBEq, Int.reduceBNe, Int.reduceLT, Int.reduceLE, Int.reduceGT, Int.reduceGE])))
          · have e : intR t.spans (prevOf t.ints 0) x = false := by simp only [intR, inR, intOk, prevOf_zero, bl]; grind
            exact bad (by rw [hr, e]; rfl) _ (k2.then h3)
          · have e : intR t.spans (prevOf t.ints 0) x = true := by simp only [intR, inR, intOk, prevOf_zero, bl]; grind
            refine ⟨hlt, (qt0.then h2).then h3, rfl, ?_⟩
            rw [hr, e, Bool.true_and]
        · have e : intR t.spans (prevOf t.ints 0) x = false := by simp only [intR, inR, intOk, prevOf_zero, bl]; grind
          exact bad (by rw [hr, e]; rfl) _ (qt0.then h2).k
      · have e : intR t.spans (prevOf t.ints 0) x = false := by simp only [intR, inR, intOk, prevOf_zero, bl]; grind
        exact bad (by rw [hr, e]; rfl) _ (qt0.then h2).k
      · have e : intR t.spans (prevOf t.ints 0) x = false := by simp only [intR, inR, intOk, prevOf_zero, bl]; grind
        exact bad (by rw [hr, e]; rfl) _ qt0.k
      · refine rlasts_c ?_
        (repeat' (with_reducible first|refine w_1 ?_|refine w_2 ?_|refine w_4 ?_|refine w_6 ?_|(refine w_8 (fun hb=>?_) (fun hb=>?_)<;>(try simp only [Bool.not_eq_true',Bool.not_eq_false'] at hb)<;>try simp only [hb])|refine w_13 (fun hc=>(by (try simp only [Bool.and_eq_true] at hc);simp (maxDischargeDepth:=12) only [viz,↓reduceIte,Nat.reduceEqDiff,Nat.reduceAdd,g1,qx,qt,cond_true,cond_false,hc];first|exact ⟨rfl,rfl⟩|exact rfl)) ?_|refine w_12 ?_|((try refine w_9 ?_);simp (maxDischargeDepth:=12) only [viz,↓reduceIte,Nat.reduceEqDiff])))
        · have k2 := (qt0.then h2).k
          refine rin_c (D := D) (hI.keep k2) (hw.sp.keep fun r hr => k2.get r (hI r hr)) (by omega) fun s3 h3 => ?_
          have qx3 := ((qx0.then h2).then h3).g
          have qt3 := ((qt0.then h2).then h3).g
          (repeat' (with_reducible first|refine w_1 ?_|refine w_2 ?_|refine w_4 ?_|refine w_5 ?_|refine w_6 ?_|(refine w_8 (fun hb=>?_) (fun hb=>?_)<;>(try simp only [Bool.not_eq_true',Bool.not_eq_false'] at hb)<;>try simp only [hb])|refine w_13 (fun hc=>(by (try simp only [Bool.and_eq_true] at hc);simp (maxDischargeDepth:=12) only [viz,↓reduceIte,Nat.reduceEqDiff,Nat.reduceAdd,g1,g4,qx3,qt3,hj,hpj,hp2,P2.adr,hld4 _ (k2.then h3),le_not',cond_true,hc];first|exact ⟨rfl,rfl⟩|exact rfl)) ?_|((try refine w_9 ?_);simp (maxDischargeDepth:=12) only [viz,↓reduceIte,Nat.reduceEqDiff,g1,g4])))
          · have e : intR t.spans (prevOf t.ints (j + 1)) x = false := by simp only [intR, inR, intOk, prevOf_succ, hy, bl]; grind
            exact bad (by rw [hr, e]; rfl) _ (k2.then h3)
          · have e : intR t.spans (prevOf t.ints (j + 1)) x = true := by simp only [intR, inR, intOk, prevOf_succ, hy, bl]; grind
            refine ⟨hlt, (qt0.then h2).then h3, succ_av (by omega), ?_⟩
            rw [hr, e, Bool.true_and]
        · have e : intR t.spans (prevOf t.ints (j + 1)) x = false := by simp only [intR, inR, intOk, prevOf_succ, hy, bl]; grind
          exact bad (by rw [hr, e]; rfl) _ (qt0.then h2).k
      · have e : intR t.spans (prevOf t.ints (j + 1)) x = false := by simp only [intR, inR, intOk, prevOf_succ, hy, bl]; grind
        exact bad (by rw [hr, e]; rfl) _ (qt0.then h2).k
      · have e : intR t.spans (prevOf t.ints (j + 1)) x = false := by simp only [intR, inR, intOk, prevOf_succ, hy, bl]; grind
        exact bad (by rw [hr, e]; rfl) _ qt0.k
    · (repeat' (with_reducible first|refine w_1 ?_|refine w_2 ?_|refine w_4 ?_|refine w_6 ?_|refine w_7 ?_|simp (maxDischargeDepth:=12) only [viz,↓reduceIte,Nat.reduceEqDiff,Nat.reduceAdd,g1,g4,hlen,lt_false hlt,qg]))
      rw [rising_end hlt] at hr
      exact K_of hK q.k hr
end Go.Proofs.YthibbbfhkfebkaaGreat
/- Tables that may be: both say the same. No statement of the seat is proved here. -/
namespace Go.Proofs.YthibbbfhkfebkaaGreat
open Go Go.VI
set_option linter.unusedSimpArgs false
theorem rising_mem {α : Type} {ok : Option α → α → Bool} : ∀ {l : List α} {p : Option α}, rising ok p l = true → ∀ x ∈ l, ∃ q, ok q x = true
  | [], _, _, x, hx => by cases hx
  | y :: l, p, h, x, hx => by
    simp only [rising, Bool.and_eq_true] at h
    rcases List.mem_cons.mp hx with rfl | hx
    · exact ⟨p, h.1⟩
    · exact rising_mem h.2 x hx
theorem form_may {l : List Span} (h : formS l = true) : ∀ x ∈ l, mayS x = true := fun x hx => by
  simp only [formS, Bool.and_eq_true] at h
  obtain ⟨q, hq⟩ := rising_mem h.2 x hx
  simp only [formOk, Bool.and_eq_true] at hq
  exact hq.1
theorem in_same {sp : List Span} {k : Txt} (hf : formS sp = true) (hk : k.length ≤ 64) : inS sp k = inR sp k := by
  simp only [inS, inR, hf, Bool.true_and]
  refine any_same fun x hx => ?_
  simp [hasP, form_may hf x hx, hk]
theorem covers_same {sp : List Span} {s : Span} (hf : formS sp = true) (hs : mayS s = true) : coversS sp s = (leftTo sp [s]).isEmpty := by
  have h1 := cover_form hf hs
  have h2 := left_covers sp hs
  simp only [coversS, hf, hs, Bool.true_and]
  rw [Bool.eq_iff_iff, h1, h2]
theorem hold_key {l : List Hold} (h : holdsS l = true) : ∀ x ∈ l, x.key.length ≤ 64 := fun x hx => by
  simp only [holdsS, Bool.and_eq_true] at h
  obtain ⟨q, hq⟩ := rising_mem h.2 x hx
  simp only [holdOk, mayH, Bool.and_eq_true, decide_eq_true_eq] at hq
  omega
theorem mark_key {l : List Mark} (h : marksS l = true) : ∀ x ∈ l, x.key.length ≤ 64 ∧ x.token ≠ 0 := fun x hx => by
  simp only [marksS, Bool.and_eq_true] at h
  obtain ⟨q, hq⟩ := rising_mem h.2 x hx
  simp only [markOk, Bool.and_eq_true, decide_eq_true_eq, Bool.not_eq_true', decide_eq_false_iff_not] at hq
  exact ⟨hq.1.1, hq.1.2⟩
theorem marked_iff {l : List Mark} (h : marksS l = true) (k : Txt) : markedS l k = l.any fun m => m.key == k := by
  unfold markedS lastM
  cases hE : l.find? fun x => x.key == k with
  | none =>
    have := List.find?_eq_none.mp hE
    have : (l.any fun m => m.key == k) = false := by
      rw [List.any_eq_false]; exact this
    rw [this]; rfl
  | some m =>
    have h1 := List.mem_of_find?_eq_some hE
    have h2 := List.find?_some hE
    have : (l.any fun m => m.key == k) = true := List.any_eq_true.mpr ⟨m, h1, h2⟩
    rw [this]
    simpa using (mark_key h m h1).2
theorem here_same {t : Table} (hf : formS t.spans = true) (hh : holdsS t.holds = true) (hm : marksS t.marks = true) : hereS t.spans t.holds t.marks = withinS t.spans t.holds t.marks := by
  rw [Bool.eq_iff_iff]
  simp only [hereS, withinS, Bool.and_eq_true, List.all_eq_true, Bool.not_eq_true', List.any_eq_false, marked_iff hm]
  constructor
  · rintro ⟨h1, h2⟩
    refine ⟨fun x hx => ⟨by rw [← in_same hf (hold_key hh x hx)]; exact h1 x hx, fun m hm' => ?_⟩, fun m hm' => ?_⟩
    · have := h2 m hm'
      simp only [Bool.or_eq_true, not_or] at this
      intro e
      refine this.1 (List.any_eq_true.mpr ⟨x, hx, ?_⟩)
      rw [beq_iff_eq] at e ⊢; exact e.symm
    · have := h2 m hm'
      simp only [Bool.or_eq_true, not_or] at this
      rw [← in_same hf (mark_key hm m hm').1]
      simpa using this.2
  · rintro ⟨h1, h2⟩
    refine ⟨fun x hx => by rw [in_same hf (hold_key hh x hx)]; exact (h1 x hx).1, fun m hm' => ?_⟩
    simp only [Bool.or_eq_true, not_or]
    refine ⟨fun e => ?_, ?_⟩
    · obtain ⟨x, hx, e⟩ := List.any_eq_true.mp e
      refine (h1 x hx).2 m hm' ?_
      rw [beq_iff_eq] at e ⊢; exact e.symm
    · rw [in_same hf (mark_key hm m hm').1, h2 m hm']; simp
theorem ints_same {sp : List Span} (hf : formS sp = true) (l : List Intent) (p : Option Intent) : rising (intIn sp) p l = rising (intR sp) p l := by
  have : intIn sp = intR sp := by
    funext q x
    simp only [intIn, intR]
    by_cases h : x.key.length ≤ 64
    · rw [in_same hf h]
    · simp [intOk, h]
  rw [this]
theorem tab_same (t : Table) : tabS t = mayT t := by
  by_cases hA : (formS t.spans && formS t.frozen && holdsS t.holds && marksS t.marks) = true
  · simp only [Bool.and_eq_true] at hA
    obtain ⟨⟨⟨h1, h2⟩, h3⟩, h4⟩ := hA
    have hc : coverAll t.spans t.frozen = t.frozen.all fun s => (leftTo t.spans [s]).isEmpty := by
      rw [coverAll, Bool.eq_iff_iff]
      simp only [Bool.not_eq_true', List.any_eq_false, List.all_eq_true]
      constructor
      · intro h x hx
        rw [← covers_same h1 (form_may h2 x hx)]
        simpa using h x hx
      · intro h x hx
        rw [covers_same h1 (form_may h2 x hx), h x hx]; simp
    simp only [tabS, mayT, h1, h2, h3, h4, hc, here_same h1 h3 h4, intsS, ints_same h1]
    generalize (t.frozen.all fun s => (leftTo t.spans [s]).isEmpty) = c
    generalize withinS t.spans t.holds t.marks = d
    generalize roomS t = e
    generalize rising (intR t.spans) none t.ints = f
    cases c <;> cases d <;> cases e <;> cases f <;> simp
  · simp only [Bool.and_eq_true] at hA
    simp only [tabS, mayT]
    grind
end Go.Proofs.YthibbbfhkfebkaaGreat
/- Places in rising lists. No statement of the seat is proved here. -/
namespace Go.Proofs.YthibbbfhkfebkaaGreat
open Go Go.VI
set_option linter.unusedSimpArgs false
def UpK {α : Type} (key : α → Txt) (l : List α) : Prop := ∀ (i j : Nat) (a b : α), i < j → l[i]? = some a → l[j]? = some b → bl (key a) (key b) = true
def atK {α : Type} (key : α → Txt) (l : List α) (i : Nat) (k : Txt) : Bool := match l[i]? with | some x => key x == k | none => false
theorem cmp_lt (a b : Txt) : decide (cmpS a b < 0) = Op.bytesLess a b := by
  unfold cmpS
  cases h : Op.bytesLess a b with
  | true => simp
  | false => by_cases e : a = b <;> simp [e]
theorem cmp_eq (a b : Txt) : (cmpS a b == 0) = (a == b) := by
  unfold cmpS
  cases h : Op.bytesLess a b with
  | true =>
    have : (a == b) = false := by
      rw [beq_eq_false_iff_ne]; intro e; subst e
      have := bl_irrefl a
      simp only [bl] at this; rw [this] at h; cases h
    rw [this]; rfl
  | false => by_cases e : a = b <;> simp [e]
attribute [local irreducible] Ws Wp W C
set_option maxHeartbeats 4000000
theorem compare_c {a b : Txt} {s : Mem} {K : AV → Mem → Prop} (hK : K (.int .i64 (cmpS a b)) s) : C tab 97 [.str a, .str b] s K := by
  refine C_enter (cf := cf97) rfl (Nat.le_of_ble_eq_true rfl) ?_
  simp only [cf97, oo, on, om, og, oc, ou]
  (repeat' (with_reducible first|refine w_1 ?_|refine w_2 ?_|simp (maxDischargeDepth:=12) only [viz,↓reduceIte,Nat.reduceAdd]))
  refine C_prim (p := .cmp) (cf := cf134) rfl rfl (fun _ h => by cases h) rfl rfl ?_
  (repeat' (with_reducible first|refine w_6 ?_|simp (maxDischargeDepth:=12) only [viz,↓reduceIte]))
  exact hK
end Go.Proofs.YthibbbfhkfebkaaGreat
/- Places in rising lists: holds, marks. No statement of the seat is proved here. -/
namespace Go.Proofs.YthibbbfhkfebkaaGreat
open Go Go.VI
set_option linter.unusedSimpArgs false
attribute [local irreducible] Ws Wp W C
set_option maxHeartbeats 4000000
theorem hocmp_c {x : Hold} {k : Txt} {s : Mem} {K : AV → Mem → Prop} (hK : ∀ s', Keep s.next s s' → K (.int .i64 (cmpS x.key k)) s') : C tab 141 [.agg (holdC x), .str k] s K := by
  refine C_enter (cf := cf141) rfl (Nat.le_of_ble_eq_true rfl) ?_
  simp only [cf141, oo, on, om, og, oc, ou, holdC]
  (repeat' (with_reducible first|refine w_1 ?_|refine w_2 ?_|simp (maxDischargeDepth:=12) only [viz,↓reduceIte,Nat.reduceAdd]))
  refine compare_c ?_
  (repeat' (with_reducible first|refine w_6 ?_|simp (maxDischargeDepth:=12) only [viz,↓reduceIte]))
  exact hK _ (pushes _ _)
theorem hosearch_l {l : List Hold} {k : Txt} {s : Mem} {Q : Ex → Env → Mem → Prop} {v : AV} {D : Nat → Prop} (hI : In D s) (hv : Holds s D v l) (hlen : l.length < 5000)
    (hs : UpK Hold.key l)
    (hQ : ∀ e' (i : Nat) s', i ≤ l.length → Keep s.next s s' → (∀ (j : Nat) (a : Hold), j < i → l[j]? = some a → bl a.key k = true) → (∀ (j : Nat) (a : Hold), i ≤ j → l[j]? = some a → bl a.key k = false) → e'.get 0 = v → e'.get 1 = .str k → e'.get 2 = .fn 141 [] → e'.get 8 = .int .i64 l.length → e'.get 9 = .int .i64 i → Q (.exit 0) e' s') :
    ∀ (n i j : Nat) (e : Env) (s1 : Mem), j - i ≤ n → i ≤ j → j ≤ l.length → Keep s.next s s1 → (∀ (p : Nat) (a : Hold), p < i → l[p]? = some a → bl a.key k = true) → (∀ (p : Nat) (a : Hold), j ≤ p → l[p]? = some a → bl a.key k = false) → e.get 0 = v → e.get 1 = .str k → e.get 2 = .fn 141 [] → e.get 8 = .int .i64 l.length → e.get 9 = .int .i64 i → e.get 10 = .int .i64 j → W tab (.loop cf140l0) e s1 Q := by
  intro n
  induction n with
  | zero =>
    intro i j e s1 hn hij hj hk h1 h2 g0 g1 g2 g8 g9 g10
    have hlt := lt_false (show ¬ i < j by omega)
    refine W_loop' (by delta cf140l0 oo on om og oc ou; exact rfl) ?_
    (repeat' (with_reducible first|refine w_1 ?_|refine w_2 ?_|refine w_4 ?_|refine w_7 ?_|simp (maxDischargeDepth:=12) only [viz,↓reduceIte,g9,g10,hlt]))
    exact hQ _ i _ (by omega) hk h1 (fun p a hp => h2 p a (by omega)) (by simp only [Env.get_set, ↓reduceIte, Nat.reduceEqDiff, g0]) (by simp only [Env.get_set, ↓reduceIte, Nat.reduceEqDiff, g1]) (by simp only [Env.get_set, ↓reduceIte, Nat.reduceEqDiff, g2]) (by simp only [Env.get_set, ↓reduceIte, Nat.reduceEqDiff, g8]) (by simp only [Env.get_set, ↓reduceIte, Nat.reduceEqDiff, g9])
  | succ n ih =>
    intro i j e s1 hn hij hj hk h1 h2 g0 g1 g2 g8 g9 g10
    by_cases hc : i < j
    case neg =>
      have hlt := lt_false hc
      refine W_loop' (by delta cf140l0 oo on om og oc ou; exact rfl) ?_
      (repeat' (with_reducible first|refine w_1 ?_|refine w_2 ?_|refine w_4 ?_|refine w_7 ?_|simp (maxDischargeDepth:=12) only [viz,↓reduceIte,g9,g10,hlt]))
      exact hQ _ i _ (by omega) hk h1 (fun p a hp => h2 p a (by omega)) (by simp only [Env.get_set, ↓reduceIte, Nat.reduceEqDiff, g0]) (by simp only [Env.get_set, ↓reduceIte, Nat.reduceEqDiff, g1]) (by simp only [Env.get_set, ↓reduceIte, Nat.reduceEqDiff, g2]) (by simp only [Env.get_set, ↓reduceIte, Nat.reduceEqDiff, g8]) (by simp only [Env.get_set, ↓reduceIte, Nat.reduceEqDiff, g9])
    have hlt := lt_true hc
    obtain ⟨a, ha⟩ := get_of (l := l) (i := (i + j) / 2) (by omega)
    obtain ⟨p, hp, P, hld⟩ := hv.ldk hI ha rfl rfl
    have hld' := hld _ hk
    simp only [holdC] at hld'
    refine W_loop' (by delta cf140l0 oo on om og oc ou; exact rfl) ?_
    have z1 : ((1 : Int) < 0) = False := by simp
    have w1 : (IntKind.u64.wrap (IntKind.i64.wrap ((i : Int) + (j : Int)))).fdiv (2 ^ min (Int.toNat 1) IntKind.u64.bits) = (((i + j) / 2 : Nat) : Int) := by
      rw [wrap_i64 (by omega), wrap_u64 (by omega)]
      have e : (2 : Int) ^ min (Int.toNat 1) IntKind.u64.bits = 2 := rfl
      rw [e, Int.fdiv_eq_ediv_of_nonneg _ (by omega)]
      omega
    have w2 : IntKind.i64.wrap (((i + j) / 2 : Nat) : Int) = (((i + j) / 2 : Nat) : Int) := wrap_i64 (by omega)
    generalize hm : (i + j) / 2 = q at ha hp w1 w2
    (repeat' (with_reducible first|refine w_1 ?_|refine w_2 ?_|refine w_3 ?_|refine w_4 ?_|refine w_5 ?_|simp (maxDischargeDepth:=12) only [viz,↓reduceIte,Nat.reduceEqDiff,reduceCtorEq,g0,g1,g2,g9,g10,hlt,z1,w1,w2,hp,hld']))
    refine hocmp_c (x := a) fun s2 h2k => ?_
    (repeat' (with_reducible first|refine w_2 ?_|refine w_4 ?_|(refine w_8 (fun hb=>?_) (fun hb=>?_)<;>(try simp only [Bool.not_eq_true',Bool.not_eq_false'] at hb)<;>try simp only [hb])|simp (maxDischargeDepth:=12) only [viz,↓reduceIte,Nat.reduceEqDiff,succ_cast (show q < 4611686018427387904 by omega),cmp_lt]))
    · refine ih (q + 1) j _ _ (by omega) (by omega) hj (hk.then h2k) (fun p b hp hpb => ?_) h2 (by simp only [Env.get_set, ↓reduceIte, Nat.reduceEqDiff, g0]) (by simp only [Env.get_set, ↓reduceIte, Nat.reduceEqDiff, g1]) (by simp only [Env.get_set, ↓reduceIte, Nat.reduceEqDiff, g2]) (by simp only [Env.get_set, ↓reduceIte, Nat.reduceEqDiff, g8]) (by simp only [Env.get_set, ↓reduceIte, Nat.reduceEqDiff]) (by simp only [Env.get_set, ↓reduceIte, Nat.reduceEqDiff, g10])
      by_cases hpq : p = q
      · rw [hpq, ha] at hpb; injection hpb with e; rw [← e]; exact hb
      · exact bl_trans (hs p q b a (by omega) hpb ha) hb
    · refine ih i q _ _ (by omega) (by omega) (by omega) (hk.then h2k) h1 (fun p b hp hpb => ?_) (by simp only [Env.get_set, ↓reduceIte, Nat.reduceEqDiff, g0]) (by simp only [Env.get_set, ↓reduceIte, Nat.reduceEqDiff, g1]) (by simp only [Env.get_set, ↓reduceIte, Nat.reduceEqDiff, g2]) (by simp only [Env.get_set, ↓reduceIte, Nat.reduceEqDiff, g8]) (by simp only [Env.get_set, ↓reduceIte, Nat.reduceEqDiff, g9]) (by simp only [Env.get_set, ↓reduceIte, Nat.reduceEqDiff])
      by_cases hpq : p = q
      · rw [hpq, ha] at hpb; injection hpb with e; rw [← e]; exact hb
      · cases hbk : bl b.key k with
        | false => rfl
        | true =>
          have h3 := bl_trans (hs q p a b (by omega) ha hpb) hbk
          have h4 : bl a.key k = false := hb
          rw [h4] at h3; cases h3
theorem hosearch_c {l : List Hold} {k : Txt} {s : Mem} {v : AV} {D : Nat → Prop} {K : AV → Mem → Prop} (hI : In D s) (hv : Holds s D v l) (hlen : l.length < 5000) (hs : UpK Hold.key l)
    (hK : ∀ (i : Nat) s', i ≤ l.length → Keep s.next s s' → (∀ (j : Nat) (a : Hold), j < i → l[j]? = some a → bl a.key k = true) → (∀ (j : Nat) (a : Hold), i ≤ j → l[j]? = some a → bl a.key k = false) → K (.tup [.int .i64 i, .bool (atK Hold.key l i k)]) s') :
    C tab 140 [v, .str k, .fn 141 []] s K := by
  refine C_enter (cf := cf140) rfl (Nat.le_of_ble_eq_true rfl) ?_
  simp only [cf140, oo, on, om, og, oc, ou]
  have hln : lenA false v = some l.length := hv.lenB
  (repeat' (with_reducible first|refine w_1 ?_|refine w_2 ?_|refine w_3 ?_|simp (maxDischargeDepth:=12) only [viz,↓reduceIte,Nat.reduceEqDiff,reduceCtorEq,Nat.reduceAdd,hln]))
  refine hosearch_l (k := k) hI hv hlen hs ?_ l.length 0 l.length _ s (by omega) (by omega) (by omega) (Keep.refl _ _) (fun p a h => by omega) (fun p a h ha => ?_) ?_ ?_ ?_ ?_ ?_ ?_
  · intro e' i s1 hi hk1 h1 h2 g0 g1 g2 g8 g9
    have hk := fun s2 (h : Keep s1.next s1 s2) => hK i s2 hi (hk1.then h) h1 h2
    by_cases hc : i < l.length
    · have hlt := lt_true hc
      obtain ⟨a, ha⟩ := get_of hc
      obtain ⟨p, hp, P, hld⟩ := hv.ldk hI ha rfl rfl
      have hld' := hld _ hk1
      simp only [holdC] at hld'
      (repeat' (with_reducible first|refine w_1 ?_|refine w_2 ?_|((try refine w_9 ?_);simp (maxDischargeDepth:=12) only [viz,↓reduceIte,Nat.reduceEqDiff,reduceCtorEq,g0,g1,g2,g8,g9,hlt,hp,hld'])))
      refine hocmp_c (x := a) fun s2 h2k => ?_
      (repeat' (with_reducible first|refine w_6 ?_|((try refine w_9 ?_);simp (maxDischargeDepth:=12) only [viz,↓reduceIte,Nat.reduceEqDiff,cmp_eq])))
      have e : atK Hold.key l i k = (a.key == k) := by simp [atK, ha]
      rw [e] at hk
      exact hk _ h2k
    · have hlt := lt_false hc
      (repeat' (with_reducible first|refine w_1 ?_|refine w_2 ?_|refine w_6 ?_|((try refine w_9 ?_);simp (maxDischargeDepth:=12) only [viz,↓reduceIte,Nat.reduceEqDiff,g8,g9,hlt])))
      have e : atK Hold.key l i k = false := by simp [atK, List.getElem?_eq_none (show l.length ≤ i by omega)]
      rw [e] at hk
      exact hk _ (Keep.refl _ _)
  · rw [List.getElem?_eq_none (by omega)] at ha; cases ha
  all_goals simp only [Env.get_set, ↓reduceIte, Nat.reduceEqDiff]
  all_goals rfl
theorem macmp_c {x : Mark} {k : Txt} {s : Mem} {K : AV → Mem → Prop} (hK : ∀ s', Keep s.next s s' → K (.int .i64 (cmpS x.key k)) s') : C tab 144 [.agg (markC x), .str k] s K := by
  refine C_enter (cf := cf144) rfl (Nat.le_of_ble_eq_true rfl) ?_
  simp only [cf144, oo, on, om, og, oc, ou, markC]
  (repeat' (with_reducible first|refine w_1 ?_|refine w_2 ?_|simp (maxDischargeDepth:=12) only [viz,↓reduceIte,Nat.reduceAdd]))
  refine compare_c ?_
  (repeat' (with_reducible first|refine w_6 ?_|simp (maxDischargeDepth:=12) only [viz,↓reduceIte]))
  exact hK _ (pushes _ _)
theorem masearch_l {l : List Mark} {k : Txt} {s : Mem} {Q : Ex → Env → Mem → Prop} {v : AV} {D : Nat → Prop} (hI : In D s) (hv : Marks s D v l) (hlen : l.length < 5000)
    (hs : UpK Mark.key l)
    (hQ : ∀ e' (i : Nat) s', i ≤ l.length → Keep s.next s s' → (∀ (j : Nat) (a : Mark), j < i → l[j]? = some a → bl a.key k = true) → (∀ (j : Nat) (a : Mark), i ≤ j → l[j]? = some a → bl a.key k = false) → e'.get 0 = v → e'.get 1 = .str k → e'.get 2 = .fn 144 [] → e'.get 8 = .int .i64 l.length → e'.get 9 = .int .i64 i → Q (.exit 0) e' s') :
    ∀ (n i j : Nat) (e : Env) (s1 : Mem), j - i ≤ n → i ≤ j → j ≤ l.length → Keep s.next s s1 → (∀ (p : Nat) (a : Mark), p < i → l[p]? = some a → bl a.key k = true) → (∀ (p : Nat) (a : Mark), j ≤ p → l[p]? = some a → bl a.key k = false) → e.get 0 = v → e.get 1 = .str k → e.get 2 = .fn 144 [] → e.get 8 = .int .i64 l.length → e.get 9 = .int .i64 i → e.get 10 = .int .i64 j → W tab (.loop cf143l0) e s1 Q := by
  intro n
  induction n with
  | zero =>
    intro i j e s1 hn hij hj hk h1 h2 g0 g1 g2 g8 g9 g10
    have hlt := lt_false (show ¬ i < j by omega)
    refine W_loop' (by delta cf143l0 oo on om og oc ou; exact rfl) ?_
    (repeat' (with_reducible first|refine w_1 ?_|refine w_2 ?_|refine w_4 ?_|refine w_7 ?_|simp (maxDischargeDepth:=12) only [viz,↓reduceIte,g9,g10,hlt]))
    exact hQ _ i _ (by omega) hk h1 (fun p a hp => h2 p a (by omega)) (by simp only [Env.get_set, ↓reduceIte, Nat.reduceEqDiff, g0]) (by simp only [Env.get_set, ↓reduceIte, Nat.reduceEqDiff, g1]) (by simp only [Env.get_set, ↓reduceIte, Nat.reduceEqDiff, g2]) (by simp only [Env.get_set, ↓reduceIte, Nat.reduceEqDiff, g8]) (by simp only [Env.get_set, ↓reduceIte, Nat.reduceEqDiff, g9])
  | succ n ih =>
    intro i j e s1 hn hij hj hk h1 h2 g0 g1 g2 g8 g9 g10
    by_cases hc : i < j
    case neg =>
      have hlt := lt_false hc
      refine W_loop' (by delta cf143l0 oo on om og oc ou; exact rfl) ?_
      (repeat' (with_reducible first|refine w_1 ?_|refine w_2 ?_|refine w_4 ?_|refine w_7 ?_|simp (maxDischargeDepth:=12) only [viz,↓reduceIte,g9,g10,hlt]))
      exact hQ _ i _ (by omega) hk h1 (fun p a hp => h2 p a (by omega)) (by simp only [Env.get_set, ↓reduceIte, Nat.reduceEqDiff, g0]) (by simp only [Env.get_set, ↓reduceIte, Nat.reduceEqDiff, g1]) (by simp only [Env.get_set, ↓reduceIte, Nat.reduceEqDiff, g2]) (by simp only [Env.get_set, ↓reduceIte, Nat.reduceEqDiff, g8]) (by simp only [Env.get_set, ↓reduceIte, Nat.reduceEqDiff, g9])
    have hlt := lt_true hc
    obtain ⟨a, ha⟩ := get_of (l := l) (i := (i + j) / 2) (by omega)
    obtain ⟨p, hp, P, hld⟩ := hv.ldk hI ha rfl rfl
    have hld' := hld _ hk
    simp only [markC] at hld'
    refine W_loop' (by delta cf143l0 oo on om og oc ou; exact rfl) ?_
    have z1 : ((1 : Int) < 0) = False := by simp
    have w1 : (IntKind.u64.wrap (IntKind.i64.wrap ((i : Int) + (j : Int)))).fdiv (2 ^ min (Int.toNat 1) IntKind.u64.bits) = (((i + j) / 2 : Nat) : Int) := by
      rw [wrap_i64 (by omega), wrap_u64 (by omega)]
      have e : (2 : Int) ^ min (Int.toNat 1) IntKind.u64.bits = 2 := rfl
      rw [e, Int.fdiv_eq_ediv_of_nonneg _ (by omega)]
      omega
    have w2 : IntKind.i64.wrap (((i + j) / 2 : Nat) : Int) = (((i + j) / 2 : Nat) : Int) := wrap_i64 (by omega)
    generalize hm : (i + j) / 2 = q at ha hp w1 w2
    (repeat' (with_reducible first|refine w_1 ?_|refine w_2 ?_|refine w_3 ?_|refine w_4 ?_|refine w_5 ?_|simp (maxDischargeDepth:=12) only [viz,↓reduceIte,Nat.reduceEqDiff,reduceCtorEq,g0,g1,g2,g9,g10,hlt,z1,w1,w2,hp,hld']))
    refine macmp_c (x := a) fun s2 h2k => ?_
    (repeat' (with_reducible first|refine w_2 ?_|refine w_4 ?_|(refine w_8 (fun hb=>?_) (fun hb=>?_)<;>(try simp only [Bool.not_eq_true',Bool.not_eq_false'] at hb)<;>try simp only [hb])|simp (maxDischargeDepth:=12) only [viz,↓reduceIte,Nat.reduceEqDiff,succ_cast (show q < 4611686018427387904 by omega),cmp_lt]))
    · refine ih (q + 1) j _ _ (by omega) (by omega) hj (hk.then h2k) (fun p b hp hpb => ?_) h2 (by simp only [Env.get_set, ↓reduceIte, Nat.reduceEqDiff, g0]) (by simp only [Env.get_set, ↓reduceIte, Nat.reduceEqDiff, g1]) (by simp only [Env.get_set, ↓reduceIte, Nat.reduceEqDiff, g2]) (by simp only [Env.get_set, ↓reduceIte, Nat.reduceEqDiff, g8]) (by simp only [Env.get_set, ↓reduceIte, Nat.reduceEqDiff]) (by simp only [Env.get_set, ↓reduceIte, Nat.reduceEqDiff, g10])
      by_cases hpq : p = q
      · rw [hpq, ha] at hpb; injection hpb with e; rw [← e]; exact hb
      · exact bl_trans (hs p q b a (by omega) hpb ha) hb
    · refine ih i q _ _ (by omega) (by omega) (by omega) (hk.then h2k) h1 (fun p b hp hpb => ?_) (by simp only [Env.get_set, ↓reduceIte, Nat.reduceEqDiff, g0]) (by simp only [Env.get_set, ↓reduceIte, Nat.reduceEqDiff, g1]) (by simp only [Env.get_set, ↓reduceIte, Nat.reduceEqDiff, g2]) (by simp only [Env.get_set, ↓reduceIte, Nat.reduceEqDiff, g8]) (by simp only [Env.get_set, ↓reduceIte, Nat.reduceEqDiff, g9]) (by simp only [Env.get_set, ↓reduceIte, Nat.reduceEqDiff])
      by_cases hpq : p = q
      · rw [hpq, ha] at hpb; injection hpb with e; rw [← e]; exact hb
      · cases hbk : bl b.key k with
        | false => rfl
        | true =>
          have h3 := bl_trans (hs q p a b (by omega) ha hpb) hbk
          have h4 : bl a.key k = false := hb
          rw [h4] at h3; cases h3
theorem masearch_c {l : List Mark} {k : Txt} {s : Mem} {v : AV} {D : Nat → Prop} {K : AV → Mem → Prop} (hI : In D s) (hv : Marks s D v l) (hlen : l.length < 5000) (hs : UpK Mark.key l)
    (hK : ∀ (i : Nat) s', i ≤ l.length → Keep s.next s s' → (∀ (j : Nat) (a : Mark), j < i → l[j]? = some a → bl a.key k = true) → (∀ (j : Nat) (a : Mark), i ≤ j → l[j]? = some a → bl a.key k = false) → K (.tup [.int .i64 i, .bool (atK Mark.key l i k)]) s') :
    C tab 143 [v, .str k, .fn 144 []] s K := by
  refine C_enter (cf := cf143) rfl (Nat.le_of_ble_eq_true rfl) ?_
  simp only [cf143, oo, on, om, og, oc, ou]
  have hln : lenA false v = some l.length := hv.lenB
  (repeat' (with_reducible first|refine w_1 ?_|refine w_2 ?_|refine w_3 ?_|simp (maxDischargeDepth:=12) only [viz,↓reduceIte,Nat.reduceEqDiff,reduceCtorEq,Nat.reduceAdd,hln]))
  refine masearch_l (k := k) hI hv hlen hs ?_ l.length 0 l.length _ s (by omega) (by omega) (by omega) (Keep.refl _ _) (fun p a h => by omega) (fun p a h ha => ?_) ?_ ?_ ?_ ?_ ?_ ?_
  · intro e' i s1 hi hk1 h1 h2 g0 g1 g2 g8 g9
    have hk := fun s2 (h : Keep s1.next s1 s2) => hK i s2 hi (hk1.then h) h1 h2
    by_cases hc : i < l.length
    · have hlt := lt_true hc
      obtain ⟨a, ha⟩ := get_of hc
      obtain ⟨p, hp, P, hld⟩ := hv.ldk hI ha rfl rfl
      have hld' := hld _ hk1
      simp only [markC] at hld'
      (repeat' (with_reducible first|refine w_1 ?_|refine w_2 ?_|((try refine w_9 ?_);simp (maxDischargeDepth:=12) only [viz,↓reduceIte,Nat.reduceEqDiff,reduceCtorEq,g0,g1,g2,g8,g9,hlt,hp,hld'])))
      refine macmp_c (x := a) fun s2 h2k => ?_
      (repeat' (with_reducible first|refine w_6 ?_|((try refine w_9 ?_);simp (maxDischargeDepth:=12) only [viz,↓reduceIte,Nat.reduceEqDiff,cmp_eq])))
      have e : atK Mark.key l i k = (a.key == k) := by simp [atK, ha]
      rw [e] at hk
      exact hk _ h2k
    · have hlt := lt_false hc
      (repeat' (with_reducible first|refine w_1 ?_|refine w_2 ?_|refine w_6 ?_|((try refine w_9 ?_);simp (maxDischargeDepth:=12) only [viz,↓reduceIte,Nat.reduceEqDiff,g8,g9,hlt])))
      have e : atK Mark.key l i k = false := by simp [atK, List.getElem?_eq_none (show l.length ≤ i by omega)]
      rw [e] at hk
      exact hk _ (Keep.refl _ _)
  · rw [List.getElem?_eq_none (by omega)] at ha; cases ha
  all_goals simp only [Env.get_set, ↓reduceIte, Nat.reduceEqDiff]
  all_goals rfl
end Go.Proofs.YthibbbfhkfebkaaGreat

