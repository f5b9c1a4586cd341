/- Keys handed over: the document's way. No statement of the seat is proved here. -/
import Derived.Test.YthibbbfhkfebkaaGreatVZMF
import Derived.Test.YthibbbfhkfebkaaGreatVZVE
namespace Go.Proofs.YthibbbfhkfebkaaGreat
open Go Go.VI
set_option linter.unusedSimpArgs false
attribute [local irreducible] Ws Wp W C
set_option maxHeartbeats 8000000
theorem rexport_c {t : Table} {w : TV} {plan : Int} {x : Span} {D : Nat → Prop} {s : Mem} {K : AV → Mem → Prop} (hf : s.floor ≤ s.next) (hI : In D s) (hw : TabIn s D w t) (hs : Small t)
    (hK : ∀ w' hv mv s', Keep s.next s s' → TabIn s' (fun r => D r ∨ (s.next ≤ r ∧ r < s'.next)) w' (expP t plan x).2.1 → Holds s' (fun r => s.next ≤ r ∧ r < s'.next) hv (expP t plan x).2.2.ho → Marks s' (fun r => s.next ≤ r ∧ r < s'.next) mv (expP t plan x).2.2.ma →
      K (.tup [.agg (tabC (expP t plan x).2.1 w'), .agg (parC (expP t plan x).2.2 hv mv), .int .i64 (expP t plan x).1]) s') : C tab 18 [.agg (tabC t w), .int .u64 plan, .agg (spanC x)] s K := by
  refine C_enter (cf := cf18) rfl (Nat.le_of_ble_eq_true rfl) ?_
  simp only [cf18, oo, on, om, og, oc, ou, tabC, spanC]
  have hz : ∀ M e R Q S, Keep s.next s M → expP t plan x = (e, zeroT, zeroP) → K (.tup [.agg [.int .i64 0, .nilS, .nilS, .nilS, .nilS, .nilS], .agg [.int .u64 0, .str [], .str [], .nilS, .nilS], .int .i64 e]) ((((M.put (s.next + 1 + 1 + 1 + 1) none).put (s.next + 1 + 1) R).put (s.next + 1 + 1 + 1 + 1) Q).put (s.next + 1 + 1 + 1) S) := fun M e R Q S hM h => by
    rw [h] at hK
    exact hK zeroW .nilS .nilS _ ((((hM.trans (Keep.put (by omega) _)).trans (Keep.put (by omega) _)).trans (Keep.put (by omega) _)).trans (Keep.put (by omega) _)) (zero_in _ _) (Sl.nil _ _ _) (Sl.nil _ _ _)
  have r0 := R5.of_push s ⟨27, 6, [[.int .i64 t.now, w.sp, w.fr, w.ho, w.ma, w.it]]⟩ ⟨47, 2, [[.str x.frm, .str x.to]]⟩ ⟨27, 6, [[.int .i64 0, .nilS, .nilS, .nilS, .nilS, .nilS]]⟩ ⟨49, 5, [[.int .u64 0, .str [], .str [], .nilS, .nilS]]⟩ ⟨49, 5, [[.int .u64 0, .str [], .str [], .nilS, .nilS]]⟩
  have k0 := (pushes s ⟨27, 6, [[.int .i64 t.now, w.sp, w.fr, w.ho, w.ma, w.it]]⟩).then ((pushes _ ⟨47, 2, [[.str x.frm, .str x.to]]⟩).then ((pushes _ ⟨27, 6, [[.int .i64 0, .nilS, .nilS, .nilS, .nilS, .nilS]]⟩).then ((pushes _ ⟨49, 5, [[.int .u64 0, .str [], .str [], .nilS, .nilS]]⟩).then (pushes _ ⟨49, 5, [[.int .u64 0, .str [], .str [], .nilS, .nilS]]⟩))))
  have hf4 : (s.floor ≤ s.next + 1 + 1 + 1 + 1) = True := by simp; omega
  (repeat' (with_reducible first|refine w_1 ?_|refine w_2 ?_|simp (maxDischargeDepth:=12) only [viz,↓reduceIte,Nat.reduceEqDiff,Nat.reduceAdd,hw.sp.cell,hw.fr.cell,hw.ho.cell,hw.ma.cell,hw.it.cell,hf4]))
  generalize ((((s.push _).push _).push _).push _).push _ = S0 at *
  (repeat' with_reducible simp (maxDischargeDepth:=12) only [viz,↓reduceIte,Nat.reduceEqDiff,reduceCtorEq,Int.reduceEq,Int.reduceNeg,Nat.reduceAdd,Nat.reduceLeDiff,r0.a])
  refine rMay_c (D := D) (k0.ok hf) (hI.keep k0) (hw.keep fun r hr => k0.get r (hI r hr)) hs fun s1 h1 => ?_
  have r1 := r0.then h1
  have k1 := k0.then h1
  have f1 : s1.floor ≤ s.next + 1 + 1 := by rw [k1.floor]; omega
  have f1b : s1.floor ≤ s.next + 1 + 1 + 1 := by omega
  have x1 : (s.next + 1 + 1 + 1 + 1 = s.next + 1 + 1) = False := by simp <;> omega
  have x2 : (s.next + 1 + 1 = s.next + 1 + 1 + 1 + 1) = False := by simp <;> omega
  have x3 : (s.next + 1 + 1 + 1 = s.next + 1 + 1) = False := by simp <;> omega
  have x4 : (s.next + 1 + 1 = s.next + 1 + 1 + 1) = False := by simp <;> omega
  have x5 : (s.next + 1 + 1 + 1 = s.next + 1 + 1 + 1 + 1) = False := by simp <;> omega
  have x6 : (s.next + 1 + 1 + 1 + 1 = s.next + 1 + 1 + 1) = False := by simp <;> omega
  (repeat' (with_reducible first|refine w_1 ?_|refine w_2 ?_|refine w_4 ?_|refine w_6 ?_|(refine w_8 (fun hb=>?_) (fun hb=>?_)<;>(try simp only [Bool.not_eq_true',Bool.not_eq_false'] at hb)<;>try simp only [hb])|refine w_13 (fun hc=>(by (try simp only [Bool.and_eq_true] at hc);simp (maxDischargeDepth:=12) only [viz,↓reduceIte,Nat.reduceEqDiff,r1.b,cond_false,hc];first|exact ⟨rfl,rfl⟩|exact rfl)) ?_|refine w_12 ?_|((try refine w_9 ?_);simp (maxDischargeDepth:=12) only [viz,↓reduceIte,Nat.reduceEqDiff,Nat.reduceAdd,r1.c,r1.e,r1.f,f1,f1b,x2,x3,x4,x5])))
  case' _ => skip
  · refine rmayS_c (x := x) fun s2 h2 => ?_
    have r2 := r1.then h2
    have k2 := k1.then h2
    have f2 : s2.floor ≤ s.next + 1 + 1 := by rw [k2.floor]; omega
    have f2b : s2.floor ≤ s.next + 1 + 1 + 1 := by omega
    (repeat' (with_reducible first|refine w_1 ?_|refine w_2 ?_|refine w_4 ?_|refine w_5 ?_|refine w_6 ?_|(refine w_8 (fun hb=>?_) (fun hb=>?_)<;>(try simp only [Bool.not_eq_true',Bool.not_eq_false'] at hb)<;>try simp only [hb])|((try refine w_9 ?_);simp (maxDischargeDepth:=12) only [viz,↓reduceIte,Nat.reduceEqDiff,Nat.reduceAdd,r2.a,r2.b,r2.c,r2.e,r2.f,f2,f2b,x2,x3,x4,x5])))
    · refine hz _ _ _ _ _ k2 ?_
      unfold expP
      rw [if_pos (by grind)]
    have hmt : mayT t = true := by grind
    have hmx : mayS x = true := by grind
    obtain ⟨fo1, fo2⟩ := may_form hmt
    obtain ⟨n0, n1, hoo, mao⟩ := may_parts hmt
    obtain ⟨kh, km, ki⟩ := may_keys hmt
    have hx0 : (mayT t && mayS x) = true := by rw [hmt, hmx]; rfl
    refine rcovers_c (x := x) (D := D) (k2.ok hf) (hI.keep k2) (hw.sp.keep fun r hr => k2.get r (hI r hr)) hs.sp fun s3 h3 => ?_
    rw [← covers_same fo1 hmx]
    have r3 := r2.then h3
    have k3 := k2.then h3
    have f3 : s3.floor ≤ s.next + 1 + 1 := by rw [k3.floor]; omega
    have f3b : s3.floor ≤ s.next + 1 + 1 + 1 := by omega
    (repeat' (with_reducible first|refine w_1 ?_|refine w_2 ?_|refine w_4 ?_|refine w_5 ?_|refine w_6 ?_|(refine w_8 (fun hb=>?_) (fun hb=>?_)<;>(try simp only [Bool.not_eq_true',Bool.not_eq_false'] at hb)<;>try simp only [hb])|simp (maxDischargeDepth:=12) only [viz,↓reduceIte,Nat.reduceEqDiff,Nat.reduceAdd,r3.a,r3.b,r3.c,r3.e,r3.f,f3,f3b,x2,x3,x4,x5]))
    · refine hz _ _ _ _ _ k3 ?_
      unfold expP
      rw [if_neg (by rw [hx0]; simp), if_pos (by simpa using hb)]
    have hcv : coversS t.spans x = true := by simpa using hb
    refine rcovers_c (x := x) (D := D) (k3.ok hf) (hI.keep k3) (hw.fr.keep fun r hr => k3.get r (hI r hr)) hs.fr fun s4 h4 => ?_
    rw [← covers_same fo2 hmx]
    have r4 := r3.then h4
    have k4 := k3.then h4
    have f4 : s4.floor ≤ s.next + 1 + 1 := by rw [k4.floor]; omega
    have f4b : s4.floor ≤ s.next + 1 + 1 + 1 := by omega
    (repeat' (with_reducible first|refine w_1 ?_|refine w_2 ?_|refine w_3 ?_|refine w_4 ?_|refine w_5 ?_|refine w_6 ?_|(refine w_8 (fun hb=>?_) (fun hb=>?_)<;>(try simp only [Bool.not_eq_true',Bool.not_eq_false'] at hb)<;>try simp only [hb])|simp (maxDischargeDepth:=12) only [viz,↓reduceIte,Nat.reduceEqDiff,Nat.reduceAdd,r4.c,r4.e,r4.f,f4,f4b,x2,x3,x4,x5]))
    · refine hz _ _ _ _ _ k4 ?_
      unfold expP
      have : coversS t.frozen x = false := by assumption
      rw [if_neg (by rw [hx0]; simp), if_neg (by rw [hcv]; simp), if_pos (by rw [this, Bool.false_and])]
    have hcf : coversS t.frozen x = true := by assumption
    have lI : lenA false w.it = some t.ints.length := hw.it.lenB
    have lH : lenA false w.ho = some t.holds.length := hw.ho.lenB
    have lM : lenA false w.ma = some t.marks.length := hw.ma.lenB
    have sI := hs.it
    have sH := hs.ho
    have sM := hs.ma
    refine W_inv t.ints.length (fun i E s' => Keep s4.next s4 s' ∧ E.get 1 = .int .u64 plan ∧ E.get 3 = .ptr s.next 0 0 ∧ E.get 5 = .ptr (s.next + 1) 0 0 ∧ E.get 6 = .ptr (s.next + 1 + 1) 0 0 ∧ E.get 7 = .ptr (s.next + 1 + 1 + 1) 0 0 ∧ E.get 9 = .ptr (s.next + 1 + 1 + 1 + 1) 0 0 ∧ E.get 10 = .int .i64 i ∧ ∀ (j : Nat) (y : Intent), j < i → t.ints[j]? = some y → hasS x y.key = false) (by delta cf18l0 oo on om og oc ou; exact rfl) ?_ ?_
    · refine ⟨Keep.refl _ _, (by simp only [ev, Env.get_set, ↓reduceIte, Nat.reduceEqDiff]), (by simp only [ev, Env.get_set, ↓reduceIte, Nat.reduceEqDiff]), (by simp only [ev, Env.get_set, ↓reduceIte, Nat.reduceEqDiff]), (by simp only [ev, Env.get_set, ↓reduceIte, Nat.reduceEqDiff]), (by simp only [ev, Env.get_set, ↓reduceIte, Nat.reduceEqDiff]), (by simp only [ev, Env.get_set, ↓reduceIte, Nat.reduceEqDiff]), ?_, by omega⟩
      simp only [ev, Env.get_set, ↓reduceIte, Nat.reduceEqDiff]; rfl
    rintro i E s5 hile _ ⟨h5, g1, g3, g5, g6, g7, g9, g10, hno⟩
    have r5 := r4.then h5
    have k5 := k4.then h5
    have f5 : s5.floor ≤ s.next + 1 + 1 := by rw [k5.floor]; omega
    have f5b : s5.floor ≤ s.next + 1 + 1 + 1 := by omega
    by_cases hlt : i < t.ints.length
    · obtain ⟨y, hy⟩ := get_of hlt
      obtain ⟨q, hq, P, _⟩ := hw.it.ldk hI hy rfl rfl
      have l0 : ∀ M, Keep s.next s M → loadA M false 1 (VI.adr q 0) = some (.str y.key) := fun M hM => by
        have := P.ldf _ hM 0 false 1 (by simp [intC])
        rw [this]; rfl
      (repeat' (with_reducible first|refine w_1 ?_|refine w_2 ?_|refine w_3 ?_|refine w_4 ?_|refine w_5 ?_|simp (maxDischargeDepth:=12) only [viz,↓reduceIte,Nat.reduceEqDiff,Nat.reduceAdd,g3,g5,g10,r5.a,r5.b,lI,lt_true hlt,hq,P.adr,l0 _ k5]))
      refine rhas_c (x := x) fun s6 h6 => ?_
      have r6 := r5.then h6
      have k6 := k5.then h6
      have f6 : s6.floor ≤ s.next + 1 + 1 := by rw [k6.floor]; omega
      have f6b : s6.floor ≤ s.next + 1 + 1 + 1 := by omega
      (repeat' (with_reducible first|refine w_1 ?_|refine w_2 ?_|refine w_4 ?_|refine w_5 ?_|refine w_6 ?_|(refine w_8 (fun hb=>?_) (fun hb=>?_)<;>(try simp only [Bool.not_eq_true',Bool.not_eq_false'] at hb)<;>try simp only [hb])|simp (maxDischargeDepth:=12) only [viz,↓reduceIte,Nat.reduceEqDiff,Nat.reduceAdd,g1,g3,g5,g6,g7,g9,g10,r6.c,r6.e,r6.f,f6,f6b,x2,x3,x4,x5]))
      · refine hz _ _ _ _ _ k6 ?_
        have : (t.ints.any fun i => hasP x i.key) = true := List.any_eq_true.mpr ⟨y, List.mem_of_getElem? hy, by rw [hasP_S hmx (ki y (List.mem_of_getElem? hy))]; assumption⟩
        unfold expP
        rw [if_neg (by rw [hx0]; simp), if_neg (by rw [hcv]; simp), if_pos (by rw [this]; simp)]
      · refine ⟨hlt, h5.then h6, succ_av (by omega), fun j z hj hz' => ?_⟩
        by_cases hji : j = i
        · rw [hji, hy] at hz'; obtain rfl := Option.some.inj hz'; assumption
        · exact hno j z (by omega) hz'
    have hmid : (coversS t.frozen x && !(t.ints.any fun i => hasP x i.key)) = true := by
      rw [hcf, any_front hlt fun j y hj hy => by rw [hasP_S hmx (ki y (List.mem_of_getElem? hy))]; exact hno j y hj hy]; rfl
    have hF : ∀ y ∈ t.holds, hasP x y.key = hasS x y.key := fun y hy => hasP_S hmx (kh y hy)
    have hG : ∀ y ∈ t.marks, hasP x y.key = hasS x y.key := fun y hy => hasP_S hmx (km y hy)
    have n5 := r5.n
    have f55 : s5.floor ≤ s5.next := k5.ok hf
    have y1 : (s.next + 1 = s5.next) = False := by simp; omega
    (repeat' (with_reducible first|refine w_1 ?_|refine w_2 ?_|refine w_3 ?_|refine w_4 ?_|refine w_7 ?_|simp (maxDischargeDepth:=12) only [viz,↓reduceIte,Nat.reduceEqDiff,Nat.reduceAdd,g1,g3,g5,g10,r5.a,r5.b,lI,lt_false hlt,f55]))
    have hkd : ∃ kept : Nat → List (List AV), kept = fun i => ((t.holds.take i).filter fun h => !hasS x h.key).map holdC := ⟨_, rfl⟩
    obtain ⟨kept, hkd⟩ := hkd
    have had : ∃ acc : Nat → List (List AV), acc = fun i => (((t.holds.take i).filter fun h => hasS x h.key).map (tillG (packG t.now))).map holdC := ⟨_, rfl⟩
    obtain ⟨acc, had⟩ := had
    have hkept : ∀ i y, t.holds[i]? = some y → kept (i + 1) = kept i ++ if !hasS x y.key then [holdC y] else [] := fun i y hy => by
      rw [hkd]; simp only
      rw [filt_next (p := fun h : Hold => !hasS x h.key) hy, List.map_append]
      congr 1; split <;> rfl
    have hacc : ∀ i y, t.holds[i]? = some y → acc (i + 1) = acc i ++ if hasS x y.key then [holdC (tillG (packG t.now) y)] else [] := fun i y hy => by
      rw [had]; simp only
      rw [filt_next (p := fun h : Hold => hasS x h.key) hy, List.map_append, List.map_append]
      congr 1; split <;> rfl
    have hkl : ∀ i, (kept i).length ≤ t.holds.length := fun i => by
      rw [hkd]; simp only [List.length_map]
      have := List.length_filter_le (fun h : Hold => !hasS x h.key) (t.holds.take i)
      rw [List.length_take] at this; omega
    have hal : ∀ i, (acc i).length ≤ t.holds.length := fun i => by
      rw [had]; simp only [List.length_map]
      have := List.length_filter_le (fun h : Hold => hasS x h.key) (t.holds.take i)
      rw [List.length_take] at this; omega
    have hk00 : kept 0 = [] ∧ acc 0 = [] := by rw [hkd, had]; exact ⟨rfl, rfl⟩
    have hm0 : ExpM s5.next (rowHP plan x) 58 3 (kept 0) (acc 0) .emp .nilS (((s5.push ⟨49, 5, [[.int .u64 plan, .str x.frm, .str x.to, .nilS, .nilS]]⟩).push ⟨58, 3, []⟩).push ⟨68, 2, []⟩) := by
      rw [hk00.1, hk00.2]
      refine ⟨?_, OwnL.emp _ _ _ _, OwnL.nil _ _ _ _, fun p i n z _ _ _ h => by (cases h), by simp only [next_push']; omega, by simp only [floor_push']; omega⟩
      simp only [Mem.get_push, next_push']
      rw [if_neg (by omega), if_neg (by omega), if_pos trivial]; rfl
    have kp6 : Keep s5.next s5 (((s5.push ⟨49, 5, [[.int .u64 plan, .str x.frm, .str x.to, .nilS, .nilS]]⟩).push ⟨58, 3, []⟩).push ⟨68, 2, []⟩) := (pushes s5 _).then ((pushes _ _).then (pushes _ _))
    have np6 : s5.next < (((s5.push ⟨49, 5, [[.int .u64 plan, .str x.frm, .str x.to, .nilS, .nilS]]⟩).push ⟨58, 3, []⟩).push ⟨68, 2, []⟩).next := by simp only [next_push']; omega
    generalize ((s5.push _).push _).push _ = S6 at *
    refine W_inv t.holds.length (fun i E s' => ∃ w12 lv, Keep s5.next s5 s' ∧ ExpM s5.next (rowHP plan x) 58 3 (kept i) (acc i) w12 lv s' ∧ E.get 3 = .ptr s.next 0 0 ∧ E.get 5 = .ptr (s.next + 1) 0 0 ∧ E.get 6 = .ptr (s.next + 1 + 1) 0 0 ∧ E.get 7 = .ptr (s.next + 1 + 1 + 1) 0 0 ∧ E.get 9 = .ptr (s.next + 1 + 1 + 1 + 1) 0 0 ∧ E.get 11 = .ptr s5.next 0 0 ∧ E.get 12 = w12 ∧ E.get 13 = .emp ∧ E.get 14 = .int .i64 i) (by delta cf18l1 oo on om og oc ou; exact rfl) ?_ ?_
    · refine ⟨.emp, .nilS, kp6, hm0, ?_, ?_, ?_, ?_, ?_, ?_, ?_, ?_, ?_⟩
      all_goals simp only [ev, Env.get_set, ↓reduceIte, Nat.reduceEqDiff, g3, g5, g6, g7, g9]
      all_goals rfl
    clear g1 g3 g5 g6 g7 g9 g10 hno hlt hile
    rintro i E s' hile _ ⟨w12, lv, hk, hm, g3, g5, g6, g7, g9, g11, g12, g13, g14⟩
    have r' := r5.low hk (by omega)
    have k' := k5.then hk
    by_cases hlt : i < t.holds.length
    · obtain ⟨y, hy⟩ := get_of hlt
      obtain ⟨q, hq, P, hld⟩ := hw.ho.ldk hI hy rfl rfl
      have hld' := hld _ k'
      simp only [holdC] at hld'
      have hfl := k'.ok hf
      have y2 : (s.next = s'.next) = False := by have := r'.n; simp; omega
      have y3 : (s.next + 1 = s'.next) = False := by have := r'.n; simp; omega
      (repeat' (with_reducible first|refine w_1 ?_|refine w_2 ?_|refine w_3 ?_|refine w_4 ?_|refine w_5 ?_|simp (maxDischargeDepth:=12) only [viz,↓reduceIte,Nat.reduceEqDiff,Nat.reduceAdd,g3,g5,g14,r'.a,r'.b,lH,lt_true hlt,hq,hld',hfl,y3]))
      refine rhas_c (x := x) fun s7 h7 => ?_
      have q7 := (Kp.of_push s' ⟨58, 3, [[.str y.key, .int .u64 y.token, .int .i64 y.till]]⟩).then h7
      have r7 := r'.then q7.k
      have k7 := hk.then q7.k
      have m7 := hm.keep q7.k
      have gy7 := q7.g
      have gp7 := m7.g
      have nm := hm.n
      have n7' := q7.n
      have nw : ∀ a b c, w12 ≠ .own s'.next a b c := fun a b c e => by have := (hm.o6.row _ a b c e).2; omega
      have nl : ∀ a b c, lv ≠ .own s'.next a b c := fun a b c e => by have := (hm.o7.row _ a b c e).2; omega
      have f7p := m7.f
      have f7 : s7.floor ≤ s'.next := by omega
      have hy64 := hkl i
      have hya := hal i
      have z1 : (s'.next = s5.next) = False := by simp; omega
      have z2 : (s.next = s'.next) = False := y2
      have z3 : (s5.next = s'.next) = False := by simp; omega
      cases hyk : hasS x y.key
      · (repeat' (with_reducible first|refine w_1 ?_|refine w_2 ?_|refine w_4 ?_|simp (maxDischargeDepth:=12) only [viz,↓reduceIte,Nat.reduceEqDiff,Nat.reduceAdd,g12,gy7]))
        refine app_lit (v := w12) (k := 1) (b := s5.next + 1) (xs := kept i) (ys := [holdC y]) (s := s7) (by omega) (by omega) m7.o6 (by simp only [ev, Env.get_set, ↓reduceIte, Nat.reduceEqDiff]) (by simp only [ev, Env.get_set, ↓reduceIte, Nat.reduceEqDiff]) rfl rfl (room (by simp; omega) (by simp; omega)) ?_
        intro v8 s8 ho8 hx8 hfr8 _
        have m8 := m7.lo ho8 hx8 hfr8
        (repeat' (with_reducible first|refine w_2 ?_|refine w_7 ?_|simp (maxDischargeDepth:=12) only [viz,↓reduceIte,Nat.reduceEqDiff,g3,g5,g6,g7,g9,g11,g13,g14]))
        refine ⟨hlt, v8, lv, k7.trans ((m7.frame6 hx8).le (by omega)), ?_, rfl, succ_av (by omega)⟩
        rw [hkept i y hy, hacc i y hy]
        simp only [hyk, Bool.false_eq_true, if_false, Bool.not_false, if_true, List.append_nil]
        exact m8
      have hty := hold_may hoo y (List.mem_of_getElem? hy)
      simp only [mayH, Bool.and_eq_true, decide_eq_true_eq] at hty
      have w1 : IntKind.i64.wrap (y.till - t.now) = y.till - t.now := wrap_i64 (by omega)
      simp only [rowHP] at gp7
      by_cases hneg : y.till - t.now < 0
      · have eneg : decide (y.till - t.now < 0) = true := by simp; exact hneg
        have emx : max 0 (y.till - t.now) = 0 := by omega
        (repeat' (with_reducible first|refine w_1 ?_|refine w_2 ?_|refine w_4 ?_|refine w_5 ?_|simp (maxDischargeDepth:=12) only [viz,↓reduceIte,Nat.reduceEqDiff,Nat.reduceAdd,g3,g11,r7.a,gy7,gp7,f7,w1,eneg]))
        generalize hN : Mem.put _ _ _ = N
        have hNn : N.next = s7.next := by rw [← hN]; rfl
        have hNf : N.floor = s7.floor := by rw [← hN]; rfl
        have hNg : ∀ q, q ≠ s'.next → N.get q = s7.get q := fun q h => by rw [← hN]; simp only [Mem.get_put, if_neg h]
        have hNy : N.get s'.next = some ⟨58, 3, [holdC (tillG (packG t.now) y)]⟩ := by
          rw [← hN]; simp only [Mem.get_put, if_pos]
          simp only [holdC, tillG, packG, emx]
        have mN : ExpM s5.next (rowHP plan x) 58 3 (kept i) (acc i) w12 lv N := by rw [← hN]; exact (m7.put (by omega) nw nl _).put (by omega) nw nl _
        clear hN
        have gpN := mN.g
        simp only [rowHP, holdC] at gpN hNy
        have cN := own_cell mN.o7
        have fN : N.floor ≤ s5.next := mN.f
        (repeat' with_reducible simp (maxDischargeDepth:=12) only [viz,↓reduceIte,Nat.reduceAdd,hNy,z3])
        refine app_lit (v := lv) (k := 1) (b := s5.next + 1) (xs := acc i) (ys := [holdC (tillG (packG t.now) y)]) (s := N) (by omega) (by have := mN.n; omega) mN.o7 (by simp only [ev, Env.get_set, ↓reduceIte, Nat.reduceEqDiff]) (by simp only [ev, Env.get_set, ↓reduceIte, Nat.reduceEqDiff]) rfl rfl (room (by simp; omega) (by simp; omega)) ?_
        intro v8 s8 ho8 hx8 hfr8 _
        have m8 := mN.hi ho8 hx8 hfr8
        have g8 := (hx8.get s5.next mN.n fun a b c e => by have := (mN.o7.row _ a b c e).1; omega).trans gpN
        have c8 := own_cell ho8
        have f8 : s8.floor ≤ s5.next := by rw [hx8.floor]; exact fN
        simp only [rowHP] at m8
        (repeat' (with_reducible first|refine w_2 ?_|simp (maxDischargeDepth:=12) only [viz,↓reduceIte,Nat.reduceEqDiff,Nat.reduceAdd,g3,g5,g6,g7,g9,g11,g12,g13,g14,g8,c8,cells_cell c8,f8]))
        refine ⟨hlt, w12, v8, ?_, ?_, rfl, succ_av (by omega)⟩
        · refine ⟨by rw [next_put']; have := hx8.next; omega, by rw [floor_put', hx8.floor, hNf]; exact k7.floor, fun q hq => ?_⟩
          rw [Mem.get_put, if_neg (by omega), hx8.get q (by omega) fun a b c e => by have := (mN.o7.row _ a b c e).1; omega, hNg q (by omega)]
          exact k7.get q hq
        · rw [hkept i y hy, hacc i y hy]
          simp only [hyk, if_true, Bool.not_true, Bool.false_eq_true, if_false, List.append_nil]
          exact m8
      · have eneg : decide (y.till - t.now < 0) = false := by simp; omega
        have emx : max 0 (y.till - t.now) = y.till - t.now := by omega
        (repeat' (with_reducible first|refine w_1 ?_|refine w_2 ?_|refine w_4 ?_|refine w_5 ?_|simp (maxDischargeDepth:=12) only [viz,↓reduceIte,Nat.reduceEqDiff,Nat.reduceAdd,g3,g11,r7.a,gy7,gp7,f7,w1,eneg]))
        generalize hN : Mem.put _ _ _ = N
        have hNn : N.next = s7.next := by rw [← hN]; rfl
        have hNf : N.floor = s7.floor := by rw [← hN]; rfl
        have hNg : ∀ q, q ≠ s'.next → N.get q = s7.get q := fun q h => by rw [← hN]; simp only [Mem.get_put, if_neg h]
        have hNy : N.get s'.next = some ⟨58, 3, [holdC (tillG (packG t.now) y)]⟩ := by
          rw [← hN]; simp only [Mem.get_put, if_pos]
          simp only [holdC, tillG, packG, emx]
        have mN : ExpM s5.next (rowHP plan x) 58 3 (kept i) (acc i) w12 lv N := by rw [← hN]; exact m7.put (by omega) nw nl _
        clear hN
        have gpN := mN.g
        simp only [rowHP, holdC] at gpN hNy
        have cN := own_cell mN.o7
        have fN : N.floor ≤ s5.next := mN.f
        (repeat' with_reducible simp (maxDischargeDepth:=12) only [viz,↓reduceIte,Nat.reduceAdd,hNy,z3])
        refine app_lit (v := lv) (k := 1) (b := s5.next + 1) (xs := acc i) (ys := [holdC (tillG (packG t.now) y)]) (s := N) (by omega) (by have := mN.n; omega) mN.o7 (by simp only [ev, Env.get_set, ↓reduceIte, Nat.reduceEqDiff]) (by simp only [ev, Env.get_set, ↓reduceIte, Nat.reduceEqDiff]) rfl rfl (room (by simp; omega) (by simp; omega)) ?_
        intro v8 s8 ho8 hx8 hfr8 _
        have m8 := mN.hi ho8 hx8 hfr8
        have g8 := (hx8.get s5.next mN.n fun a b c e => by have := (mN.o7.row _ a b c e).1; omega).trans gpN
        have c8 := own_cell ho8
        have f8 : s8.floor ≤ s5.next := by rw [hx8.floor]; exact fN
        simp only [rowHP] at m8
        (repeat' (with_reducible first|refine w_2 ?_|simp (maxDischargeDepth:=12) only [viz,↓reduceIte,Nat.reduceEqDiff,Nat.reduceAdd,g3,g5,g6,g7,g9,g11,g12,g13,g14,g8,c8,cells_cell c8,f8]))
        refine ⟨hlt, w12, v8, ?_, ?_, rfl, succ_av (by omega)⟩
        · refine ⟨by rw [next_put']; have := hx8.next; omega, by rw [floor_put', hx8.floor, hNf]; exact k7.floor, fun q hq => ?_⟩
          rw [Mem.get_put, if_neg (by omega), hx8.get q (by omega) fun a b c e => by have := (mN.o7.row _ a b c e).1; omega, hNg q (by omega)]
          exact k7.get q hq
        · rw [hkept i y hy, hacc i y hy]
          simp only [hyk, if_true, Bool.not_true, Bool.false_eq_true, if_false, List.append_nil]
          exact m8
    · (repeat' (with_reducible first|refine w_1 ?_|refine w_2 ?_|refine w_3 ?_|refine w_4 ?_|refine w_7 ?_|simp (maxDischargeDepth:=12) only [viz,↓reduceIte,Nat.reduceEqDiff,Nat.reduceAdd,g3,g14,r'.a,lH,lt_false hlt]))
      have hfull : t.holds.take i = t.holds := List.take_of_length_le (by omega)
      have ek : kept i = (t.holds.filter fun h => !hasS x h.key).map holdC := by rw [hkd]; simp only [hfull]
      have ea : acc i = ((t.holds.filter fun h => hasS x h.key).map (tillG (packG t.now))).map holdC := by rw [had]; simp only [hfull]
      rw [ek, ea] at hm
      clear hkept hacc hkl hal hk00 hm0 kp6 np6 hkd had ek ea
      have n8 := hm.n
      have e12 := hm.o6.sl (D := fun q => s5.next + 1 ≤ q ∧ q < s'.next) (hold_cells _) fun r n e => hm.o6.row r 0 n 3 e
      have ehv := hm.o7.sl (D := fun q => s5.next + 1 ≤ q ∧ q < s'.next) (hold_cells _) fun r n e => hm.o7.row r 0 n 3 e
      have hgp := hm.g
      have hfp := hm.f
      generalize lv = hv at *
      have hkd : ∃ kept : Nat → List (List AV), kept = fun i => ((t.marks.take i).filter fun h => !hasS x h.key).map markC := ⟨_, rfl⟩
      obtain ⟨kept, hkd⟩ := hkd
      have had : ∃ acc : Nat → List (List AV), acc = fun i => ((t.marks.take i).filter fun h => hasS x h.key).map markC := ⟨_, rfl⟩
      obtain ⟨acc, had⟩ := had
      have hkept : ∀ i y, t.marks[i]? = some y → kept (i + 1) = kept i ++ if !hasS x y.key then [markC y] else [] := fun i y hy => by
        rw [hkd]; simp only
        rw [filt_next (p := fun h : Mark => !hasS x h.key) hy, List.map_append]
        congr 1; split <;> rfl
      have hacc : ∀ i y, t.marks[i]? = some y → acc (i + 1) = acc i ++ if hasS x y.key then [markC y] else [] := fun i y hy => by
        rw [had]; simp only
        rw [filt_next (p := fun h : Mark => hasS x h.key) hy, List.map_append]
        congr 1; split <;> rfl
      have hkl : ∀ i, (kept i).length ≤ t.marks.length := fun i => by
        rw [hkd]; simp only [List.length_map]
        have := List.length_filter_le (fun h : Mark => !hasS x h.key) (t.marks.take i)
        rw [List.length_take] at this; omega
      have hal : ∀ i, (acc i).length ≤ t.marks.length := fun i => by
        rw [had]; simp only [List.length_map]
        have := List.length_filter_le (fun h : Mark => hasS x h.key) (t.marks.take i)
        rw [List.length_take] at this; omega
      have hk00 : kept 0 = [] ∧ acc 0 = [] := by rw [hkd, had]; exact ⟨rfl, rfl⟩
      have hm0 : ExpM s5.next (rowP plan x hv) 68 2 (kept 0) (acc 0) .emp .nilS s' := by
        rw [hk00.1, hk00.2]
        exact ⟨hgp, OwnL.emp _ _ _ _, OwnL.nil _ _ _ _, fun p i n z _ _ _ h => by (cases h), n8, hfp⟩
      refine W_inv t.marks.length (fun i E s9 => ∃ w13 lv, (s'.next ≤ s9.next ∧ s9.floor = s'.floor ∧ ∀ q, q < s'.next → q ≠ s5.next → s9.get q = s'.get q) ∧ ((∀ r a b c, w13 = .own r a b c → s'.next ≤ r) ∧ ∀ r a b c, lv = .own r a b c → s'.next ≤ r) ∧ ExpM s5.next (rowP plan x hv) 68 2 (kept i) (acc i) w13 lv s9 ∧ E.get 3 = .ptr s.next 0 0 ∧ E.get 5 = .ptr (s.next + 1) 0 0 ∧ E.get 6 = .ptr (s.next + 1 + 1) 0 0 ∧ E.get 7 = .ptr (s.next + 1 + 1 + 1) 0 0 ∧ E.get 9 = .ptr (s.next + 1 + 1 + 1 + 1) 0 0 ∧ E.get 11 = .ptr s5.next 0 0 ∧ E.get 12 = w12 ∧ E.get 13 = w13 ∧ E.get 16 = .int .i64 i) (by delta cf18l2 oo on om og oc ou; exact rfl) ?_ ?_
      · refine ⟨.emp, .nilS, ⟨Nat.le_refl _, rfl, fun _ _ _ => rfl⟩, ⟨fun r a b c h => by (cases h), fun r a b c h => by (cases h)⟩, hm0, ?_, ?_, ?_, ?_, ?_, ?_, ?_, ?_, ?_⟩
        all_goals simp only [ev, Env.get_set, ↓reduceIte, Nat.reduceEqDiff, g3, g5, g6, g7, g9, g11, g12, g13]
        all_goals rfl
      clear g3 g5 g6 g7 g9 g11 g12 g13 g14 hlt hile hfull
      rintro i E s9 hile _ ⟨w13, lv, ⟨ha1, ha2, ha3⟩, ⟨hb1, hb2⟩, hm9, g3, g5, g6, g7, g9, g11, g12, g13, g16⟩
      have low9 : ∀ q, q < s5.next → s9.get q = s5.get q := fun q hq => by rw [ha3 q (by omega) (by omega)]; exact hk.get q hq
      have k59 : Keep s5.next s5 s9 := ⟨by omega, by rw [ha2]; exact hk.floor, low9⟩
      have r9 := r5.low k59 (by omega)
      have k9 := k5.then k59
      have f99 := k9.ok hf
      by_cases hlt : i < t.marks.length
      · obtain ⟨y, hy⟩ := get_of hlt
        obtain ⟨q, hq, P, hld⟩ := hw.ma.ldk hI hy rfl rfl
        have l0 : ∀ M, Keep s.next s M → loadA M false 1 (VI.adr q 0) = some (.str y.key) := fun M hM => by
          have := P.ldf _ hM 0 false 1 (by simp [markC])
          rw [this]; rfl
        (repeat' (with_reducible first|refine w_1 ?_|refine w_2 ?_|refine w_3 ?_|refine w_4 ?_|refine w_5 ?_|simp (maxDischargeDepth:=12) only [viz,↓reduceIte,Nat.reduceEqDiff,Nat.reduceAdd,g3,g5,g16,r9.a,r9.b,lM,lt_true hlt,hq,P.adr,l0 _ k9]))
        refine rhas_c (x := x) fun s10 h10 => ?_
        have r10 := r9.then h10
        have k10 := k9.then h10
        have m10 := hm9.keep h10
        have hld' := hld _ k10
        have gp10 := m10.g
        have c10 := own_cell m10.o7
        have n10 := h10.next
        have f10 := m10.f
        have f10' : s10.floor ≤ s10.next := k10.ok hf
        have hy64 := hkl i
        have hya := hal i
        have nm := hm9.n
        have z3 : (s5.next = s10.next) = False := by simp; omega
        have z4 : (s.next = s10.next) = False := by have := r10.n; simp; omega
        simp only [markC] at hld'
        simp only [rowP] at gp10
        have hp10 := pushes s10 ⟨68, 2, [markC y]⟩
        cases hyk : hasS x y.key
        · (repeat' (with_reducible first|refine w_2 ?_|refine w_4 ?_|simp (maxDischargeDepth:=12) only [viz,↓reduceIte,Nat.reduceEqDiff,Nat.reduceAdd,g3,g13,g16,r10.a,hq,hld']))
          refine app_lit (v := w13) (k := 1) (b := s5.next + 1) (xs := kept i) (ys := [markC y]) (s := s10) (by omega) (by omega) m10.o6 (by simp only [ev, Env.get_set, ↓reduceIte, Nat.reduceEqDiff]) (by simp only [ev, Env.get_set, ↓reduceIte, Nat.reduceEqDiff]) rfl rfl (room (by simp; omega) (by simp; omega)) ?_
          intro v11 s11 ho11 hx11 hfr11 _
          have m11 := m10.lo ho11 hx11 hfr11
          have n11 := hx11.next
          (repeat' (with_reducible first|refine w_2 ?_|simp (maxDischargeDepth:=12) only [viz,↓reduceIte,Nat.reduceEqDiff,g3,g5,g6,g7,g9,g11,g12,g16]))
          refine ⟨hlt, v11, lv, ⟨by omega, by rw [hx11.floor, h10.floor]; exact ha2, fun q q1 q2 => ?_⟩, ⟨fun r a b c e => by have := hfr11 r a b c e; omega, hb2⟩, ?_, rfl, succ_av (by omega)⟩
          · rw [hx11.get q (by omega) fun a b c e => by have := hb1 q a b c e; omega, h10.get q (by omega)]; exact ha3 q q1 q2
          · rw [hkept i y hy, hacc i y hy]
            simp only [hyk, Bool.false_eq_true, if_false, Bool.not_false, if_true, List.append_nil]
            exact m11
        · (repeat' (with_reducible first|refine w_2 ?_|refine w_4 ?_|simp (maxDischargeDepth:=12) only [viz,↓reduceIte,Nat.reduceEqDiff,Nat.reduceAdd,g3,g11,g16,r10.a,gp10,hq,hld']))
          refine app_lit (v := lv) (k := 1) (b := s5.next + 1) (xs := acc i) (ys := [markC y]) (s := s10) (by omega) (by omega) m10.o7 (by simp only [ev, Env.get_set, ↓reduceIte, Nat.reduceEqDiff]) (by simp only [ev, Env.get_set, ↓reduceIte, Nat.reduceEqDiff]) rfl rfl (room (by simp; omega) (by simp; omega)) ?_
          intro v11 s11 ho11 hx11 hfr11 _
          have m11 := m10.hi ho11 hx11 hfr11
          have n11 := hx11.next
          have g11r := (hx11.get s5.next m10.n fun a b c e => by have := (m10.o7.row _ a b c e).1; omega).trans gp10
          have c11 := own_cell ho11
          have f11 : s11.floor ≤ s5.next := by rw [hx11.floor]; exact f10
          simp only [rowP] at m11
          (repeat' (with_reducible first|refine w_2 ?_|simp (maxDischargeDepth:=12) only [viz,↓reduceIte,Nat.reduceEqDiff,Nat.reduceAdd,g3,g5,g6,g7,g9,g11,g12,g13,g16,g11r,c11,cells_cell c11,f11]))
          refine ⟨hlt, w13, v11, ⟨by omega, by rw [hx11.floor, h10.floor]; exact ha2, fun q q1 q2 => ?_⟩, ⟨hb1, fun r a b c e => by have := hfr11 r a b c e; omega⟩, ?_, rfl, succ_av (by omega)⟩
          · rw [if_neg q2, hx11.get q (by omega) fun a b c e => by have := hb2 q a b c e; omega, h10.get q (by omega)]; exact ha3 q q1 q2
          · rw [hkept i y hy, hacc i y hy]
            simp only [hyk, if_true, Bool.not_true, Bool.false_eq_true, if_false, List.append_nil]
            exact m11
      · have hfull : t.marks.take i = t.marks := List.take_of_length_le (by omega)
        have ek : kept i = (t.marks.filter fun h => !hasS x h.key).map markC := by rw [hkd]; simp only [hfull]
        have ea : acc i = (t.marks.filter fun h => hasS x h.key).map markC := by rw [had]; simp only [hfull]
        rw [ek, ea] at hm9
        clear hkept hacc hkl hal hk00 hm0 hkd had ek ea
        have n9 := hm9.n
        (repeat' (with_reducible first|refine w_1 ?_|refine w_2 ?_|refine w_4 ?_|refine w_7 ?_|simp (maxDischargeDepth:=12) only [viz,↓reduceIte,Nat.reduceEqDiff,Nat.reduceAdd,g3,g5,g16,r9.a,r9.b,lM,lt_false hlt]))
        refine piece_c (x := x) (l := t.spans) (D := D) (s := s9.at s9.next) (Nat.le_refl _) (fun r hr => hI.keep k9 r hr) ((hw.sp.keep fun r hr => k9.get r (hI r hr)).at_) (by have := hs.sp; omega) fun v10 s10 h10 o10 => ?_
        rw [piece_less (form_canon fo1) (may_ok hmx)] at o10
        have h10' : Keep s9.next s9 (s10.at s9.floor) := Keep.of_at h10
        have n10 := h10'.next
        simp only [mat_next] at n10
        have o10' : OwnL (s10.at s9.floor) s9.next v10 47 2 ((lessP t.spans x).map spanC) := o10.at (by exact f99)
        have r10 := r9.then h10'
        have k10 := k9.then h10'
        have ra10 := r10.a
        have rb10 := r10.b
        simp only [mat_get] at ra10 rb10
        (repeat' with_reducible simp (maxDischargeDepth:=12) only [viz,ra10,rb10])
        refine piece_c (x := x) (l := t.frozen) (D := D) (s := s10.at s9.floor) (k10.ok hf) (hI.keep k10) (hw.fr.keep fun r hr => k10.get r (hI r hr)) (by have := hs.fr; omega) fun v11 s11 h11 o11 => ?_
        rw [piece_less (form_canon fo2) (may_ok hmx)] at o11
        have r11 := r10.then h11
        have k11 := k10.then h11
        have k911 := h10'.then h11
        have n11 := k911.next
        have n11b := h11.next
        simp only [mat_next] at n11b
        have l10 : lenA false v10 = some (lessP t.spans x).length := by rw [o10.len, List.length_map]
        have l11 : lenA false v11 = some (lessP t.frozen x).length := by rw [o11.len, List.length_map]
        have e10 : Spans s11 (fun q => s9.next ≤ q ∧ q < s10.next) v10 (lessP t.spans x) := (o10'.sl (D := fun q => s9.next ≤ q ∧ q < s10.next) (span_cells _) fun r n e => o10'.row r 0 n 2 e).keep fun q hq => h11.get q hq.2
        have e11 : Spans s11 (fun q => s10.next ≤ q ∧ q < s11.next) v11 (lessP t.frozen x) := o11.sl (D := fun q => s10.next ≤ q ∧ q < s11.next) (span_cells _) fun r n e => o11.row r 0 n 2 e
        have f11 : s11.floor ≤ s.next := by rw [k11.floor]; exact hf
        have f11b : s11.floor ≤ s.next + 1 + 1 := by omega
        have f11c : s11.floor ≤ s.next + 1 + 1 + 1 := by omega
        have hgp11 := (k911.get s5.next n9).trans hm9.g
        simp only [rowP] at hgp11
        have c10 := own_cell o10
        have c11 := own_cell o11
        have c12 := e12.cell
        have c13 := own_cell hm9.o6
        have cit := hw.it.cell
        have chv := ehv.cell
        have clv := own_cell hm9.o7
        have v1 : (s5.next = s.next) = False := by simp; omega
        have v2 : (s5.next = s.next + 1 + 1) = False := by simp; omega
        have v3 : (s5.next = s.next + 1 + 1 + 1) = False := by simp; omega
        have v4 : (s.next = s5.next) = False := by simp; omega
        have v5 : (s.next + 1 + 1 = s5.next) = False := by simp; omega
        have v6 : (s.next + 1 + 1 + 1 = s5.next) = False := by simp; omega
        have v7 : (s.next + 1 + 1 = s.next) = False := by simp <;> omega
        have v8 : (s.next + 1 + 1 + 1 = s.next) = False := by simp <;> omega
        by_cases hfit : (lessP t.spans x).length ≤ 64 ∧ (lessP t.frozen x).length ≤ 64
        case neg =>
          have hfz : expP t plan x = (2, zeroT, zeroP) := by
            unfold expP
            rw [if_neg (by rw [hx0]; simp), if_neg (by rw [hcv]; simp), if_neg (by rw [hmid]; simp), if_neg hfit]
          by_cases ha : (lessP t.spans x).length ≤ 64
          · have hb' : ¬ (lessP t.frozen x).length ≤ 64 := fun h => hfit ⟨ha, h⟩
            have d1 : decide (((lessP t.spans x).length : Int) > 64) = false := by simp; omega
            have d2 : decide (((lessP t.frozen x).length : Int) > 64) = true := by simp; omega
            (repeat' (with_reducible first|refine w_1 ?_|refine w_2 ?_|refine w_4 ?_|refine w_6 ?_|((try refine w_9 ?_);simp (maxDischargeDepth:=12) only [viz,↓reduceIte,Nat.reduceEqDiff,Nat.reduceAdd,g6,g7,g9,r11.c,r11.e,r11.f,f11b,f11c,x2,x3,x4,x5,l10,l11,d1,d2])))
            exact hz _ _ _ _ _ k11 hfz
          · have d1 : decide (((lessP t.spans x).length : Int) > 64) = true := by simp; omega
            (repeat' (with_reducible first|refine w_1 ?_|refine w_2 ?_|refine w_4 ?_|refine w_6 ?_|((try refine w_9 ?_);simp (maxDischargeDepth:=12) only [viz,↓reduceIte,Nat.reduceEqDiff,Nat.reduceAdd,g6,g7,g9,r11.c,r11.e,r11.f,f11b,f11c,x2,x3,x4,x5,l10,d1])))
            exact hz _ _ _ _ _ k11 hfz
        have eH : (t.holds.filter fun h => !hasP x h.key) = t.holds.filter fun h => !hasS x h.key := List.filter_congr fun y hy => by rw [hF y hy]
        have eH2 : (t.holds.filter fun h => hasP x h.key) = t.holds.filter fun h => hasS x h.key := List.filter_congr fun y hy => by rw [hF y hy]
        have eM : (t.marks.filter fun h => !hasP x h.key) = t.marks.filter fun h => !hasS x h.key := List.filter_congr fun y hy => by rw [hG y hy]
        have eM2 : (t.marks.filter fun h => hasP x h.key) = t.marks.filter fun h => hasS x h.key := List.filter_congr fun y hy => by rw [hG y hy]
        have hfz : expP t plan x = (0, outT t x, outP t plan x) := by
          unfold expP
          rw [if_neg (by rw [hx0]; simp), if_neg (by rw [hcv]; simp), if_neg (by rw [hmid]; simp), if_pos hfit]
        rw [hfz] at hK
        clear hz
        obtain ⟨ha, hb'⟩ := hfit
        have d1 : decide (((lessP t.spans x).length : Int) > 64) = false := by simp; omega
        have d2 : decide (((lessP t.frozen x).length : Int) > 64) = false := by simp; omega
        (repeat' (with_reducible first|refine w_1 ?_|refine w_2 ?_|refine w_4 ?_|refine w_5 ?_|refine w_6 ?_|((try refine w_9 ?_);simp (maxDischargeDepth:=12) only [viz,↓reduceIte,Nat.reduceEqDiff,Nat.reduceAdd,g3,g6,g7,g11,g12,g13,r11.a,r11.c,r11.e,hgp11,f11,f11b,f11c,x3,x4,v1,v5,v6,v7,v8,l10,l11,d1,d2,c10,c11,c12,c13,cit,chv,clv,cells_cell c10,cells_cell c11,cells_cell c12,cells_cell c13])))
        generalize hPe : Mem.put _ _ _ = P
        have hPg : ∀ q, q < s.next ∨ s.next + 1 + 1 + 1 < q → q ≠ s5.next → P.get q = s11.get q := fun q h1 h2 => by
          rw [← hPe]
          simp only [Mem.get_put]
          repeat' rw [if_neg (by omega)]
        have hPn : P.next = s11.next := by rw [← hPe]; rfl
        have hPf : P.floor = s11.floor := by rw [← hPe]; rfl
        clear hPe
        have hkP : Keep s.next s P := ⟨by have := k11.next; omega, by rw [hPf]; exact k11.floor, fun q hq => by rw [hPg q (.inl hq) (by omega)]; exact k11.get q hq⟩
        have gD : ∀ q, D q → P.get q = s.get q := fun q hq => hkP.get q (hI q hq)
        have g911 : ∀ q, q < s9.next → s.next + 1 + 1 + 1 < q → q ≠ s5.next → P.get q = s9.get q := fun q q1 q2 q3 => by rw [hPg q (.inr q2) q3]; exact k911.get q q1
        have nP := k5.next
        refine hK ⟨v10, v11, w12, w13, w.it⟩ hv lv P hkP ⟨?_, ?_, ?_, ?_, (hw.it.keep gD).mono fun q => .inl⟩ ?_ ?_
        · exact (e10.keep fun q hq => hPg q (.inr (by omega)) (by omega)).mono fun q hq => .inr (by omega)
        · exact (e11.keep fun q hq => hPg q (.inr (by omega)) (by omega)).mono fun q hq => .inr (by omega)
        · show Holds P _ w12 (t.holds.filter fun h => !hasP x h.key)
          rw [eH]
          exact (e12.keep fun q hq => by rw [g911 q (by omega) (by omega) (by omega), ha3 q (by omega) (by omega)]).mono fun q hq => .inr (by omega)
        · show Marks P _ w13 (t.marks.filter fun h => !hasP x h.key)
          rw [eM]
          exact ((hm9.o6.sl (D := fun q => s5.next + 1 ≤ q ∧ q < s9.next) (mark_cells _) fun r n e => hm9.o6.row r 0 n 2 e).keep fun q hq => g911 q (by omega) (by omega) (by omega)).mono fun q hq => .inr (by omega)
        · show Holds P _ hv ((t.holds.filter fun h => hasP x h.key).map (tillG (packG t.now)))
          rw [eH2]
          exact (ehv.keep fun q hq => by rw [g911 q (by omega) (by omega) (by omega), ha3 q (by omega) (by omega)]).mono fun q hq => by omega
        · show Marks P _ lv (t.marks.filter fun h => hasP x h.key)
          rw [eM2]
          exact ((hm9.o7.sl (D := fun q => s5.next + 1 ≤ q ∧ q < s9.next) (mark_cells _) fun r n e => hm9.o7.row r 0 n 2 e).keep fun q hq => g911 q (by omega) (by omega) (by omega)).mono fun q hq => by omega
  · refine hz _ _ _ _ _ k1 ?_
    unfold expP
    rw [if_pos (by grind)]
end Go.Proofs.YthibbbfhkfebkaaGreat

