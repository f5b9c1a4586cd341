/- The theorem of handing over: the law. No statement of the seat is proved here. -/
import Derived.Test.YthibbbfhkfebkaaGreatVZHA
import Derived.Test.YthibbbfhkfebkaaGreatVZTblAwake
import Derived.Test.YthibbbfhkfebkaaGreatVZVE
namespace Go.Proofs.YthibbbfhkfebkaaGreat
open Go Go.VI
set_option linter.unusedSimpArgs false
attribute [local irreducible] Ws Wp W C
set_option maxHeartbeats 8000000
theorem tableHands_c {t u : Table} {w v : TV} {x : Span} {s : Mem} (hf : s.floor ≤ s.next) (hw : ∀ s D, TabIn s D w t) (h3 : Small3 t) (hu : ∀ s D, TabIn s D v u) (h3u : Small3 u) (htk : ∀ m ∈ t.marks, 0 ≤ m.token) :
    C tab 6 [.agg (tabC t w), .agg (tabC u v), .agg (spanC x)] s (fun v' _ => v' = .bool true) := by
  refine C_enter (cf := cf6) rfl (Nat.le_of_ble_eq_true rfl) ?_
  simp only [cf6, oo, on, om, og, oc, ou, tabC, spanC]
  have w0 := hw s fun _ => False
  have u0 := hu s fun _ => False
  have r0 := R3.of_push s ⟨27, 6, [[.int .i64 t.now, w.sp, w.fr, w.ho, w.ma, w.it]]⟩ ⟨27, 6, [[.int .i64 u.now, v.sp, v.fr, v.ho, v.ma, v.it]]⟩ ⟨47, 2, [[.str x.frm, .str x.to]]⟩
  have k0 := (pushes s ⟨27, 6, [[.int .i64 t.now, w.sp, w.fr, w.ho, w.ma, w.it]]⟩).then ((pushes _ ⟨27, 6, [[.int .i64 u.now, v.sp, v.fr, v.ho, v.ma, v.it]]⟩).then (pushes _ ⟨47, 2, [[.str x.frm, .str x.to]]⟩))
  (repeat' (with_reducible first|refine w_1 ?_|refine w_2 ?_|simp (maxDischargeDepth:=12) only [viz,↓reduceIte,Nat.reduceAdd,w0.sp.cell,w0.fr.cell,w0.ho.cell,w0.ma.cell,w0.it.cell,u0.sp.cell,u0.fr.cell,u0.ho.cell,u0.ma.cell,u0.it.cell]))
  generalize ((s.push _).push _).push _ = S0 at *
  (repeat' with_reducible simp (maxDischargeDepth:=12) only [viz,↓reduceIte,Nat.reduceEqDiff,reduceCtorEq,Int.reduceEq,Int.reduceNeg,Nat.reduceAdd,Nat.reduceLeDiff,r0.a])
  refine light_c (D := fun _ => False) (hw _ _) h3 fun s1 h1 => ?_
  have r1 := r0.then h1
  have k1 := k0.then h1
  (repeat' (with_reducible first|refine w_1 ?_|refine w_2 ?_|refine w_4 ?_|(refine w_8 (fun hb=>?_) (fun hb=>?_)<;>(try simp only [Bool.not_eq_true',Bool.not_eq_false'] at hb)<;>try simp only [hb])|refine w_13 (fun hc=>(by (try simp only [Bool.and_eq_true] at hc);simp (maxDischargeDepth:=12) only [viz,↓reduceIte,Nat.reduceEqDiff,r1.b,cond_false,hc];first|exact ⟨rfl,rfl⟩|exact rfl)) ?_|refine w_12 ?_|((try refine w_9 ?_);simp (maxDischargeDepth:=12) only [viz,↓reduceIte])))
  case' _ => skip
  rotate_left
  · refine awake19_c _ ?_
    (repeat' (with_reducible first|refine w_6 ?_|simp (maxDischargeDepth:=12) only [viz,↓reduceIte]))
  refine light_c (D := fun _ => False) (hu _ _) h3u fun s1' h1' => ?_
  have r1 := r1.then h1'
  have k1 := k1.then h1'
  (repeat' (with_reducible first|refine w_1 ?_|refine w_2 ?_|refine w_4 ?_|refine w_5 ?_|(refine w_8 (fun hb=>?_) (fun hb=>?_)<;>(try simp only [Bool.not_eq_true',Bool.not_eq_false'] at hb)<;>try simp only [hb])|((try refine w_9 ?_);simp (maxDischargeDepth:=12) only [viz,↓reduceIte,Nat.reduceEqDiff,Nat.reduceAdd,r1.a,r1.c])))
  · refine awake19_c _ ?_
    (repeat' (with_reducible first|refine w_6 ?_|simp (maxDischargeDepth:=12) only [viz,↓reduceIte]))
  have hb1 : lightS t = true := by assumption
  have hb2 : lightS u = true := by assumption
  simp only [lightS, Bool.and_eq_true, decide_eq_true_eq] at hb1 hb2
  have hst : Small t := ⟨by omega, by omega, by omega, by omega, by omega⟩
  have hsu : Small u := ⟨by omega, by omega, by omega, by omega, by omega⟩
  obtain ⟨fs, fs1, fs2, fs3, fs4, fs5⟩ := frz_small2 (x := x) hst (by omega)
  have hH := fun h1 h2 h3 => handed (t := t) (u := u) (plan := 9) (x := x) h1 h2 h3 (by omega) (by omega)
  have hok := fun h => (frz_ok (t := t) (x := x) h).1
  refine freeze_c (t := t) (w := w) (x := x) (D := fun _ => False) (k1.ok hf) (fun _ h => h.elim) (hw _ _) hst fun w2 s2 h2 t2 => ?_
  have r2 := r1.then h2
  have k2 := k1.then h2
  have f2 : s2.floor ≤ s2.next := k2.ok hf
  have n1 := r1.n
  have n2 := h2.next
  have q2 := Kp.of_push s2 ⟨27, 6, [tabC (frzP t x).2 w2]⟩
  simp only [tabC] at q2 ⊢
  have r2' := r2.then q2.k
  have k2' := k2.then q2.k
  have g2 := q2.g
  have z1 : (s.next + 1 + 1 = s2.next) = False := by simp; omega
  generalize hF : frzP t x = F at *
  obtain ⟨eF, F⟩ := F
  simp only at *
  by_cases h0 : eF = 0
  case neg =>
    have e0 : (eF != 0) = true := by simpa using h0
    (repeat' (with_reducible first|refine w_1 ?_|refine w_2 ?_|refine w_4 ?_|simp (maxDischargeDepth:=12) only [viz,↓reduceIte,Nat.reduceAdd,t2.sp.cell,t2.fr.cell,t2.ho.cell,t2.ma.cell,t2.it.cell,f2,e0]))
    refine awake19_c _ ?_
    (repeat' (with_reducible first|refine w_6 ?_|simp (maxDischargeDepth:=12) only [viz,↓reduceIte]))
  subst h0
  have w2' := t2.keep fun r hr => q2.k.get r hr.2
  (repeat' (with_reducible first|refine w_1 ?_|refine w_2 ?_|refine w_4 ?_|refine w_5 ?_|simp (maxDischargeDepth:=12) only [viz,↓reduceIte,Nat.reduceEqDiff,Nat.reduceAdd,t2.sp.cell,t2.fr.cell,t2.ho.cell,t2.ma.cell,t2.it.cell,f2,r2'.c,g2,bne_self_eq_false, Int.reduceBEq, Int.reduceBNe, Int.reduceLT, Int.reduceLE, Int.reduceGT, Int.reduceGE]))
  generalize hS2 : s2.push _ = S2 at *
  have n2' : S2.next = s2.next + 1 := by rw [← hS2]; rfl
  obtain ⟨xs2, xs3⟩ := exp_small2 (t := F) (plan := 9) (x := x) fs (by omega) (by omega)
  obtain ⟨_, xs5, xs6⟩ := exp_small (plan := 9) (x := x) fs
  refine export_c (t := F) (w := w2) (plan := 9) (x := x) (D := fun r => s1'.next ≤ r ∧ r < s2.next) (k2'.ok hf) (fun r hr => by omega) w2' fs fun w3 h3 m3 s3 e3 t3 th3 tm3 => ?_
  have r3 := r2'.then e3
  have k3 := k2'.then e3
  have n3 := e3.next
  have f3 : s3.floor ≤ s3.next := k3.ok hf
  have f3' : s3.floor ≤ s3.next + 1 := by omega
  have e1 : (s.next = s3.next) = False := by simp; omega
  have e2 : (s.next = s3.next + 1) = False := by simp; omega
  have e4 : (s.next + 1 = s3.next) = False := by simp; omega
  have e5 : (s.next + 1 = s3.next + 1) = False := by simp; omega
  have e6 : (s.next + 1 + 1 = s3.next) = False := by simp; omega
  have e7 : (s.next + 1 + 1 = s3.next + 1) = False := by simp; omega
  generalize hX : expP F 9 x = X at *
  obtain ⟨eX, A, P⟩ := X
  simp only at *
  by_cases h0 : eX = 0
  case neg =>
    have e0 : (eX != 0) = true := by simpa using h0
    simp only [tabC, parC]
    (repeat' (with_reducible first|refine w_1 ?_|refine w_2 ?_|refine w_4 ?_|simp (maxDischargeDepth:=12) only [viz,↓reduceIte,Nat.reduceAdd,t3.sp.cell,t3.fr.cell,t3.ho.cell,t3.ma.cell,t3.it.cell,th3.cell,tm3.cell,f3,f3',e0]))
    refine awake19_c _ ?_
    (repeat' (with_reducible first|refine w_6 ?_|simp (maxDischargeDepth:=12) only [viz,↓reduceIte]))
  subst h0
  simp only [tabC, parC]
  (repeat' (with_reducible first|refine w_1 ?_|refine w_2 ?_|refine w_4 ?_|refine w_5 ?_|simp (maxDischargeDepth:=12) only [viz,↓reduceIte,Nat.reduceEqDiff,Nat.reduceAdd,t3.sp.cell,t3.fr.cell,t3.ho.cell,t3.ma.cell,t3.it.cell,th3.cell,tm3.cell,f3,f3',r3.b,e4,e5,bne_self_eq_false, Int.reduceBEq, Int.reduceBNe, Int.reduceLT, Int.reduceLE, Int.reduceGT, Int.reduceGE]))
  generalize hS3 : Mem.put _ _ _ = S3
  have S3n : S3.next = s3.next + 1 + 1 := by rw [← hS3]; simp only [next_put', next_push']
  have S3k : Keep s3.next s3 S3 := by
    refine ⟨by omega, by rw [← hS3]; rfl, fun q hq => ?_⟩
    rw [← hS3]; simp only [Mem.get_put, Mem.get_push, next_push', next_put']
    repeat' rw [if_neg (by omega)]
  have S3t : S3.get s3.next = some ⟨27, 6, [tabC A w3]⟩ := by
    rw [← hS3]; simp only [Mem.get_put, Mem.get_push, next_push', next_put', tabC]
    rw [if_neg (by omega), if_pos trivial]
  clear hS3
  have r3' := r3.then S3k
  have k3' := k3.then S3k
  have hoku := fun h => (imp_ok (u := u) (p := P) h).1
  have mt : mayT t = true := hok (by simp)
  obtain ⟨nt0, nt1, hto, _⟩ := may_parts mt
  obtain ⟨kt, _, _⟩ := may_keys mt
  have lowk : ∀ q, s1'.next ≤ q ∧ q < s3.next → S3.get q = s3.get q := fun q hq => S3k.get q hq.2
  refine import_c (t := u) (w := v) (p := P) (hv := h3) (mv := m3) (D := fun r => r < s3.next) (k3'.ok hf) (fun r hr => by omega) (hu _ _) hsu ((th3.keep fun r hr => S3k.get r hr.2).mono fun r hr => hr.2) ((tm3.keep fun r hr => S3k.get r hr.2).mono fun r hr => hr.2) ⟨by omega, by omega⟩ ⟨by omega, by omega⟩ (fun m hm => htk m (fs5 m (xs3 m hm))) fun w4 s4 h4 t4 => ?_
  have r4 := r3'.then h4
  have k4 := k3'.then h4
  have n4 := h4.next
  have f4 : s4.floor ≤ s4.next := k4.ok hf
  have S4t := (h4.get s3.next (by omega)).trans S3t
  have q4 := Kp.of_push s4 ⟨27, 6, [tabC (impP u P).2 w4]⟩
  have d1 : (s.next = s4.next) = False := by simp; omega
  have d2 : (s.next + 1 = s4.next) = False := by simp; omega
  have d3 : (s.next + 1 + 1 = s4.next) = False := by simp; omega
  have d4 : (s3.next = s4.next) = False := by simp; omega
  generalize hB : impP u P = B at *
  obtain ⟨eB, B⟩ := B
  simp only at *
  by_cases h0 : eB = 0
  case neg =>
    have e0 : (eB != 0) = true := by simpa using h0
    simp only [tabC]
    (repeat' (with_reducible first|refine w_1 ?_|refine w_2 ?_|refine w_4 ?_|simp (maxDischargeDepth:=12) only [viz,↓reduceIte,Nat.reduceAdd,t4.sp.cell,t4.fr.cell,t4.ho.cell,t4.ma.cell,t4.it.cell,f4,e0]))
    refine awake19_c _ ?_
    (repeat' (with_reducible first|refine w_6 ?_|simp (maxDischargeDepth:=12) only [viz,↓reduceIte]))
  subst h0
  have mu : mayT u = true := hoku (by simp)
  obtain ⟨nu0, nu1, _, _⟩ := may_parts mu
  obtain ⟨g1, g2', g3, g4, g5⟩ := hH (by simp) (by simp) (by simp)
  clear hH hok hoku
  simp only [tabC] at S4t q4 ⊢
  (repeat' (with_reducible first|refine w_1 ?_|refine w_2 ?_|refine w_4 ?_|refine w_5 ?_|simp (maxDischargeDepth:=12) only [viz,↓reduceIte,Nat.reduceEqDiff,Nat.reduceAdd,t4.sp.cell,t4.fr.cell,t4.ho.cell,t4.ma.cell,t4.it.cell,f4,r4.c,S4t,d3,d4,bne_self_eq_false, Int.reduceBEq, Int.reduceBNe, Int.reduceLT, Int.reduceLE, Int.reduceGT, Int.reduceGE]))
  generalize hS4 : s4.push _ = S4 at *
  have n4' : S4.next = s4.next + 1 := by rw [← hS4]; rfl
  have r4' := r4.then q4.k
  have k4' := k4.then q4.k
  have S4t' := (q4.k.get s3.next (by omega)).trans S4t
  have aA : TabIn S4 (fun r => r < s3.next) w3 A := (t3.keep fun r hr => by rw [q4.k.get r (by omega), h4.get r (by omega), S3k.get r hr.2]).mono fun r hr => hr.2
  have aB : TabIn S4 (fun r => r < s4.next) w4 B := (t4.keep fun r hr => q4.k.get r hr.2).mono fun r hr => hr.2
  refine piece2_c (x := x) (l := A.spans) (D := fun r => r < s3.next) (k4'.ok hf) (fun r hr => by omega) aA.sp (by have := xs2.sp; omega) fun v5 s5 h5 o5 => ?_
  rw [g1] at o5
  have r5 := r4'.then h5
  have k5 := k4'.then h5
  have n5 := h5.next
  have l5 : lenA false v5 = some 0 := o5.len
  have S5t := (h5.get s3.next (by omega)).trans S4t'
  have q5 := q4.then h5
  have gB5 := q5.g
  have lA : lenA false w3.ho = some A.holds.length := aA.ho.lenB
  have lB : lenA false w4.ho = some B.holds.length := aB.ho.lenB
  have lt' : lenA false w.ho = some t.holds.length := w0.ho.lenB
  have lu' : lenA false v.ho = some u.holds.length := u0.ho.lenB
  have w1 := wrap_add (a := A.holds.length) (b := B.holds.length) (by omega)
  have w2_ := wrap_add (a := t.holds.length) (b := u.holds.length) (by omega)
  have z0 : ((0 : Nat) : Int) = 0 := rfl
  rw [g2'] at w1
  (repeat' (with_reducible first|refine w_1 ?_|refine w_2 ?_|refine w_3 ?_|refine w_4 ?_|refine w_5 ?_|((try refine w_9 ?_);simp (maxDischargeDepth:=12) only [viz,↓reduceIte,Nat.reduceEqDiff,Nat.reduceAdd,r5.a,r5.b,S5t,gB5,l5,lA,lB,lt',lu',w1,w2_,z0,bne_self_eq_false, Int.reduceBEq, Int.reduceBNe, Int.reduceLT, Int.reduceLE, Int.reduceGT, Int.reduceGE])))
  have aA5 : TabIn s5 (fun r => r < s3.next) w3 A := aA.keep fun r hr => h5.get r (by omega)
  have aB5 : TabIn s5 (fun r => r < s4.next) w4 B := aB.keep fun r hr => h5.get r (by omega)
  refine W_inv t.holds.length (fun i E s' => Keep s5.next s5 s' ∧ E.get 3 = .ptr s.next 0 0 ∧ E.get 4 = .ptr (s.next + 1) 0 0 ∧ E.get 5 = .ptr (s.next + 1 + 1) 0 0 ∧ E.get 9 = .ptr s3.next 0 0 ∧ E.get 11 = .ptr s4.next 0 0 ∧ E.get 12 = .int .i64 i) (by delta cf6l0 oo on om og oc ou; exact rfl) ?_ ?_
  · refine ⟨Keep.refl _ _, (by simp only [ev, Env.get_set, ↓reduceIte, Nat.reduceEqDiff]), (by simp only [ev, Env.get_set, ↓reduceIte, Nat.reduceEqDiff]), (by simp only [ev, Env.get_set, ↓reduceIte, Nat.reduceEqDiff]), (by simp only [ev, Env.get_set, ↓reduceIte, Nat.reduceEqDiff]), (by simp only [ev, Env.get_set, ↓reduceIte, Nat.reduceEqDiff]), ?_⟩
    simp only [ev, Env.get_set, ↓reduceIte, Nat.reduceEqDiff]; rfl
  rintro i E s6 hile _ ⟨h6, e3, e4', e5', e9, e11, e12⟩
  have r6 := r5.then h6
  have k6 := k5.then h6
  have n6 := h6.next
  have f6 : s6.floor ≤ s6.next := k6.ok hf
  by_cases hlt : i < t.holds.length
  · obtain ⟨y, hy⟩ := get_of hlt
    obtain ⟨q, hq, Q, hld⟩ := (hw s6 fun _ => False).ho.ldk (fun _ h => h.elim) hy rfl rfl
    have hld' := hld _ (Keep.refl _ _)
    simp only [holdC] at hld'
    have hym := List.mem_of_getElem? hy
    have hyH := hold_may hto y hym
    simp only [mayH, Bool.and_eq_true, decide_eq_true_eq] at hyH
    have nr := r6.n
    have y1 : (s.next = s6.next) = False := by simp; omega
    have y2 : (s.next + 1 = s6.next) = False := by simp; omega
    have y3 : (s.next + 1 + 1 = s6.next) = False := by simp; omega
    (repeat' (with_reducible first|refine w_1 ?_|refine w_2 ?_|refine w_3 ?_|refine w_4 ?_|refine w_5 ?_|simp (maxDischargeDepth:=12) only [viz,↓reduceIte,Nat.reduceEqDiff,Nat.reduceAdd,e3,e5',e12,r6.a,r6.c,lt',lt_true hlt,hq,hld',f6,y3]))
    refine rhas_c (x := x) fun s7 h7 => ?_
    have q7 := (Kp.of_push s6 ⟨58, 3, [[.str y.key, .int .u64 y.token, .int .i64 y.till]]⟩).then h7
    have r7 := r6.then q7.k
    have k7 := k6.then q7.k
    have n7 := q7.n
    have f7 : s7.floor ≤ s7.next := k7.ok hf
    have g7 := q7.g
    have m7 := h6.then q7.k
    have gB7 := (m7.get s4.next (by omega)).trans gB5
    have gA7 := (m7.get s3.next (by omega)).trans S5t
    cases hyk : hasS x y.key
    · (repeat' (with_reducible first|refine w_2 ?_|refine w_4 ?_|refine w_7 ?_|simp (maxDischargeDepth:=12) only [viz,↓reduceIte,Nat.reduceEqDiff,e3,e4',e5',e9,e11,e12]))
      exact ⟨hlt, m7, succ_av (by omega)⟩
    (repeat' (with_reducible first|refine w_1 ?_|refine w_2 ?_|refine w_4 ?_|refine w_5 ?_|simp (maxDischargeDepth:=12) only [viz,↓reduceIte,Nat.reduceEqDiff,Nat.reduceAdd,e11,g7,gB7]))
    refine rfind_c (l := B.holds) (k := y.key) (D := fun r => r < s4.next) f7 (fun r hr => by omega) (aB5.ho.keep fun r hr => m7.get r (by omega)) (by omega) fun s8 h8 => ?_
    rw [g3 y hym hyk]
    have r8 := r7.then h8
    have k8 := k7.then h8
    have n8 := h8.next
    have f8 : s8.floor ≤ s8.next := k8.ok hf
    have g8 := (q7.then h8).g
    have m8 := m7.then h8
    have y4 : (s.next = s8.next) = False := by have := r8.n; simp; omega
    have y5 : (s.next + 1 = s8.next) = False := by have := r8.n; simp; omega
    have y6 : (s6.next = s8.next) = False := by simp; omega
    have e1_ : IntKind.i64.wrap (y.till - t.now) = y.till - t.now := wrap_i64 (by omega)
    simp only [gotH, Option.getD_some, Option.isSome_some, holdC]
    have fin : ∀ M, Keep s5.next s5 M → Kp s6 ⟨58, 3, [[.str y.key, .int .u64 y.token, .int .i64 y.till]]⟩ M → True := fun _ _ _ => trivial
    have hL0 : 0 ≤ packG t.now y.till ∧ packG t.now y.till ≤ 2147483647 := by unfold packG; omega
    have e2_ : IntKind.i64.wrap (unpG u.now (packG t.now y.till) - u.now) = unpG u.now (packG t.now y.till) - u.now := wrap_i64 (by unfold unpG; omega)
    have pk := pushes s8 ⟨58, 3, [[.str y.key, .int .u64 y.token, .int .i64 (unpG u.now (packG t.now y.till))]]⟩
    have m9 := m8.then pk
    have q9 := (q7.then h8).then pk
    have g9 := q9.g
    have gA9 := (m9.get s3.next (by omega)).trans S5t
    have gB9 := (m9.get s4.next (by omega)).trans gB5
    have r9 := r8.then pk
    have k9 := k8.then pk
    have n9 := pk.next
    have tail : ∀ (K2 : AV → Mem → Prop), (∀ M, Keep s5.next s5 M → K2 (.tup [.int .u64 0, .int .i64 10]) M) → C tab 25 [.agg (tabC A w3), .str y.key] (s8.push ⟨58, 3, [[.str y.key, .int .u64 y.token, .int .i64 (unpG u.now (packG t.now y.till))]]⟩) K2 := fun K2 hK2 => by
      refine inspectN_c (t := A) (w := w3) (k := y.key) (D := fun r => r < s3.next) (k9.ok hf) (fun r hr => by have := m9.next; omega) (aA5.keep fun r hr => m9.get r (by omega)) xs2 g4 (kt y hym) (g5 y hym hyk) fun M hM => ?_
      exact hK2 M (m9.then hM)
    simp only [tabC] at tail
    clear fin
    by_cases hneg : y.till - t.now < 0
    · have eneg : decide (y.till - t.now < 0) = true := by simp; exact hneg
      have hL : packG t.now y.till = 0 := by unfold packG; omega
      have hU : unpG u.now 0 = u.now := by unfold unpG; omega
      have e3_ : (unpG u.now (packG t.now y.till) - u.now != 0) = false := by rw [hL, hU]; simp
      (repeat' (with_reducible first|refine w_1 ?_|refine w_2 ?_|refine w_4 ?_|refine w_5 ?_|((try refine w_9 ?_);simp (maxDischargeDepth:=12) only [viz,↓reduceIte,Nat.reduceEqDiff,Nat.reduceAdd,e3,e4',e9,r8.a,r8.b,g8,f8,y4,y5,y6,e1_,eneg,e2_,e3_,gA9,bne_self_eq_false, Int.reduceBEq, Int.reduceBNe, Int.reduceLT, Int.reduceLE, Int.reduceGT, Int.reduceGE])))
      refine tail _ fun M hM => ?_
      (repeat' (with_reducible first|refine w_1 ?_|refine w_2 ?_|refine w_4 ?_|refine w_5 ?_|((try refine w_9 ?_);simp (maxDischargeDepth:=12) only [viz,↓reduceIte,Nat.reduceEqDiff,e3,e4',e5',e9,e11,e12,bne_self_eq_false, Int.reduceBEq, Int.reduceBNe, Int.reduceLT, Int.reduceLE, Int.reduceGT, Int.reduceGE])))
      exact ⟨hlt, hM, succ_av (by omega)⟩
    have eneg : decide (y.till - t.now < 0) = false := by simp; omega
    have hL : packG t.now y.till = y.till - t.now := by unfold packG; omega
    by_cases hbig : y.till - t.now + u.now ≤ 2147483647
    · have e3_ : (unpG u.now (packG t.now y.till) - u.now != y.till - t.now) = false := by
        rw [hL]
        have : unpG u.now (y.till - t.now) = y.till - t.now + u.now := by unfold unpG; omega
        rw [this]
        simp
      (repeat' (with_reducible first|refine w_1 ?_|refine w_2 ?_|refine w_4 ?_|refine w_5 ?_|((try refine w_9 ?_);simp (maxDischargeDepth:=12) only [viz,↓reduceIte,Nat.reduceEqDiff,Nat.reduceAdd,e3,e4',e9,r8.a,r8.b,g8,f8,y4,y5,y6,e1_,eneg,e2_,e3_,gA9,bne_self_eq_false, Int.reduceBEq, Int.reduceBNe, Int.reduceLT, Int.reduceLE, Int.reduceGT, Int.reduceGE])))
      refine tail _ fun M hM => ?_
      (repeat' (with_reducible first|refine w_1 ?_|refine w_2 ?_|refine w_4 ?_|refine w_5 ?_|((try refine w_9 ?_);simp (maxDischargeDepth:=12) only [viz,↓reduceIte,Nat.reduceEqDiff,e3,e4',e5',e9,e11,e12,bne_self_eq_false, Int.reduceBEq, Int.reduceBNe, Int.reduceLT, Int.reduceLE, Int.reduceGT, Int.reduceGE])))
      exact ⟨hlt, hM, succ_av (by omega)⟩
    · have e4_ : (unpG u.now (packG t.now y.till) != 2147483647) = false := by
        rw [hL]
        have : unpG u.now (y.till - t.now) = 2147483647 := by unfold unpG; omega
        rw [this]
        simp
      rcases Bool.eq_false_or_eq_true (unpG u.now (packG t.now y.till) - u.now != y.till - t.now) with e3_ | e3_
      · (repeat' (with_reducible first|refine w_1 ?_|refine w_2 ?_|refine w_4 ?_|refine w_5 ?_|((try refine w_9 ?_);simp (maxDischargeDepth:=12) only [viz,↓reduceIte,Nat.reduceEqDiff,Nat.reduceAdd,e3,e4',e9,r8.a,r8.b,g8,f8,y4,y5,y6,e1_,eneg,e2_,e3_,e4_,gA9,bne_self_eq_false, Int.reduceBEq, Int.reduceBNe, Int.reduceLT, Int.reduceLE, Int.reduceGT, Int.reduceGE])))
        refine tail _ fun M hM => ?_
        (repeat' (with_reducible first|refine w_1 ?_|refine w_2 ?_|refine w_4 ?_|refine w_5 ?_|((try refine w_9 ?_);simp (maxDischargeDepth:=12) only [viz,↓reduceIte,Nat.reduceEqDiff,e3,e4',e5',e9,e11,e12,bne_self_eq_false, Int.reduceBEq, Int.reduceBNe, Int.reduceLT, Int.reduceLE, Int.reduceGT, Int.reduceGE])))
        exact ⟨hlt, hM, succ_av (by omega)⟩
      · (repeat' (with_reducible first|refine w_1 ?_|refine w_2 ?_|refine w_4 ?_|refine w_5 ?_|((try refine w_9 ?_);simp (maxDischargeDepth:=12) only [viz,↓reduceIte,Nat.reduceEqDiff,Nat.reduceAdd,e3,e4',e9,r8.a,r8.b,g8,f8,y4,y5,y6,e1_,eneg,e2_,e3_,gA9,bne_self_eq_false, Int.reduceBEq, Int.reduceBNe, Int.reduceLT, Int.reduceLE, Int.reduceGT, Int.reduceGE])))
        refine tail _ fun M hM => ?_
        (repeat' (with_reducible first|refine w_1 ?_|refine w_2 ?_|refine w_4 ?_|refine w_5 ?_|((try refine w_9 ?_);simp (maxDischargeDepth:=12) only [viz,↓reduceIte,Nat.reduceEqDiff,e3,e4',e5',e9,e11,e12,bne_self_eq_false, Int.reduceBEq, Int.reduceBNe, Int.reduceLT, Int.reduceLE, Int.reduceGT, Int.reduceGE])))
        exact ⟨hlt, hM, succ_av (by omega)⟩
  · (repeat' (with_reducible first|refine w_1 ?_|refine w_2 ?_|refine w_4 ?_|refine w_7 ?_|simp (maxDischargeDepth:=12) only [viz,↓reduceIte,Nat.reduceEqDiff,Nat.reduceAdd,e3,e12,r6.a,lt',lt_false hlt]))
    refine awake19_c _ ?_
    (repeat' (with_reducible first|refine w_6 ?_|simp (maxDischargeDepth:=12) only [viz,↓reduceIte]))
theorem tableHands_walk : ∀ avs, TyVs Tryz.prog reachBytes 9 Tryz.f6.params.toList avs → ∃ k s', run (compX Tryz.prog xs) k 6 avs Mem.zero = some (.bool true, s') := by
  intro avs h
  obtain ⟨c, _, rfl, h1, c2, _, rfl, h2, c3, _, rfl, h3, rfl⟩ := h
  obtain ⟨t, w, rfl, hw, g3, g4⟩ := tyV_table3 (by exact h1)
  obtain ⟨u, v, rfl, hu, g5, _⟩ := tyV_table3 (by exact h2)
  obtain ⟨x, rfl⟩ := tyV_span (by exact h3)
  exact C_run (tableHands_c (by exact Nat.zero_le _) hw g3 hu g5 g4) tab_le
end Go.Proofs.YthibbbfhkfebkaaGreat

