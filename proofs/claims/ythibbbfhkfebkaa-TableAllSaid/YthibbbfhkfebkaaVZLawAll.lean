/- All or none: the law. No statement of the seat is proved here. -/
import Derived.Test.YthibbbfhkfebkaaVZAA
import Derived.Test.YthibbbfhkfebkaaVZTblAwake
import Derived.Test.YthibbbfhkfebkaaVZVE
namespace Go.Proofs.Ythibbbfhkfebkaa
open Go Go.VI
set_option linter.unusedSimpArgs false
attribute [local irreducible] Ws Wp W C
set_option maxHeartbeats 8000000
theorem tableAll_c {t : Table} {w : TV} {x : Txn} {v : AV} {s : Mem} (hf : s.floor ≤ s.next) (hw : ∀ s D, TabIn s D w t) (h3 : Small3 t) (htk : ∀ x ∈ t.ints, 0 ≤ x.token) (hk : isSl v (x.call.keys.map txtC)) (hkl : x.call.keys.length < 1000000000000000000) (hx1 : 0 ≤ x.call.token) (hx2 : 0 ≤ x.token) : C tab 3 [.agg (tabC t w), .agg (txnC v x)] s (fun v' _ => v' = .bool true) := by
  refine C_enter (cf := cf3) rfl (Nat.le_of_ble_eq_true rfl) ?_
  simp only [cf3, oo, on, om, og, oc, ou, tabC, txnC]
  have hkc : isCell v = true := by rcases hk with ⟨rfl, _⟩ | rfl <;> rfl
  have hlk : lenA false v = some x.call.keys.length := (Sl.of_isSl (s := s) (D := fun _ => False) hk (txt_cells _)).lenB
  have w0 := hw s fun _ => False
  have c1 := w0.sp.cell
  have c2 := w0.fr.cell
  have c3 := w0.ho.cell
  have c4 := w0.ma.cell
  have c5 := w0.it.cell
  have r0 := R2.of_push s ⟨27, 6, [[.int .i64 t.now, w.sp, w.fr, w.ho, w.ma, w.it]]⟩ ⟨35, 7, [[.int .i64 x.c, .int .u64 x.q, .int .i64 x.call.kind, v, .int .u64 x.call.token, .int .i64 x.call.ttl, .int .u64 x.token]]⟩
  have k0 := (pushes s ⟨27, 6, [[.int .i64 t.now, w.sp, w.fr, w.ho, w.ma, w.it]]⟩).then (pushes _ ⟨35, 7, [[.int .i64 x.c, .int .u64 x.q, .int .i64 x.call.kind, v, .int .u64 x.call.token, .int .i64 x.call.ttl, .int .u64 x.token]]⟩)
  (repeat' (with_reducible first|refine w_1 ?_|refine w_2 ?_|refine w_3 ?_|refine w_4 ?_|refine w_5 ?_|refine w_6 ?_|refine w_7 ?_|(refine w_8 (fun hb=>?_) (fun hb=>?_)<;>(try simp only [Bool.not_eq_true',Bool.not_eq_false'] at hb)<;>try simp only [hb])|refine w_13 (fun hc=>(by (try simp only [Bool.and_eq_true] at hc);simp (maxDischargeDepth:=12) only [viz,↓reduceIte,Nat.reduceEqDiff,reduceCtorEq,Int.reduceEq,Int.reduceNeg,Nat.reduceAdd,Nat.reduceLeDiff,c1,c2,c3,c4,c5,hkc,cond_true,cond_false,hc];first|exact ⟨rfl,rfl⟩|exact rfl)) ?_|refine w_12 ?_|((try refine w_9 ?_);simp (maxDischargeDepth:=12) only [viz,↓reduceIte,Nat.reduceEqDiff,reduceCtorEq,Int.reduceEq,Int.reduceNeg,Nat.reduceAdd,Nat.reduceLeDiff,c1,c2,c3,c4,c5,hkc])))
  generalize (s.push _).push _ = S0 at *
  refine light_c (D := fun _ => False) (hw _ _) h3 fun s1 h1 => ?_
  have r1 := r0.then h1
  have k1 := k0.then h1
  (repeat' (with_reducible first|refine w_1 ?_|refine w_2 ?_|refine w_3 ?_|refine w_4 ?_|refine w_5 ?_|refine w_6 ?_|refine w_7 ?_|(refine w_8 (fun hb=>?_) (fun hb=>?_)<;>(try simp only [Bool.not_eq_true',Bool.not_eq_false'] at hb)<;>try simp only [hb])|refine w_13 (fun hc=>(by (try simp only [Bool.and_eq_true] at hc);simp (maxDischargeDepth:=12) only [viz,↓reduceIte,Nat.reduceEqDiff,reduceCtorEq,Int.reduceEq,Int.reduceNeg,Nat.reduceAdd,Nat.reduceLeDiff,r1.a,r1.b,hlk,cond_true,cond_false,hc];first|exact ⟨rfl,rfl⟩|exact rfl)) ?_|refine w_12 ?_|((try refine w_9 ?_);simp (maxDischargeDepth:=12) only [viz,↓reduceIte,Nat.reduceEqDiff,reduceCtorEq,Int.reduceEq,Int.reduceNeg,Nat.reduceAdd,Nat.reduceLeDiff,r1.a,r1.b,hlk])))
  · refine awake19_c _ ?_
    (repeat' (with_reducible first|refine w_1 ?_|refine w_2 ?_|refine w_3 ?_|refine w_4 ?_|refine w_5 ?_|refine w_6 ?_|refine w_7 ?_|(refine w_8 (fun hb=>?_) (fun hb=>?_)<;>(try simp only [Bool.not_eq_true',Bool.not_eq_false'] at hb)<;>try simp only [hb])|refine w_13 (fun hc=>(by (try simp only [Bool.and_eq_true] at hc);simp (maxDischargeDepth:=12) only [viz,↓reduceIte,Nat.reduceEqDiff,reduceCtorEq,Int.reduceEq,Int.reduceNeg,Nat.reduceAdd,Nat.reduceLeDiff,cond_true,cond_false,hc];first|exact ⟨rfl,rfl⟩|exact rfl)) ?_|refine w_12 ?_|((try refine w_9 ?_);simp (maxDischargeDepth:=12) only [viz,↓reduceIte,Nat.reduceEqDiff,reduceCtorEq,Int.reduceEq,Int.reduceNeg,Nat.reduceAdd,Nat.reduceLeDiff])))
  have hlt : lightS t = true ∧ x.call.keys.length ≤ 40 := by
    simp only [Bool.or_eq_false_iff, Bool.not_eq_false', decide_eq_false_iff_not] at hb
    exact ⟨hb.1, by omega⟩
  have hb' := hlt.1
  simp only [lightS, Bool.and_eq_true, decide_eq_true_eq] at hb'
  have hsm : Small t := ⟨by omega, by omega, by omega, by omega, by omega⟩
  have hl : t.holds.length ≤ 100 ∧ t.marks.length ≤ 100 := ⟨by omega, by omega⟩
  refine prepare_c (t := t) (w := w) (k := x.call) (D := fun _ => False) (k1.ok hf) (fun _ h => h.elim) (hw _ _) hsm hk hlt.2 fun w2 s2 h2 t2 => ?_
  have r2 := r1.then h2
  have k2 := k1.then h2
  have f2 : s2.floor ≤ s2.next := k2.ok hf
  have n12 := h2.next
  have q2 := Kp.of_push s2 ⟨27, 6, [tabC (prepP t x.c x.q x.call x.token).2 w2]⟩
  simp only [tabC] at q2 ⊢
  have r2' := r2.then q2.k
  have k2' := k2.then q2.k
  have T2 := (t2.keep fun r hr => q2.k.get r (by rcases hr with hr | hr; exact hr.elim; exact hr.2)).mono (D' := fun r => r < s2.next) fun r hr => by rcases hr with hr | hr; exact hr.elim; exact hr.2
  (repeat' (with_reducible first|refine w_1 ?_|refine w_2 ?_|refine w_3 ?_|refine w_4 ?_|refine w_5 ?_|refine w_6 ?_|refine w_7 ?_|(refine w_8 (fun hb=>?_) (fun hb=>?_)<;>(try simp only [Bool.not_eq_true',Bool.not_eq_false'] at hb)<;>try simp only [hb])|refine w_13 (fun hc=>(by (try simp only [Bool.and_eq_true] at hc);simp (maxDischargeDepth:=12) only [viz,↓reduceIte,Nat.reduceEqDiff,reduceCtorEq,Int.reduceEq,Int.reduceNeg,Nat.reduceAdd,Nat.reduceLeDiff,t2.sp.cell,t2.fr.cell,t2.ho.cell,t2.ma.cell,t2.it.cell,f2,r2'.a,r2'.b,cond_true,cond_false,hc];first|exact ⟨rfl,rfl⟩|exact rfl)) ?_|refine w_12 ?_|((try refine w_9 ?_);simp (maxDischargeDepth:=12) only [viz,↓reduceIte,Nat.reduceEqDiff,reduceCtorEq,Int.reduceEq,Int.reduceNeg,Nat.reduceAdd,Nat.reduceLeDiff,t2.sp.cell,t2.fr.cell,t2.ho.cell,t2.ma.cell,t2.it.cell,f2,r2'.a,r2'.b])))
  · have ez : (prepP t x.c x.q x.call x.token).2 = zeroT := prep_err (by simpa using hb)
    rw [ez] at T2 ⊢
    have hn2 := q2.n
    refine same_c (t := zeroT) (w := w2) (u := zeroW) (D := fun r => r < s2.next) (fun r hr => Nat.lt_trans hr hn2) T2 (zero_in _ _) ⟨by decide, by decide, by decide, by decide, by decide⟩ fun s5 h5 => ?_
    (repeat' (with_reducible first|refine w_1 ?_|refine w_2 ?_|refine w_3 ?_|refine w_4 ?_|refine w_5 ?_|refine w_6 ?_|refine w_7 ?_|(refine w_8 (fun hb=>?_) (fun hb=>?_)<;>(try simp only [Bool.not_eq_true',Bool.not_eq_false'] at hb)<;>try simp only [hb])|refine w_13 (fun hc=>(by (try simp only [Bool.and_eq_true] at hc);simp (maxDischargeDepth:=12) only [viz,↓reduceIte,Nat.reduceEqDiff,reduceCtorEq,Int.reduceEq,Int.reduceNeg,Nat.reduceAdd,Nat.reduceLeDiff,cond_true,cond_false,hc];first|exact ⟨rfl,rfl⟩|exact rfl)) ?_|refine w_12 ?_|((try refine w_9 ?_);simp (maxDischargeDepth:=12) only [viz,↓reduceIte,Nat.reduceEqDiff,reduceCtorEq,Int.reduceEq,Int.reduceNeg,Nat.reduceAdd,Nat.reduceLeDiff])))
    refine awake19_c _ ?_
    (repeat' (with_reducible first|refine w_1 ?_|refine w_2 ?_|refine w_3 ?_|refine w_4 ?_|refine w_5 ?_|refine w_6 ?_|refine w_7 ?_|(refine w_8 (fun hb=>?_) (fun hb=>?_)<;>(try simp only [Bool.not_eq_true',Bool.not_eq_false'] at hb)<;>try simp only [hb])|refine w_13 (fun hc=>(by (try simp only [Bool.and_eq_true] at hc);simp (maxDischargeDepth:=12) only [viz,↓reduceIte,Nat.reduceEqDiff,reduceCtorEq,Int.reduceEq,Int.reduceNeg,Nat.reduceAdd,Nat.reduceLeDiff,cond_true,cond_false,hc];first|exact ⟨rfl,rfl⟩|exact rfl)) ?_|refine w_12 ?_|((try refine w_9 ?_);simp (maxDischargeDepth:=12) only [viz,↓reduceIte,Nat.reduceEqDiff,reduceCtorEq,Int.reduceEq,Int.reduceNeg,Nat.reduceAdd,Nat.reduceLeDiff])))
  have e0 : (prepP t x.c x.q x.call x.token).1 = 0 := by simpa using hb
  have hP : prepP t x.c x.q x.call x.token = (0, (prepP t x.c x.q x.call x.token).2) := Prod.ext e0 rfl
  generalize (prepP t x.c x.q x.call x.token).2 = A at *
  obtain ⟨p1, p2, p3, p4, p5, p6, p7, p8, p9⟩ := prep_ok hP
  have ptok := prep_tok hP htk hx2 hx1
  have hlA : A.holds.length ≤ 100 ∧ A.marks.length ≤ 100 := by rw [p4, p5]; exact hl
  have hlt2 := hlt.2
  have hliA : A.ints.length ≤ 200 := by omega
  have smA : Small A := ⟨by rw [p6]; omega, by rw [p7]; omega, by omega, by omega, by omega⟩
  have fok := fin_ok (c := x.c) (q := x.q) p3 hlA hliA ptok
  have hk1 : 1 ≤ x.call.keys.length := by
    simp only [callS, Bool.and_eq_true, decide_eq_true_eq] at p2
    omega
  have hYne : A.ints.filter (isX x.c x.q) ≠ [] := fun h => by rw [h] at p9; simp at p9; omega
  have finT : finP A x.c x.q true = (0, (x.call.keys.length : Int), withI2 ((A.ints.filter (isX x.c x.q)).foldl turnT A) (A.ints.filter fun y => !isX x.c x.q y)) := by
    unfold finP
    rw [if_neg (by rw [p3]; simp), if_neg hYne, p9]; rfl
  have finF : finP A x.c x.q false = (0, (x.call.keys.length : Int), withI2 A (A.ints.filter fun y => !isX x.c x.q y)) := by
    unfold finP
    rw [if_neg (by rw [p3]; simp), if_neg hYne, p9]; rfl
  generalize withI2 ((A.ints.filter (isX x.c x.q)).foldl turnT A) (A.ints.filter fun y => !isX x.c x.q y) = Bt at *
  have smB : Small Bt := ⟨by rw [fok.sp, p6]; omega, by rw [fok.fr, p7]; omega, by have := fok.lh; omega, by have := fok.lm; omega, by have := fok.li; omega⟩
  have hn2 := q2.n
  have I2 : In (fun r => r < s2.next) (s2.push ⟨27, 6, [[.int .i64 A.now, w2.sp, w2.fr, w2.ho, w2.ma, w2.it]]⟩) := fun r hr => Nat.lt_trans hr hn2
  generalize s2.push _ = S2 at *
  refine finish_c (t := A) (w := w2) (c := x.c) (q := x.q) (commit := true) (D := fun r => r < s2.next) (k2'.ok hf) I2 T2 smA hlA hliA ptok fun w3 s3 h3 t3 => ?_
  rw [finT] at t3 ⊢
  have r3 := r2'.then h3
  have k3 := k2'.then h3
  have f3 : s3.floor ≤ s3.next := k3.ok hf
  have q3 := q2.then h3
  have n3 := h3.next
  have q4 := Kp.of_push s3 ⟨27, 6, [tabC Bt w3]⟩
  simp only [tabC] at q4 ⊢
  have r3' := r3.then q4.k
  have q3' := q3.then q4.k
  have k3' := k3.then q4.k
  have hn4 := q4.n
  have T3 := (t3.keep fun r hr => q4.k.get r (by rcases hr with hr | hr; omega; exact hr.2)).mono (D' := fun r => r < s3.next) fun r hr => by rcases hr with hr | hr; omega; exact hr.2
  have T2a := T2.keep (s' := s3.push ⟨27, 6, [[.int .i64 Bt.now, w3.sp, w3.fr, w3.ho, w3.ma, w3.it]]⟩) fun r hr => (h3.then q4.k).get r (Nat.lt_trans hr hn2)
  have ne : (s2.next = s3.next) = False := by simp; omega
  have ne' : (s3.next = s2.next) = False := by simp; omega
  have ne2 : (s.next + 1 = s3.next) = False := by have := r3.n; simp; omega
  (repeat' (with_reducible first|refine w_1 ?_|refine w_2 ?_|refine w_3 ?_|refine w_4 ?_|refine w_5 ?_|refine w_6 ?_|refine w_7 ?_|(refine w_8 (fun hb=>?_) (fun hb=>?_)<;>(try simp only [Bool.not_eq_true',Bool.not_eq_false'] at hb)<;>try simp only [hb])|refine w_13 (fun hc=>(by (try simp only [Bool.and_eq_true] at hc);simp (maxDischargeDepth:=12) only [viz,↓reduceIte,Nat.reduceEqDiff,reduceCtorEq,Int.reduceEq,Int.reduceNeg,Nat.reduceAdd,Nat.reduceLeDiff,t3.sp.cell,t3.fr.cell,t3.ho.cell,t3.ma.cell,t3.it.cell,f3,q3.g,r3.a,r3.b,ne,ne',ne2,cond_true,cond_false,hc];first|exact ⟨rfl,rfl⟩|exact rfl)) ?_|refine w_12 ?_|((try refine w_9 ?_);simp (maxDischargeDepth:=12) only [viz,↓reduceIte,Nat.reduceEqDiff,reduceCtorEq,Int.reduceEq,Int.reduceNeg,Nat.reduceAdd,Nat.reduceLeDiff,t3.sp.cell,t3.fr.cell,t3.ho.cell,t3.ma.cell,t3.it.cell,f3,q3.g,r3.a,r3.b,ne,ne',ne2])))
  generalize s3.push _ = S3 at *
  refine finish_c (t := A) (w := w2) (c := x.c) (q := x.q) (commit := false) (D := fun r => r < s2.next) (k3'.ok hf) (fun r hr => by omega) T2a smA hlA hliA ptok fun w4 s4 h4 t4 => ?_
  rw [finF] at t4 ⊢
  have r4 := r3'.then h4
  have k4 := k3'.then h4
  have f4 : s4.floor ≤ s4.next := k4.ok hf
  have q5 := q3'.then h4
  have q6 := q4.then h4
  have n4 := h4.next
  have pk := pushes s4 ⟨27, 6, [tabC (withI2 A (A.ints.filter fun y => !isX x.c x.q y)) w4]⟩
  simp only [tabC] at pk ⊢
  have hn5 := q5.n
  have hn6 := q6.n
  have hr4 := r4.n
  have m1 : (s.next + 1 = s4.next) = False := by simp; omega
  have m2 : (s2.next = s4.next) = False := by simp; omega
  have m3 : (s3.next = s4.next) = False := by simp; omega
  have m4 : (s4.next = s2.next) = False := by simp; omega
  (repeat' (with_reducible first|refine w_1 ?_|refine w_2 ?_|refine w_3 ?_|refine w_4 ?_|refine w_5 ?_|refine w_6 ?_|refine w_7 ?_|(refine w_8 (fun hb=>?_) (fun hb=>?_)<;>(try simp only [Bool.not_eq_true',Bool.not_eq_false'] at hb)<;>try simp only [hb])|refine w_13 (fun hc=>(by (try simp only [Bool.and_eq_true] at hc);simp (maxDischargeDepth:=12) only [viz,↓reduceIte,Nat.reduceEqDiff,reduceCtorEq,Int.reduceEq,Int.reduceNeg,Nat.reduceAdd,Nat.reduceLeDiff,t4.sp.cell,t4.fr.cell,t4.ho.cell,t4.ma.cell,t4.it.cell,f4,q5.g,q6.g,r4.a,r4.b,hlk,m1,m2,m3,m4,bne_self_eq_false, Int.reduceBEq, Int.reduceBNe, Int.reduceLT, Int.reduceLE, Int.reduceGT, Int.reduceGE,cond_true,cond_false,hc];first|exact ⟨rfl,rfl⟩|exact rfl)) ?_|refine w_12 ?_|((try refine w_9 ?_);simp (maxDischargeDepth:=12) only [viz,↓reduceIte,Nat.reduceEqDiff,reduceCtorEq,Int.reduceEq,Int.reduceNeg,Nat.reduceAdd,Nat.reduceLeDiff,t4.sp.cell,t4.fr.cell,t4.ho.cell,t4.ma.cell,t4.it.cell,f4,q5.g,q6.g,r4.a,r4.b,hlk,m1,m2,m3,m4,bne_self_eq_false, Int.reduceBEq, Int.reduceBNe, Int.reduceLT, Int.reduceLE, Int.reduceGT, Int.reduceGE])))
  have T4 := (t4.keep (s' := s4.push ⟨27, 6, [[.int .i64 (withI2 A (A.ints.filter fun y => !isX x.c x.q y)).now, w4.sp, w4.fr, w4.ho, w4.ma, w4.it]]⟩) fun r hr => pk.get r (by rcases hr with hr | hr; omega; exact hr.2)).mono (D' := fun r => r < s4.next) fun r hr => by rcases hr with hr | hr; omega; exact hr.2
  have T2b := (T2a.keep (s' := s4.push ⟨27, 6, [[.int .i64 (withI2 A (A.ints.filter fun y => !isX x.c x.q y)).now, w4.sp, w4.fr, w4.ho, w4.ma, w4.it]]⟩) fun r hr => (h4.then pk).get r (by omega)).mono (D' := fun r => r < s4.next) fun r hr => by omega
  have T3b := (T3.keep (s' := s4.push ⟨27, 6, [[.int .i64 (withI2 A (A.ints.filter fun y => !isX x.c x.q y)).now, w4.sp, w4.fr, w4.ho, w4.ma, w4.it]]⟩) fun r hr => (h4.then pk).get r (by omega)).mono (D' := fun r => r < s4.next) fun r hr => by omega
  have q5' := q5.then pk
  have q6' := q6.then pk
  have r5 := r4.then pk
  have k5 := k4.then pk
  have n5 : (s4.push ⟨27, 6, [[.int .i64 (withI2 A (A.ints.filter fun y => !isX x.c x.q y)).now, w4.sp, w4.fr, w4.ho, w4.ma, w4.it]]⟩).next = s4.next + 1 := by rw [next_push']
  generalize s4.push _ = S5 at *
  have I5 : In (fun r => r < s4.next) S5 := fun r hr => by omega
  refine hosame_c (l := A.holds) I5 T4.ho T2b.ho (by omega) ?_
  have hli : lenA false w2.it = some A.ints.length := T2b.it.lenB
  (repeat' (with_reducible first|refine w_1 ?_|refine w_2 ?_|refine w_3 ?_|refine w_4 ?_|refine w_5 ?_|refine w_6 ?_|refine w_7 ?_|(refine w_8 (fun hb=>?_) (fun hb=>?_)<;>(try simp only [Bool.not_eq_true',Bool.not_eq_false'] at hb)<;>try simp only [hb])|refine w_13 (fun hc=>(by (try simp only [Bool.and_eq_true] at hc);simp (maxDischargeDepth:=12) only [viz,↓reduceIte,Nat.reduceEqDiff,reduceCtorEq,Int.reduceEq,Int.reduceNeg,Nat.reduceAdd,Nat.reduceLeDiff,q5'.g,q6'.g,r5.a,r5.b,cond_true,cond_false,hc];first|exact ⟨rfl,rfl⟩|exact rfl)) ?_|refine w_12 ?_|((try refine w_9 ?_);simp (maxDischargeDepth:=12) only [viz,↓reduceIte,Nat.reduceEqDiff,reduceCtorEq,Int.reduceEq,Int.reduceNeg,Nat.reduceAdd,Nat.reduceLeDiff,q5'.g,q6'.g,r5.a,r5.b])))
  refine W_inv A.ints.length (fun i E s' => Keep S5.next S5 s' ∧ E.get 3 = .ptr (s.next + 1) 0 0 ∧ E.get 5 = .ptr s2.next 0 0 ∧ E.get 7 = .ptr s3.next 0 0 ∧ E.get 12 = .int .i64 i) (by delta cf3l0 oo on om og oc ou; exact rfl) ?_ ?_
  · (repeat' (with_reducible first|refine w_1 ?_|refine w_2 ?_|refine w_3 ?_|refine w_4 ?_|refine w_5 ?_|refine w_6 ?_|refine w_7 ?_|(refine w_8 (fun hb=>?_) (fun hb=>?_)<;>(try simp only [Bool.not_eq_true',Bool.not_eq_false'] at hb)<;>try simp only [hb])|refine w_13 (fun hc=>(by (try simp only [Bool.and_eq_true] at hc);simp (maxDischargeDepth:=12) only [viz,↓reduceIte,Nat.reduceEqDiff,reduceCtorEq,Int.reduceEq,Int.reduceNeg,Nat.reduceAdd,Nat.reduceLeDiff,cond_true,cond_false,hc];first|exact ⟨rfl,rfl⟩|exact rfl)) ?_|refine w_12 ?_|((try refine w_9 ?_);simp (maxDischargeDepth:=12) only [viz,↓reduceIte,Nat.reduceEqDiff,reduceCtorEq,Int.reduceEq,Int.reduceNeg,Nat.reduceAdd,Nat.reduceLeDiff])))
    rfl
  rintro i E s6 hile _ ⟨hk6, g3, g5, g7, g12⟩
  have q56 := q5'.then hk6
  have q66 := q6'.then hk6
  have r6 := r5.then hk6
  have k6 := k5.then hk6
  have f6 : s6.floor ≤ s6.next := k6.ok hf
  by_cases hlt6 : i < A.ints.length
  · obtain ⟨y, hy⟩ := get_of hlt6
    obtain ⟨p, hp, P, hld⟩ := T2b.it.ldk I5 hy rfl rfl
    have hld' := hld _ hk6
    simp only [intC] at hld'
    have n6 := hk6.next
    have m5 : (s.next + 1 = s6.next) = False := by simp; omega
    have m6 : (s2.next = s6.next) = False := by simp; omega
    have m7 : (s3.next = s6.next) = False := by simp; omega
    have pk6 := pushes s6 ⟨46, 6, [intC y]⟩
    simp only [intC] at pk6
    (repeat' (with_reducible first|refine w_1 ?_|refine w_2 ?_|refine w_3 ?_|refine w_4 ?_|refine w_5 ?_|refine w_6 ?_|refine w_7 ?_|(refine w_8 (fun hb=>?_) (fun hb=>?_)<;>(try simp only [Bool.not_eq_true',Bool.not_eq_false'] at hb)<;>try simp only [hb])|refine w_13 (fun hc=>(by (try simp only [Bool.and_eq_true] at hc);simp (maxDischargeDepth:=12) only [viz,↓reduceIte,Nat.reduceEqDiff,reduceCtorEq,Int.reduceEq,Int.reduceNeg,Nat.reduceAdd,Nat.reduceLeDiff,g3,g5,g7,g12,q56.g,q66.g,r6.a,r6.b,hli,lt_true hlt6,hp,hld',f6,m5,m6,m7,eqA_id,cond_true,cond_false,hc];first|exact ⟨rfl,rfl⟩|exact rfl)) ?_|refine w_12 ?_|((try refine w_9 ?_);simp (maxDischargeDepth:=12) only [viz,↓reduceIte,Nat.reduceEqDiff,reduceCtorEq,Int.reduceEq,Int.reduceNeg,Nat.reduceAdd,Nat.reduceLeDiff,g3,g5,g7,g12,q56.g,q66.g,r6.a,r6.b,hli,lt_true hlt6,hp,hld',f6,m5,m6,m7,eqA_id])))
    · exact ⟨hlt6, hk6.then pk6, succ_av (by omega)⟩
    · have hyx : isX x.c x.q y = true := hb
      have hyA := List.mem_of_getElem? hy
      obtain ⟨v1, v2, v3⟩ := fok.no y hyA hyx
      have va := fok.acq y hyA hyx
      have vr := fok.rel y hyA hyx
      have kx := hk6.then pk6
      have xr := Kp.of_push s6 ⟨46, 6, [[.str y.key, .int .i64 y.client, .int .u64 y.seq, .int .i64 y.kind, .int .u64 y.token, .int .i64 y.ttl]]⟩
      refine inspect_c (t := Bt) (w := w3) (D := fun r => r < s4.next) ((k6.then pk6).ok hf) (I5.keep kx) (T3b.keep fun r hr => kx.get r (I5 r hr)) smB fok.may v3 v2 v1 fun s7 h7 => ?_
      have x7 := xr.then h7
      (repeat' (with_reducible first|refine w_1 ?_|refine w_2 ?_|refine w_3 ?_|refine w_4 ?_|refine w_5 ?_|refine w_6 ?_|refine w_7 ?_|(refine w_8 (fun hb=>?_) (fun hb=>?_)<;>(try simp only [Bool.not_eq_true',Bool.not_eq_false'] at hb)<;>try simp only [hb])|refine w_13 (fun hc=>(by (try simp only [Bool.and_eq_true] at hc);simp (maxDischargeDepth:=12) only [viz,↓reduceIte,Nat.reduceEqDiff,reduceCtorEq,Int.reduceEq,Int.reduceNeg,Nat.reduceAdd,Nat.reduceLeDiff,g3,g5,g7,g12,x7.g,bne_self_eq_false, Int.reduceBEq, Int.reduceBNe, Int.reduceLT, Int.reduceLE, Int.reduceGT, Int.reduceGE,cond_true,cond_false,hc];first|exact ⟨rfl,rfl⟩|exact rfl)) ?_|refine w_12 ?_|((try refine w_9 ?_);simp (maxDischargeDepth:=12) only [viz,↓reduceIte,Nat.reduceEqDiff,reduceCtorEq,Int.reduceEq,Int.reduceNeg,Nat.reduceAdd,Nat.reduceLeDiff,g3,g5,g7,g12,x7.g,bne_self_eq_false, Int.reduceBEq, Int.reduceBNe, Int.reduceLT, Int.reduceLE, Int.reduceGT, Int.reduceGE])))
      · exfalso
        by_cases h1 : y.kind = 1
        · have e1 := va h1
          simp [h1, e1] at hb
        · by_cases h2 : y.kind = 2
          · have e2 := vr h2
            simp [h2, e2] at hb
          · simp [h1, h2] at hb
      · exact ⟨hlt6, kx.then h7, succ_av (by omega)⟩
  · (repeat' (with_reducible first|refine w_1 ?_|refine w_2 ?_|refine w_3 ?_|refine w_4 ?_|refine w_5 ?_|refine w_6 ?_|refine w_7 ?_|(refine w_8 (fun hb=>?_) (fun hb=>?_)<;>(try simp only [Bool.not_eq_true',Bool.not_eq_false'] at hb)<;>try simp only [hb])|refine w_13 (fun hc=>(by (try simp only [Bool.and_eq_true] at hc);simp (maxDischargeDepth:=12) only [viz,↓reduceIte,Nat.reduceEqDiff,reduceCtorEq,Int.reduceEq,Int.reduceNeg,Nat.reduceAdd,Nat.reduceLeDiff,g3,g5,g7,g12,q56.g,hli,lt_false hlt6,cond_true,cond_false,hc];first|exact ⟨rfl,rfl⟩|exact rfl)) ?_|refine w_12 ?_|((try refine w_9 ?_);simp (maxDischargeDepth:=12) only [viz,↓reduceIte,Nat.reduceEqDiff,reduceCtorEq,Int.reduceEq,Int.reduceNeg,Nat.reduceAdd,Nat.reduceLeDiff,g3,g5,g7,g12,q56.g,hli,lt_false hlt6])))
    refine awake19_c _ ?_
    (repeat' (with_reducible first|refine w_1 ?_|refine w_2 ?_|refine w_3 ?_|refine w_4 ?_|refine w_5 ?_|refine w_6 ?_|refine w_7 ?_|(refine w_8 (fun hb=>?_) (fun hb=>?_)<;>(try simp only [Bool.not_eq_true',Bool.not_eq_false'] at hb)<;>try simp only [hb])|refine w_13 (fun hc=>(by (try simp only [Bool.and_eq_true] at hc);simp (maxDischargeDepth:=12) only [viz,↓reduceIte,Nat.reduceEqDiff,reduceCtorEq,Int.reduceEq,Int.reduceNeg,Nat.reduceAdd,Nat.reduceLeDiff,cond_true,cond_false,hc];first|exact ⟨rfl,rfl⟩|exact rfl)) ?_|refine w_12 ?_|((try refine w_9 ?_);simp (maxDischargeDepth:=12) only [viz,↓reduceIte,Nat.reduceEqDiff,reduceCtorEq,Int.reduceEq,Int.reduceNeg,Nat.reduceAdd,Nat.reduceLeDiff])))
theorem tableAll_walk : ∀ avs, TyVs Try.prog reachBytes 9 Try.f3.params.toList avs → ∃ k s', run (compX Try.prog xs) k 3 avs Mem.zero = some (.bool true, s') := by
  intro avs h
  obtain ⟨c, _, rfl, h1, c2, _, rfl, h2, rfl⟩ := h
  obtain ⟨t, w, rfl, hw, h3, h4⟩ := tyV_table2 (by exact h1)
  obtain ⟨x, v, rfl, hk, hl, hx1, hx2⟩ := tyV_txn2 (by exact h2)
  exact C_run (tableAll_c (by exact Nat.zero_le _) hw h3 h4 hk hl hx1 hx2) tab_le
end Go.Proofs.Ythibbbfhkfebkaa

