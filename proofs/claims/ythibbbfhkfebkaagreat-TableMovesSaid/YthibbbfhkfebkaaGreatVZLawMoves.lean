/- What comes of any table whose keys are frozen, handed over, or taken on: the law. No statement of the seat is proved here. -/
import Derived.Test.YthibbbfhkfebkaaGreatVZMH
import Derived.Test.YthibbbfhkfebkaaGreatVZTblAwake
import Derived.Test.YthibbbfhkfebkaaGreatVZVE
namespace Go.Proofs.YthibbbfhkfebkaaGreat
open Go Go.VI
set_option linter.unusedSimpArgs false
attribute [local irreducible] Ws Wp W C
set_option maxHeartbeats 8000000
theorem tableMoves_c {t : Table} {w : TV} {x : Span} {p : Parcel} {hv mv : AV} {s : Mem} (hf : s.floor ≤ s.next) (hw : ∀ s D, TabIn s D w t) (h3 : Small3 t) (hh : ∀ s D, Holds s D hv p.ho) (hm : ∀ s D, Marks s D mv p.ma)
    (hp1 : p.ho.length < 1000000000000000000) (hp2 : p.ma.length < 1000000000000000000) (hmk : ∀ m ∈ p.ma, 0 ≤ m.token) : C tab 5 [.agg (tabC t w), .agg (spanC x), .agg (parC p hv mv)] s (fun v' _ => v' = .bool true) := by
  refine C_enter (cf := cf5) rfl (Nat.le_of_ble_eq_true rfl) ?_
  simp only [cf5, oo, on, om, og, oc, ou, tabC, spanC, parC]
  have w0 := hw s fun _ => False
  have c1 := w0.sp.cell
  have c2 := w0.fr.cell
  have c3 := w0.ho.cell
  have c4 := w0.ma.cell
  have c5 := w0.it.cell
  have c6 := (hh s fun _ => False).cell
  have c7 := (hm s fun _ => False).cell
  have l6 : lenA false hv = some p.ho.length := (hh s fun _ => False).lenB
  have l7 : lenA false mv = some p.ma.length := (hm s fun _ => False).lenB
  have a1 := wrap_add (a := p.ho.length) (b := p.ma.length) (by omega)
  have r0 := R3.of_push s ⟨27, 6, [[.int .i64 t.now, w.sp, w.fr, w.ho, w.ma, w.it]]⟩ ⟨47, 2, [[.str x.frm, .str x.to]]⟩ ⟨49, 5, [[.int .u64 p.plan, .str p.sp.frm, .str p.sp.to, hv, mv]]⟩
  have k0 := (pushes s ⟨27, 6, [[.int .i64 t.now, w.sp, w.fr, w.ho, w.ma, w.it]]⟩).then ((pushes _ ⟨47, 2, [[.str x.frm, .str x.to]]⟩).then (pushes _ ⟨49, 5, [[.int .u64 p.plan, .str p.sp.frm, .str p.sp.to, hv, mv]]⟩))
  (repeat' (with_reducible first|refine w_1 ?_|refine w_2 ?_|simp (maxDischargeDepth:=12) only [viz,↓reduceIte,Nat.reduceAdd,c1,c2,c3,c4,c5,c6,c7]))
  generalize ((s.push _).push _).push _ = S0 at *
  (repeat' with_reducible simp (maxDischargeDepth:=12) only [viz,↓reduceIte,Nat.reduceEqDiff,reduceCtorEq,Int.reduceEq,Int.reduceNeg,Nat.reduceAdd,Nat.reduceLeDiff,r0.a])
  refine light_c (D := fun _ => False) (hw _ _) h3 fun s1 h1 => ?_
  have r1 := r0.then h1
  have k1 := k0.then h1
  (repeat' (with_reducible first|refine w_1 ?_|refine w_2 ?_|refine w_4 ?_|refine w_5 ?_|(refine w_8 (fun hb=>?_) (fun hb=>?_)<;>(try simp only [Bool.not_eq_true',Bool.not_eq_false'] at hb)<;>try simp only [hb])|refine w_13 (fun hc=>(by (try simp only [Bool.and_eq_true] at hc);simp (maxDischargeDepth:=12) only [viz,↓reduceIte,Nat.reduceEqDiff,Nat.reduceAdd,r1.c,l6,l7,a1,cond_false,hc];first|exact ⟨rfl,rfl⟩|exact rfl)) ?_|((try refine w_9 ?_);simp (maxDischargeDepth:=12) only [viz,↓reduceIte,Nat.reduceEqDiff,Nat.reduceAdd,r1.a,r1.b])))
  case' _ => skip
  · refine awake19_c _ ?_
    (repeat' (with_reducible first|refine w_6 ?_|simp (maxDischargeDepth:=12) only [viz,↓reduceIte]))
  have hb1 : lightS t = true := by grind
  have hb2 : p.ho.length + p.ma.length ≤ 100 := by
    have : decide (((p.ho.length + p.ma.length : Nat) : Int) > 100) = false := by grind
    simp only [decide_eq_false_iff_not] at this; omega
  clear hb
  simp only [lightS, Bool.and_eq_true, decide_eq_true_eq] at hb1
  have hsm : Small t := ⟨by omega, by omega, by omega, by omega, by omega⟩
  have hl : t.holds.length ≤ 300 ∧ t.marks.length ≤ 300 := ⟨by omega, by omega⟩
  have hpl : p.ho.length ≤ 300 ∧ p.ma.length ≤ 300 := ⟨by omega, by omega⟩
  have mF := frz_small (x := x) hsm
  obtain ⟨mX, mX1, mX2⟩ := exp_small (plan := p.plan) (x := x) hsm
  have mI := imp_small hsm hpl
  have noD : In (fun _ => False) s := fun _ h => h.elim
  refine freeze_c (t := t) (w := w) (x := x) (D := fun _ => False) (k1.ok hf) (fun _ h => h.elim) (hw _ _) hsm fun w2 s2 h2 t2 => ?_
  have r2 := r1.then h2
  have k2 := k1.then h2
  have f2 : s2.floor ≤ s2.next := k2.ok hf
  have q2 := Kp.of_push s2 ⟨27, 6, [tabC (frzP t x).2 w2]⟩
  simp only [tabC] at q2 ⊢
  have r2' := r2.then q2.k
  have k2' := k2.then q2.k
  have n1 := r1.n
  have n2 := h2.next
  (repeat' (with_reducible first|refine w_1 ?_|refine w_2 ?_|simp (maxDischargeDepth:=12) only [viz,↓reduceIte,Nat.reduceEqDiff,Nat.reduceAdd,t2.sp.cell,t2.fr.cell,t2.ho.cell,t2.ma.cell,t2.it.cell,f2,r2'.a,r2'.b]))
  generalize hS2 : s2.push _ = S2 at *
  have n2' : S2.next = s2.next + 1 := by rw [← hS2]; rfl
  refine rfreeze_c (t := t) (w := w) (x := x) (D := fun _ => False) (k2'.ok hf) (fun _ h => h.elim) (hw _ _) hsm fun w3 s3 h3 t3 => ?_
  have r3 := r2'.then h3
  have k3 := k2'.then h3
  have f3 : s3.floor ≤ s3.next := k3.ok hf
  have q3 := q2.then h3
  have n3 := h3.next
  have q4 := Kp.of_push s3 ⟨27, 6, [tabC (frzP t x).2 w3]⟩
  simp only [tabC] at q4 ⊢
  have k4 := k3.then q4.k
  have r4 := r3.then q4.k
  have ne : (s2.next = s3.next) = False := by simp; omega
  have ne' : (s3.next = s2.next) = False := by simp; omega
  (repeat' (with_reducible first|refine w_1 ?_|refine w_2 ?_|simp (maxDischargeDepth:=12) only [viz,↓reduceIte,Nat.reduceEqDiff,Nat.reduceAdd,t3.sp.cell,t3.fr.cell,t3.ho.cell,t3.ma.cell,t3.it.cell,f3,q3.g,ne]))
  have kk := q2.k.then (h3.then q4.k)
  have hn4 := q4.n
  refine lsame_c (t := (frzP t x).2) (w := w2) (u := w3) (D := fun r => r < s3.next) (fun r hr => Nat.lt_trans hr hn4) ((t2.keep fun r hr => kk.get r hr.2).mono fun r hr => by omega) ((t3.keep fun r hr => q4.k.get r ?_).mono fun r hr => ?_) mF fun s5 h5 => ?_
  · rcases hr with hr | hr
    · exact hr.elim
    · exact hr.2
  · rcases hr with hr | hr
    · exact hr.elim
    · exact hr.2
  have qA := (q3.then q4.k).then h5
  have qB := q4.then h5
  have r5 := r4.then h5
  have k5 := k4.then h5
  have n5 := h5.next
  clear kk q2 q3 q4 t2 t3 r2 r2' r3 r4 k2 k2' k3 k4 mF
  (repeat' (with_reducible first|refine w_1 ?_|refine w_2 ?_|refine w_4 ?_|refine w_5 ?_|simp (maxDischargeDepth:=12) only [viz,↓reduceIte,Nat.reduceEqDiff,Nat.reduceAdd,r5.a,r5.b,r5.c]))
  refine export_c (t := t) (w := w) (plan := p.plan) (x := x) (D := fun _ => False) (k5.ok hf) (fun _ h => h.elim) (hw _ _) hsm fun w6 h6 m6 s6 e6 t6 th6 tm6 => ?_
  have r6 := r5.then e6
  have k6 := k5.then e6
  have n6 := e6.next
  have f6 : s6.floor ≤ s6.next := k6.ok hf
  have qA6 := qA.then e6
  have qB6 := qB.then e6
  have f6' : s6.floor ≤ s6.next + 1 := by omega
  have e1 : (s.next = s6.next) = False := by simp; omega
  have e2 : (s.next = s6.next + 1) = False := by simp; omega
  have e3 : (s.next + 1 = s6.next) = False := by simp; omega
  have e4 : (s.next + 1 = s6.next + 1) = False := by simp; omega
  have e5 : (s.next + 1 + 1 = s6.next) = False := by simp; omega
  have e7 : (s.next + 1 + 1 = s6.next + 1) = False := by simp; omega
  simp only [tabC, parC]
  (repeat' (with_reducible first|refine w_1 ?_|refine w_2 ?_|simp (maxDischargeDepth:=12) only [viz,↓reduceIte,Nat.reduceEqDiff,Nat.reduceAdd,t6.sp.cell,t6.fr.cell,t6.ho.cell,t6.ma.cell,t6.it.cell,th6.cell,tm6.cell,f6,f6',r6.a,r6.b,r6.c,e1,e2,e3,e4,e5,e7]))
  generalize hS6 : Mem.put _ _ _ = S6
  have S6n : S6.next = s6.next + 1 + 1 := by rw [← hS6]; simp only [next_put', next_push']
  have S6k : Keep s6.next s6 S6 := by
    refine ⟨by omega, by rw [← hS6]; rfl, fun q hq => ?_⟩
    rw [← hS6]; simp only [Mem.get_put, Mem.get_push, next_push', next_put']
    repeat' rw [if_neg (by omega)]
  have S6t : S6.get s6.next = some ⟨27, 6, [tabC (expP t p.plan x).2.1 w6]⟩ := by
    rw [← hS6]; simp only [Mem.get_put, Mem.get_push, next_push', next_put', tabC]
    rw [if_neg (by omega), if_pos trivial]
  have S6p : S6.get (s6.next + 1) = some ⟨49, 5, [parC (expP t p.plan x).2.2 h6 m6]⟩ := by
    rw [← hS6]; simp only [Mem.get_put, Mem.get_push, next_push', next_put', parC]
    rw [if_pos trivial]
  clear hS6
  have r6' := r6.then S6k
  have k6' := k6.then S6k
  refine rexport_c (t := t) (w := w) (plan := p.plan) (x := x) (D := fun _ => False) (k6'.ok hf) (fun _ h => h.elim) (hw _ _) hsm fun w7 h7 m7 s7 x7 t7 th7 tm7 => ?_
  have r7 := r6'.then x7
  have k7 := k6'.then x7
  have n7 := x7.next
  have f7 : s7.floor ≤ s7.next := k7.ok hf
  have f7' : s7.floor ≤ s7.next + 1 := by omega
  have S7t := (x7.get s6.next (by omega)).trans S6t
  have S7p := (x7.get (s6.next + 1) (by omega)).trans S6p
  have d1 : (s6.next = s7.next) = False := by simp; omega
  have d2 : (s6.next = s7.next + 1) = False := by simp; omega
  have d3 : (s6.next + 1 = s7.next) = False := by simp; omega
  have d4 : (s6.next + 1 = s7.next + 1) = False := by simp; omega
  simp only [tabC, parC] at S7t S7p ⊢
  (repeat' (with_reducible first|refine w_1 ?_|refine w_2 ?_|simp (maxDischargeDepth:=12) only [viz,↓reduceIte,Nat.reduceEqDiff,Nat.reduceAdd,t7.sp.cell,t7.fr.cell,t7.ho.cell,t7.ma.cell,t7.it.cell,th7.cell,tm7.cell,f7,f7',S7t,d1,d2]))
  generalize hS7 : Mem.put _ _ _ = S7
  have S7n : S7.next = s7.next + 1 + 1 := by rw [← hS7]; simp only [next_put', next_push']
  have S7k : Keep s7.next s7 S7 := by
    refine ⟨by omega, by rw [← hS7]; rfl, fun q hq => ?_⟩
    rw [← hS7]; simp only [Mem.get_put, Mem.get_push, next_push', next_put']
    repeat' rw [if_neg (by omega)]
  have S7q : S7.get (s7.next + 1) = some ⟨49, 5, [parC (expP t p.plan x).2.2 h7 m7]⟩ := by
    rw [← hS7]; simp only [Mem.get_put, Mem.get_push, next_push', next_put', parC]
    rw [if_pos trivial]
  clear hS7
  have kk := S6k.then (x7.then S7k)
  refine lsame_c (t := (expP t p.plan x).2.1) (w := w6) (u := w7) (D := fun r => r < s7.next) (fun r hr => by omega) ((t6.keep fun r hr => kk.get r hr.2).mono fun r hr => by omega) ((t7.keep fun r hr => S7k.get r ?_).mono fun r hr => ?_) mX fun s8 h8 => ?_
  · rcases hr with hr | hr
    · exact hr.elim
    · exact hr.2
  · rcases hr with hr | hr
    · exact hr.elim
    · exact hr.2
  have S8p := (h8.get (s6.next + 1) (by omega)).trans ((S7k.get _ (by omega)).trans S7p)
  have S8q := (h8.get (s7.next + 1) (by omega)).trans S7q
  have n8 := h8.next
  simp only [parC] at S8q
  (repeat' with_reducible ((try refine w_9 ?_);simp (maxDischargeDepth:=12) only [viz,↓reduceIte,Nat.reduceEqDiff,S8p,S8q]))
  have kk8 := kk.then h8
  have k78 := S7k.then h8
  refine psame_c (p := (expP t p.plan x).2.2) (hv := h6) (mv := m6) (hu := h7) (mu := m7) (D := fun r => r < s7.next) (fun r hr => by omega) ((th6.keep fun r hr => kk8.get r hr.2).mono fun r hr => by omega) ((tm6.keep fun r hr => kk8.get r hr.2).mono fun r hr => by omega) ((th7.keep fun r hr => k78.get r hr.2).mono fun r hr => by omega) ((tm7.keep fun r hr => k78.get r hr.2).mono fun r hr => by omega) (by omega) fun s9 h9 => ?_
  have r9 := ((r7.then S7k).then h8).then h9
  have k9 := ((k7.then S7k).then h8).then h9
  have qA9 := (((((qA.then e6).then S6k).then x7).then S7k).then h8).then h9
  have qB9 := (((((qB.then e6).then S6k).then x7).then S7k).then h8).then h9
  have n9 := h9.next
  clear kk kk8 k78 t6 t7 th6 th7 tm6 tm7 S6k S7k S6t S6p S7t S7p S7q S8p S8q x7 h8 qA qB mX mX1 mX2 e6
  (repeat' (with_reducible first|refine w_1 ?_|refine w_2 ?_|refine w_4 ?_|refine w_5 ?_|((try refine w_9 ?_);simp (maxDischargeDepth:=12) only [viz,↓reduceIte,Nat.reduceEqDiff,Nat.reduceAdd,r9.a,r9.c])))
  refine import_c (t := t) (w := w) (p := p) (D := fun _ => False) (k9.ok hf) (fun _ h => h.elim) (hw _ _) hsm (hh _ _) (hm _ _) hl hpl hmk fun w10 s10 h10 t10 => ?_
  have r10 := r9.then h10
  have k10 := k9.then h10
  have n10 := h10.next
  have gA := (qA9.then h10).g
  have gB := (qB9.then h10).g
  have fA : s10.floor ≤ s2.next := by rw [k10.floor]; omega
  have fB : s10.floor ≤ s3.next := by rw [k10.floor]; omega
  have u1 : (s.next = s2.next) = False := by simp; omega
  have u2 : (s.next + 1 = s2.next) = False := by simp; omega
  have u3 : (s.next + 1 + 1 = s2.next) = False := by simp; omega
  simp only [tabC] at gA gB ⊢
  (repeat' (with_reducible first|refine w_1 ?_|refine w_2 ?_|simp (maxDischargeDepth:=12) only [viz,↓reduceIte,Nat.reduceEqDiff,Nat.reduceAdd,gA,fA,t10.sp.cell,t10.fr.cell,t10.ho.cell,t10.ma.cell,t10.it.cell,r10.a,r10.c,u1,u3]))
  generalize hS10 : Mem.put _ _ _ = S10
  have S10n : S10.next = s10.next := by rw [← hS10]; rfl
  have S10f : S10.floor = s10.floor := by rw [← hS10]; rfl
  have S10g : ∀ q, q ≠ s2.next → S10.get q = s10.get q := fun q hq => by rw [← hS10]; simp only [Mem.get_put, if_neg hq]
  have S10t : S10.get s2.next = some ⟨27, 6, [tabC (impP t p).2 w10]⟩ := by rw [← hS10]; simp only [Mem.get_put, if_pos]; rfl
  clear hS10
  refine rimport_c (t := t) (w := w) (p := p) (D := fun _ => False) (by have := k10.ok hf; omega) (fun _ h => h.elim) (hw _ _) hsm (hh _ _) (hm _ _) hl hpl hmk fun w11 s11 h11 t11 => ?_
  have n11 := h11.next
  have gA11 := (h11.get s2.next (by omega)).trans S10t
  have gB11 := (h11.get s3.next (by omega)).trans ((S10g _ (by omega)).trans gB)
  have fB11 : s11.floor ≤ s3.next := by rw [h11.floor, S10f]; exact fB
  have u4 : (s2.next = s3.next) = False := by simp; omega
  have u5 : (s3.next = s2.next) = False := by simp; omega
  simp only [tabC] at gA11 ⊢
  (repeat' (with_reducible first|refine w_1 ?_|refine w_2 ?_|simp (maxDischargeDepth:=12) only [viz,↓reduceIte,Nat.reduceEqDiff,Nat.reduceAdd,gA11,gB11,fB11,t11.sp.cell,t11.fr.cell,t11.ho.cell,t11.ma.cell,t11.it.cell,u4]))
  generalize hS11 : Mem.put _ _ _ = S11
  have S11n : S11.next = s11.next := by rw [← hS11]; rfl
  have S11g : ∀ q, q ≠ s3.next → S11.get q = s11.get q := fun q hq => by rw [← hS11]; simp only [Mem.get_put, if_neg hq]
  clear hS11
  refine lsame_c (t := (impP t p).2) (w := w10) (u := w11) (D := fun r => r < s11.next) (fun r hr => by omega) ((t10.keep fun r hr => ?_).mono fun r hr => by omega) ((t11.keep fun r hr => ?_).mono fun r hr => ?_) mI fun s12 h12 => ?_
  · rw [S11g r (by omega), h11.get r (by omega), S10g r (by omega)]
  · rcases hr with hr | hr
    · exact hr.elim
    · rw [S11g r (by omega)]
  · rcases hr with hr | hr
    · exact hr.elim
    · exact hr.2
  (repeat' with_reducible ((try refine w_9 ?_);simp (maxDischargeDepth:=12) only [viz,↓reduceIte]))
  refine awake19_c _ ?_
  (repeat' (with_reducible first|refine w_6 ?_|simp (maxDischargeDepth:=12) only [viz,↓reduceIte]))
theorem tableMoves_walk : ∀ avs, TyVs Tryz.prog reachBytes 9 Tryz.f5.params.toList avs → ∃ k s', run (compX Tryz.prog xs) k 5 avs Mem.zero = some (.bool true, s') := by
  intro avs h
  obtain ⟨c, _, rfl, h1, c2, _, rfl, h2, c3, _, rfl, h3, rfl⟩ := h
  obtain ⟨t, w, rfl, hw, g3, _⟩ := tyV_table2 (by exact h1)
  obtain ⟨x, rfl⟩ := tyV_span (by exact h2)
  obtain ⟨p, hv, mv, rfl, p1, p2, p3, p4, p5⟩ := tyV_parcel (by exact h3)
  exact C_run (tableMoves_c (by exact Nat.zero_le _) hw g3 p1 p2 p3 p4 p5) tab_le
end Go.Proofs.YthibbbfhkfebkaaGreat

