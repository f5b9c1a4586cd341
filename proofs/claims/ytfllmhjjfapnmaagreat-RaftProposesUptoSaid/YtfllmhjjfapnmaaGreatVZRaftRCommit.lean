/- What a majority has, as the document tells it. No statement of the seat is proved here. -/
import Derived.Test.YtfllmhjjfapnmaaGreatVZRaftIdx
import Derived.Test.YtfllmhjjfapnmaaGreatVZVE
namespace Go.Proofs.YtfllmhjjfapnmaaGreat
open Go Go.VI
set_option linter.unusedSimpArgs false
attribute [local irreducible] Ws Wp W C
set_option maxHeartbeats 4000000
theorem met_next {ps : List Peer} {k : Nat} {p : Peer} (hx : ps[k]? = some p) (a : Int) : Q.met (ps.take (k + 1)) a = (Q.met (ps.take k) a || p.1 == a) := by
  rw [Q.take_snoc hx, Q.met_snoc]
theorem first_next {ps : List Peer} {k : Nat} {p : Peer} (hx : ps[k]? = some p) (a : Int) : Q.firstM (ps.take (k + 1)) a = if Q.met (ps.take k) a = true then Q.firstM (ps.take k) a else if p.1 == a then p.2.2 else 0 := by
  rw [Q.take_snoc hx, Q.firstM_snoc]
theorem rc_l1 {vs : List Int} {ps : List Peer} {a : Int} {iv : Nat} {D : Nat → Prop} {s : Mem} {v w : AV} {E : Env} (hI : In D s) (hv : Sl s D v 1 (intsA .i64 vs)) (ha : vs[iv]? = some a) (hw : Sl s D w 3 (peersC ps)) (hp : Fit ps.length)
    (g0 : E.get 0 = v) (g1 : E.get 1 = w) (g6 : E.get 6 = .int .i64 iv) (g7 : E.get 7 = .int .u64 0) (g8 : E.get 8 = .bool false) (g9 : E.get 9 = .int .i64 0) :
    W tab (.loop cf136l1) E s (fun x e s' => x = .exit 2 ∧ s' = s ∧ e.get 7 = .int .u64 (Q.firstM ps a)) := by
  have hlen : lenA false w = some ps.length := by rw [hw.len, peersC_len]
  obtain ⟨pv, hpv, Pv⟩ := hv.atkB hI ha
  refine W_inv ps.length (fun k e s' => s' = s ∧ e.get 7 = .int .u64 (Q.firstM (ps.take k) a) ∧ e.get 8 = .bool (Q.met (ps.take k) a) ∧ e.get 9 = .int .i64 k) (by delta cf136l1 oo on om og oc ou; exact rfl) ?_ ?_
  · exact ⟨rfl, by rw [g7]; rfl, by rw [g8]; rfl, by rw [g9]; rfl⟩
  · rintro k e s' hk hT ⟨rfl, h7, h8, h9⟩
    have h0 := (hT 0 rfl).trans g0
    have h1 := (hT 1 rfl).trans g1
    have h6 := (hT 6 rfl).trans g6
    by_cases hlt : k < ps.length
    · obtain ⟨q, hx⟩ := get_of hlt
      obtain ⟨p, hpp, P⟩ := hw.atk hI (peersC_get hx)
      have m1 := met_next hx a
      have f1 := first_next hx a
      have hl0 : ∀ M, Keep s'.next s' M → loadA M false 1 (adr p 0) = some (.int .i64 q.1) := fun M hM => by
        rw [P.ldf M hM 0 false 1 (by simp [peerC])]; exact rfl
      have hl2 : loadA s' false 1 (adr p 2) = some (.int .u64 q.2.2) := by
        rw [P.ldf _ (Keep.refl _ _) 2 false 1 (by simp [peerC])]; exact rfl
      by_cases hq : q.1 = a
      · have c1 : (q.1 == a) = true := by simp [hq]
        rw [c1] at m1 f1
        simp only [Bool.or_true] at m1
        cases hm : Q.met (ps.take k) a
        · rw [hm] at h8 f1
          simp only [Bool.false_eq_true, if_false, if_true] at f1
          (repeat' (with_reducible first|refine w_1 ?_|refine w_2 ?_|refine w_3 ?_|refine w_4 ?_|refine w_5 ?_|refine w_6 ?_|refine w_7 ?_|(refine w_8 (fun hb=>?_) (fun hb=>?_)<;>try simp only [hb])|refine w_9 ?_|simp (maxDischargeDepth:=12) only [viz,↓reduceIte,Nat.reduceEqDiff,reduceCtorEq,Int.reduceEq,Int.reduceNeg,Nat.reduceAdd,Nat.reduceLeDiff,h0,h1,h6,h7,h8,h9,hlen,lt_true hlt,hpp,hpv,P.adr,Pv.ld,hl0,hl2,c1,bne_self_eq_false, Int.reduceBEq, Int.reduceBNe, Int.reduceLT, Int.reduceLE, Int.reduceGT, Int.reduceGE]))
          exact ⟨hlt, by rw [f1], by rw [m1], succ_av (by omega)⟩
        · rw [hm] at h8 f1
          simp only [if_true] at f1
          (repeat' (with_reducible first|refine w_1 ?_|refine w_2 ?_|refine w_3 ?_|refine w_4 ?_|refine w_5 ?_|refine w_6 ?_|refine w_7 ?_|(refine w_8 (fun hb=>?_) (fun hb=>?_)<;>try simp only [hb])|refine w_9 ?_|simp (maxDischargeDepth:=12) only [viz,↓reduceIte,Nat.reduceEqDiff,reduceCtorEq,Int.reduceEq,Int.reduceNeg,Nat.reduceAdd,Nat.reduceLeDiff,h0,h1,h6,h7,h8,h9,hlen,lt_true hlt,hpp,hpv,P.adr,Pv.ld,hl0,hl2,c1,bne_self_eq_false, Int.reduceBEq, Int.reduceBNe, Int.reduceLT, Int.reduceLE, Int.reduceGT, Int.reduceGE]))
          exact ⟨hlt, by rw [f1], by rw [m1], succ_av (by omega)⟩
      · have c1 : (q.1 == a) = false := by simp [hq]
        rw [c1] at m1 f1
        simp only [Bool.or_false, Bool.false_eq_true, if_false] at m1 f1
        have f2 : Q.firstM (ps.take (k + 1)) a = Q.firstM (ps.take k) a := by
          rw [f1]
          cases hm : Q.met (ps.take k) a
          · rw [Q.firstM_unmet hm]; rfl
          · rfl
        (repeat' (with_reducible first|refine w_1 ?_|refine w_2 ?_|refine w_3 ?_|refine w_4 ?_|refine w_5 ?_|refine w_6 ?_|refine w_7 ?_|(refine w_8 (fun hb=>?_) (fun hb=>?_)<;>try simp only [hb])|refine w_9 ?_|simp (maxDischargeDepth:=12) only [viz,↓reduceIte,Nat.reduceEqDiff,reduceCtorEq,Int.reduceEq,Int.reduceNeg,Nat.reduceAdd,Nat.reduceLeDiff,h0,h1,h6,h7,h8,h9,hlen,lt_true hlt,hpp,hpv,P.adr,Pv.ld,hl0,hl2,c1,bne_self_eq_false, Int.reduceBEq, Int.reduceBNe, Int.reduceLT, Int.reduceLE, Int.reduceGT, Int.reduceGE]))
        exact ⟨hlt, by rw [f2], by rw [m1], succ_av (by omega)⟩
    · (repeat' (with_reducible first|refine w_1 ?_|refine w_2 ?_|refine w_3 ?_|refine w_4 ?_|refine w_5 ?_|refine w_6 ?_|refine w_7 ?_|(refine w_8 (fun hb=>?_) (fun hb=>?_)<;>try simp only [hb])|refine w_9 ?_|simp (maxDischargeDepth:=12) only [viz,↓reduceIte,Nat.reduceEqDiff,reduceCtorEq,Int.reduceEq,Int.reduceNeg,Nat.reduceAdd,Nat.reduceLeDiff,h0,h1,h6,h7,h8,h9,hlen,lt_false hlt]))
      rw [List.take_of_length_le (by omega)]
theorem rc_l3 {l : List Int} {x : Int} {iv : Nat} {D : Nat → Prop} {s : Mem} {v : AV} {E : Env} (hI : In D s) (hv : Sl s D v 1 (intsA .u64 l)) (hx : l[iv]? = some x) (hn : Fit l.length)
    (g5 : E.get 5 = v) (g11 : E.get 11 = .int .i64 iv) (g12 : E.get 12 = .int .i64 0) (g13 : E.get 13 = .int .i64 0) :
    W tab (.loop cf136l3) E s (fun y e s' => y = .exit 6 ∧ s' = s ∧ e.get 12 = .int .i64 (Q.ge l x)) := by
  obtain ⟨pv, hpv, Pv⟩ := hv.atkB hI hx
  unfold Fit at hn
  refine W_inv l.length (fun k e s' => s' = s ∧ e.get 12 = .int .i64 (Q.ge (l.take k) x) ∧ e.get 13 = .int .i64 k) (by delta cf136l3 oo on om og oc ou; exact rfl) ?_ ?_
  · exact ⟨rfl, by rw [g12]; rfl, by rw [g13]; rfl⟩
  · rintro k e s' hk hT ⟨rfl, h12, h13⟩
    have h5 := (hT 5 rfl).trans g5
    have h11 := (hT 11 rfl).trans g11
    by_cases hlt : k < l.length
    · obtain ⟨y, hy⟩ := get_of hlt
      obtain ⟨p, hpp, P⟩ := hv.atkB hI hy
      have t1 := Q.ge_take l x k y hy
      have t2 := Q.ge_le (l.take k) x
      rw [List.length_take] at t2
      by_cases hge : x ≤ y
      · have c1 : decide (y ≥ x) = true := by simp [hge]
        rw [if_pos hge] at t1
        (repeat' (with_reducible first|refine w_1 ?_|refine w_2 ?_|refine w_3 ?_|refine w_4 ?_|refine w_5 ?_|refine w_6 ?_|refine w_7 ?_|(refine w_8 (fun hb=>?_) (fun hb=>?_)<;>try simp only [hb])|refine w_9 ?_|simp (maxDischargeDepth:=12) only [viz,↓reduceIte,Nat.reduceEqDiff,reduceCtorEq,Int.reduceEq,Int.reduceNeg,Nat.reduceAdd,Nat.reduceLeDiff,h5,h11,h12,h13,hv.lenB,lt_true hlt,hpp,hpv,P.ld,Pv.ld,c1,succ_cast (i := Q.ge (l.take k) x) (by omega)]))
        exact ⟨hlt, by rw [t1], succ_av (by omega)⟩
      · have c1 : decide (y ≥ x) = false := by simp; omega
        rw [if_neg hge, Nat.add_zero] at t1
        (repeat' (with_reducible first|refine w_1 ?_|refine w_2 ?_|refine w_3 ?_|refine w_4 ?_|refine w_5 ?_|refine w_6 ?_|refine w_7 ?_|(refine w_8 (fun hb=>?_) (fun hb=>?_)<;>try simp only [hb])|refine w_9 ?_|simp (maxDischargeDepth:=12) only [viz,↓reduceIte,Nat.reduceEqDiff,reduceCtorEq,Int.reduceEq,Int.reduceNeg,Nat.reduceAdd,Nat.reduceLeDiff,h5,h11,h12,h13,hv.lenB,lt_true hlt,hpp,hpv,P.ld,Pv.ld,c1]))
        exact ⟨hlt, by rw [t1]; rfl, succ_av (by omega)⟩
    · (repeat' (with_reducible first|refine w_1 ?_|refine w_2 ?_|refine w_3 ?_|refine w_4 ?_|refine w_5 ?_|refine w_6 ?_|refine w_7 ?_|(refine w_8 (fun hb=>?_) (fun hb=>?_)<;>try simp only [hb])|refine w_9 ?_|simp (maxDischargeDepth:=12) only [viz,↓reduceIte,Nat.reduceEqDiff,reduceCtorEq,Int.reduceEq,Int.reduceNeg,Nat.reduceAdd,Nat.reduceLeDiff,h5,h11,h12,h13,hv.lenB,lt_false hlt]))
      rw [List.take_of_length_le (by omega)]
theorem rc_l2 {l : List Int} {D : Nat → Prop} {s : Mem} {v : AV} {E : Env} (hI : In D s) (hv : Sl s D v 1 (intsA .u64 l)) (hn : l.length < 1000000)
    (g5 : E.get 5 = v) (g10 : E.get 10 = .int .u64 0) (g11 : E.get 11 = .int .i64 0) :
    W tab (.loop cf136l2) E s (fun y e s' => y = .exit 4 ∧ s' = s ∧ e.get 10 = .int .u64 (Q.bst l l.length)) := by
  refine W_inv l.length (fun k e s' => s' = s ∧ e.get 10 = .int .u64 (Q.bst l k) ∧ e.get 11 = .int .i64 k) (by delta cf136l2 oo on om og oc ou; exact rfl) ?_ ?_
  · exact ⟨rfl, by rw [g10]; rfl, by rw [g11]; rfl⟩
  · rintro k e s' hk hT ⟨rfl, h10, h11⟩
    have h5 := (hT 5 rfl).trans g5
    by_cases hlt : k < l.length
    · obtain ⟨y, hy⟩ := get_of hlt
      obtain ⟨p, hpp, P⟩ := hv.atkB hI hy
      have hb : Q.bst l (k + 1) = if l.length < 2 * Q.ge l y ∧ Q.bst l k < y then y else Q.bst l k := by simp only [Q.bst, hy]
      have hgl := Q.ge_le l y
      (repeat' (with_reducible first|refine w_1 ?_|refine w_2 ?_|refine w_3 ?_|refine w_4 ?_|refine w_5 ?_|refine w_6 ?_|refine w_7 ?_|(refine w_8 (fun hb=>?_) (fun hb=>?_)<;>try simp only [hb])|refine w_9 ?_|simp (maxDischargeDepth:=12) only [viz,↓reduceIte,Nat.reduceEqDiff,reduceCtorEq,Int.reduceEq,Int.reduceNeg,Nat.reduceAdd,Nat.reduceLeDiff,h5,h10,h11,hv.lenB,lt_true hlt]))
      refine W_mono (W_keep (rc_l3 (iv := k) hI hv hy (show l.length < 1000000000000 by omega) (by simp only [Env.get_set, ↓reduceIte, Nat.reduceEqDiff, h5]) (by simp only [Env.get_set, ↓reduceIte, Nat.reduceEqDiff, h11]) (by simp only [ev, Env.get_set, ↓reduceIte, Nat.reduceEqDiff]) (by simp only [ev, Env.get_set, ↓reduceIte, Nat.reduceEqDiff]))) ?_
      rintro x e3 s3 ⟨hT3, rfl, rfl, g12⟩
      have g5' := (hT3 5 rfl).trans (show _ = v from (by simp only [Env.get_set, ↓reduceIte, Nat.reduceEqDiff, h5]))
      have g10' := (hT3 10 rfl).trans (show _ = AV.int .u64 (Q.bst l k) from (by simp only [Env.get_set, ↓reduceIte, Nat.reduceEqDiff, h10]))
      have g11' := (hT3 11 rfl).trans (show _ = AV.int .i64 k from (by simp only [Env.get_set, ↓reduceIte, Nat.reduceEqDiff, h11]))
      have w2 : IntKind.i64.wrap (2 * (Q.ge l y : Int)) = ((2 * Q.ge l y : Nat) : Int) := by rw [wrap_i64 (by omega)]; omega
      have ld : loadA s3 false 1 p = some (.int .u64 y) := by rw [P.ld _ (Keep.refl _ _)]; exact rfl
      by_cases c : l.length < 2 * Q.ge l y
      · have c1 : decide (((2 * Q.ge l y : Nat) : Int) > (l.length : Int)) = true := by simp; omega
        by_cases c' : Q.bst l k < y
        · have c2 : decide (y > Q.bst l k) = true := by simp [c']
          rw [if_pos ⟨c, c'⟩] at hb
          (repeat' (with_reducible first|refine w_1 ?_|refine w_2 ?_|refine w_3 ?_|refine w_4 ?_|refine w_5 ?_|refine w_6 ?_|refine w_7 ?_|(refine w_8 (fun hb=>?_) (fun hb=>?_)<;>try simp only [hb])|refine w_9 ?_|simp (maxDischargeDepth:=12) only [viz,↓reduceIte,Nat.reduceEqDiff,reduceCtorEq,Int.reduceEq,Int.reduceNeg,Nat.reduceAdd,Nat.reduceLeDiff,g5',g10',g11',g12,hv.lenB,w2,c1,c2,hpp,ld,bne_self_eq_false, Int.reduceBEq, Int.reduceBNe, Int.reduceLT, Int.reduceLE, Int.reduceGT, Int.reduceGE]))
          exact ⟨hlt, by rw [hb], succ_av (by omega)⟩
        · have c2 : decide (y > Q.bst l k) = false := by simp; omega
          rw [if_neg (by omega)] at hb
          (repeat' (with_reducible first|refine w_1 ?_|refine w_2 ?_|refine w_3 ?_|refine w_4 ?_|refine w_5 ?_|refine w_6 ?_|refine w_7 ?_|(refine w_8 (fun hb=>?_) (fun hb=>?_)<;>try simp only [hb])|refine w_9 ?_|simp (maxDischargeDepth:=12) only [viz,↓reduceIte,Nat.reduceEqDiff,reduceCtorEq,Int.reduceEq,Int.reduceNeg,Nat.reduceAdd,Nat.reduceLeDiff,g5',g10',g11',g12,hv.lenB,w2,c1,c2,hpp,ld,bne_self_eq_false, Int.reduceBEq, Int.reduceBNe, Int.reduceLT, Int.reduceLE, Int.reduceGT, Int.reduceGE]))
          exact ⟨hlt, by rw [hb], succ_av (by omega)⟩
      · have c1 : decide (((2 * Q.ge l y : Nat) : Int) > (l.length : Int)) = false := by simp; omega
        rw [if_neg (by omega)] at hb
        (repeat' (with_reducible first|refine w_1 ?_|refine w_2 ?_|refine w_3 ?_|refine w_4 ?_|refine w_5 ?_|refine w_6 ?_|refine w_7 ?_|(refine w_8 (fun hb=>?_) (fun hb=>?_)<;>try simp only [hb])|refine w_9 ?_|simp (maxDischargeDepth:=12) only [viz,↓reduceIte,Nat.reduceEqDiff,reduceCtorEq,Int.reduceEq,Int.reduceNeg,Nat.reduceAdd,Nat.reduceLeDiff,g5',g10',g11',g12,hv.lenB,w2,c1,hpp,ld,bne_self_eq_false, Int.reduceBEq, Int.reduceBNe, Int.reduceLT, Int.reduceLE, Int.reduceGT, Int.reduceGE]))
        exact ⟨hlt, by rw [hb], succ_av (by omega)⟩
    · (repeat' (with_reducible first|refine w_1 ?_|refine w_2 ?_|refine w_3 ?_|refine w_4 ?_|refine w_5 ?_|refine w_6 ?_|refine w_7 ?_|(refine w_8 (fun hb=>?_) (fun hb=>?_)<;>try simp only [hb])|refine w_9 ?_|simp (maxDischargeDepth:=12) only [viz,↓reduceIte,Nat.reduceEqDiff,reduceCtorEq,Int.reduceEq,Int.reduceNeg,Nat.reduceAdd,Nat.reduceLeDiff,h5,h10,h11,hv.lenB,lt_false hlt]))
      rw [show k = l.length by omega]
theorem ms_nonneg {vs : List Int} {ps : List Peer} (h : ∀ p ∈ ps, InU p.2.2) : ∀ x ∈ Q.ms vs ps, 0 ≤ x := by
  intro x hx
  obtain ⟨n, _, rfl⟩ := List.mem_map.mp hx
  exact (firstM_inU h n).1
theorem rqcommit_c {vs : List Int} {ps : List Peer} {D : Nat → Prop} {s : Mem} {v w : AV} {K : AV → Mem → Prop} (hf : s.floor ≤ s.next) (hI : In D s) (hv : Sl s D v 1 (intsA .i64 vs)) (hn : Fit vs.length) (hw : Sl s D w 3 (peersC ps)) (hp : Fit ps.length) (hu : ∀ p ∈ ps, InU p.2.2)
    (hK : ∀ s', Keep s.next s s' → K (.int .u64 (major vs ps)) s') : C tab 136 [v, w] s K := by
  refine C_enter (cf := cf136) rfl (Nat.le_of_ble_eq_true rfl) ?_
  simp only [cf136, oo, on, om, og, oc, ou]
  (repeat' (with_reducible first|refine w_1 ?_|refine w_2 ?_|refine w_3 ?_|refine w_4 ?_|refine w_5 ?_|refine w_6 ?_|refine w_7 ?_|(refine w_8 (fun hb=>?_) (fun hb=>?_)<;>try simp only [hb])|refine w_9 ?_|simp (maxDischargeDepth:=12) only [viz,↓reduceIte,Nat.reduceEqDiff,reduceCtorEq,Int.reduceEq,Int.reduceNeg,Nat.reduceAdd,Nat.reduceLeDiff]))
  refine rcheck_c hv hn ?_
  unfold major at hK
  cases hok : okV vs
  · (repeat' (with_reducible first|refine w_1 ?_|refine w_2 ?_|refine w_3 ?_|refine w_4 ?_|refine w_5 ?_|refine w_6 ?_|refine w_7 ?_|(refine w_8 (fun hb=>?_) (fun hb=>?_)<;>try simp only [hb])|refine w_9 ?_|simp (maxDischargeDepth:=12) only [viz,↓reduceIte,Nat.reduceEqDiff,reduceCtorEq,Int.reduceEq,Int.reduceNeg,Nat.reduceAdd,Nat.reduceLeDiff,bne_self_eq_false, Int.reduceBEq, Int.reduceBNe, Int.reduceLT, Int.reduceLE, Int.reduceGT, Int.reduceGE]))
    rw [hok] at hK
    exact hK _ (Keep.refl _ _)
  rw [hok] at hK
  simp only [if_true] at hK
  obtain ⟨h0, h7⟩ := okV_len hok
  have fT : (s.floor ≤ s.next) = True := by simp [hf]
  (repeat' (with_reducible first|refine w_1 ?_|refine w_2 ?_|refine w_3 ?_|refine w_4 ?_|refine w_5 ?_|refine w_6 ?_|refine w_7 ?_|(refine w_8 (fun hb=>?_) (fun hb=>?_)<;>try simp only [hb])|refine w_9 ?_|simp (maxDischargeDepth:=12) only [viz,↓reduceIte,Nat.reduceEqDiff,reduceCtorEq,Int.reduceEq,Int.reduceNeg,Nat.reduceAdd,Nat.reduceLeDiff,hv.lenB,fT,bne_self_eq_false, Int.reduceBEq, Int.reduceBNe, Int.reduceLT, Int.reduceLE, Int.reduceGT, Int.reduceGE]))
  have hk0 : Keep s.next s (s.push ⟨22, 1, []⟩) := pushes _ _
  refine W_inv vs.length (fun i e s' => Keep s.next s s' ∧ e.get 6 = .int .i64 i ∧ ∃ l, e.get 5 = l ∧ OwnL s' s.next l 22 1 (intsA .u64 (Q.ms (vs.take i) ps))) (by delta cf136l0 oo on om og oc ou; exact rfl) ?_ ?_
  · exact ⟨hk0, by simp only [Env.get_set, ↓reduceIte]; rfl, .emp, (by simp only [ev, Env.get_set, ↓reduceIte, Nat.reduceEqDiff]), OwnL.emp _ _ _ _⟩
  · rintro i e s' hi hT ⟨hk, g6, l, g5, ho⟩
    have g0 := hT 0 rfl
    have g1 := hT 1 rfl
    simp only [Env.get_set, ↓reduceIte, Nat.reduceEqDiff, Env.start, Env.ofList] at g0 g1
    clear hT
    by_cases hlt : i < vs.length
    · obtain ⟨a, ha⟩ := get_of hlt
      (repeat' (with_reducible first|refine w_1 ?_|refine w_2 ?_|refine w_3 ?_|refine w_4 ?_|refine w_5 ?_|refine w_6 ?_|refine w_7 ?_|(refine w_8 (fun hb=>?_) (fun hb=>?_)<;>try simp only [hb])|refine w_9 ?_|simp (maxDischargeDepth:=12) only [viz,↓reduceIte,Nat.reduceEqDiff,reduceCtorEq,Int.reduceEq,Int.reduceNeg,Nat.reduceAdd,Nat.reduceLeDiff,g0,g1,g5,g6,hv.lenB,lt_true hlt]))
      refine W_mono (W_keep (rc_l1 (iv := i) (hI.keep hk) (hv.keep (keep_old hI hk)) ha (hw.keep (keep_old hI hk)) hp (by simp only [Env.get_set, ↓reduceIte, Nat.reduceEqDiff, g0]) (by simp only [Env.get_set, ↓reduceIte, Nat.reduceEqDiff, g1]) (by simp only [Env.get_set, ↓reduceIte, Nat.reduceEqDiff, g6]) (by simp only [ev, Env.get_set, ↓reduceIte, Nat.reduceEqDiff]) (by simp only [ev, Env.get_set, ↓reduceIte, Nat.reduceEqDiff]) (by simp only [ev, Env.get_set, ↓reduceIte, Nat.reduceEqDiff]))) ?_
      rintro x e3 s3 ⟨hT3, rfl, rfl, g7⟩
      have g0' := (hT3 0 rfl).trans (show _ = v from (by simp only [Env.get_set, ↓reduceIte, Nat.reduceEqDiff, g0]))
      have g1' := (hT3 1 rfl).trans (show _ = w from (by simp only [Env.get_set, ↓reduceIte, Nat.reduceEqDiff, g1]))
      have g5' := (hT3 5 rfl).trans (show _ = l from (by simp only [Env.get_set, ↓reduceIte, Nat.reduceEqDiff, g5]))
      have g6' := (hT3 6 rfl).trans (show _ = AV.int .i64 i from (by simp only [Env.get_set, ↓reduceIte, Nat.reduceEqDiff, g6]))
      (repeat' (with_reducible first|refine w_1 ?_|refine w_2 ?_|refine w_3 ?_|refine w_4 ?_|refine w_5 ?_|refine w_6 ?_|refine w_7 ?_|(refine w_8 (fun hb=>?_) (fun hb=>?_)<;>try simp only [hb])|refine w_9 ?_|simp (maxDischargeDepth:=12) only [viz,↓reduceIte,Nat.reduceEqDiff,reduceCtorEq,Int.reduceEq,Int.reduceNeg,Nat.reduceAdd,Nat.reduceLeDiff,g0',g1',g5',g6',g7]))
      refine app_lit (v := l) (k := 1) (b := s.next) (xs := intsA .u64 (Q.ms (vs.take i) ps)) (by rw [hk.floor]; exact hf) hk.next ho (by simp only [ev, Env.get_set, ↓reduceIte, Nat.reduceEqDiff]) (by simp only [ev, Env.get_set, ↓reduceIte, Nat.reduceEqDiff]) rfl rfl (room (by rw [intsA_len, Q.ms_len, List.length_singleton, List.length_take]; omega) (by rw [intsA_len, Q.ms_len, List.length_singleton, List.length_take]; omega)) ?_
      intro v4 s4 ho4 hx4 _ _
      rw [intsA_snoc, ← Q.ms_take vs ps i a ha] at ho4
      have hk4 : Keep s.next s3 s4 := hx4.keep hk.next fun q i n z h => (ho.row q i n z h).1
      (repeat' (with_reducible first|refine w_1 ?_|refine w_2 ?_|refine w_3 ?_|refine w_4 ?_|refine w_5 ?_|refine w_6 ?_|refine w_7 ?_|(refine w_8 (fun hb=>?_) (fun hb=>?_)<;>try simp only [hb])|refine w_9 ?_|simp (maxDischargeDepth:=12) only [viz,↓reduceIte,Nat.reduceEqDiff,reduceCtorEq,Int.reduceEq,Int.reduceNeg,Nat.reduceAdd,Nat.reduceLeDiff,g0',g1',g6']))
      exact ⟨hlt, hk.trans hk4, succ_av (by omega), v4, rfl, ho4⟩
    · rw [List.take_of_length_le (by omega)] at ho
      have hml := Q.ms_len vs ps
      have hsl : Sl s' (fun q => q < s'.next) l 1 (intsA .u64 (Q.ms vs ps)) := ho.sl (intsA_sz _ _) fun q n h => (ho.row q _ _ _ h).2
      (repeat' (with_reducible first|refine w_1 ?_|refine w_2 ?_|refine w_3 ?_|refine w_4 ?_|refine w_5 ?_|refine w_6 ?_|refine w_7 ?_|(refine w_8 (fun hb=>?_) (fun hb=>?_)<;>try simp only [hb])|refine w_9 ?_|simp (maxDischargeDepth:=12) only [viz,↓reduceIte,Nat.reduceEqDiff,reduceCtorEq,Int.reduceEq,Int.reduceNeg,Nat.reduceAdd,Nat.reduceLeDiff,g0,g1,g5,g6,hv.lenB,lt_false hlt]))
      refine W_mono (W_keep (rc_l2 (fun q hq => hq) hsl (by omega) (by simp only [Env.get_set, ↓reduceIte, Nat.reduceEqDiff, g5]) (by simp only [ev, Env.get_set, ↓reduceIte, Nat.reduceEqDiff]) (by simp only [ev, Env.get_set, ↓reduceIte, Nat.reduceEqDiff]))) ?_
      rintro x e3 s3 ⟨hT3, rfl, rfl, g10⟩
      (repeat' (with_reducible first|refine w_1 ?_|refine w_2 ?_|refine w_3 ?_|refine w_4 ?_|refine w_5 ?_|refine w_6 ?_|refine w_7 ?_|(refine w_8 (fun hb=>?_) (fun hb=>?_)<;>try simp only [hb])|refine w_9 ?_|simp (maxDischargeDepth:=12) only [viz,↓reduceIte,Nat.reduceEqDiff,reduceCtorEq,Int.reduceEq,Int.reduceNeg,Nat.reduceAdd,Nat.reduceLeDiff,g10]))
      rw [← Q.mid_bst (by omega) (ms_nonneg hu)]
      exact hK _ hk
end Go.Proofs.YtfllmhjjfapnmaaGreat

