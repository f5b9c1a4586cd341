/- ref14.May, walked. No statement of the seat is proved here. -/
import Derived.Test.YtfllmhjjfapnmaaGreatVZRaftCheck
import Derived.Test.YtfllmhjjfapnmaaGreatVZVE
namespace Go.Proofs.YtfllmhjjfapnmaaGreat
open Go Go.VI
set_option linter.unusedSimpArgs false
attribute [local irreducible] Ws Wp W C
set_option maxHeartbeats 4000000
theorem eq0 (n : Nat) : ((n : Int) == 0) = decide (n = 0) := by
  rw [Bool.eq_iff_iff]; simp
set_option maxRecDepth 100000 in
theorem raftMay_c {r : Raft} {D : Nat → Prop} {s : Mem} {v : AV} {K : AV → Mem → Prop} (hf : s.floor ≤ s.next) (hI : In D s) (hv : RaftV s D v r) (hw : r.Wf)
    (hK : ∀ s', Keep s.next s s' → K (.bool (stOk r)) s') : C tab 11 [v] s K := by
  obtain ⟨d, w, vv, pv, rfl, hd, hl, hvv, hpv⟩ := raftC_row hv
  simp only [raftA]
  refine C_enter (cf := cf11) rfl (Nat.le_of_ble_eq_true rfl) ?_
  simp only [cf11, oo, on, om, og, oc, ou]
  (repeat' (with_reducible first|refine w_1 ?_|refine w_2 ?_|refine w_3 ?_|refine w_4 ?_|refine w_5 ?_|refine w_6 ?_|refine w_7 ?_|(refine w_8 (fun hb=>?_) (fun hb=>?_)<;>try simp only [hb])|refine w_9 ?_|simp (maxDischargeDepth:=12) only [viz,↓reduceIte,Nat.reduceEqDiff,reduceCtorEq,Int.reduceEq,Int.reduceNeg,Nat.reduceAdd,Nat.reduceLeDiff,hd.cell,hl.cell,hvv.cell,hpv.cell,hf]))
  have hk0 := pushes s (raftRow r d w vv pv)
  have hg0 : (s.push (raftRow r d w vv pv)).get s.next = some (raftRow r d w vv pv) := by rw [Mem.get_push, if_pos rfl]
  have hpl : lenA false pv = some r.peers.length := by rw [hpv.len, peersC_len]
  have hvl : lenA false vv = some r.votes.length := hvv.lenB
  have hbad : stOk r = false → ∀ s', Keep s.next s s' → K (.bool false) s' := fun h s' hk => by have := hK s' hk; rw [h] at this; exact this
  refine fnode_c ?_
  cases h1 : nodeOk r.node
  · (repeat' (with_reducible first|refine w_1 ?_|refine w_2 ?_|refine w_3 ?_|refine w_4 ?_|refine w_5 ?_|refine w_6 ?_|refine w_7 ?_|(refine w_8 (fun hb=>?_) (fun hb=>?_)<;>try simp only [hb])|refine w_9 ?_|simp (maxDischargeDepth:=12) only [viz,↓reduceIte,Nat.reduceEqDiff,reduceCtorEq,Int.reduceEq,Int.reduceNeg,Nat.reduceAdd,Nat.reduceLeDiff,h1,bne_self_eq_false, Int.reduceBEq, Int.reduceBNe, Int.reduceLT, Int.reduceLE, Int.reduceGT, Int.reduceGE]))
    exact hbad (by simp [stOk, h1]) _ hk0
  have e2 : r.term ≤ 4611686018427387904 ∨ r.term > 4611686018427387904 := by omega
  by_cases h2 : r.term ≤ 4611686018427387904
  case neg =>
    have c2 : decide (r.term > 4611686018427387904) = true := by simp; omega
    (repeat' (with_reducible first|refine w_1 ?_|refine w_2 ?_|refine w_3 ?_|refine w_4 ?_|refine w_5 ?_|refine w_6 ?_|refine w_7 ?_|(refine w_8 (fun hb=>?_) (fun hb=>?_)<;>try simp only [hb])|refine w_9 ?_|simp (maxDischargeDepth:=12) only [viz,↓reduceIte,Nat.reduceEqDiff,reduceCtorEq,Int.reduceEq,Int.reduceNeg,Nat.reduceAdd,Nat.reduceLeDiff,h1,c2,bne_self_eq_false, Int.reduceBEq, Int.reduceBNe, Int.reduceLT, Int.reduceLE, Int.reduceGT, Int.reduceGE]))
    exact hbad (by simp [stOk, h2]) _ hk0
  have c2 : decide (r.term > 4611686018427387904) = false := by simp; omega
  by_cases h3 : someOk r.vote = true
  case neg =>
    by_cases c : r.vote < 0
    · have c3 : decide (r.vote < 0) = true := by simp; omega
      (repeat' (with_reducible first|refine w_1 ?_|refine w_2 ?_|refine w_3 ?_|refine w_4 ?_|refine w_5 ?_|refine w_6 ?_|refine w_7 ?_|(refine w_8 (fun hb=>?_) (fun hb=>?_)<;>try simp only [hb])|refine w_9 ?_|simp (maxDischargeDepth:=12) only [viz,↓reduceIte,Nat.reduceEqDiff,reduceCtorEq,Int.reduceEq,Int.reduceNeg,Nat.reduceAdd,Nat.reduceLeDiff,h1,c2,c3,bne_self_eq_false, Int.reduceBEq, Int.reduceBNe, Int.reduceLT, Int.reduceLE, Int.reduceGT, Int.reduceGE]))
      exact hbad (by simp [stOk, h3]) _ hk0
    · have c3 : decide (r.vote < 0) = false := by simp; omega
      have c4 : decide (r.vote > 7) = true := by simp [someOk] at h3; simp; omega
      (repeat' (with_reducible first|refine w_1 ?_|refine w_2 ?_|refine w_3 ?_|refine w_4 ?_|refine w_5 ?_|refine w_6 ?_|refine w_7 ?_|(refine w_8 (fun hb=>?_) (fun hb=>?_)<;>try simp only [hb])|refine w_9 ?_|simp (maxDischargeDepth:=12) only [viz,↓reduceIte,Nat.reduceEqDiff,reduceCtorEq,Int.reduceEq,Int.reduceNeg,Nat.reduceAdd,Nat.reduceLeDiff,h1,c2,c3,c4,bne_self_eq_false, Int.reduceBEq, Int.reduceBNe, Int.reduceLT, Int.reduceLE, Int.reduceGT, Int.reduceGE]))
      exact hbad (by simp [stOk, h3]) _ hk0
  have c3 : decide (r.vote < 0) = false := by simp [someOk] at h3; simp; omega
  have c4 : decide (r.vote > 7) = false := by simp [someOk] at h3; simp; omega
  by_cases h4 : someOk r.leads = true
  case neg =>
    by_cases c : r.leads < 0
    · have c5 : decide (r.leads < 0) = true := by simp; omega
      (repeat' (with_reducible first|refine w_1 ?_|refine w_2 ?_|refine w_3 ?_|refine w_4 ?_|refine w_5 ?_|refine w_6 ?_|refine w_7 ?_|(refine w_8 (fun hb=>?_) (fun hb=>?_)<;>try simp only [hb])|refine w_9 ?_|simp (maxDischargeDepth:=12) only [viz,↓reduceIte,Nat.reduceEqDiff,reduceCtorEq,Int.reduceEq,Int.reduceNeg,Nat.reduceAdd,Nat.reduceLeDiff,h1,c2,c3,c4,c5,bne_self_eq_false, Int.reduceBEq, Int.reduceBNe, Int.reduceLT, Int.reduceLE, Int.reduceGT, Int.reduceGE]))
      exact hbad (by simp [stOk, h4]) _ hk0
    · have c5 : decide (r.leads < 0) = false := by simp; omega
      have c6 : decide (r.leads > 7) = true := by simp [someOk] at h4; simp; omega
      (repeat' (with_reducible first|refine w_1 ?_|refine w_2 ?_|refine w_3 ?_|refine w_4 ?_|refine w_5 ?_|refine w_6 ?_|refine w_7 ?_|(refine w_8 (fun hb=>?_) (fun hb=>?_)<;>try simp only [hb])|refine w_9 ?_|simp (maxDischargeDepth:=12) only [viz,↓reduceIte,Nat.reduceEqDiff,reduceCtorEq,Int.reduceEq,Int.reduceNeg,Nat.reduceAdd,Nat.reduceLeDiff,h1,c2,c3,c4,c5,c6,bne_self_eq_false, Int.reduceBEq, Int.reduceBNe, Int.reduceLT, Int.reduceLE, Int.reduceGT, Int.reduceGE]))
      exact hbad (by simp [stOk, h4]) _ hk0
  have c5 : decide (r.leads < 0) = false := by simp [someOk] at h4; simp; omega
  have c6 : decide (r.leads > 7) = false := by simp [someOk] at h4; simp; omega
  by_cases h5 : 0 ≤ r.elapsed
  case neg =>
    have c7 : decide (r.elapsed < 0) = true := by simp; omega
    (repeat' (with_reducible first|refine w_1 ?_|refine w_2 ?_|refine w_3 ?_|refine w_4 ?_|refine w_5 ?_|refine w_6 ?_|refine w_7 ?_|(refine w_8 (fun hb=>?_) (fun hb=>?_)<;>try simp only [hb])|refine w_9 ?_|simp (maxDischargeDepth:=12) only [viz,↓reduceIte,Nat.reduceEqDiff,reduceCtorEq,Int.reduceEq,Int.reduceNeg,Nat.reduceAdd,Nat.reduceLeDiff,h1,c2,c3,c4,c5,c6,c7,bne_self_eq_false, Int.reduceBEq, Int.reduceBNe, Int.reduceLT, Int.reduceLE, Int.reduceGT, Int.reduceGE]))
    exact hbad (by simp [stOk, h5]) _ hk0
  have c7 : decide (r.elapsed < 0) = false := by simp; omega
  by_cases h6 : r.elapsed ≤ 1000
  case neg =>
    have c8 : decide (r.elapsed > 1000) = true := by simp; omega
    (repeat' (with_reducible first|refine w_1 ?_|refine w_2 ?_|refine w_3 ?_|refine w_4 ?_|refine w_5 ?_|refine w_6 ?_|refine w_7 ?_|(refine w_8 (fun hb=>?_) (fun hb=>?_)<;>try simp only [hb])|refine w_9 ?_|simp (maxDischargeDepth:=12) only [viz,↓reduceIte,Nat.reduceEqDiff,reduceCtorEq,Int.reduceEq,Int.reduceNeg,Nat.reduceAdd,Nat.reduceLeDiff,h1,c2,c3,c4,c5,c6,c7,c8,bne_self_eq_false, Int.reduceBEq, Int.reduceBNe, Int.reduceLT, Int.reduceLE, Int.reduceGT, Int.reduceGE]))
    exact hbad (by simp [stOk, h6]) _ hk0
  have c8 : decide (r.elapsed > 1000) = false := by simp; omega
  (repeat' (with_reducible first|refine w_1 ?_|refine w_2 ?_|refine w_3 ?_|refine w_4 ?_|refine w_5 ?_|refine w_6 ?_|refine w_7 ?_|(refine w_8 (fun hb=>?_) (fun hb=>?_)<;>try simp only [hb])|refine w_9 ?_|simp (maxDischargeDepth:=12) only [viz,↓reduceIte,Nat.reduceEqDiff,reduceCtorEq,Int.reduceEq,Int.reduceNeg,Nat.reduceAdd,Nat.reduceLeDiff,h1,c2,c3,c4,c5,c6,c7,c8,bne_self_eq_false, Int.reduceBEq, Int.reduceBNe, Int.reduceLT, Int.reduceLE, Int.reduceGT, Int.reduceGE]))
  refine may_c (l := r.log) (hk0.ok hf) (hI.keep hk0) ⟨d, w, rfl, hd.keep (keep_old hI hk0), hl.keep (keep_old hI hk0)⟩ hw.log fun s1 hk1 => ?_
  have hk01 := hk0.then hk1
  cases h7 : logOk r.log
  · (repeat' (with_reducible first|refine w_1 ?_|refine w_2 ?_|refine w_3 ?_|refine w_4 ?_|refine w_5 ?_|refine w_6 ?_|refine w_7 ?_|(refine w_8 (fun hb=>?_) (fun hb=>?_)<;>try simp only [hb])|refine w_9 ?_|simp (maxDischargeDepth:=12) only [viz,↓reduceIte,Nat.reduceEqDiff,reduceCtorEq,Int.reduceEq,Int.reduceNeg,Nat.reduceAdd,Nat.reduceLeDiff,bne_self_eq_false, Int.reduceBEq, Int.reduceBNe, Int.reduceLT, Int.reduceLE, Int.reduceGT, Int.reduceGE]))
    exact hbad (by simp [stOk, h7]) _ hk01
  have hg1 : s1.get s.next = some (raftRow r d w vv pv) := by rw [hk1.get _ (by simp only [next_push']; omega)]; exact hg0
  simp only [raftRow] at hg1
  (repeat' (with_reducible first|refine w_1 ?_|refine w_2 ?_|refine w_3 ?_|refine w_4 ?_|refine w_5 ?_|refine w_6 ?_|refine w_7 ?_|(refine w_8 (fun hb=>?_) (fun hb=>?_)<;>try simp only [hb])|refine w_9 ?_|simp (maxDischargeDepth:=12) only [viz,↓reduceIte,Nat.reduceEqDiff,reduceCtorEq,Int.reduceEq,Int.reduceNeg,Nat.reduceAdd,Nat.reduceLeDiff,hg1,bne_self_eq_false, Int.reduceBEq, Int.reduceBNe, Int.reduceLT, Int.reduceLE, Int.reduceGT, Int.reduceGE]))
  refine rlast_c (l := r.log) (hk01.ok hf) (hI.keep hk01) ⟨d, w, rfl, hd.keep (keep_old hI hk01), hl.keep (keep_old hI hk01)⟩ hw.log fun s2 hk2 => ?_
  have hk02 := hk01.then hk2
  have n1 := hk1.next
  simp only [next_push'] at n1
  have hg2 : s2.get s.next = s1.get s.next := hk2.get _ (by omega)
  rw [hg1] at hg2
  by_cases h8 : (lastE r.log).term ≤ r.term
  case neg =>
    have c9 : decide ((lastE r.log).term > r.term) = true := by simp; omega
    (repeat' (with_reducible first|refine w_1 ?_|refine w_2 ?_|refine w_3 ?_|refine w_4 ?_|refine w_5 ?_|refine w_6 ?_|refine w_7 ?_|(refine w_8 (fun hb=>?_) (fun hb=>?_)<;>try simp only [hb])|refine w_9 ?_|simp (maxDischargeDepth:=12) only [viz,↓reduceIte,Nat.reduceEqDiff,reduceCtorEq,Int.reduceEq,Int.reduceNeg,Nat.reduceAdd,Nat.reduceLeDiff,hg2,c9,bne_self_eq_false, Int.reduceBEq, Int.reduceBNe, Int.reduceLT, Int.reduceLE, Int.reduceGT, Int.reduceGE]))
    exact hbad (by simp [stOk, h8]) _ hk02
  have c9 : decide ((lastE r.log).term > r.term) = false := by simp; omega
  by_cases h9 : r.log.base.index ≤ r.commit
  case neg =>
    have c10 : decide (r.commit < r.log.base.index) = true := by simp; omega
    (repeat' (with_reducible first|refine w_1 ?_|refine w_2 ?_|refine w_3 ?_|refine w_4 ?_|refine w_5 ?_|refine w_6 ?_|refine w_7 ?_|(refine w_8 (fun hb=>?_) (fun hb=>?_)<;>try simp only [hb])|refine w_9 ?_|simp (maxDischargeDepth:=12) only [viz,↓reduceIte,Nat.reduceEqDiff,reduceCtorEq,Int.reduceEq,Int.reduceNeg,Nat.reduceAdd,Nat.reduceLeDiff,hg2,c9,c10,bne_self_eq_false, Int.reduceBEq, Int.reduceBNe, Int.reduceLT, Int.reduceLE, Int.reduceGT, Int.reduceGE]))
    exact hbad (by simp [stOk, h9]) _ hk02
  have c10 : decide (r.commit < r.log.base.index) = false := by simp; omega
  by_cases h10 : r.commit ≤ (lastE r.log).index
  case neg =>
    have c11 : decide (r.commit > (lastE r.log).index) = true := by simp; omega
    (repeat' (with_reducible first|refine w_1 ?_|refine w_2 ?_|refine w_3 ?_|refine w_4 ?_|refine w_5 ?_|refine w_6 ?_|refine w_7 ?_|(refine w_8 (fun hb=>?_) (fun hb=>?_)<;>try simp only [hb])|refine w_9 ?_|simp (maxDischargeDepth:=12) only [viz,↓reduceIte,Nat.reduceEqDiff,reduceCtorEq,Int.reduceEq,Int.reduceNeg,Nat.reduceAdd,Nat.reduceLeDiff,hg2,c9,c10,c11,bne_self_eq_false, Int.reduceBEq, Int.reduceBNe, Int.reduceLT, Int.reduceLE, Int.reduceGT, Int.reduceGE]))
    exact hbad (by simp [stOk, h10]) _ hk02
  have c11 : decide (r.commit > (lastE r.log).index) = false := by simp; omega
  have hst : stOk r = (decide (r.role = 0) && decide (r.votes.length = 0) && decide (r.peers.length = 0) || decide (r.role = 1) && decide (r.peers.length = 0) && (decide (r.votes.length = 0) || okV r.votes) || decide (r.role = 2) && decide (r.votes.length = 0) && peersOk r) := by
    simp [stOk, h1, h2, h3, h4, h5, h6, h7, h8, h9, h10]
  by_cases r0 : r.role = 0
  · have b3 : (r.role == 0) = true := by simp [r0]
    by_cases e1 : r.votes.length = 0
    · by_cases e2 : r.peers.length = 0
      · (repeat' (with_reducible first|refine w_1 ?_|refine w_2 ?_|refine w_3 ?_|refine w_4 ?_|refine w_5 ?_|refine w_6 ?_|refine w_7 ?_|(refine w_8 (fun hb=>?_) (fun hb=>?_)<;>try simp only [hb])|refine w_9 ?_|simp (maxDischargeDepth:=12) only [viz,↓reduceIte,Nat.reduceEqDiff,reduceCtorEq,Int.reduceEq,Int.reduceNeg,Nat.reduceAdd,Nat.reduceLeDiff,hg2,c9,c10,c11,b3,hvl,hpl,eq0,e1,e2,bne_self_eq_false, Int.reduceBEq, Int.reduceBNe, Int.reduceLT, Int.reduceLE, Int.reduceGT, Int.reduceGE]))
        rw [hst] at hK; simp [r0, e1, e2] at hK
        exact hK _ hk02
      · (repeat' (with_reducible first|refine w_1 ?_|refine w_2 ?_|refine w_3 ?_|refine w_4 ?_|refine w_5 ?_|refine w_6 ?_|refine w_7 ?_|(refine w_8 (fun hb=>?_) (fun hb=>?_)<;>try simp only [hb])|refine w_9 ?_|simp (maxDischargeDepth:=12) only [viz,↓reduceIte,Nat.reduceEqDiff,reduceCtorEq,Int.reduceEq,Int.reduceNeg,Nat.reduceAdd,Nat.reduceLeDiff,hg2,c9,c10,c11,b3,hvl,hpl,eq0,e1,e2,decide_false,bne_self_eq_false, Int.reduceBEq, Int.reduceBNe, Int.reduceLT, Int.reduceLE, Int.reduceGT, Int.reduceGE]))
        exact hbad (by rw [hst]; simp [r0, e1, e2]) _ hk02
    · (repeat' (with_reducible first|refine w_1 ?_|refine w_2 ?_|refine w_3 ?_|refine w_4 ?_|refine w_5 ?_|refine w_6 ?_|refine w_7 ?_|(refine w_8 (fun hb=>?_) (fun hb=>?_)<;>try simp only [hb])|refine w_9 ?_|simp (maxDischargeDepth:=12) only [viz,↓reduceIte,Nat.reduceEqDiff,reduceCtorEq,Int.reduceEq,Int.reduceNeg,Nat.reduceAdd,Nat.reduceLeDiff,hg2,c9,c10,c11,b3,hvl,hpl,eq0,e1,decide_false,bne_self_eq_false, Int.reduceBEq, Int.reduceBNe, Int.reduceLT, Int.reduceLE, Int.reduceGT, Int.reduceGE]))
      exact hbad (by rw [hst]; simp [r0, e1]) _ hk02
  have b3 : (r.role == 0) = false := by simp [r0]
  by_cases r1 : r.role = 1
  · have b4 : (r.role == 1) = true := by simp [r1]
    by_cases e2 : r.peers.length = 0
    case neg =>
      (repeat' (with_reducible first|refine w_1 ?_|refine w_2 ?_|refine w_3 ?_|refine w_4 ?_|refine w_5 ?_|refine w_6 ?_|refine w_7 ?_|(refine w_8 (fun hb=>?_) (fun hb=>?_)<;>try simp only [hb])|refine w_9 ?_|simp (maxDischargeDepth:=12) only [viz,↓reduceIte,Nat.reduceEqDiff,reduceCtorEq,Int.reduceEq,Int.reduceNeg,Nat.reduceAdd,Nat.reduceLeDiff,hg2,c9,c10,c11,b3,b4,hvl,hpl,eq0,e2,decide_false,bne_self_eq_false, Int.reduceBEq, Int.reduceBNe, Int.reduceLT, Int.reduceLE, Int.reduceGT, Int.reduceGE]))
      exact hbad (by rw [hst]; simp [r1, e2]) _ hk02
    by_cases e1 : r.votes.length = 0
    · (repeat' (with_reducible first|refine w_1 ?_|refine w_2 ?_|refine w_3 ?_|refine w_4 ?_|refine w_5 ?_|refine w_6 ?_|refine w_7 ?_|(refine w_8 (fun hb=>?_) (fun hb=>?_)<;>try simp only [hb])|refine w_9 ?_|simp (maxDischargeDepth:=12) only [viz,↓reduceIte,Nat.reduceEqDiff,reduceCtorEq,Int.reduceEq,Int.reduceNeg,Nat.reduceAdd,Nat.reduceLeDiff,hg2,c9,c10,c11,b3,b4,hvl,hpl,eq0,e1,e2,bne_self_eq_false, Int.reduceBEq, Int.reduceBNe, Int.reduceLT, Int.reduceLE, Int.reduceGT, Int.reduceGE]))
      rw [hst] at hK; simp [r1, e1, e2] at hK
      exact hK _ hk02
    · (repeat' (with_reducible first|refine w_1 ?_|refine w_2 ?_|refine w_3 ?_|refine w_4 ?_|refine w_5 ?_|refine w_6 ?_|refine w_7 ?_|(refine w_8 (fun hb=>?_) (fun hb=>?_)<;>try simp only [hb])|refine w_9 ?_|simp (maxDischargeDepth:=12) only [viz,↓reduceIte,Nat.reduceEqDiff,reduceCtorEq,Int.reduceEq,Int.reduceNeg,Nat.reduceAdd,Nat.reduceLeDiff,hg2,c9,c10,c11,b3,b4,hvl,hpl,eq0,e1,e2,decide_false,bne_self_eq_false, Int.reduceBEq, Int.reduceBNe, Int.reduceLT, Int.reduceLE, Int.reduceGT, Int.reduceGE]))
      refine rcheck_c (vs := r.votes) (hvv.keep (keep_old hI hk02)) hw.votes ?_
      (repeat' (with_reducible first|refine w_1 ?_|refine w_2 ?_|refine w_3 ?_|refine w_4 ?_|refine w_5 ?_|refine w_6 ?_|refine w_7 ?_|(refine w_8 (fun hb=>?_) (fun hb=>?_)<;>try simp only [hb])|refine w_9 ?_|simp (maxDischargeDepth:=12) only [viz,↓reduceIte,Nat.reduceEqDiff,reduceCtorEq,Int.reduceEq,Int.reduceNeg,Nat.reduceAdd,Nat.reduceLeDiff,bne_self_eq_false, Int.reduceBEq, Int.reduceBNe, Int.reduceLT, Int.reduceLE, Int.reduceGT, Int.reduceGE]))
      rw [hst] at hK; simp [r1, e1, e2] at hK
      exact hK _ hk02
  have b4 : (r.role == 1) = false := by simp [r1]
  by_cases r2 : r.role = 2
  case neg =>
    have b5 : (r.role == 2) = false := by simp [r2]
    (repeat' (with_reducible first|refine w_1 ?_|refine w_2 ?_|refine w_3 ?_|refine w_4 ?_|refine w_5 ?_|refine w_6 ?_|refine w_7 ?_|(refine w_8 (fun hb=>?_) (fun hb=>?_)<;>try simp only [hb])|refine w_9 ?_|simp (maxDischargeDepth:=12) only [viz,↓reduceIte,Nat.reduceEqDiff,reduceCtorEq,Int.reduceEq,Int.reduceNeg,Nat.reduceAdd,Nat.reduceLeDiff,hg2,c9,c10,c11,b3,b4,b5,bne_self_eq_false, Int.reduceBEq, Int.reduceBNe, Int.reduceLT, Int.reduceLE, Int.reduceGT, Int.reduceGE]))
    exact hbad (by rw [hst]; simp [r0, r1, r2]) _ hk02
  have b5 : (r.role == 2) = true := by simp [r2]
  have hst2 : stOk r = (decide (r.votes.length = 0) && peersOk r) := by rw [hst]; simp [r2]
  have hf2 : (s2.floor ≤ s2.next) = True := by simp [hk02.ok hf]
  (repeat' (with_reducible first|refine w_1 ?_|refine w_2 ?_|refine w_3 ?_|refine w_4 ?_|refine w_5 ?_|refine w_6 ?_|refine w_7 ?_|(refine w_8 (fun hb=>?_) (fun hb=>?_)<;>try simp only [hb])|refine w_9 ?_|simp (maxDischargeDepth:=12) only [viz,↓reduceIte,Nat.reduceEqDiff,reduceCtorEq,Int.reduceEq,Int.reduceNeg,Nat.reduceAdd,Nat.reduceLeDiff,hg2,c9,c10,c11,b3,b4,b5,hvl,hpl,hf2,bne_self_eq_false, Int.reduceBEq, Int.reduceBNe, Int.reduceLT, Int.reduceLE, Int.reduceGT, Int.reduceGE]))
  have hk3 : Keep s2.next s2 (s2.push ⟨3, 1, []⟩) := pushes _ _
  have hk03 := hk02.then hk3
  have hpe := hw.peers
  have hpv3 := hpv.keep (keep_old hI hk03)
  have hI3 := hI.keep hk03
  refine W_inv r.peers.length (fun i e s' => Keep s2.next s2 s' ∧ s2.next + 1 ≤ s'.next ∧ e.get 6 = .int .i64 i ∧ (r.peers.take i).all (peerOk (lastE r.log).index) = true ∧ ∃ w, e.get 5 = w ∧ OwnL s' s2.next w 3 1 (intsA .i64 ((r.peers.take i).map (·.1)))) (by delta cf11l0 oo on om og oc ou; exact rfl) ?_ ?_
  · exact ⟨hk3, by simp only [next_push']; exact Nat.le_refl _, by simp only [Env.get_set, ↓reduceIte]; rfl, by simp, .emp, (by simp only [ev, Env.get_set, ↓reduceIte, Nat.reduceEqDiff]), OwnL.emp _ _ _ _⟩
  · rintro i e s' hi hT ⟨hk, hnx, g6, ha, w5, g5, ho⟩
    have g1 := hT 1 rfl
    have g3 := hT 3 rfl
    simp only [Env.get_set, ↓reduceIte, Nat.reduceEqDiff, Env.start, Env.ofList] at g1 g3
    clear hT
    have hk2' := hk02.then hk
    have hpv' := hpv.keep (keep_old hI hk2')
    have hf' := hk2'.ok hf
    have fT : (s'.floor ≤ s'.next) = True := by simp [hf']
    have hgs : s'.get s.next = some ⟨32, 14, [[.int .i64 r.node, .int .u64 r.term, .int .i64 r.vote, .int .u64 r.log.base.index, .int .u64 r.log.base.term, .int .i64 r.log.base.kind, d, w, .int .u64 r.commit, .int .i64 r.role, .int .i64 r.leads, .int .i64 r.elapsed, vv, pv]]⟩ := (hk.get _ (by have := hk2.next; omega)).trans hg2
    have hne : (s.next = s'.next) = False := by have := hk2.next; have := hk.next; simp; omega
    by_cases hlt : i < r.peers.length
    · obtain ⟨⟨pn, px, pm⟩, hx⟩ := get_of hlt
      obtain ⟨p, hp, P⟩ := hpv'.atk (hI.keep hk2') (peersC_get hx)
      simp only [peerC] at P
      have hkp : ∀ x, Keep s'.next s' (s'.push x) := fun x => pushes s' x
      by_cases hgood : peerOk (lastE r.log).index (pn, px, pm) = true
      · have hg' := hgood
        simp only [peerOk, Bool.and_eq_true, decide_eq_true_eq] at hg'
        have c1 : decide (pm ≥ px) = false := by simp; omega
        have c2 : decide (px > IntKind.u64.wrap ((lastE r.log).index + 1)) = false := by simp; omega
        (repeat' (with_reducible first|refine w_1 ?_|refine w_2 ?_|refine w_3 ?_|refine w_4 ?_|refine w_5 ?_|refine w_6 ?_|refine w_7 ?_|(refine w_8 (fun hb=>?_) (fun hb=>?_)<;>try simp only [hb])|refine w_9 ?_|simp (maxDischargeDepth:=12) only [viz,↓reduceIte,Nat.reduceEqDiff,reduceCtorEq,Int.reduceEq,Int.reduceNeg,Nat.reduceAdd,Nat.reduceLeDiff,g1,g3,g5,g6,hgs,hne,hpl,lt_true hlt,hp,P.ld,hkp,fT,c1,c2,bne_self_eq_false, Int.reduceBEq, Int.reduceBNe, Int.reduceLT, Int.reduceLE, Int.reduceGT, Int.reduceGE]))
        refine app_lit (v := w5) (k := 1) (b := s2.next) (xs := intsA .i64 ((r.peers.take i).map (·.1))) (by simp only [floor_put', floor_push']; rw [hk.floor]; exact hk02.ok hf) (by simp only [next_put', next_push']; have := hk.next; omega) (ho.push _) (by simp only [ev, Env.get_set, ↓reduceIte, Nat.reduceEqDiff]) (by simp only [ev, Env.get_set, ↓reduceIte, Nat.reduceEqDiff, next_push']) rfl rfl (room (by simp only [intsA, List.length_map, List.length_take, List.length_singleton]; unfold Fit at hpe; omega) (by simp only [intsA, List.length_map, List.length_take, List.length_singleton]; unfold Fit at hpe; omega)) ?_
        intro v2 s4 ho2 hx2 _ _
        rw [intsA_snoc, ← map_next (f := fun q : Peer => q.1) hx] at ho2
        have hk4 : Keep s2.next s' s4 := ((pushes s' _).le hk.next).trans (hx2.keep (by simp only [next_push']; have := hk.next; omega) fun q i n z h => by rcases ho.push ⟨86, 3, [[.int .i64 pn, .int .u64 px, .int .u64 pm]]⟩ with ⟨h1 | h1, _⟩ | ⟨q2, h1, _, _, h2, _⟩ <;> rw [h1] at h <;> cases h; exact h2)
        (repeat' (with_reducible first|refine w_1 ?_|refine w_2 ?_|refine w_3 ?_|refine w_4 ?_|refine w_5 ?_|refine w_6 ?_|refine w_7 ?_|(refine w_8 (fun hb=>?_) (fun hb=>?_)<;>try simp only [hb])|refine w_9 ?_|simp (maxDischargeDepth:=12) only [viz,↓reduceIte,Nat.reduceEqDiff,reduceCtorEq,Int.reduceEq,Int.reduceNeg,Nat.reduceAdd,Nat.reduceLeDiff,g1,g3,g5,g6]))
        exact ⟨hlt, hk.trans hk4, by have := hk4.next; omega, succ_av (by omega), all_next ha hx hgood, v2, rfl, ho2⟩
      · have hg' : peerOk (lastE r.log).index (pn, px, pm) = false := by simpa using hgood
        have hbad2 : stOk r = false := by rw [hst2]; unfold peersOk; rw [all_not hx hg']; simp
        have hg2 := hg'
        simp only [peerOk] at hg2
        by_cases c : pm ≥ px
        · have c1 : decide (pm ≥ px) = true := by simp [c]
          (repeat' (with_reducible first|refine w_1 ?_|refine w_2 ?_|refine w_3 ?_|refine w_4 ?_|refine w_5 ?_|refine w_6 ?_|refine w_7 ?_|(refine w_8 (fun hb=>?_) (fun hb=>?_)<;>try simp only [hb])|refine w_9 ?_|simp (maxDischargeDepth:=12) only [viz,↓reduceIte,Nat.reduceEqDiff,reduceCtorEq,Int.reduceEq,Int.reduceNeg,Nat.reduceAdd,Nat.reduceLeDiff,g1,g3,g5,g6,hgs,hne,hpl,lt_true hlt,hp,P.ld,hkp,fT,c1,bne_self_eq_false, Int.reduceBEq, Int.reduceBNe, Int.reduceLT, Int.reduceLE, Int.reduceGT, Int.reduceGE]))
          exact hbad hbad2 _ (hk2'.then (pushes _ _))
        · have c1 : decide (pm ≥ px) = false := by simp; omega
          have c2 : decide (px > IntKind.u64.wrap ((lastE r.log).index + 1)) = true := by
            have : pm < px := by omega
            simp [this] at hg2; simp; exact hg2
          (repeat' (with_reducible first|refine w_1 ?_|refine w_2 ?_|refine w_3 ?_|refine w_4 ?_|refine w_5 ?_|refine w_6 ?_|refine w_7 ?_|(refine w_8 (fun hb=>?_) (fun hb=>?_)<;>try simp only [hb])|refine w_9 ?_|simp (maxDischargeDepth:=12) only [viz,↓reduceIte,Nat.reduceEqDiff,reduceCtorEq,Int.reduceEq,Int.reduceNeg,Nat.reduceAdd,Nat.reduceLeDiff,g1,g3,g5,g6,hgs,hne,hpl,lt_true hlt,hp,P.ld,hkp,fT,c1,c2,bne_self_eq_false, Int.reduceBEq, Int.reduceBNe, Int.reduceLT, Int.reduceLE, Int.reduceGT, Int.reduceGE]))
          exact hbad hbad2 _ (hk2'.then (pushes _ _))
    · have hie : i = r.peers.length := by omega
      rw [hie, List.take_length] at ha ho
      by_cases e1 : r.votes.length = 0
      case neg =>
        (repeat' (with_reducible first|refine w_1 ?_|refine w_2 ?_|refine w_3 ?_|refine w_4 ?_|refine w_5 ?_|refine w_6 ?_|refine w_7 ?_|(refine w_8 (fun hb=>?_) (fun hb=>?_)<;>try simp only [hb])|refine w_9 ?_|simp (maxDischargeDepth:=12) only [viz,↓reduceIte,Nat.reduceEqDiff,reduceCtorEq,Int.reduceEq,Int.reduceNeg,Nat.reduceAdd,Nat.reduceLeDiff,g1,g3,g5,g6,hgs,hne,hpl,hvl,lt_false hlt,eq0,e1,decide_false,bne_self_eq_false, Int.reduceBEq, Int.reduceBNe, Int.reduceLT, Int.reduceLE, Int.reduceGT, Int.reduceGE]))
        exact hbad (by rw [hst2]; simp [e1]) _ hk2'
      (repeat' (with_reducible first|refine w_1 ?_|refine w_2 ?_|refine w_3 ?_|refine w_4 ?_|refine w_5 ?_|refine w_6 ?_|refine w_7 ?_|(refine w_8 (fun hb=>?_) (fun hb=>?_)<;>try simp only [hb])|refine w_9 ?_|simp (maxDischargeDepth:=12) only [viz,↓reduceIte,Nat.reduceEqDiff,reduceCtorEq,Int.reduceEq,Int.reduceNeg,Nat.reduceAdd,Nat.reduceLeDiff,g1,g3,g5,g6,hgs,hne,hpl,hvl,lt_false hlt,eq0,e1,bne_self_eq_false, Int.reduceBEq, Int.reduceBNe, Int.reduceLT, Int.reduceLE, Int.reduceGT, Int.reduceGE]))
      refine rvoters_c (l := r.log) (hk2'.ok hf) (hI.keep hk2') ⟨d, w, rfl, hd.keep (keep_old hI hk2'), hl.keep (keep_old hI hk2')⟩ hw.log fun v4 s4 ho4 hk4 => ?_
      (repeat' (with_reducible first|refine w_1 ?_|refine w_2 ?_|refine w_3 ?_|refine w_4 ?_|refine w_5 ?_|refine w_6 ?_|refine w_7 ?_|(refine w_8 (fun hb=>?_) (fun hb=>?_)<;>try simp only [hb])|refine w_9 ?_|simp (maxDischargeDepth:=12) only [viz,↓reduceIte,Nat.reduceEqDiff,reduceCtorEq,Int.reduceEq,Int.reduceNeg,Nat.reduceAdd,Nat.reduceLeDiff,bne_self_eq_false, Int.reduceBEq, Int.reduceBNe, Int.reduceLT, Int.reduceLE, Int.reduceGT, Int.reduceGE]))
      have hD4 : In (fun q => q < s4.next) s4 := fun q hq => hq
      refine eqInts_c (xs := r.peers.map (·.1)) (ys := vot r.log) (D := fun q => q < s4.next) hD4 ((ho.sl (D := fun q => q < s'.next) (intsA_sz _ _) fun q n h => (ho.row q _ _ _ h).2).keep (fun q hq => hk4.get q hq) |>.mono fun q hq => Nat.lt_of_lt_of_le hq hk4.next) (ho4.sl (intsA_sz _ _) fun q n h => (ho4.row q _ _ _ h).2) (by rw [List.length_map]; exact hw.peers) (vot_fit hw.log) ?_
      (repeat' (with_reducible first|refine w_1 ?_|refine w_2 ?_|refine w_3 ?_|refine w_4 ?_|refine w_5 ?_|refine w_6 ?_|refine w_7 ?_|(refine w_8 (fun hb=>?_) (fun hb=>?_)<;>try simp only [hb])|refine w_9 ?_|simp (maxDischargeDepth:=12) only [viz,↓reduceIte,Nat.reduceEqDiff,reduceCtorEq,Int.reduceEq,Int.reduceNeg,Nat.reduceAdd,Nat.reduceLeDiff,bne_self_eq_false, Int.reduceBEq, Int.reduceBNe, Int.reduceLT, Int.reduceLE, Int.reduceGT, Int.reduceGE]))
      have : stOk r = decide (r.peers.map (·.1) = vot r.log) := by rw [hst2, decide_eq_true e1]; unfold peersOk; rw [ha, Bool.true_and, Bool.true_and]
      rw [← this]
      exact hK _ (hk2'.then hk4)
end Go.Proofs.YtfllmhjjfapnmaaGreat

