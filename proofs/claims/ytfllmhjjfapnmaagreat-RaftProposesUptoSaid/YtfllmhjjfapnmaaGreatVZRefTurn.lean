/- What the document says of turns. No statement of the seat is proved here. -/
import Derived.Test.YtfllmhjjfapnmaaGreatVZRefTell
import Derived.Test.YtfllmhjjfapnmaaGreatVZRaftGrp2
import Derived.Test.YtfllmhjjfapnmaaGreatVZVE
namespace Go.Proofs.YtfllmhjjfapnmaaGreat
open Go Go.VI
set_option linter.unusedSimpArgs false
attribute [local irreducible] Ws Wp W C
set_option maxHeartbeats 4000000
section
variable {s s' : Mem} {D D' : Nat → Prop} {r : Raft} {out : List Msg} {d w vv pv ov : AV} {K : AV → Mem → Prop}
set_option maxRecDepth 100000 in
theorem rcommit_c (hf : s.floor ≤ s.next) (hI : In D s) (hS : StIn s D r out d w vv pv ov) (hw : r.log.Wf) (hn : Fit r.peers.length) (hu : ∀ p ∈ r.peers, InU p.2.2)
    (hK : ∀ s', StIn s' (NewD D s.next s'.next) (commitR r) out d w vv pv ov → Keep s.next s s' → K (stA (commitR r) d w vv pv ov) s') : C tab 121 [stA r d w vv pv ov] s K := by
  obtain ⟨k1, k2, k3, k4, k5⟩ := hS.cells
  simp only [stA]
  refine C_enter (cf := cf121) rfl (Nat.le_of_ble_eq_true rfl) ?_
  simp only [cf121, oo, on, om, og, oc, ou]
  have f1 : (s.floor ≤ s.next + 1) = True := by simp; omega
  (repeat' (with_reducible first|refine w_1 ?_|refine w_2 ?_|refine w_3 ?_|refine w_4 ?_|refine w_5 ?_|refine w_6 ?_|refine w_7 ?_|(refine w_8 (fun hb=>?_) (fun hb=>?_)<;>try simp only [hb])|refine w_9 ?_|simp (maxDischargeDepth:=12) only [viz,↓reduceIte,Nat.reduceEqDiff,reduceCtorEq,Int.reduceEq,Int.reduceNeg,Nat.reduceAdd,Nat.reduceLeDiff,k1,k2,k3,k4,k5,hf,f1,bne_self_eq_false, Int.reduceBEq, Int.reduceBNe, Int.reduceLT, Int.reduceLE, Int.reduceGT, Int.reduceGE]))
  have hk0 := (pushes s (stRow r d w vv pv ov)).then (pushes _ stZero)
  have o0 : ∀ q, D q → (((s.at (s.next + 1 + 1)).push (stRow r d w vv pv ov)).push stZero).get q = s.get q := fun q hq => keep_old hI hk0 q hq
  have x0 : (((s.at (s.next + 1 + 1)).push (stRow r d w vv pv ov)).push stZero).get s.next = some (stRow r d w vv pv ov) := by
    show ((s.push (stRow r d w vv pv ov)).push stZero).get s.next = _
    rw [Mem.get_push, if_neg (by simp only [next_push']; omega), Mem.get_push, if_pos rfl]
  have x1 : (((s.at (s.next + 1 + 1)).push (stRow r d w vv pv ov)).push stZero).get (s.next + 1) = some stZero := by
    show ((s.push (stRow r d w vv pv ov)).push stZero).get (s.next + 1) = _
    rw [Mem.get_push, if_pos (by simp only [next_push'])]
  simp only [stRow, stZero] at o0 x0 x1
  refine rvoters_c (l := r.log) (D := D) (by show s.next + 1 + 1 ≤ s.next + 1 + 1; omega) (fun q hq => by have := hI q hq; show q < s.next + 1 + 1; omega) ⟨d, w, rfl, hS.d.keep o0, hS.w.keep o0⟩ hw fun v1 s1 ho1 hk1 => ?_
  have n1 : s.next + 2 ≤ s1.next := hk1.next
  have y0 := (hk1.get s.next (by show s.next < s.next + 1 + 1; omega)).trans x0
  have y1 := (hk1.get (s.next + 1) (by show s.next + 1 < s.next + 1 + 1; omega)).trans x1
  have hk01 : Keep s.next s (s1.at s.floor) := ⟨by show s.next ≤ s1.next; omega, rfl, fun q hq => (hk1.get q (by show q < s.next + 1 + 1; omega)).trans (hk0.get q hq)⟩
  (repeat' (with_reducible first|refine w_1 ?_|refine w_2 ?_|refine w_3 ?_|refine w_4 ?_|refine w_5 ?_|refine w_6 ?_|refine w_7 ?_|(refine w_8 (fun hb=>?_) (fun hb=>?_)<;>try simp only [hb])|refine w_9 ?_|simp (maxDischargeDepth:=12) only [viz,↓reduceIte,Nat.reduceEqDiff,reduceCtorEq,Int.reduceEq,Int.reduceNeg,Nat.reduceAdd,Nat.reduceLeDiff,y0,bne_self_eq_false, Int.reduceBEq, Int.reduceBNe, Int.reduceLT, Int.reduceLE, Int.reduceGT, Int.reduceGE]))
  have hS1 := hS.keep (keep_old hI hk01)
  refine rqcommit_c (vs := vot r.log) (ps := r.peers) (D := fun q => q < s1.next) (by show s.floor ≤ s1.next; omega) (fun q hq => hq) ((ho1.sl (D := fun q => q < s1.next) (intsA_sz _ _) fun q n h => (ho1.row q _ _ _ h).2).keep (s' := s1.at s.floor) fun _ _ => rfl) (vot_fit hw) (hS1.pv.mono fun q hq => by have := hI q hq; omega) hn hu fun s2 hk2 => ?_
  have hk02 := hk01.then hk2
  have n2 : s1.next ≤ s2.next := hk2.next
  have w0 := (hk2.get s.next (by show s.next < s1.next; omega)).trans y0
  have w1 := (hk2.get (s.next + 1) (by show s.next + 1 < s1.next; omega)).trans y1
  (repeat' (with_reducible first|refine w_1 ?_|refine w_2 ?_|refine w_3 ?_|refine w_4 ?_|refine w_5 ?_|refine w_6 ?_|refine w_7 ?_|(refine w_8 (fun hb=>?_) (fun hb=>?_)<;>try simp only [hb])|refine w_9 ?_|simp (maxDischargeDepth:=12) only [viz,↓reduceIte,Nat.reduceEqDiff,reduceCtorEq,Int.reduceEq,Int.reduceNeg,Nat.reduceAdd,Nat.reduceLeDiff,w0,bne_self_eq_false, Int.reduceBEq, Int.reduceBNe, Int.reduceLT, Int.reduceLE, Int.reduceGT, Int.reduceGE]))
  have hS2 := hS.keep (keep_old hI hk02)
  refine rterm_c (l := r.log) (D := D) (hk02.ok hf) (hI.keep hk02) ⟨d, w, rfl, hS2.d, hS2.w⟩ hw.len fun s3 hk3 => ?_
  have hk03 := hk02.then hk3
  have n3 := hk3.next
  have u0 := (hk3.get s.next (by omega)).trans w0
  have u1 := (hk3.get (s.next + 1) (by omega)).trans w1
  have g0 : (s3.floor ≤ s.next) = True := by rw [hk03.floor]; simp; exact hf
  have g1 : (s3.floor ≤ s.next + 1) = True := by rw [hk03.floor]; exact f1
  have hcr : commitR r = if (termO r.log.base.index r.log.base.term r.log.l (major (vot r.log) r.peers)).2 = true ∧ r.commit < major (vot r.log) r.peers ∧ (termO r.log.base.index r.log.base.term r.log.l (major (vot r.log) r.peers)).1 = r.term then { r with commit := major (vot r.log) r.peers } else r := rfl
  have fin : ∀ P, commitR r = r → Keep s.next s P → K (stA r d w vv pv ov) P := fun P h hkP => by
    have hS' := (hS.keep (keep_old hI hkP)).mono (D' := NewD D s.next P.next) fun q hq => .inl hq
    have := hK P
    rw [h] at this
    exact this hS' hkP
  generalize termO r.log.base.index r.log.base.term r.log.l (major (vot r.log) r.peers) = to at hcr ⊢
  obtain ⟨tt, tb⟩ := to
  simp only at hcr
  by_cases c : r.commit < major (vot r.log) r.peers
  case neg =>
    have c1 : decide (major (vot r.log) r.peers > r.commit) = false := by simp; omega
    (repeat' (with_reducible first|refine w_1 ?_|refine w_2 ?_|refine w_3 ?_|refine w_4 ?_|refine w_5 ?_|refine w_6 ?_|refine w_7 ?_|(refine w_8 (fun hb=>?_) (fun hb=>?_)<;>try simp only [hb])|refine w_9 ?_|simp (maxDischargeDepth:=12) only [viz,↓reduceIte,Nat.reduceEqDiff,reduceCtorEq,Int.reduceEq,Int.reduceNeg,Nat.reduceAdd,Nat.reduceLeDiff,u0,u1,g0,g1,c1,k1,k2,k3,k4,k5,bne_self_eq_false, Int.reduceBEq, Int.reduceBNe, Int.reduceLT, Int.reduceLE, Int.reduceGT, Int.reduceGE]))
    exact fin _ (by rw [hcr]; simp [c]) (hk03.trans (Keep.put (by omega) _))
  have c1 : decide (major (vot r.log) r.peers > r.commit) = true := by simp [c]
  cases tb
  · (repeat' (with_reducible first|refine w_1 ?_|refine w_2 ?_|refine w_3 ?_|refine w_4 ?_|refine w_5 ?_|refine w_6 ?_|refine w_7 ?_|(refine w_8 (fun hb=>?_) (fun hb=>?_)<;>try simp only [hb])|refine w_9 ?_|simp (maxDischargeDepth:=12) only [viz,↓reduceIte,Nat.reduceEqDiff,reduceCtorEq,Int.reduceEq,Int.reduceNeg,Nat.reduceAdd,Nat.reduceLeDiff,u0,u1,g0,g1,c1,k1,k2,k3,k4,k5,bne_self_eq_false, Int.reduceBEq, Int.reduceBNe, Int.reduceLT, Int.reduceLE, Int.reduceGT, Int.reduceGE]))
    exact fin _ (by rw [hcr]; simp) (hk03.trans (Keep.put (by omega) _))
  by_cases c' : tt = r.term
  case neg =>
    have c2 : (tt == r.term) = false := by simp [c']
    (repeat' (with_reducible first|refine w_1 ?_|refine w_2 ?_|refine w_3 ?_|refine w_4 ?_|refine w_5 ?_|refine w_6 ?_|refine w_7 ?_|(refine w_8 (fun hb=>?_) (fun hb=>?_)<;>try simp only [hb])|refine w_9 ?_|simp (maxDischargeDepth:=12) only [viz,↓reduceIte,Nat.reduceEqDiff,reduceCtorEq,Int.reduceEq,Int.reduceNeg,Nat.reduceAdd,Nat.reduceLeDiff,u0,u1,g0,g1,c1,c2,k1,k2,k3,k4,k5,bne_self_eq_false, Int.reduceBEq, Int.reduceBNe, Int.reduceLT, Int.reduceLE, Int.reduceGT, Int.reduceGE]))
    exact fin _ (by rw [hcr]; simp [c']) (hk03.trans (Keep.put (by omega) _))
  have c2 : (tt == r.term) = true := by simp [c']
  (repeat' (with_reducible first|refine w_1 ?_|refine w_2 ?_|refine w_3 ?_|refine w_4 ?_|refine w_5 ?_|refine w_6 ?_|refine w_7 ?_|(refine w_8 (fun hb=>?_) (fun hb=>?_)<;>try simp only [hb])|refine w_9 ?_|simp (maxDischargeDepth:=12) only [viz,↓reduceIte,Nat.reduceEqDiff,reduceCtorEq,Int.reduceEq,Int.reduceNeg,Nat.reduceAdd,Nat.reduceLeDiff,u0,u1,g0,g1,c1,c2,k1,k2,k3,k4,k5,bne_self_eq_false, Int.reduceBEq, Int.reduceBNe, Int.reduceLT, Int.reduceLE, Int.reduceGT, Int.reduceGE]))
  rw [if_pos ⟨rfl, c, c'⟩] at hcr
  have fin2 : ∀ P, Keep s.next s P → K (stA { r with commit := major (vot r.log) r.peers } d w vv pv ov) P := fun P hkP => by
    have hS' := (hS.keep (keep_old hI hkP)).mono (D' := NewD D s.next P.next) fun q hq => .inl hq
    have := hK P
    rw [hcr] at this
    exact this ⟨hS'.d, hS'.w, hS'.vv, hS'.pv, hS'.ov⟩ hkP
  exact fin2 _ ((hk03.trans (Keep.put (Nat.le_refl _) _)).trans (Keep.put (Nat.le_succ _) _))
end
end Go.Proofs.YtfllmhjjfapnmaaGreat

