/- States and messages compared. No statement of the seat is proved here. -/
import Derived.Test.YtfllmhjjfapnmaaGreatVZRaftV
import Derived.Test.YtfllmhjjfapnmaaGreatVZLB
import Derived.Test.YtfllmhjjfapnmaaGreatVZVE
namespace Go.Proofs.YtfllmhjjfapnmaaGreat
open Go Go.VI
set_option linter.unusedSimpArgs false
attribute [local irreducible] Ws Wp W C
set_option maxHeartbeats 2000000
theorem pick_all {c : List AV} {n : Nat} (h : c.length = n) : (slice1 c 0 n).bind (pickCells true) = some (.agg c) := by
  subst h
  simp [slice1, pickCells]
theorem samePeers_c {ps : List Peer} {D : Nat → Prop} {s : Mem} {v1 v2 : AV} {K : AV → Mem → Prop} (hI : In D s) (h1 : Sl s D v1 3 (peersC ps)) (h2 : Sl s D v2 3 (peersC ps)) (hn : Fit ps.length)
    (hK : ∀ s', Keep s.next s s' → K (.bool true) s') : C tab 47 [v1, v2] s K := by
  refine C_enter (cf := cf47) rfl (Nat.le_of_ble_eq_true rfl) ?_
  simp only [cf47, oo, on, om, og, oc, ou]
  have l1 : lenA false v1 = some ps.length := by rw [h1.len, peersC_len]
  have l2 : lenA false v2 = some ps.length := by rw [h2.len, peersC_len]
  (repeat' (with_reducible first|refine w_1 ?_|refine w_2 ?_|refine w_3 ?_|refine w_4 ?_|refine w_5 ?_|refine w_6 ?_|refine w_7 ?_|(refine w_8 (fun hb=>?_) (fun hb=>?_)<;>try simp only [hb])|refine w_9 ?_|simp (maxDischargeDepth:=12) only [viz,↓reduceIte,Nat.reduceEqDiff,reduceCtorEq,Int.reduceEq,Int.reduceNeg,Nat.reduceAdd,Nat.reduceLeDiff,l1,l2,bne_self_eq_false]))
  refine W_inv ps.length (fun i e s' => Keep s.next s s' ∧ e.get 0 = v1 ∧ e.get 1 = v2 ∧ e.get 5 = .int .i64 i) (by delta cf47l0 oo on om og oc ou; exact rfl) ?_ ?_
  · (repeat' (with_reducible first|refine w_1 ?_|refine w_2 ?_|refine w_3 ?_|refine w_4 ?_|refine w_5 ?_|refine w_6 ?_|refine w_7 ?_|(refine w_8 (fun hb=>?_) (fun hb=>?_)<;>try simp only [hb])|refine w_9 ?_|simp (maxDischargeDepth:=12) only [viz,↓reduceIte,Nat.reduceEqDiff,reduceCtorEq,Int.reduceEq,Int.reduceNeg,Nat.reduceAdd,Nat.reduceLeDiff]))
    all_goals first | rfl | skip
  · rintro i e s' hi _ ⟨hk, g0, g1, g5⟩
    have h1' := h1.keep (keep_old hI hk)
    have h2' := h2.keep (keep_old hI hk)
    by_cases hlt : i < ps.length
    · obtain ⟨x, hx⟩ := get_of hlt
      obtain ⟨p, hp, P⟩ := h1'.atk (hI.keep hk) (peersC_get hx)
      obtain ⟨p2, hp2, P2⟩ := h2'.atk (hI.keep hk) (peersC_get hx)
      simp only [peerC] at P P2
      (repeat' (with_reducible first|refine w_1 ?_|refine w_2 ?_|refine w_3 ?_|refine w_4 ?_|refine w_5 ?_|refine w_6 ?_|refine w_7 ?_|(refine w_8 (fun hb=>?_) (fun hb=>?_)<;>try simp only [hb])|refine w_9 ?_|simp (maxDischargeDepth:=12) only [viz,↓reduceIte,Nat.reduceEqDiff,reduceCtorEq,Int.reduceEq,Int.reduceNeg,Nat.reduceAdd,Nat.reduceLeDiff,g0,g1,g5,l1,lt_true hlt,hp,P.ld,hp2,P2.ld,eqA,eqL,eqLf,bne_self_eq_false, Int.reduceBEq, Int.reduceBNe, Int.reduceLT, Int.reduceLE, Int.reduceGT, Int.reduceGE]))
      exact ⟨hlt, hk, succ_av (by omega)⟩
    · (repeat' (with_reducible first|refine w_1 ?_|refine w_2 ?_|refine w_3 ?_|refine w_4 ?_|refine w_5 ?_|refine w_6 ?_|refine w_7 ?_|(refine w_8 (fun hb=>?_) (fun hb=>?_)<;>try simp only [hb])|refine w_9 ?_|simp (maxDischargeDepth:=12) only [viz,↓reduceIte,Nat.reduceEqDiff,reduceCtorEq,Int.reduceEq,Int.reduceNeg,Nat.reduceAdd,Nat.reduceLeDiff,g0,g1,g5,l1,lt_false hlt]))
      exact hK _ hk
theorem rsame_c {r : Raft} {D : Nat → Prop} {s : Mem} {v1 v2 : AV} {K : AV → Mem → Prop} (hf : s.floor ≤ s.next) (hI : In D s) (h1 : RaftV s D v1 r) (h2 : RaftV s D v2 r) (hn : Fit r.log.l.length) (hv : Fit r.votes.length) (hp : Fit r.peers.length)
    (hK : ∀ s', Keep s.next s s' → K (.bool true) s') : C tab 13 [v1, v2] s K := by
  obtain ⟨_, rfl, d, w, vv, pv, rfl, hd, hw, hvv, hpv⟩ := h1
  obtain ⟨_, rfl, d2, w2, vv2, pv2, rfl, hd2, hw2, hvv2, hpv2⟩ := h2
  refine C_enter (cf := cf13) rfl (Nat.le_of_ble_eq_true rfl) ?_
  simp only [cf13, oo, on, om, og, oc, ou]
  (repeat' (with_reducible first|refine w_1 ?_|refine w_2 ?_|refine w_3 ?_|refine w_4 ?_|refine w_5 ?_|refine w_6 ?_|refine w_7 ?_|(refine w_8 (fun hb=>?_) (fun hb=>?_)<;>try simp only [hb])|refine w_9 ?_|simp (maxDischargeDepth:=12) only [viz,↓reduceIte,Nat.reduceEqDiff,reduceCtorEq,Int.reduceEq,Int.reduceNeg,Nat.reduceAdd,Nat.reduceLeDiff,hd.cell,hw.cell,hvv.cell,hpv.cell,hd2.cell,hw2.cell,hvv2.cell,hpv2.cell,bne_self_eq_false]))
  have hk0 : ∀ x y, Keep s.next s ((s.push x).push y) := fun x y => (pushes s x).then (pushes _ y)
  refine sameInts_c (is := r.votes) (hI.keep (hk0 _ _)) (hvv.keep (keep_old hI (hk0 _ _))) (hvv2.keep (keep_old hI (hk0 _ _))) hv fun s2 hk2 => ?_
  have a1 : s.next < s2.next := by have := hk2.next; simp only [next_push'] at this; omega
  (repeat' (with_reducible first|refine w_1 ?_|refine w_2 ?_|refine w_3 ?_|refine w_4 ?_|refine w_5 ?_|refine w_6 ?_|refine w_7 ?_|(refine w_8 (fun hb=>?_) (fun hb=>?_)<;>try simp only [hb])|refine w_9 ?_|simp (maxDischargeDepth:=12) only [viz,↓reduceIte,Nat.reduceEqDiff,reduceCtorEq,Int.reduceEq,Int.reduceNeg,Nat.reduceAdd,Nat.reduceLeDiff,hk2.get,bne_self_eq_false, Int.reduceBEq, Int.reduceBNe, Int.reduceLT, Int.reduceLE, Int.reduceGT, Int.reduceGE]))
  have hk3 := (hk0 _ _).then hk2
  refine samePeers_c (ps := r.peers) (hI.keep hk3) (hpv.keep (keep_old hI hk3)) (hpv2.keep (keep_old hI hk3)) hp fun s3 hk4 => ?_
  have hk24 := hk2.then hk4
  (repeat' (with_reducible first|refine w_1 ?_|refine w_2 ?_|refine w_3 ?_|refine w_4 ?_|refine w_5 ?_|refine w_6 ?_|refine w_7 ?_|(refine w_8 (fun hb=>?_) (fun hb=>?_)<;>try simp only [hb])|refine w_9 ?_|simp (maxDischargeDepth:=12) only [viz,↓reduceIte,Nat.reduceEqDiff,reduceCtorEq,Int.reduceEq,Int.reduceNeg,Nat.reduceAdd,Nat.reduceLeDiff,hk24.get,bne_self_eq_false, Int.reduceBEq, Int.reduceBNe, Int.reduceLT, Int.reduceLE, Int.reduceGT, Int.reduceGE]))
  have hk5 := hk3.then hk4
  refine same_c (l := r.log) (hk5.ok hf) (hI.keep hk5) ⟨d, w, rfl, hd.keep (keep_old hI hk5), hw.keep (keep_old hI hk5)⟩ ⟨d2, w2, rfl, hd2.keep (keep_old hI hk5), hw2.keep (keep_old hI hk5)⟩ hn fun s4 hk6 => ?_
  (repeat' (with_reducible first|refine w_1 ?_|refine w_2 ?_|refine w_3 ?_|refine w_4 ?_|refine w_5 ?_|refine w_6 ?_|refine w_7 ?_|(refine w_8 (fun hb=>?_) (fun hb=>?_)<;>try simp only [hb])|refine w_9 ?_|simp (maxDischargeDepth:=12) only [viz,↓reduceIte,Nat.reduceEqDiff,reduceCtorEq,Int.reduceEq,Int.reduceNeg,Nat.reduceAdd,Nat.reduceLeDiff,bne_self_eq_false, Int.reduceBEq, Int.reduceBNe, Int.reduceLT, Int.reduceLE, Int.reduceGT, Int.reduceGE]))
  exact hK _ (hk5.then hk6)
theorem sameMsg_c {m : Msg} {D : Nat → Prop} {s : Mem} {c1 c2 : List AV} {K : AV → Mem → Prop} (hf : s.floor ≤ s.next) (hI : In D s) (h1 : MsgC s D c1 m) (h2 : MsgC s D c2 m) (hn : Fit m.entries.length)
    (hK : ∀ s', Keep s.next s s' → K (.bool true) s') : C tab 49 [.agg c1, .agg c2] s K := by
  obtain ⟨ew, sd, rfl, he, hd⟩ := h1
  obtain ⟨ew2, sd2, rfl, he2, hd2⟩ := h2
  refine C_enter (cf := cf49) rfl (Nat.le_of_ble_eq_true rfl) ?_
  simp only [cf49, oo, on, om, og, oc, ou]
  have e0 : ∀ b : Bool, (!b == b) = false := by decide
  (repeat' (with_reducible first|refine w_1 ?_|refine w_2 ?_|refine w_3 ?_|refine w_4 ?_|refine w_5 ?_|refine w_6 ?_|refine w_7 ?_|(refine w_8 (fun hb=>?_) (fun hb=>?_)<;>try simp only [hb])|refine w_9 ?_|simp (maxDischargeDepth:=12) only [viz,↓reduceIte,Nat.reduceEqDiff,reduceCtorEq,Int.reduceEq,Int.reduceNeg,Nat.reduceAdd,Nat.reduceLeDiff,he.cell,hd.cell,he2.cell,hd2.cell,bne_self_eq_false,eqA_b,e0,bne_self_eq_false, Int.reduceBEq, Int.reduceBNe, Int.reduceLT, Int.reduceLE, Int.reduceGT, Int.reduceGE]))
  have hk0 : ∀ x y, Keep s.next s ((s.push x).push y) := fun x y => (pushes s x).then (pushes _ y)
  refine sameE_c (e := m.snap) (hI.keep (hk0 _ _)) (hd.keep (keep_old hI (hk0 _ _))) (hd2.keep (keep_old hI (hk0 _ _))) fun s2 hk2 => ?_
  have a1 : s.next < s2.next := by have := hk2.next; simp only [next_push'] at this; omega
  have hk3 := (hk0 _ _).then hk2
  (repeat' (with_reducible first|refine w_1 ?_|refine w_2 ?_|refine w_3 ?_|refine w_4 ?_|refine w_5 ?_|refine w_6 ?_|refine w_7 ?_|(refine w_8 (fun hb=>?_) (fun hb=>?_)<;>try simp only [hb])|refine w_9 ?_|simp (maxDischargeDepth:=12) only [viz,↓reduceIte,Nat.reduceEqDiff,reduceCtorEq,Int.reduceEq,Int.reduceNeg,Nat.reduceAdd,Nat.reduceLeDiff,hk2.get,bne_self_eq_false, Int.reduceBEq, Int.reduceBNe, Int.reduceLT, Int.reduceLE, Int.reduceGT, Int.reduceGE]))
  refine sameEs_c (es := m.entries) (hk3.ok hf) (hI.keep hk3) (he.keep (keep_old hI hk3)) (he2.keep (keep_old hI hk3)) hn fun s3 hk4 => ?_
  (repeat' (with_reducible first|refine w_1 ?_|refine w_2 ?_|refine w_3 ?_|refine w_4 ?_|refine w_5 ?_|refine w_6 ?_|refine w_7 ?_|(refine w_8 (fun hb=>?_) (fun hb=>?_)<;>try simp only [hb])|refine w_9 ?_|simp (maxDischargeDepth:=12) only [viz,↓reduceIte,Nat.reduceEqDiff,reduceCtorEq,Int.reduceEq,Int.reduceNeg,Nat.reduceAdd,Nat.reduceLeDiff,bne_self_eq_false, Int.reduceBEq, Int.reduceBNe, Int.reduceLT, Int.reduceLE, Int.reduceGT, Int.reduceGE]))
  exact hK _ (hk3.then hk4)
theorem sameMsgs_c {ms : List Msg} {D : Nat → Prop} {s : Mem} {v1 v2 : AV} {K : AV → Mem → Prop} (hf : s.floor ≤ s.next) (hI : In D s) (h1 : Msgs s D v1 ms) (h2 : Msgs s D v2 ms) (hn : Fit ms.length) (hw : ∀ m ∈ ms, Fit m.entries.length)
    (hK : ∀ s', Keep s.next s s' → K (.bool true) s') : C tab 14 [v1, v2] s K := by
  refine C_enter (cf := cf14) rfl (Nat.le_of_ble_eq_true rfl) ?_
  simp only [cf14, oo, on, om, og, oc, ou]
  (repeat' (with_reducible first|refine w_1 ?_|refine w_2 ?_|refine w_3 ?_|refine w_4 ?_|refine w_5 ?_|refine w_6 ?_|refine w_7 ?_|(refine w_8 (fun hb=>?_) (fun hb=>?_)<;>try simp only [hb])|refine w_9 ?_|simp (maxDischargeDepth:=12) only [viz,↓reduceIte,Nat.reduceEqDiff,reduceCtorEq,Int.reduceEq,Int.reduceNeg,Nat.reduceAdd,Nat.reduceLeDiff,h1.len,h2.len,bne_self_eq_false]))
  refine W_inv ms.length (fun i e s' => Keep s.next s s' ∧ e.get 0 = v1 ∧ e.get 1 = v2 ∧ e.get 5 = .int .i64 i) (by delta cf14l0 oo on om og oc ou; exact rfl) ?_ ?_
  · (repeat' (with_reducible first|refine w_1 ?_|refine w_2 ?_|refine w_3 ?_|refine w_4 ?_|refine w_5 ?_|refine w_6 ?_|refine w_7 ?_|(refine w_8 (fun hb=>?_) (fun hb=>?_)<;>try simp only [hb])|refine w_9 ?_|simp (maxDischargeDepth:=12) only [viz,↓reduceIte,Nat.reduceEqDiff,reduceCtorEq,Int.reduceEq,Int.reduceNeg,Nat.reduceAdd,Nat.reduceLeDiff]))
    all_goals first | rfl | skip
  · rintro i e s' hi _ ⟨hk, g0, g1, g5⟩
    have h1' := h1.keep (keep_old hI hk)
    have h2' := h2.keep (keep_old hI hk)
    by_cases hlt : i < ms.length
    · obtain ⟨x, hx⟩ := get_of hlt
      obtain ⟨c1, p, hp, P, hd⟩ := h1'.atk (hI.keep hk) hx
      obtain ⟨c2, p2, hp2, P2, hd2⟩ := h2'.atk (hI.keep hk) hx
      have q1 : ∀ M, Keep s'.next s' M → loadA M true 14 p = some (.agg c1) := fun M hM => by
        rw [P.ld M hM]; exact pick_all hd.len
      have q2 : ∀ M, Keep s'.next s' M → loadA M true 14 p2 = some (.agg c2) := fun M hM => by
        rw [P2.ld M hM]; exact pick_all hd2.len
      (repeat' (with_reducible first|refine w_1 ?_|refine w_2 ?_|refine w_3 ?_|refine w_4 ?_|refine w_5 ?_|refine w_6 ?_|refine w_7 ?_|(refine w_8 (fun hb=>?_) (fun hb=>?_)<;>try simp only [hb])|refine w_9 ?_|simp (maxDischargeDepth:=12) only [viz,↓reduceIte,Nat.reduceEqDiff,reduceCtorEq,Int.reduceEq,Int.reduceNeg,Nat.reduceAdd,Nat.reduceLeDiff,g0,g1,g5,h1'.len,lt_true hlt,hp,q1,hp2,q2]))
      refine sameMsg_c (hk.ok hf) (hI.keep hk) hd hd2 (hw x (List.mem_of_getElem? hx)) fun s2 hk2 => ?_
      (repeat' (with_reducible first|refine w_1 ?_|refine w_2 ?_|refine w_3 ?_|refine w_4 ?_|refine w_5 ?_|refine w_6 ?_|refine w_7 ?_|(refine w_8 (fun hb=>?_) (fun hb=>?_)<;>try simp only [hb])|refine w_9 ?_|simp (maxDischargeDepth:=12) only [viz,↓reduceIte,Nat.reduceEqDiff,reduceCtorEq,Int.reduceEq,Int.reduceNeg,Nat.reduceAdd,Nat.reduceLeDiff,g0,g1,g5]))
      exact ⟨hlt, hk.then hk2, succ_av (by omega)⟩
    · (repeat' (with_reducible first|refine w_1 ?_|refine w_2 ?_|refine w_3 ?_|refine w_4 ?_|refine w_5 ?_|refine w_6 ?_|refine w_7 ?_|(refine w_8 (fun hb=>?_) (fun hb=>?_)<;>try simp only [hb])|refine w_9 ?_|simp (maxDischargeDepth:=12) only [viz,↓reduceIte,Nat.reduceEqDiff,reduceCtorEq,Int.reduceEq,Int.reduceNeg,Nat.reduceAdd,Nat.reduceLeDiff,g0,g1,g5,h1'.len,lt_false hlt]))
      exact hK _ hk
end Go.Proofs.YtfllmhjjfapnmaaGreat

