/- The law RaftTicks over the compact program. -/
import Derived.Test.YtfllmhjjfapnmaaGreatVZRefTick
import Derived.Test.YtfllmhjjfapnmaaGreatVZRaftMay
import Derived.Test.YtfllmhjjfapnmaaGreatVZRaftSame
import Derived.Test.YtfllmhjjfapnmaaGreatVZRaftLight
import Derived.Test.YtfllmhjjfapnmaaGreatVZRaftAwake
import Derived.Test.YtfllmhjjfapnmaaGreatVZVE
namespace Go.Proofs.YtfllmhjjfapnmaaGreat
open Go Go.VI
set_option linter.unusedSimpArgs false
attribute [local irreducible] Ws Wp W C
set_option maxHeartbeats 4000000

structure Fits (r : Raft) (o : List Msg) : Prop where
  log : Fit r.log.l.length
  votes : Fit r.votes.length
  peers : Fit r.peers.length
  out : Fit o.length
  ms : ∀ m ∈ o, Fit m.entries.length
theorem sliceE_len (b : Int) (es : List Entry) (f m : Int) : (sliceE b es f m).length ≤ es.length := by
  unfold sliceE
  split
  · simp
  · exact Nat.le_trans (List.length_take_le' _ _) (List.length_filter_le _ _)
theorem tellAllM_fits {r : Raft} {ps : List Peer} (h : Fit r.log.l.length) (hp : Fit ps.length) : Fit (tellAllM r ps).length ∧ ∀ m ∈ tellAllM r ps, Fit m.entries.length := by
  constructor
  · have := tellAllM_len r ps ps.length
    rw [List.take_length] at this
    unfold Fit at *; omega
  · intro m hm
    obtain ⟨p, _, rfl⟩ := List.mem_map.mp hm
    have : (stamp r (tellM r p)).entries.length ≤ r.log.l.length := by
      show (tellM r p).entries.length ≤ _
      unfold tellM
      split
      · simp
      · exact sliceE_len _ _ _ _
    unfold Fit at *; omega
theorem leadR_fits {r : Raft} (hA : AppIn r.log r.term 0 []) (hl : Fit r.log.l.length) (hv : Fit r.votes.length) (hp : Fit r.peers.length) : Fits (leadR r) (leadO r) := by
  by_cases hz : (appOut r.log r.term 0 []).2 = 0
  · obtain ⟨a1, a2, a3, a4, a5⟩ := appOut_ok hA hz
    have e1 : leadR r = settleR (leadS r) := by unfold leadR; rw [if_pos hz]
    have e2 : leadO r = tellAllM (settleR (leadS r)) (settleR (leadS r)).peers := by unfold leadO; rw [if_pos hz]
    have hsr : settleR (leadS r) = commitR { leadS r with peers := (vot (leadS r).log).map (peerFor (leadS r)) } := rfl
    obtain ⟨c1, c2, _, _, c5⟩ := commitR_same { leadS r with peers := (vot (leadS r).log).map (peerFor (leadS r)) }
    have h1 : Fit (settleR (leadS r)).log.l.length := by rw [hsr, c1]; exact a5.len
    have h2 : Fit (settleR (leadS r)).peers.length := by
      rw [hsr, c2]
      show ((vot (leadS r).log).map (peerFor (leadS r))).length < _
      rw [List.length_map]
      have := vot_len (l := (leadS r).log) a4
      omega
    rw [e1, e2]
    obtain ⟨t1, t2⟩ := tellAllM_fits h1 h2
    exact ⟨h1, by rw [hsr, c5]; show Fit ([] : List Int).length; decide, h2, t1, t2⟩
  · have e1 : leadR r = r := by unfold leadR; rw [if_neg hz]
    have e2 : leadO r = [] := by unfold leadO; rw [if_neg hz]
    rw [e1, e2]
    exact ⟨hl, hv, hp, by decide, by intro m hm; cases hm⟩
theorem askR_fits {r : Raft} (hL : logOk r.log = true) (hw : r.log.Wf) : Fits (askR r) (askO r) := by
  cases hwon : wonV (vot r.log) [r.node]
  · have e1 : askR r = askS r := by unfold askR; rw [if_neg (by rw [hwon]; simp)]
    have e2 : askO r = asksM (askS r) (vot r.log) := by unfold askO; rw [if_neg (by rw [hwon]; simp)]
    rw [e1, e2]
    have h7 := vot_len hL
    refine ⟨hw.len, by show 1 < _; omega, by show 0 < _; omega, ?_, ?_⟩
    · have := asksM_len (askS r) (vot r.log) (vot r.log).length
      rw [List.take_length] at this
      unfold Fit; omega
    · intro m hm
      obtain ⟨n, _, rfl⟩ := List.mem_map.mp hm
      show 0 < _; omega
  · have e1 : askR r = leadR (askS r) := by unfold askR; rw [if_pos hwon]
    have e2 : askO r = leadO (askS r) := by unfold askO; rw [if_pos hwon]
    rw [e1, e2]
    exact leadR_fits ⟨hw, wrap_inU _, by omega, by decide⟩ hw.len (by show 1 < _; omega) (by show 0 < _; omega)
theorem tickR_fits {r : Raft} (h : stOk r = true) (hw : r.Wf) : Fits (tickR r) (tickO r) := by
  obtain ⟨_, _, hlo, hp7⟩ := stOk_bounds h
  unfold tickR tickO
  split
  · split
    · obtain ⟨t1, t2⟩ := tellAllM_fits (r := { r with elapsed := 0 }) (ps := r.peers) hw.log.len hw.peers
      exact ⟨hw.log.len, hw.votes, hw.peers, t1, t2⟩
    · exact ⟨hw.log.len, hw.votes, hw.peers, by decide, by intro m hm; cases hm⟩
  · split
    · exact askR_fits (r := aged r) hlo hw.log
    · exact ⟨hw.log.len, hw.votes, hw.peers, by decide, by intro m hm; cases hm⟩

set_option maxRecDepth 100000 in
theorem ticks_c {r : Raft} {v : AV} (hv : ∀ s D, RaftV s D v r) (hw : r.Wf) : C tab 3 [v] Mem.zero (fun r _ => r = .bool true) := by
  obtain ⟨d, w, vv, pv, rfl, hd, hl, hvv, hpv⟩ := raftC_row (hv Mem.zero fun _ => False)
  refine C_enter (cf := cf3) rfl (Nat.le_of_ble_eq_true rfl) ?_
  simp only [cf3, oo, on, om, og, oc, ou, raftA]
  (repeat' (with_reducible first|refine w_1 ?_|refine w_2 ?_|refine w_3 ?_|refine w_4 ?_|refine w_5 ?_|refine w_6 ?_|refine w_7 ?_|(refine w_8 (fun hb=>?_) (fun hb=>?_) <;> (try simp only [hb]))|refine w_9 ?_|simp (maxDischargeDepth:=12) only [vis, ↓reduceIte, Nat.reduceEqDiff, reduceCtorEq, Int.reduceEq, Int.reduceNeg, Nat.reduceAdd, Nat.reduceLeDiff, ev, putO, intOp, resultsA, resA, Env.start, Env.ofList, loadA_ptr, storeA_ptr, hd.cell, hl.cell, hvv.cell, hpv.cell]))
  have hv' : ∀ s D, RaftV s D (.agg [.int .i64 r.node, .int .u64 r.term, .int .i64 r.vote, .int .u64 r.log.base.index, .int .u64 r.log.base.term, .int .i64 r.log.base.kind, d, w, .int .u64 r.commit, .int .i64 r.role, .int .i64 r.leads, .int .i64 r.elapsed, vv, pv]) r := hv
  have hI : ∀ s, In (fun _ => False) s := fun _ _ h => h.elim
  refine light14_c (r := r) (D := fun _ => False) (by simp only [floor_push', next_push']; exact Nat.zero_le _) (hI _) (hv' _ _) hw fun b s1 hk1 => ?_
  have n1 : Mem.zero.next + 1 ≤ s1.next := hk1.next
  have r1 : s1.get Mem.zero.next = some (raftRow r d w vv pv) := by
    rw [hk1.get _ (by simp only [next_push']; omega), Mem.get_push, if_pos rfl]; rfl
  simp only [raftRow] at r1
  have fl1 : s1.floor = 0 := hk1.floor
  cases b
  · (repeat' (with_reducible first|refine w_1 ?_|refine w_2 ?_|refine w_3 ?_|refine w_4 ?_|refine w_5 ?_|refine w_6 ?_|refine w_7 ?_|(refine w_8 (fun hb=>?_) (fun hb=>?_) <;> (try simp only [hb]))|refine w_9 ?_|simp (maxDischargeDepth:=12) only [vis, ↓reduceIte, Nat.reduceEqDiff, reduceCtorEq, Int.reduceEq, Int.reduceNeg, Nat.reduceAdd, Nat.reduceLeDiff, ev, putO, intOp, resultsA, resA, Env.start, Env.ofList, loadA_ptr, storeA_ptr, bne_self_eq_false, Int.reduceBEq, Int.reduceBNe, Int.reduceLT, Int.reduceLE, Int.reduceGT, Int.reduceGE]))
    refine awake14_c _ ?_
    (repeat' (with_reducible first|refine w_1 ?_|refine w_2 ?_|refine w_3 ?_|refine w_4 ?_|refine w_5 ?_|refine w_6 ?_|refine w_7 ?_|(refine w_8 (fun hb=>?_) (fun hb=>?_) <;> (try simp only [hb]))|refine w_9 ?_|simp (maxDischargeDepth:=12) only [vis, ↓reduceIte, Nat.reduceEqDiff, reduceCtorEq, Int.reduceEq, Int.reduceNeg, Nat.reduceAdd, Nat.reduceLeDiff, ev, putO, intOp, resultsA, resA, Env.start, Env.ofList, loadA_ptr, storeA_ptr]))
  (repeat' (with_reducible first|refine w_1 ?_|refine w_2 ?_|refine w_3 ?_|refine w_4 ?_|refine w_5 ?_|refine w_6 ?_|refine w_7 ?_|(refine w_8 (fun hb=>?_) (fun hb=>?_) <;> (try simp only [hb]))|refine w_9 ?_|simp (maxDischargeDepth:=12) only [vis, ↓reduceIte, Nat.reduceEqDiff, reduceCtorEq, Int.reduceEq, Int.reduceNeg, Nat.reduceAdd, Nat.reduceLeDiff, ev, putO, intOp, resultsA, resA, Env.start, Env.ofList, loadA_ptr, storeA_ptr, r1, bne_self_eq_false, Int.reduceBEq, Int.reduceBNe, Int.reduceLT, Int.reduceLE, Int.reduceGT, Int.reduceGE]))
  refine tick_c (r := r) (D := fun _ => False) (by rw [fl1]; exact Nat.zero_le _) (hI _) (hv' _ _) hw (fun hst v2 s2 hk2 hc => ?_) (fun hst v2 ov2 s2 hk2 hv2 ho2 => ?_)
  · obtain ⟨c, rfl, hcl, hcc⟩ := hc
    have n2 := hk2.next
    have r2 := (hk2.get Mem.zero.next (by omega)).trans r1
    match c, hcl, hcc with
    | [c0, c1, c2, c3, c4, c5, c6, c7, c8, c9, c10, c11, c12, c13], _, hcc =>
      simp only [List.all_cons, List.all_nil, Bool.and_true, Bool.and_eq_true] at hcc
      obtain ⟨h0, h1, h2, h3, h4, h5, h6, h7, h8, h9, h10, h11, h12, h13⟩ := hcc
      have fl2 : s2.floor = 0 := hk2.floor.trans fl1
      have fT2 : (s2.floor ≤ s2.next) = True := by rw [fl2]; simp
      have m2 : (Mem.zero.next = s2.next) = False := by simp; omega
      (repeat' (with_reducible first|refine w_1 ?_|refine w_2 ?_|refine w_3 ?_|refine w_4 ?_|refine w_5 ?_|refine w_6 ?_|refine w_7 ?_|(refine w_8 (fun hb=>?_) (fun hb=>?_) <;> (try simp only [hb]))|refine w_9 ?_|simp (maxDischargeDepth:=12) only [vis, ↓reduceIte, Nat.reduceEqDiff, reduceCtorEq, Int.reduceEq, Int.reduceNeg, Nat.reduceAdd, Nat.reduceLeDiff, ev, putO, intOp, resultsA, resA, Env.start, Env.ofList, loadA_ptr, storeA_ptr, r2, fT2, m2, h0, h1, h2, h3, h4, h5, h6, h7, h8, h9, h10, h11, h12, h13, bne_self_eq_false, Int.reduceBEq, Int.reduceBNe, Int.reduceLT, Int.reduceLE, Int.reduceGT, Int.reduceGE]))
      refine raftMay_c (r := r) (D := fun _ => False) (by simp only [floor_push', next_push']; omega) (hI _) (hv' _ _) hw fun s3 hk3 => ?_
      rw [hst]
      have c00 : (((0 : Nat) : Int) == 0) = true := rfl
      (repeat' (with_reducible first|refine w_1 ?_|refine w_2 ?_|refine w_3 ?_|refine w_4 ?_|refine w_5 ?_|refine w_6 ?_|refine w_7 ?_|(refine w_8 (fun hb=>?_) (fun hb=>?_) <;> (try simp only [hb]))|refine w_9 ?_|simp (maxDischargeDepth:=12) only [vis, ↓reduceIte, Nat.reduceEqDiff, reduceCtorEq, Int.reduceEq, Int.reduceNeg, Nat.reduceAdd, Nat.reduceLeDiff, ev, putO, intOp, resultsA, resA, Env.start, Env.ofList, loadA_ptr, storeA_ptr, bne_self_eq_false, Int.reduceBEq, Int.reduceBNe, Int.reduceLT, Int.reduceLE, Int.reduceGT, Int.reduceGE, c00]))
      refine awake14_c _ ?_
      (repeat' (with_reducible first|refine w_1 ?_|refine w_2 ?_|refine w_3 ?_|refine w_4 ?_|refine w_5 ?_|refine w_6 ?_|refine w_7 ?_|(refine w_8 (fun hb=>?_) (fun hb=>?_) <;> (try simp only [hb]))|refine w_9 ?_|simp (maxDischargeDepth:=12) only [vis, ↓reduceIte, Nat.reduceEqDiff, reduceCtorEq, Int.reduceEq, Int.reduceNeg, Nat.reduceAdd, Nat.reduceLeDiff, ev, putO, intOp, resultsA, resA, Env.start, Env.ofList, loadA_ptr, storeA_ptr]))
  · have n2 := hk2.next
    have r2 := (hk2.get Mem.zero.next (by omega)).trans r1
    have fl2 : s2.floor = 0 := hk2.floor.trans fl1
    obtain ⟨d2, w2, vv2, pv2, rfl, hd2, hl2, hvv2, hpv2⟩ := raftC_row hv2
    have fT2 : (s2.floor ≤ s2.next) = True := by rw [fl2]; simp
    have m2 : (Mem.zero.next = s2.next) = False := by simp; omega
    simp only [raftA]
    (repeat' (with_reducible first|refine w_1 ?_|refine w_2 ?_|refine w_3 ?_|refine w_4 ?_|refine w_5 ?_|refine w_6 ?_|refine w_7 ?_|(refine w_8 (fun hb=>?_) (fun hb=>?_) <;> (try simp only [hb]))|refine w_9 ?_|simp (maxDischargeDepth:=12) only [vis, ↓reduceIte, Nat.reduceEqDiff, reduceCtorEq, Int.reduceEq, Int.reduceNeg, Nat.reduceAdd, Nat.reduceLeDiff, ev, putO, intOp, resultsA, resA, Env.start, Env.ofList, loadA_ptr, storeA_ptr, r2, fT2, m2, hd2.cell, hl2.cell, hvv2.cell, hpv2.cell, bne_self_eq_false, Int.reduceBEq, Int.reduceBNe, Int.reduceLT, Int.reduceLE, Int.reduceGT, Int.reduceGE]))
    have hkp2 := pushes s2 (raftRow (tickR r) d2 w2 vv2 pv2)
    refine raftMay_c (r := r) (D := fun _ => False) (hkp2.ok (by simpa using fT2)) (hI _) (hv' _ _) hw fun s3 hk3 => ?_
    rw [hst]
    have hk23 := hkp2.then hk3
    have n3 := hk3.next
    simp only [next_push'] at n3
    have r3 := (hk23.get Mem.zero.next (by omega)).trans r2
    have q3 : s3.get s2.next = some (raftRow (tickR r) d2 w2 vv2 pv2) := by
      rw [hk3.get _ (by simp only [next_push']; omega), Mem.get_push, if_pos rfl]; rfl
    have fl3 : s3.floor = 0 := hk23.floor.trans fl2
    (repeat' (with_reducible first|refine w_1 ?_|refine w_2 ?_|refine w_3 ?_|refine w_4 ?_|refine w_5 ?_|refine w_6 ?_|refine w_7 ?_|(refine w_8 (fun hb=>?_) (fun hb=>?_) <;> (try simp only [hb]))|refine w_9 ?_|simp (maxDischargeDepth:=12) only [vis, ↓reduceIte, Nat.reduceEqDiff, reduceCtorEq, Int.reduceEq, Int.reduceNeg, Nat.reduceAdd, Nat.reduceLeDiff, ev, putO, intOp, resultsA, resA, Env.start, Env.ofList, loadA_ptr, storeA_ptr, r3, bne_self_eq_false, Int.reduceBEq, Int.reduceBNe, Int.reduceLT, Int.reduceLE, Int.reduceGT, Int.reduceGE]))
    refine rtick_c (r := r) (D := fun _ => False) (by rw [fl3]; exact Nat.zero_le _) (hI _) (hv' _ _) hw hst fun d4 w4 vv4 pv4 ov4 s4 hS4 hk4 => ?_
    have n4 := hk4.next
    have q4 := (hk4.get s2.next (by omega)).trans q3
    have fl4 : s4.floor = 0 := hk4.floor.trans fl3
    have fT4 : (s4.floor ≤ s4.next) = True := by rw [fl4]; simp
    have m4 : (s2.next = s4.next) = False := by simp; omega
    obtain ⟨l1, l2, l3, l4, l5⟩ := hS4.cells
    simp only [raftRow] at q4
    simp only [stA]
    (repeat' (with_reducible first|refine w_1 ?_|refine w_2 ?_|refine w_3 ?_|refine w_4 ?_|refine w_5 ?_|refine w_6 ?_|refine w_7 ?_|(refine w_8 (fun hb=>?_) (fun hb=>?_) <;> (try simp only [hb]))|refine w_9 ?_|simp (maxDischargeDepth:=12) only [vis, ↓reduceIte, Nat.reduceEqDiff, reduceCtorEq, Int.reduceEq, Int.reduceNeg, Nat.reduceAdd, Nat.reduceLeDiff, ev, putO, intOp, resultsA, resA, Env.start, Env.ofList, loadA_ptr, storeA_ptr, q4, fT4, m4, l1, l2, l3, l4, l5, bne_self_eq_false, Int.reduceBEq, Int.reduceBNe, Int.reduceLT, Int.reduceLE, Int.reduceGT, Int.reduceGE]))
    have hkp4 := pushes s4 (stRow (tickR r) d4 w4 vv4 pv4 ov4)
    have hk24 := (hk23.then hk4).then hkp4
    obtain ⟨b1, b2, b3, b4, b5⟩ : Fits (tickR r) (tickO r) := tickR_fits hst hw
    have hD : ∀ q, q < s4.next + 1 → q < s4.next + 1 := fun _ h => h
    refine rsame_c (r := tickR r) (D := fun q => q < s4.next + 1) (by simp only [floor_push', next_push']; rw [fl4]; exact Nat.zero_le _) (fun q hq => by simp only [next_push']; exact hq) (RaftV.mono (hv2.keep fun q hq => hk24.get q hq) fun q hq => by have : q < s2.next := hq; omega) ⟨_, rfl, d4, w4, vv4, pv4, rfl, ?_, ?_, ?_, ?_⟩ b1 b2 b3 fun s5 hk5 => ?_
    · exact (hS4.d.keep fun q hq => hkp4.get q (hq.elim (fun h => h.elim) fun h => h.2)).mono fun q hq => hq.elim (fun h => h.elim) fun h => by omega
    · exact (hS4.w.keep fun q hq => hkp4.get q (hq.elim (fun h => h.elim) fun h => h.2)).mono fun q hq => hq.elim (fun h => h.elim) fun h => by omega
    · exact (hS4.vv.keep fun q hq => hkp4.get q (hq.elim (fun h => h.elim) fun h => h.2)).mono fun q hq => hq.elim (fun h => h.elim) fun h => by omega
    · exact (hS4.pv.keep fun q hq => hkp4.get q (hq.elim (fun h => h.elim) fun h => h.2)).mono fun q hq => hq.elim (fun h => h.elim) fun h => by omega
    have n5 := hk5.next
    simp only [next_push'] at n5
    have q6 : s5.get s4.next = some (stRow (tickR r) d4 w4 vv4 pv4 ov4) := by
      rw [hk5.get _ (by simp only [next_push']; omega), Mem.get_push, if_pos rfl]; rfl
    simp only [stRow] at q6
    (repeat' (with_reducible first|refine w_1 ?_|refine w_2 ?_|refine w_3 ?_|refine w_4 ?_|refine w_5 ?_|refine w_6 ?_|refine w_7 ?_|(refine w_8 (fun hb=>?_) (fun hb=>?_) <;> (try simp only [hb]))|refine w_9 ?_|simp (maxDischargeDepth:=12) only [vis, ↓reduceIte, Nat.reduceEqDiff, reduceCtorEq, Int.reduceEq, Int.reduceNeg, Nat.reduceAdd, Nat.reduceLeDiff, ev, putO, intOp, resultsA, resA, Env.start, Env.ofList, loadA_ptr, storeA_ptr, q6, bne_self_eq_false, Int.reduceBEq, Int.reduceBNe, Int.reduceLT, Int.reduceLE, Int.reduceGT, Int.reduceGE]))
    have hk25 := hk24.then hk5
    have hk45 := hkp4.then hk5
    refine sameMsgs_c (ms := tickO r) (D := fun q => q < s5.next) (by rw [hk25.floor, fl2]; exact Nat.zero_le _) (fun q hq => hq) ((ho2.keep fun q hq => hk25.get q hq).mono fun q hq => by have : q < s2.next := hq; omega) ((hS4.ov.keep fun q hq => hk45.get q (hq.elim (fun h => h.elim) fun h => h.2)).mono fun q hq => hq.elim (fun h => h.elim) fun h => by omega) b4 b5 fun s6 hk6 => ?_
    (repeat' (with_reducible first|refine w_1 ?_|refine w_2 ?_|refine w_3 ?_|refine w_4 ?_|refine w_5 ?_|refine w_6 ?_|refine w_7 ?_|(refine w_8 (fun hb=>?_) (fun hb=>?_) <;> (try simp only [hb]))|refine w_9 ?_|simp (maxDischargeDepth:=12) only [vis, ↓reduceIte, Nat.reduceEqDiff, reduceCtorEq, Int.reduceEq, Int.reduceNeg, Nat.reduceAdd, Nat.reduceLeDiff, ev, putO, intOp, resultsA, resA, Env.start, Env.ofList, loadA_ptr, storeA_ptr, bne_self_eq_false, Int.reduceBEq, Int.reduceBNe, Int.reduceLT, Int.reduceLE, Int.reduceGT, Int.reduceGE]))
    refine awake14_c _ ?_
    (repeat' (with_reducible first|refine w_1 ?_|refine w_2 ?_|refine w_3 ?_|refine w_4 ?_|refine w_5 ?_|refine w_6 ?_|refine w_7 ?_|(refine w_8 (fun hb=>?_) (fun hb=>?_) <;> (try simp only [hb]))|refine w_9 ?_|simp (maxDischargeDepth:=12) only [vis, ↓reduceIte, Nat.reduceEqDiff, reduceCtorEq, Int.reduceEq, Int.reduceNeg, Nat.reduceAdd, Nat.reduceLeDiff, ev, putO, intOp, resultsA, resA, Env.start, Env.ofList, loadA_ptr, storeA_ptr]))
end Go.Proofs.YtfllmhjjfapnmaaGreat
