/- raft.Restart, ref14.Restart, raft.Same. No statement of the seat is proved here. -/
import Derived.Test.YtfllmhjjfapnmaaGreatVZRaftTick
import Derived.Test.YtfllmhjjfapnmaaGreatVZRaftMsg
import Derived.Test.YtfllmhjjfapnmaaGreatVZRaftLight
import Derived.Test.YtfllmhjjfapnmaaGreatVZTT
import Derived.Test.YtfllmhjjfapnmaaGreatVZVE
namespace Go.Proofs.YtfllmhjjfapnmaaGreat
open Go Go.VI
set_option linter.unusedSimpArgs false
attribute [local irreducible] Ws Wp W C
set_option maxHeartbeats 4000000

def restR (r : Raft) : Raft := { r with role := 0, leads := 0, elapsed := 0, votes := [], peers := [] }

theorem slim_wf {es : List Entry} (h : ∀ e ∈ es, e.Wf) (hn : Fit es.length) : Raft.Wf ⟨0, 0, 0, ⟨⟨0, 0, 0, []⟩, es⟩, 0, 0, 0, 0, [], []⟩ :=
  ⟨⟨⟨by simp, by simp, by simp, by simp⟩, h, hn⟩, by simp, by simp, by simp, by simp [InU], by simp [InU]⟩
theorem slim_c {m : Msg} {D : Nat → Prop} {s : Mem} {c : List AV} {K : AV → Mem → Prop} (hf : s.floor ≤ s.next) (hI : In D s) (hm : MsgC s D c m) (hw : MsgIn m)
    (hK : ∀ b s', Keep s.next s s' → K (.bool b) s') : C tab 15 [.agg c] s K := by
  obtain ⟨ew, sd, rfl, he, hd⟩ := hm
  refine C_enter (cf := cf15) rfl (Nat.le_of_ble_eq_true rfl) ?_
  simp only [cf15, oo, on, om, og, oc, ou]
  (repeat' (with_reducible first|refine w_1 ?_|refine w_2 ?_|refine w_3 ?_|refine w_4 ?_|refine w_5 ?_|refine w_6 ?_|refine w_7 ?_|(refine w_8 (fun hb=>?_) (fun hb=>?_) <;> (try simp only [hb]))|refine w_9 ?_|simp (maxDischargeDepth:=12) only [vis, ↓reduceIte, Nat.reduceEqDiff, reduceCtorEq, Int.reduceEq, Int.reduceNeg, Nat.reduceAdd, Nat.reduceLeDiff, ev, putO, intOp, resultsA, resA, Env.start, Env.ofList, loadA_ptr, storeA_ptr, he.cell, hd.cell, cells_cell he.cell]))
  have hk0 := pushes s (msgRow m ew sd)
  refine light14_c (r := ⟨0, 0, 0, ⟨⟨0, 0, 0, []⟩, m.entries⟩, 0, 0, 0, 0, [], []⟩) (D := D) (hk0.ok hf) (hI.keep hk0) ⟨_, rfl, .nilS, ew, .nilS, .nilS, rfl, Sl.nil _ _ _, he.keep (keep_old hI hk0), Sl.nil _ _ _, Sl.nil _ _ _⟩ (slim_wf hw.wf.entries hw.wf.len) fun b s1 hk1 => ?_
  (repeat' (with_reducible first|refine w_1 ?_|refine w_2 ?_|refine w_3 ?_|refine w_4 ?_|refine w_5 ?_|refine w_6 ?_|refine w_7 ?_|(refine w_8 (fun hb=>?_) (fun hb=>?_) <;> (try simp only [hb]))|refine w_9 ?_|simp (maxDischargeDepth:=12) only [vis, ↓reduceIte, Nat.reduceEqDiff, reduceCtorEq, Int.reduceEq, Int.reduceNeg, Nat.reduceAdd, Nat.reduceLeDiff, ev, putO, intOp, resultsA, resA, Env.start, Env.ofList, loadA_ptr, storeA_ptr]))
  exact hK b _ (hk0.then hk1)

theorem rrest_c {r : Raft} {D : Nat → Prop} {s : Mem} {v : AV} {K : AV → Mem → Prop} (hf : s.floor ≤ s.next) (hI : In D s) (hv : RaftV s D v r)
    (hK : ∀ v' s', Keep s.next s s' → RaftV s' D v' (restR r) → K v' s') : C tab 22 [v] s K := by
  obtain ⟨d, w, vv, pv, rfl, hd, hl, hvv, hpv⟩ := raftC_row hv
  simp only [raftA]
  refine C_enter (cf := cf22) rfl (Nat.le_of_ble_eq_true rfl) ?_
  simp only [cf22, oo, on, om, og, oc, ou]
  have fl1 : (s.floor ≤ s.next + 1) = True := by simp; omega
  (repeat' (with_reducible first|refine w_1 ?_|refine w_2 ?_|refine w_3 ?_|refine w_4 ?_|refine w_5 ?_|refine w_6 ?_|refine w_7 ?_|(refine w_8 (fun hb=>?_) (fun hb=>?_) <;> (try simp only [hb]))|refine w_9 ?_|simp (maxDischargeDepth:=12) only [vis, ↓reduceIte, Nat.reduceEqDiff, reduceCtorEq, Int.reduceEq, Int.reduceNeg, Nat.reduceAdd, Nat.reduceLeDiff, ev, putO, intOp, resultsA, resA, Env.start, Env.ofList, loadA_ptr, storeA_ptr, hd.cell, hl.cell, hvv.cell, hpv.cell, cells_cell hd.cell, cells_cell hl.cell, hf, fl1]))
  generalize hP : Mem.push _ _ = P
  have hk0 : Keep s.next s P := by
    rw [← hP]
    exact (pushes s _).trans (Keep.push (by simp only [next_push']; omega) _)
  refine hK _ _ hk0 ⟨_, rfl, d, w, .nilS, .nilS, rfl, hd.keep (keep_old hI hk0), hl.keep (keep_old hI hk0), Sl.nil _ _ _, Sl.nil _ _ _⟩

set_option maxRecDepth 100000 in
theorem restart_c {r : Raft} {D : Nat → Prop} {s : Mem} {v : AV} {K : AV → Mem → Prop} (hf : s.floor ≤ s.next) (hI : In D s) (hv : RaftV s D v r) (hw : r.Wf)
    (hbad : stOk r = false → ∀ v' s', Keep s.next s s' → (∃ c, v' = .agg c ∧ c.length = 14 ∧ c.all isCell = true) → K (.tup [v', .int .i64 1]) s')
    (hK : stOk r = true → ∀ v' s', Keep s.next s s' → RaftV s' (Lt s'.next) v' (restR r) → K (.tup [v', .int .i64 0]) s') : C tab 16 [v] s K := by
  obtain ⟨d, w, vv, pv, rfl, hd, hl, hvv, hpv⟩ := raftC_row hv
  simp only [raftA]
  refine C_enter (cf := cf16) rfl (Nat.le_of_ble_eq_true rfl) ?_
  simp only [cf16, oo, on, om, og, oc, ou]
  have fl1 : (s.floor ≤ s.next + 1) = True := by simp; omega
  (repeat' (with_reducible first|refine w_1 ?_|refine w_2 ?_|refine w_3 ?_|refine w_4 ?_|refine w_5 ?_|refine w_6 ?_|refine w_7 ?_|(refine w_8 (fun hb=>?_) (fun hb=>?_) <;> (try simp only [hb]))|refine w_9 ?_|simp (maxDischargeDepth:=12) only [vis, ↓reduceIte, Nat.reduceEqDiff, reduceCtorEq, Int.reduceEq, Int.reduceNeg, Nat.reduceAdd, Nat.reduceLeDiff, ev, putO, intOp, resultsA, resA, Env.start, Env.ofList, loadA_ptr, storeA_ptr, hd.cell, hl.cell, hvv.cell, hpv.cell, hf, fl1]))
  have hk0 := (pushes s (raftRow r d w vv pv)).then (pushes _ ⟨32, 14, [[.int .i64 0, .int .u64 0, .int .i64 0, .int .u64 0, .int .u64 0, .int .i64 0, .nilS, .nilS, .int .u64 0, .int .i64 0, .int .i64 0, .int .i64 0, .nilS, .nilS]]⟩)
  have hI0 := hI.keep hk0
  have hv0 : ∀ M, (∀ q, D q → M.get q = s.get q) → RaftV M D (raftA r d w vv pv) r := fun M hM => ⟨_, rfl, d, w, vv, pv, rfl, hd.keep hM, hl.keep hM, hvv.keep hM, hpv.keep hM⟩
  refine raftCheck_c (r := r) (D := D) (hk0.ok hf) hI0 (hv0 _ (keep_old hI hk0)) hw fun s1 hk1 => ?_
  have hk01 := hk0.then hk1
  have n1 := hk1.next
  simp only [next_push'] at n1
  have g1 : s1.get s.next = some (raftRow r d w vv pv) := by
    rw [hk1.get _ (by simp only [next_push']; omega), Mem.get_push, if_neg (by simp only [next_push']; omega), Mem.get_push, if_pos rfl]; rfl
  have z1 : s1.get (s.next + 1) = some ⟨32, 14, [[.int .i64 0, .int .u64 0, .int .i64 0, .int .u64 0, .int .u64 0, .int .i64 0, .nilS, .nilS, .int .u64 0, .int .i64 0, .int .i64 0, .int .i64 0, .nilS, .nilS]]⟩ := by
    rw [hk1.get _ (by simp only [next_push']; omega), Mem.get_push, if_pos (by simp only [next_push'])]
  have f1 : (s1.floor ≤ s.next + 1) = True := by rw [hk01.floor]; exact fl1
  cases hst : stOk r
  · simp only [raftRow] at g1
    simp only [Bool.false_eq_true, if_false]
    (repeat' (with_reducible first|refine w_1 ?_|refine w_2 ?_|refine w_3 ?_|refine w_4 ?_|refine w_5 ?_|refine w_6 ?_|refine w_7 ?_|(refine w_8 (fun hb=>?_) (fun hb=>?_) <;> (try simp only [hb]))|refine w_9 ?_|simp (maxDischargeDepth:=12) only [vis, ↓reduceIte, Nat.reduceEqDiff, reduceCtorEq, Int.reduceEq, Int.reduceNeg, Nat.reduceAdd, Nat.reduceLeDiff, ev, putO, intOp, resultsA, resA, Env.start, Env.ofList, loadA_ptr, storeA_ptr, g1, z1, f1, bne_self_eq_false, Int.reduceBEq, Int.reduceBNe, Int.reduceLT, Int.reduceLE, Int.reduceGT, Int.reduceGE]))
    exact hbad hst _ _ (hk01.trans (Keep.put (by omega) _)) ⟨_, rfl, rfl, rfl⟩
  obtain ⟨_, _, hlo, hp7⟩ := stOk_bounds hst
  have hgood := logOk_good hlo hw.log
  replace hK := hK hst
  simp only [if_true]
  have g1' := g1
  simp only [raftRow] at g1'
  (repeat' (with_reducible first|refine w_1 ?_|refine w_2 ?_|refine w_3 ?_|refine w_4 ?_|refine w_5 ?_|refine w_6 ?_|refine w_7 ?_|(refine w_8 (fun hb=>?_) (fun hb=>?_) <;> (try simp only [hb]))|refine w_9 ?_|simp (maxDischargeDepth:=12) only [vis, ↓reduceIte, Nat.reduceEqDiff, reduceCtorEq, Int.reduceEq, Int.reduceNeg, Nat.reduceAdd, Nat.reduceLeDiff, ev, putO, intOp, resultsA, resA, Env.start, Env.ofList, loadA_ptr, storeA_ptr, g1', bne_self_eq_false, Int.reduceBEq, Int.reduceBNe, Int.reduceLT, Int.reduceLE, Int.reduceGT, Int.reduceGE]))
  refine rown_c (r := r) (D := D) (hk01.ok hf) (hI.keep hk01) (hv0 _ (keep_old hI hk01)) hw hgood fun g s2 d2 w2 vv2 pv2 hk2 hg2 hG2 => ?_
  have hk02 := hk01.then hk2
  have n2 := hk2.next
  have r2 := hG2.row
  simp only [grpRow] at r2
  have z2 := (hk2.get (s.next + 1) (by omega)).trans z1
  have f2 : (s2.floor ≤ s.next + 1) = True := by rw [hk02.floor]; exact fl1
  have gz' : (g = s.next + 1) = False := by simp; omega
  have zg' : (s.next + 1 = g) = False := by simp; omega
  have ra : ∀ f, (s2.at f).get g = s2.get g := fun _ => rfl
  (repeat' (with_reducible first|refine w_1 ?_|refine w_2 ?_|refine w_3 ?_|refine w_4 ?_|refine w_5 ?_|refine w_6 ?_|refine w_7 ?_|(refine w_8 (fun hb=>?_) (fun hb=>?_) <;> (try simp only [hb]))|refine w_9 ?_|simp (maxDischargeDepth:=12) only [vis, ↓reduceIte, Nat.reduceEqDiff, reduceCtorEq, Int.reduceEq, Int.reduceNeg, Nat.reduceAdd, Nat.reduceLeDiff, ev, putO, intOp, resultsA, resA, Env.start, Env.ofList, loadA_ptr, storeA_ptr, r2, z2, f2, gz', zg', nilA_ptr, hG2.d.cell, hG2.w.cell, cells_cell hG2.d.cell, cells_cell hG2.w.cell, bne_self_eq_false, Int.reduceBEq, Int.reduceBNe, Int.reduceLT, Int.reduceLE, Int.reduceGT, Int.reduceGE]))
  generalize hP : Mem.put _ _ _ = P
  have hlt : ∀ q, gD g .nilS s2 q → Lt P.next q := fun q hq => by show q < P.next; rw [← hP]; exact hq.1
  have hS : Swap (s.next + 1) s2 P := ⟨⟨_, _, z2, rfl⟩, ⟨32, _, by rw [← hP, Mem.get_put, if_pos rfl]⟩, fun q hq => by rw [← hP, Mem.get_put, if_neg hq]⟩
  have hk3 : Keep s.next s P := by rw [← hP]; exact hk02.trans (Keep.put (by omega) _)
  exact hK _ _ hk3 ⟨_, rfl, d2, w2, .nilS, .nilS, rfl, hS.sl (by decide) (hG2.d.mono hlt), hS.ents (hG2.w.mono hlt), Sl.nil _ _ _, Sl.nil _ _ _⟩

theorem equalP_c {ps : List Peer} {D : Nat → Prop} {s : Mem} {v1 v2 : AV} {K : AV → Mem → Prop} (hI : In D s) (h1 : Sl s D v1 3 (peersC ps)) (h2 : Sl s D v2 3 (peersC ps)) (hn : Fit ps.length)
    (hK : ∀ s', Keep s.next s s' → K (.bool true) s') : C tab 62 [v1, v2] s K := by
  refine C_enter (cf := cf62) rfl (Nat.le_of_ble_eq_true rfl) ?_
  simp only [cf62, oo, on, om, og, oc, ou]
  have l1 : lenA false v1 = some ps.length := by rw [h1.len, peersC_len]
  have l2 : lenA false v2 = some ps.length := by rw [h2.len, peersC_len]
  (repeat' (with_reducible first|refine w_1 ?_|refine w_2 ?_|refine w_3 ?_|refine w_4 ?_|refine w_5 ?_|refine w_6 ?_|refine w_7 ?_|(refine w_8 (fun hb=>?_) (fun hb=>?_) <;> (try simp only [hb]))|refine w_9 ?_|simp (maxDischargeDepth:=12) only [vis, ↓reduceIte, Nat.reduceEqDiff, reduceCtorEq, Int.reduceEq, Int.reduceNeg, Nat.reduceAdd, Nat.reduceLeDiff, ev, putO, intOp, resultsA, resA, Env.start, Env.ofList, loadA_ptr, storeA_ptr, l1, l2, bne_self_eq_false]))
  refine W_inv ps.length (fun i e s' => s' = s ∧ e.get 13 = .int .i64 i) (by delta cf62l0 oo on om og oc ou; exact rfl) ?_ ?_
  · exact ⟨rfl, by simp only [Env.get_set, ↓reduceIte]; rfl⟩
  · rintro i e s' hi hT ⟨rfl, g13⟩
    have g0 := hT 0 rfl
    have g1 := hT 1 rfl
    have g12 := hT 12 rfl
    simp only [Env.get_set, ↓reduceIte, Nat.reduceEqDiff, Env.start, Env.ofList] at g0 g1 g12
    clear hT
    by_cases hlt : i < ps.length
    · obtain ⟨x, hx⟩ := get_of hlt
      obtain ⟨p, hp, P⟩ := h1.atk hI (peersC_get hx)
      obtain ⟨p2, hp2, P2⟩ := h2.atk hI (peersC_get hx)
      simp only [peerC] at P P2
      (repeat' (with_reducible first|refine w_1 ?_|refine w_2 ?_|refine w_3 ?_|refine w_4 ?_|refine w_5 ?_|refine w_6 ?_|refine w_7 ?_|(refine w_8 (fun hb=>?_) (fun hb=>?_) <;> (try simp only [hb]))|refine w_9 ?_|simp (maxDischargeDepth:=12) only [vis, ↓reduceIte, Nat.reduceEqDiff, reduceCtorEq, Int.reduceEq, Int.reduceNeg, Nat.reduceAdd, Nat.reduceLeDiff, ev, putO, intOp, resultsA, resA, Env.start, Env.ofList, loadA_ptr, storeA_ptr, g0, g1, g12, g13, lt_true hlt, hp, P.ld, hp2, P2.ld, eqA, eqL, eqLf, bne_self_eq_false, Int.reduceBEq, Int.reduceBNe, Int.reduceLT, Int.reduceLE, Int.reduceGT, Int.reduceGE]))
      exact ⟨hlt, succ_av (by omega)⟩
    · (repeat' (with_reducible first|refine w_1 ?_|refine w_2 ?_|refine w_3 ?_|refine w_4 ?_|refine w_5 ?_|refine w_6 ?_|refine w_7 ?_|(refine w_8 (fun hb=>?_) (fun hb=>?_) <;> (try simp only [hb]))|refine w_9 ?_|simp (maxDischargeDepth:=12) only [vis, ↓reduceIte, Nat.reduceEqDiff, reduceCtorEq, Int.reduceEq, Int.reduceNeg, Nat.reduceAdd, Nat.reduceLeDiff, ev, putO, intOp, resultsA, resA, Env.start, Env.ofList, loadA_ptr, storeA_ptr, g0, g1, g12, g13, lt_false hlt]))
      exact hK _ (Keep.refl _ _)

set_option maxRecDepth 100000 in
theorem raftSame_c {r : Raft} {D : Nat → Prop} {s : Mem} {v : AV} {K : AV → Mem → Prop} (hf : s.floor ≤ s.next) (hI : In D s) (hv : RaftV s D v r) (hw : r.Wf)
    (hK : ∀ s', Keep s.next s s' → K (.bool true) s') : C tab 21 [v, v] s K := by
  obtain ⟨d, w, vv, pv, rfl, hd, hl, hvv, hpv⟩ := raftC_row hv
  simp only [raftA]
  refine C_enter (cf := cf21) rfl (Nat.le_of_ble_eq_true rfl) ?_
  simp only [cf21, oo, on, om, og, oc, ou]
  (repeat' (with_reducible first|refine w_1 ?_|refine w_2 ?_|refine w_3 ?_|refine w_4 ?_|refine w_5 ?_|refine w_6 ?_|refine w_7 ?_|(refine w_8 (fun hb=>?_) (fun hb=>?_) <;> (try simp only [hb]))|refine w_9 ?_|simp (maxDischargeDepth:=12) only [vis, ↓reduceIte, Nat.reduceEqDiff, reduceCtorEq, Int.reduceEq, Int.reduceNeg, Nat.reduceAdd, Nat.reduceLeDiff, ev, putO, intOp, resultsA, resA, Env.start, Env.ofList, loadA_ptr, storeA_ptr, hd.cell, hl.cell, hvv.cell, hpv.cell, beq_self_eq_true]))
  have hk0 := (pushes s (raftRow r d w vv pv)).then (pushes _ (raftRow r d w vv pv))
  have hI0 := hI.keep hk0
  have q0 : ((s.push (raftRow r d w vv pv)).push (raftRow r d w vv pv)).get s.next = some (raftRow r d w vv pv) := by rw [Mem.get_push, if_neg (by simp only [next_push']; omega), Mem.get_push, if_pos rfl]
  have q1 : ((s.push (raftRow r d w vv pv)).push (raftRow r d w vv pv)).get (s.next + 1) = some (raftRow r d w vv pv) := by rw [Mem.get_push, if_pos (by simp only [next_push'])]
  refine equalI_c (xs := r.votes) (ys := r.votes) hI0 (hvv.keep (keep_old hI hk0)) (hvv.keep (keep_old hI hk0)) hw.votes hw.votes ?_
  simp only [raftRow] at q0 q1
  (repeat' (with_reducible first|refine w_1 ?_|refine w_2 ?_|refine w_3 ?_|refine w_4 ?_|refine w_5 ?_|refine w_6 ?_|refine w_7 ?_|(refine w_8 (fun hb=>?_) (fun hb=>?_) <;> (try simp only [hb]))|refine w_9 ?_|simp (maxDischargeDepth:=12) only [vis, ↓reduceIte, Nat.reduceEqDiff, reduceCtorEq, Int.reduceEq, Int.reduceNeg, Nat.reduceAdd, Nat.reduceLeDiff, ev, putO, intOp, resultsA, resA, Env.start, Env.ofList, loadA_ptr, storeA_ptr, q0, q1, decide_true, bne_self_eq_false, Int.reduceBEq, Int.reduceBNe, Int.reduceLT, Int.reduceLE, Int.reduceGT, Int.reduceGE]))
  refine equalP_c hI0 (hpv.keep (keep_old hI hk0)) (hpv.keep (keep_old hI hk0)) hw.peers fun s1 hk1 => ?_
  have hk01 := hk0.then hk1
  have p0 := (hk1.get s.next (by simp only [next_push']; omega)).trans q0
  have p1 := (hk1.get (s.next + 1) (by simp only [next_push']; omega)).trans q1
  (repeat' (with_reducible first|refine w_1 ?_|refine w_2 ?_|refine w_3 ?_|refine w_4 ?_|refine w_5 ?_|refine w_6 ?_|refine w_7 ?_|(refine w_8 (fun hb=>?_) (fun hb=>?_) <;> (try simp only [hb]))|refine w_9 ?_|simp (maxDischargeDepth:=12) only [vis, ↓reduceIte, Nat.reduceEqDiff, reduceCtorEq, Int.reduceEq, Int.reduceNeg, Nat.reduceAdd, Nat.reduceLeDiff, ev, putO, intOp, resultsA, resA, Env.start, Env.ofList, loadA_ptr, storeA_ptr, p0, p1, bne_self_eq_false, Int.reduceBEq, Int.reduceBNe, Int.reduceLT, Int.reduceLE, Int.reduceGT, Int.reduceGE]))
  refine sameL_c (l := r.log) (hk01.ok hf) (hI.keep hk01) ⟨d, w, rfl, hd.keep (keep_old hI hk01), hl.keep (keep_old hI hk01)⟩ ⟨d, w, rfl, hd.keep (keep_old hI hk01), hl.keep (keep_old hI hk01)⟩ hw.log fun s2 hk2 => ?_
  (repeat' (with_reducible first|refine w_1 ?_|refine w_2 ?_|refine w_3 ?_|refine w_4 ?_|refine w_5 ?_|refine w_6 ?_|refine w_7 ?_|(refine w_8 (fun hb=>?_) (fun hb=>?_) <;> (try simp only [hb]))|refine w_9 ?_|simp (maxDischargeDepth:=12) only [vis, ↓reduceIte, Nat.reduceEqDiff, reduceCtorEq, Int.reduceEq, Int.reduceNeg, Nat.reduceAdd, Nat.reduceLeDiff, ev, putO, intOp, resultsA, resA, Env.start, Env.ofList, loadA_ptr, storeA_ptr]))
  exact hK _ (hk01.then hk2)
end Go.Proofs.YtfllmhjjfapnmaaGreat
