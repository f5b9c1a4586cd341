/- The law RaftChecks over the compact program. -/
import Derived.Test.YtfllmhjjfapnmaaGreatVZRaftRest
import Derived.Test.YtfllmhjjfapnmaaGreatVZRaftSame
import Derived.Test.YtfllmhjjfapnmaaGreatVZRaftAwake
import Derived.Test.YtfllmhjjfapnmaaGreatVZVE
namespace Go.Proofs.YtfllmhjjfapnmaaGreat
open Go Go.VI
set_option linter.unusedSimpArgs false
attribute [local irreducible] Ws Wp W C
set_option maxHeartbeats 4000000

theorem nodes_byteL {vs : List Int} (h : okV vs = true) : nodes (byteL vs) = vs := by
  have h2 := okV_all h
  unfold nodes byteL
  rw [List.map_map]
  conv => rhs; rw [← List.map_id vs]
  apply List.map_congr_left
  intro a ha
  have := h2 a ha
  simp only [Function.comp, id, UInt8.toNat_ofNat']
  omega
theorem newR_wf {n : Int} {vs : List Int} (h : Fit vs.length) : (newR n vs).Wf := by
  refine ⟨⟨⟨by simp [newR], by simp [newR], by simp [newR], by simpa [newR, byteL] using h⟩, by simp [newR], by simp [newR]⟩, by simp [newR], by simp [newR], by simp [newR], by simp [newR, InU], by simp [newR, InU]⟩
theorem newR_vot {n : Int} {vs : List Int} (h : okV vs = true) : vot (newR n vs).log = vs := nodes_byteL h
theorem newR_ok {n : Int} {vs : List Int} (h1 : nodeOk n = true) (h2 : okV vs = true) : stOk (newR n vs) = true := by
  have g : logOk (newR n vs).log = true := by
    simp only [logOk, newR, nodes_byteL h2, h2, beh]; simp
  have g2 : lastE (newR n vs).log = ⟨0, 0, 0, byteL vs⟩ := rfl
  simp only [stOk, g, g2]
  simp [newR, h1, someOk]

theorem RaftC.len {s : Mem} {D : Nat → Prop} {c : List AV} {r : Raft} (h : RaftC s D c r) : c.length = 14 := by obtain ⟨_, _, _, _, rfl, _⟩ := h; rfl
theorem RaftC.cell {s : Mem} {D : Nat → Prop} {c : List AV} {r : Raft} (h : RaftC s D c r) : c.all isCell = true := by
  obtain ⟨d, w, vv, pv, rfl, hd, hl, hvv, hpv⟩ := h
  simp only [List.all_cons, List.all_nil, hd.cell, hl.cell, hvv.cell, hpv.cell, cell_int, Bool.and_self]
theorem restart_k {r : Raft} {D : Nat → Prop} {s : Mem} {v : AV} {K : AV → Mem → Prop} (hf : s.floor ≤ s.next) (hI : In D s) (hv : RaftV s D v r) (hw : r.Wf)
    (hK : ∀ c s', Keep s.next s s' → c.length = 14 → c.all isCell = true → (stOk r = true → RaftV s' (Lt s'.next) (.agg c) (restR r)) → K (.tup [.agg c, .int .i64 (if stOk r = true then 0 else 1)]) s') : C tab 16 [v] s K := by
  refine restart_c hf hI hv hw (fun h v' s' hk hc => ?_) (fun h v' s' hk hv' => ?_)
  · obtain ⟨c, rfl, h1, h2⟩ := hc
    have := hK c s' hk h1 h2 (by rw [h]; intro h; cases h)
    rw [h] at this; exact this
  · obtain ⟨c, rfl, hc⟩ := hv'
    have := hK c s' hk hc.len hc.cell (fun _ => ⟨c, rfl, hc⟩)
    rw [h] at this; exact this
theorem newRaft_k {n : Int} {vs : List Int} {D : Nat → Prop} {s : Mem} {v : AV} {K : AV → Mem → Prop} (hf : s.floor ≤ s.next) (hI : In D s) (hv : Sl s D v 1 (intsA .i64 vs)) (hn : Fit vs.length)
    (hK : ∀ c s', Keep s.next s s' → c.length = 14 → c.all isCell = true → ((nodeOk n && okV vs) = true → RaftV s' (Lt s'.next) (.agg c) (newR n vs)) → K (.tup [.agg c, .int .i64 (if (nodeOk n && okV vs) = true then 0 else 1)]) s') : C tab 17 [.int .i64 n, v] s K := by
  refine newRaft_c hf hI hv hn (fun h v' s' hk hv' => ?_) (fun h v' s' hk hv' => ?_)
  · obtain ⟨c, rfl, hc⟩ := hv'
    have := hK c s' hk hc.len hc.cell (by rw [h]; intro h; cases h)
    rw [h] at this; exact this
  · obtain ⟨c, rfl, hc⟩ := hv'
    have := hK c s' hk hc.len hc.cell (fun _ => ⟨c, rfl, hc⟩)
    rw [h] at this; exact this
theorem if0 (b : Bool) : ((if b = true then (0 : Int) else 1) == 0) = b := by cases b <;> rfl

set_option maxRecDepth 100000 in
theorem checks_c {r : Raft} {m : Msg} {vs : List Int} {v wv : AV} {mc : List AV} (hv : ∀ s D, RaftV s D v r) (hw : r.Wf) (hm : ∀ s D, MsgC s D mc m) (hmw : MsgIn m) (hvs : ∀ s D, Sl s D wv 1 (intsA .i64 vs)) (hvn : Fit vs.length) : C tab 4 [v, .agg mc, wv] Mem.zero (fun r _ => r = .bool true) := by
  obtain ⟨d, w, vv, pv, rfl, hd, hl, hvv, hpv⟩ := raftC_row (hv Mem.zero fun _ => False)
  obtain ⟨ew, sd, rfl, he, hsd⟩ := hm Mem.zero fun _ => False
  refine C_enter (cf := cf4) rfl (Nat.le_of_ble_eq_true rfl) ?_
  simp only [cf4, oo, on, om, og, oc, ou, raftA]
  (repeat' (with_reducible first|refine w_1 ?_|refine w_2 ?_|refine w_3 ?_|refine w_4 ?_|refine w_5 ?_|refine w_6 ?_|refine w_7 ?_|(refine w_8 (fun hb=>?_) (fun hb=>?_) <;> (try simp only [hb]))|refine w_9 ?_|simp (maxDischargeDepth:=12) only [vis, ↓reduceIte, Nat.reduceEqDiff, reduceCtorEq, Int.reduceEq, Int.reduceNeg, Nat.reduceAdd, Nat.reduceLeDiff, ev, putO, intOp, resultsA, resA, Env.start, Env.ofList, loadA_ptr, storeA_ptr, hd.cell, hl.cell, hvv.cell, hpv.cell, he.cell, hsd.cell]))
  have hv' : ∀ s D, RaftV s D (.agg [.int .i64 r.node, .int .u64 r.term, .int .i64 r.vote, .int .u64 r.log.base.index, .int .u64 r.log.base.term, .int .i64 r.log.base.kind, d, w, .int .u64 r.commit, .int .i64 r.role, .int .i64 r.leads, .int .i64 r.elapsed, vv, pv]) r := hv
  have hI : ∀ s, In (fun _ => False) s := fun _ _ h => h.elim
  have z0 : Mem.zero.next = 0 := rfl
  refine light14_c (r := r) (D := fun _ => False) (by simp only [floor_push', next_push']; exact Nat.zero_le _) (hI _) (hv' _ _) hw fun b s1 hk1 => ?_
  have n1 := hk1.next
  simp only [next_push', z0] at n1
  have r1 : s1.get 0 = some (raftRow r d w vv pv) := by
    rw [hk1.get _ (by simp only [next_push', z0]; omega), Mem.get_push, if_neg (by simp only [next_push', z0]; omega), Mem.get_push, if_pos z0.symm]; rfl
  have m1 : s1.get 1 = some (msgRow m ew sd) := by
    rw [hk1.get _ (by simp only [next_push', z0]; omega), Mem.get_push, if_pos (by simp only [next_push', z0])]; rfl
  have fl1 : s1.floor = 0 := hk1.floor
  simp only [raftRow] at r1
  simp only [msgRow, msgA] at m1
  simp only [z0]
  cases b
  · (repeat' (with_reducible first|refine w_1 ?_|refine w_2 ?_|refine w_3 ?_|refine w_4 ?_|refine w_5 ?_|refine w_6 ?_|refine w_7 ?_|(refine w_8 (fun hb=>?_) (fun hb=>?_) <;> (try simp only [hb]))|refine w_9 ?_|simp (maxDischargeDepth:=12) only [vis, ↓reduceIte, Nat.reduceEqDiff, reduceCtorEq, Int.reduceEq, Int.reduceNeg, Nat.reduceAdd, Nat.reduceLeDiff, ev, putO, intOp, resultsA, resA, Env.start, Env.ofList, loadA_ptr, storeA_ptr, bne_self_eq_false, Int.reduceBEq, Int.reduceBNe, Int.reduceLT, Int.reduceLE, Int.reduceGT, Int.reduceGE]))
    refine awake14_c _ ?_
    (repeat' (with_reducible first|refine w_1 ?_|refine w_2 ?_|refine w_3 ?_|refine w_4 ?_|refine w_5 ?_|refine w_6 ?_|refine w_7 ?_|(refine w_8 (fun hb=>?_) (fun hb=>?_) <;> (try simp only [hb]))|refine w_9 ?_|simp (maxDischargeDepth:=12) only [vis, ↓reduceIte, Nat.reduceEqDiff, reduceCtorEq, Int.reduceEq, Int.reduceNeg, Nat.reduceAdd, Nat.reduceLeDiff, ev, putO, intOp, resultsA, resA, Env.start, Env.ofList, loadA_ptr, storeA_ptr]))
  (repeat' (with_reducible first|refine w_1 ?_|refine w_2 ?_|refine w_3 ?_|refine w_4 ?_|refine w_5 ?_|refine w_6 ?_|refine w_7 ?_|(refine w_8 (fun hb=>?_) (fun hb=>?_) <;> (try simp only [hb]))|refine w_9 ?_|simp (maxDischargeDepth:=12) only [vis, ↓reduceIte, Nat.reduceEqDiff, reduceCtorEq, Int.reduceEq, Int.reduceNeg, Nat.reduceAdd, Nat.reduceLeDiff, ev, putO, intOp, resultsA, resA, Env.start, Env.ofList, loadA_ptr, storeA_ptr, r1, m1, bne_self_eq_false, Int.reduceBEq, Int.reduceBNe, Int.reduceLT, Int.reduceLE, Int.reduceGT, Int.reduceGE]))
  refine slim_c (m := m) (D := fun _ => False) (by rw [fl1]; exact Nat.zero_le _) (hI _) (hm _ _) hmw fun b s2 hk2 => ?_
  have n2 := hk2.next
  have r2 := (hk2.get 0 (by omega)).trans r1
  have m2 := (hk2.get 1 (by omega)).trans m1
  have fl2 : s2.floor = 0 := hk2.floor.trans fl1
  cases b
  · (repeat' (with_reducible first|refine w_1 ?_|refine w_2 ?_|refine w_3 ?_|refine w_4 ?_|refine w_5 ?_|refine w_6 ?_|refine w_7 ?_|(refine w_8 (fun hb=>?_) (fun hb=>?_) <;> (try simp only [hb]))|refine w_9 ?_|simp (maxDischargeDepth:=12) only [vis, ↓reduceIte, Nat.reduceEqDiff, reduceCtorEq, Int.reduceEq, Int.reduceNeg, Nat.reduceAdd, Nat.reduceLeDiff, ev, putO, intOp, resultsA, resA, Env.start, Env.ofList, loadA_ptr, storeA_ptr, bne_self_eq_false, Int.reduceBEq, Int.reduceBNe, Int.reduceLT, Int.reduceLE, Int.reduceGT, Int.reduceGE]))
    refine awake14_c _ ?_
    (repeat' (with_reducible first|refine w_1 ?_|refine w_2 ?_|refine w_3 ?_|refine w_4 ?_|refine w_5 ?_|refine w_6 ?_|refine w_7 ?_|(refine w_8 (fun hb=>?_) (fun hb=>?_) <;> (try simp only [hb]))|refine w_9 ?_|simp (maxDischargeDepth:=12) only [vis, ↓reduceIte, Nat.reduceEqDiff, reduceCtorEq, Int.reduceEq, Int.reduceNeg, Nat.reduceAdd, Nat.reduceLeDiff, ev, putO, intOp, resultsA, resA, Env.start, Env.ofList, loadA_ptr, storeA_ptr]))
  (repeat' (with_reducible first|refine w_1 ?_|refine w_2 ?_|refine w_3 ?_|refine w_4 ?_|refine w_5 ?_|refine w_6 ?_|refine w_7 ?_|(refine w_8 (fun hb=>?_) (fun hb=>?_) <;> (try simp only [hb]))|refine w_9 ?_|simp (maxDischargeDepth:=12) only [vis, ↓reduceIte, Nat.reduceEqDiff, reduceCtorEq, Int.reduceEq, Int.reduceNeg, Nat.reduceAdd, Nat.reduceLeDiff, ev, putO, intOp, resultsA, resA, Env.start, Env.ofList, loadA_ptr, storeA_ptr, r2, m2, bne_self_eq_false, Int.reduceBEq, Int.reduceBNe, Int.reduceLT, Int.reduceLE, Int.reduceGT, Int.reduceGE]))
  refine raftMay_c (r := r) (D := fun _ => False) (by rw [fl2]; exact Nat.zero_le _) (hI _) (hv' _ _) hw fun s3 hk3 => ?_
  have n3 := hk3.next
  have r3 := (hk3.get 0 (by omega)).trans r2
  have m3 := (hk3.get 1 (by omega)).trans m2
  have fl3 : s3.floor = 0 := hk3.floor.trans fl2
  (repeat' (with_reducible first|refine w_1 ?_|refine w_2 ?_|refine w_3 ?_|refine w_4 ?_|refine w_5 ?_|refine w_6 ?_|refine w_7 ?_|(refine w_8 (fun hb=>?_) (fun hb=>?_) <;> (try simp only [hb]))|refine w_9 ?_|simp (maxDischargeDepth:=12) only [vis, ↓reduceIte, Nat.reduceEqDiff, reduceCtorEq, Int.reduceEq, Int.reduceNeg, Nat.reduceAdd, Nat.reduceLeDiff, ev, putO, intOp, resultsA, resA, Env.start, Env.ofList, loadA_ptr, storeA_ptr, r3, m3, bne_self_eq_false, Int.reduceBEq, Int.reduceBNe, Int.reduceLT, Int.reduceLE, Int.reduceGT, Int.reduceGE]))
  refine restart_k (r := r) (D := fun _ => False) (by rw [fl3]; exact Nat.zero_le _) (hI _) (hv' _ _) hw fun ac sa hka hac1 hac2 hac3 => ?_
  have na := hka.next
  have ra := (hka.get 0 (by omega)).trans r3
  have ma := (hka.get 1 (by omega)).trans m3
  have fla : sa.floor = 0 := hka.floor.trans fl3
  match ac, hac1, hac2, hac3 with
  | [a0, a1, a2, a3, a4, a5, a6, a7, a8, a9, a10, a11, a12, a13], _, hac2, hac3 =>
  simp only [List.all_cons, List.all_nil, Bool.and_true, Bool.and_eq_true] at hac2
  obtain ⟨p0, p1, p2, p3, p4, p5, p6, p7, p8, p9, p10, p11, p12, p13⟩ := hac2
  have fTa : (sa.floor ≤ sa.next) = True := by rw [fla]; simp
  have q0 : (0 = sa.next) = False := by simp; omega
  have q1 : (1 = sa.next) = False := by simp; omega
  (repeat' (with_reducible first|refine w_1 ?_|refine w_2 ?_|refine w_3 ?_|refine w_4 ?_|refine w_5 ?_|refine w_6 ?_|refine w_7 ?_|(refine w_8 (fun hb=>?_) (fun hb=>?_) <;> (try simp only [hb]))|refine w_9 ?_|simp (maxDischargeDepth:=12) only [vis, ↓reduceIte, Nat.reduceEqDiff, reduceCtorEq, Int.reduceEq, Int.reduceNeg, Nat.reduceAdd, Nat.reduceLeDiff, ev, putO, intOp, resultsA, resA, Env.start, Env.ofList, loadA_ptr, storeA_ptr, ra, ma, fTa, q0, q1, p0, p1, p2, p3, p4, p5, p6, p7, p8, p9, p10, p11, p12, p13, bne_self_eq_false, Int.reduceBEq, Int.reduceBNe, Int.reduceLT, Int.reduceLE, Int.reduceGT, Int.reduceGE]))
  generalize hP : Mem.push _ _ = P
  have hkP : Keep sa.next sa P := by rw [← hP]; exact pushes sa _
  have nP : P.next = sa.next + 1 := by rw [← hP]; simp only [next_push']
  have aP : P.get sa.next = some ⟨32, 14, [[a0, a1, a2, a3, a4, a5, a6, a7, a8, a9, a10, a11, a12, a13]]⟩ := by rw [← hP, Mem.get_push, if_pos rfl]
  clear hP
  refine newRaft_k (n := r.node) (vs := vs) (D := fun _ => False) (hkP.ok (by rw [fla]; exact Nat.zero_le _)) (hI _) (hvs _ _) hvn fun bc s4 hk4 hbc1 hbc2 hb4 => ?_
  have n4 := hk4.next
  have hkA := hkP.then hk4
  have r4' := (hkA.get 0 (by omega)).trans ra
  have m4' := (hkA.get 1 (by omega)).trans ma
  have a4' := (hk4.get sa.next (by omega)).trans aP
  have fl4 : s4.floor = 0 := hkA.floor.trans fla
  have hav : stOk r = true → RaftV s4 (Lt sa.next) (.agg [a0, a1, a2, a3, a4, a5, a6, a7, a8, a9, a10, a11, a12, a13]) (restR r) := fun h => (hac3 h).keep fun q hq => hkA.get q hq
  match bc, hbc1, hbc2, hb4 with
  | [b0, b1, b2, b3, b4, b5, b6, b7, b8, b9, b10, b11, b12, b13], _, hbc2, hb4 =>
  simp only [List.all_cons, List.all_nil, Bool.and_true, Bool.and_eq_true] at hbc2
  obtain ⟨p0, p1, p2, p3, p4, p5, p6, p7, p8, p9, p10, p11, p12, p13⟩ := hbc2
  have fT4 : (s4.floor ≤ s4.next) = True := by rw [fl4]; simp
  have q0 : (0 = s4.next) = False := by simp; omega
  have q1 : (1 = s4.next) = False := by simp; omega
  have qa : (sa.next = s4.next) = False := by simp; omega
  (repeat' (with_reducible first|refine w_1 ?_|refine w_2 ?_|refine w_3 ?_|refine w_4 ?_|refine w_5 ?_|refine w_6 ?_|refine w_7 ?_|(refine w_8 (fun hb=>?_) (fun hb=>?_) <;> (try simp only [hb]))|refine w_9 ?_|simp (maxDischargeDepth:=12) only [vis, ↓reduceIte, Nat.reduceEqDiff, reduceCtorEq, Int.reduceEq, Int.reduceNeg, Nat.reduceAdd, Nat.reduceLeDiff, ev, putO, intOp, resultsA, resA, Env.start, Env.ofList, loadA_ptr, storeA_ptr, r4', m4', a4', fT4, q0, q1, qa, p0, p1, p2, p3, p4, p5, p6, p7, p8, p9, p10, p11, p12, p13, bne_self_eq_false, Int.reduceBEq, Int.reduceBNe, Int.reduceLT, Int.reduceLE, Int.reduceGT, Int.reduceGE]))
  generalize hQ : Mem.push _ _ = Q
  have hk4Q : Keep s4.next s4 Q := by rw [← hQ]; exact pushes s4 _
  have nQ : Q.next = s4.next + 1 := by rw [← hQ]; simp only [next_push']
  have rQ := (hk4Q.get 0 (by omega)).trans r4'
  have mQ := (hk4Q.get 1 (by omega)).trans m4'
  have aQ := (hk4Q.get sa.next (by omega)).trans a4'
  have bQ : Q.get s4.next = some ⟨32, 14, [[b0, b1, b2, b3, b4, b5, b6, b7, b8, b9, b10, b11, b12, b13]]⟩ := by rw [← hQ, Mem.get_push, if_pos rfl]
  have flQ : Q.floor = 0 := hk4Q.floor.trans fl4
  clear hQ
  (repeat' (with_reducible first|refine w_1 ?_|refine w_2 ?_|refine w_3 ?_|refine w_4 ?_|refine w_5 ?_|refine w_6 ?_|refine w_7 ?_|(refine w_8 (fun hb=>?_) (fun hb=>?_) <;> (try simp only [hb]))|refine w_9 ?_|simp (maxDischargeDepth:=12) only [vis, ↓reduceIte, Nat.reduceEqDiff, reduceCtorEq, Int.reduceEq, Int.reduceNeg, Nat.reduceAdd, Nat.reduceLeDiff, ev, putO, intOp, resultsA, resA, Env.start, Env.ofList, loadA_ptr, storeA_ptr, rQ, mQ, bne_self_eq_false, Int.reduceBEq, Int.reduceBNe, Int.reduceLT, Int.reduceLE, Int.reduceGT, Int.reduceGE]))
  refine raftCheck_c (r := r) (D := fun _ => False) (by show Q.floor ≤ _; rw [flQ]; exact Nat.zero_le _) (hI _) (hv' _ _) hw fun s5 hk5 => ?_
  have o5 : ∀ q, q < Q.next → s5.get q = Q.get q := fun q hq => hk5.get q hq
  have n5 : Q.next ≤ s5.next := hk5.next
  have r5 := (o5 0 (by omega)).trans rQ
  have m5 := (o5 1 (by omega)).trans mQ
  have e0 : ∀ b : Bool, (!b == b) = false := by decide
  have fl5 : s5.floor = 0 := hk5.floor.trans flQ
  (repeat' (with_reducible first|refine w_1 ?_|refine w_2 ?_|refine w_3 ?_|refine w_4 ?_|refine w_5 ?_|refine w_6 ?_|refine w_7 ?_|(refine w_8 (fun hb=>?_) (fun hb=>?_) <;> (try simp only [hb]))|refine w_9 ?_|simp (maxDischargeDepth:=12) only [vis, ↓reduceIte, Nat.reduceEqDiff, reduceCtorEq, Int.reduceEq, Int.reduceNeg, Nat.reduceAdd, Nat.reduceLeDiff, ev, putO, intOp, resultsA, resA, Env.start, Env.ofList, loadA_ptr, storeA_ptr, if0, eqA_b, e0, r5, m5, bne_self_eq_false, Int.reduceBEq, Int.reduceBNe, Int.reduceLT, Int.reduceLE, Int.reduceGT, Int.reduceGE]))
  refine checkMsg_c (m := m) (D := fun _ => False) (Nat.le_refl _) (hI _) (hm _ _) hmw fun s6 hk6 => ?_
  have o6 : ∀ q, q < Q.next → s6.get q = Q.get q := fun q hq => (hk6.get q (Nat.lt_of_lt_of_le hq n5)).trans (o5 q hq)
  have n6 : s5.next ≤ s6.next := hk6.next
  have r6 := (o6 0 (by omega)).trans rQ
  have m6 := (o6 1 (by omega)).trans mQ
  (repeat' (with_reducible first|refine w_1 ?_|refine w_2 ?_|refine w_3 ?_|refine w_4 ?_|refine w_5 ?_|refine w_6 ?_|refine w_7 ?_|(refine w_8 (fun hb=>?_) (fun hb=>?_) <;> (try simp only [hb]))|refine w_9 ?_|simp (maxDischargeDepth:=12) only [vis, ↓reduceIte, Nat.reduceEqDiff, reduceCtorEq, Int.reduceEq, Int.reduceNeg, Nat.reduceAdd, Nat.reduceLeDiff, ev, putO, intOp, resultsA, resA, Env.start, Env.ofList, loadA_ptr, storeA_ptr, if0, eqA_b, e0, r6, m6, bne_self_eq_false, Int.reduceBEq, Int.reduceBNe, Int.reduceLT, Int.reduceLE, Int.reduceGT, Int.reduceGE]))
  refine mayMsg_c (m := m) (D := fun _ => False) (by show s5.floor ≤ _; rw [fl5]; exact Nat.zero_le _) (hI _) (hm _ _) hmw fun s7 hk7 => ?_
  have o7 : ∀ q, q < Q.next → s7.get q = Q.get q := fun q hq => (hk7.get q (by show q < s6.next; omega)).trans (o6 q hq)
  have n7 : s6.next ≤ s7.next := hk7.next
  have r7 := (o7 0 (by omega)).trans rQ
  have fl7 : s7.floor = 0 := hk7.floor.trans fl5
  (repeat' (with_reducible first|refine w_1 ?_|refine w_2 ?_|refine w_3 ?_|refine w_4 ?_|refine w_5 ?_|refine w_6 ?_|refine w_7 ?_|(refine w_8 (fun hb=>?_) (fun hb=>?_) <;> (try simp only [hb]))|refine w_9 ?_|simp (maxDischargeDepth:=12) only [vis, ↓reduceIte, Nat.reduceEqDiff, reduceCtorEq, Int.reduceEq, Int.reduceNeg, Nat.reduceAdd, Nat.reduceLeDiff, ev, putO, intOp, resultsA, resA, Env.start, Env.ofList, loadA_ptr, storeA_ptr, if0, eqA_b, e0, r7, bne_self_eq_false, Int.reduceBEq, Int.reduceBNe, Int.reduceLT, Int.reduceLE, Int.reduceGT, Int.reduceGE]))
  refine raftSame_c (r := r) (D := fun _ => False) (by first | exact Nat.le_refl _ | (show s7.floor ≤ _; rw [fl7]; exact Nat.zero_le _)) (hI _) (hv' _ _) hw fun s8 hk8 => ?_
  have o8 : ∀ q, q < Q.next → s8.get q = Q.get q := fun q hq => (hk8.get q (by show q < s7.next; omega)).trans (o7 q hq)
  have n8 : s7.next ≤ s8.next := hk8.next
  have r8 := (o8 0 (by omega)).trans rQ
  have a8 := (o8 sa.next (by omega)).trans aQ
  have b8 := (o8 s4.next (by omega)).trans bQ
  have fl8 : s8.floor = 0 := hk8.floor.trans fl7
  have hk48 : ∀ q, q < s4.next → s8.get q = s4.get q := fun q hq => (o8 q (by omega)).trans (hk4Q.get q hq)
  cases hst : stOk r
  · simp only [hst, Bool.false_eq_true, if_false]
    by_cases hn : (nodeOk r.node && okV vs) = true
    case neg =>
      have hne : (nodeOk r.node && okV vs) = false := by simpa using hn
      have nf : (if (nodeOk r.node && okV vs) = true then (0 : Int) else 1) = 1 := by rw [if_neg hn]
      by_cases k1 : r.node < 1
      · have b1 : decide (r.node < 1) = true := by simp [k1]
        (repeat' (with_reducible first|refine w_1 ?_|refine w_2 ?_|refine w_3 ?_|refine w_4 ?_|refine w_5 ?_|refine w_6 ?_|refine w_7 ?_|(refine w_8 (fun hb=>?_) (fun hb=>?_) <;> (try simp only [hb]))|refine w_9 ?_|simp (maxDischargeDepth:=12) only [vis, ↓reduceIte, Nat.reduceEqDiff, reduceCtorEq, Int.reduceEq, Int.reduceNeg, Nat.reduceAdd, Nat.reduceLeDiff, ev, putO, intOp, resultsA, resA, Env.start, Env.ofList, loadA_ptr, storeA_ptr, r8, a8, b8, nf, b1, bne_self_eq_false, Int.reduceBEq, Int.reduceBNe, Int.reduceLT, Int.reduceLE, Int.reduceGT, Int.reduceGE]))
        refine awake14_c _ ?_
        (repeat' (with_reducible first|refine w_1 ?_|refine w_2 ?_|refine w_3 ?_|refine w_4 ?_|refine w_5 ?_|refine w_6 ?_|refine w_7 ?_|(refine w_8 (fun hb=>?_) (fun hb=>?_) <;> (try simp only [hb]))|refine w_9 ?_|simp (maxDischargeDepth:=12) only [vis, ↓reduceIte, Nat.reduceEqDiff, reduceCtorEq, Int.reduceEq, Int.reduceNeg, Nat.reduceAdd, Nat.reduceLeDiff, ev, putO, intOp, resultsA, resA, Env.start, Env.ofList, loadA_ptr, storeA_ptr]))
      have b1 : decide (r.node < 1) = false := by simp [k1]
      by_cases k2 : r.node > 7
      · have b2 : decide (r.node > 7) = true := by simp [k2]
        (repeat' (with_reducible first|refine w_1 ?_|refine w_2 ?_|refine w_3 ?_|refine w_4 ?_|refine w_5 ?_|refine w_6 ?_|refine w_7 ?_|(refine w_8 (fun hb=>?_) (fun hb=>?_) <;> (try simp only [hb]))|refine w_9 ?_|simp (maxDischargeDepth:=12) only [vis, ↓reduceIte, Nat.reduceEqDiff, reduceCtorEq, Int.reduceEq, Int.reduceNeg, Nat.reduceAdd, Nat.reduceLeDiff, ev, putO, intOp, resultsA, resA, Env.start, Env.ofList, loadA_ptr, storeA_ptr, r8, a8, b8, nf, b1, b2, bne_self_eq_false, Int.reduceBEq, Int.reduceBNe, Int.reduceLT, Int.reduceLE, Int.reduceGT, Int.reduceGE]))
        refine awake14_c _ ?_
        (repeat' (with_reducible first|refine w_1 ?_|refine w_2 ?_|refine w_3 ?_|refine w_4 ?_|refine w_5 ?_|refine w_6 ?_|refine w_7 ?_|(refine w_8 (fun hb=>?_) (fun hb=>?_) <;> (try simp only [hb]))|refine w_9 ?_|simp (maxDischargeDepth:=12) only [vis, ↓reduceIte, Nat.reduceEqDiff, reduceCtorEq, Int.reduceEq, Int.reduceNeg, Nat.reduceAdd, Nat.reduceLeDiff, ev, putO, intOp, resultsA, resA, Env.start, Env.ofList, loadA_ptr, storeA_ptr]))
      have b2 : decide (r.node > 7) = false := by simp [k2]
      have k3 : okV vs = false := by
        have : nodeOk r.node = true := by simp only [nodeOk, Bool.and_eq_true, decide_eq_true_eq]; omega
        rw [this] at hne; simpa using hne
      (repeat' (with_reducible first|refine w_1 ?_|refine w_2 ?_|refine w_3 ?_|refine w_4 ?_|refine w_5 ?_|refine w_6 ?_|refine w_7 ?_|(refine w_8 (fun hb=>?_) (fun hb=>?_) <;> (try simp only [hb]))|refine w_9 ?_|simp (maxDischargeDepth:=12) only [vis, ↓reduceIte, Nat.reduceEqDiff, reduceCtorEq, Int.reduceEq, Int.reduceNeg, Nat.reduceAdd, Nat.reduceLeDiff, ev, putO, intOp, resultsA, resA, Env.start, Env.ofList, loadA_ptr, storeA_ptr, r8, a8, b8, b1, b2, bne_self_eq_false, Int.reduceBEq, Int.reduceBNe, Int.reduceLT, Int.reduceLE, Int.reduceGT, Int.reduceGE]))
      refine rcheck_c (vs := vs) (hvs _ (fun _ => False)) hvn ?_
      (repeat' (with_reducible first|refine w_1 ?_|refine w_2 ?_|refine w_3 ?_|refine w_4 ?_|refine w_5 ?_|refine w_6 ?_|refine w_7 ?_|(refine w_8 (fun hb=>?_) (fun hb=>?_) <;> (try simp only [hb]))|refine w_9 ?_|simp (maxDischargeDepth:=12) only [vis, ↓reduceIte, Nat.reduceEqDiff, reduceCtorEq, Int.reduceEq, Int.reduceNeg, Nat.reduceAdd, Nat.reduceLeDiff, ev, putO, intOp, resultsA, resA, Env.start, Env.ofList, loadA_ptr, storeA_ptr, r8, a8, b8, nf, k3, Bool.and_false, bne_self_eq_false, Int.reduceBEq, Int.reduceBNe, Int.reduceLT, Int.reduceLE, Int.reduceGT, Int.reduceGE]))
      refine awake14_c _ ?_
      (repeat' (with_reducible first|refine w_1 ?_|refine w_2 ?_|refine w_3 ?_|refine w_4 ?_|refine w_5 ?_|refine w_6 ?_|refine w_7 ?_|(refine w_8 (fun hb=>?_) (fun hb=>?_) <;> (try simp only [hb]))|refine w_9 ?_|simp (maxDischargeDepth:=12) only [vis, ↓reduceIte, Nat.reduceEqDiff, reduceCtorEq, Int.reduceEq, Int.reduceNeg, Nat.reduceAdd, Nat.reduceLeDiff, ev, putO, intOp, resultsA, resA, Env.start, Env.ofList, loadA_ptr, storeA_ptr]))
    have nf : (if (nodeOk r.node && okV vs) = true then (0 : Int) else 1) = 0 := by rw [if_pos hn]
    have hn' := hn
    simp only [Bool.and_eq_true] at hn'
    obtain ⟨hn1, hn2⟩ := hn'
    have b1 : decide (r.node < 1) = false := by simp only [nodeOk, Bool.and_eq_true, decide_eq_true_eq] at hn1; simp; omega
    have b2 : decide (r.node > 7) = false := by simp only [nodeOk, Bool.and_eq_true, decide_eq_true_eq] at hn1; simp; omega
    obtain ⟨d4, w4, vv4, pv4, e4, hd4, hl4, hvv4, hpv4⟩ := raftC_row (hb4 hn)
    simp only [raftA] at e4
    cases e4
    (repeat' (with_reducible first|refine w_1 ?_|refine w_2 ?_|refine w_3 ?_|refine w_4 ?_|refine w_5 ?_|refine w_6 ?_|refine w_7 ?_|(refine w_8 (fun hb=>?_) (fun hb=>?_) <;> (try simp only [hb]))|refine w_9 ?_|simp (maxDischargeDepth:=12) only [vis, ↓reduceIte, Nat.reduceEqDiff, reduceCtorEq, Int.reduceEq, Int.reduceNeg, Nat.reduceAdd, Nat.reduceLeDiff, ev, putO, intOp, resultsA, resA, Env.start, Env.ofList, loadA_ptr, storeA_ptr, r8, a8, b8, b1, b2, bne_self_eq_false, Int.reduceBEq, Int.reduceBNe, Int.reduceLT, Int.reduceLE, Int.reduceGT, Int.reduceGE]))
    refine rcheck_c (vs := vs) (hvs _ (fun _ => False)) hvn ?_
    (repeat' (with_reducible first|refine w_1 ?_|refine w_2 ?_|refine w_3 ?_|refine w_4 ?_|refine w_5 ?_|refine w_6 ?_|refine w_7 ?_|(refine w_8 (fun hb=>?_) (fun hb=>?_) <;> (try simp only [hb]))|refine w_9 ?_|simp (maxDischargeDepth:=12) only [vis, ↓reduceIte, Nat.reduceEqDiff, reduceCtorEq, Int.reduceEq, Int.reduceNeg, Nat.reduceAdd, Nat.reduceLeDiff, ev, putO, intOp, resultsA, resA, Env.start, Env.ofList, loadA_ptr, storeA_ptr, r8, a8, b8, hn1, hn2, newR, beq_self_eq_true, bne_self_eq_false, Int.reduceBEq, Int.reduceBNe, Int.reduceLT, Int.reduceLE, Int.reduceGT, Int.reduceGE]))
    refine raftMay_c (r := newR r.node vs) (D := Lt s4.next) (by show s8.floor ≤ _; rw [fl8]; exact Nat.zero_le _) (fun q hq => Nat.lt_of_lt_of_le hq ((by have := hk4Q.next; omega : s4.next ≤ s8.next))) ((RaftV.keep (hb4 hn) fun q hq => hk48 q hq)) (newR_wf hvn) fun s9 hk9 => ?_
    rw [newR_ok hn1 hn2]
    have n9 := hk9.next
    have x4 := (hk9.get s4.next (by show s4.next < s8.next; omega)).trans b8
    (repeat' (with_reducible first|refine w_1 ?_|refine w_2 ?_|refine w_3 ?_|refine w_4 ?_|refine w_5 ?_|refine w_6 ?_|refine w_7 ?_|(refine w_8 (fun hb=>?_) (fun hb=>?_) <;> (try simp only [hb]))|refine w_9 ?_|simp (maxDischargeDepth:=12) only [vis, ↓reduceIte, Nat.reduceEqDiff, reduceCtorEq, Int.reduceEq, Int.reduceNeg, Nat.reduceAdd, Nat.reduceLeDiff, ev, putO, intOp, resultsA, resA, Env.start, Env.ofList, loadA_ptr, storeA_ptr, x4, newR, bne_self_eq_false, Int.reduceBEq, Int.reduceBNe, Int.reduceLT, Int.reduceLE, Int.reduceGT, Int.reduceGE]))
    have hk49 : ∀ q, q < s4.next → s9.get q = s4.get q := fun q hq => (hk9.get q (by show q < s8.next; omega)).trans (hk48 q hq)
    have n49 : s4.next ≤ s9.next := by have : s8.next ≤ s9.next := n9; omega
    refine rvoters_c (l := (newR r.node vs).log) (D := Lt s4.next) (by rw [hk9.floor]; show s8.floor ≤ _; rw [fl8]; exact Nat.zero_le _) (fun q hq => Nat.lt_of_lt_of_le hq n49) ⟨_, _, rfl, hd4.keep (fun q hq => hk49 q hq), hl4.keep (fun q hq => hk49 q hq)⟩ (newR_wf hvn).log fun v10 s10 ho10 hk10 => ?_
    (repeat' (with_reducible first|refine w_1 ?_|refine w_2 ?_|refine w_3 ?_|refine w_4 ?_|refine w_5 ?_|refine w_6 ?_|refine w_7 ?_|(refine w_8 (fun hb=>?_) (fun hb=>?_) <;> (try simp only [hb]))|refine w_9 ?_|simp (maxDischargeDepth:=12) only [vis, ↓reduceIte, Nat.reduceEqDiff, reduceCtorEq, Int.reduceEq, Int.reduceNeg, Nat.reduceAdd, Nat.reduceLeDiff, ev, putO, intOp, resultsA, resA, Env.start, Env.ofList, loadA_ptr, storeA_ptr, bne_self_eq_false, Int.reduceBEq, Int.reduceBNe, Int.reduceLT, Int.reduceLE, Int.reduceGT, Int.reduceGE]))
    replace ho10 : OwnL s10 s9.next v10 3 1 (intsA .i64 (vot (newR r.node vs).log)) := ho10
    rw [newR_vot hn2] at ho10
    refine eqInts_c (xs := vs) (ys := vs) (D := Lt s10.next) (fun q hq => hq) (ho10.sl (intsA_sz _ _) fun q n h => (ho10.row q _ _ _ h).2) (hvs _ _) hvn hvn ?_
    (repeat' (with_reducible first|refine w_1 ?_|refine w_2 ?_|refine w_3 ?_|refine w_4 ?_|refine w_5 ?_|refine w_6 ?_|refine w_7 ?_|(refine w_8 (fun hb=>?_) (fun hb=>?_) <;> (try simp only [hb]))|refine w_9 ?_|simp (maxDischargeDepth:=12) only [vis, ↓reduceIte, Nat.reduceEqDiff, reduceCtorEq, Int.reduceEq, Int.reduceNeg, Nat.reduceAdd, Nat.reduceLeDiff, ev, putO, intOp, resultsA, resA, Env.start, Env.ofList, loadA_ptr, storeA_ptr, decide_true, bne_self_eq_false, Int.reduceBEq, Int.reduceBNe, Int.reduceLT, Int.reduceLE, Int.reduceGT, Int.reduceGE]))
    refine awake14_c _ ?_
    (repeat' (with_reducible first|refine w_1 ?_|refine w_2 ?_|refine w_3 ?_|refine w_4 ?_|refine w_5 ?_|refine w_6 ?_|refine w_7 ?_|(refine w_8 (fun hb=>?_) (fun hb=>?_) <;> (try simp only [hb]))|refine w_9 ?_|simp (maxDischargeDepth:=12) only [vis, ↓reduceIte, Nat.reduceEqDiff, reduceCtorEq, Int.reduceEq, Int.reduceNeg, Nat.reduceAdd, Nat.reduceLeDiff, ev, putO, intOp, resultsA, resA, Env.start, Env.ofList, loadA_ptr, storeA_ptr]))
  · simp only [hst, if_true]
    (repeat' (with_reducible first|refine w_1 ?_|refine w_2 ?_|refine w_3 ?_|refine w_4 ?_|refine w_5 ?_|refine w_6 ?_|refine w_7 ?_|(refine w_8 (fun hb=>?_) (fun hb=>?_) <;> (try simp only [hb]))|refine w_9 ?_|simp (maxDischargeDepth:=12) only [vis, ↓reduceIte, Nat.reduceEqDiff, reduceCtorEq, Int.reduceEq, Int.reduceNeg, Nat.reduceAdd, Nat.reduceLeDiff, ev, putO, intOp, resultsA, resA, Env.start, Env.ofList, loadA_ptr, storeA_ptr, r8, a8, bne_self_eq_false, Int.reduceBEq, Int.reduceBNe, Int.reduceLT, Int.reduceLE, Int.reduceGT, Int.reduceGE]))
    refine rrest_c (r := r) (D := fun _ => False) (Nat.le_refl _) (hI _) (hv' _ _) fun vr sr hkr hvr => ?_
    have nr : s8.next ≤ sr.next := hkr.next
    have or : ∀ q, q < Q.next → sr.get q = Q.get q := fun q hq => (hkr.get q (by show q < s8.next; omega)).trans (o8 q hq)
    (repeat' (with_reducible first|refine w_1 ?_|refine w_2 ?_|refine w_3 ?_|refine w_4 ?_|refine w_5 ?_|refine w_6 ?_|refine w_7 ?_|(refine w_8 (fun hb=>?_) (fun hb=>?_) <;> (try simp only [hb]))|refine w_9 ?_|simp (maxDischargeDepth:=12) only [vis, ↓reduceIte, Nat.reduceEqDiff, reduceCtorEq, Int.reduceEq, Int.reduceNeg, Nat.reduceAdd, Nat.reduceLeDiff, ev, putO, intOp, resultsA, resA, Env.start, Env.ofList, loadA_ptr, storeA_ptr, r8, a8, bne_self_eq_false, Int.reduceBEq, Int.reduceBNe, Int.reduceLT, Int.reduceLE, Int.reduceGT, Int.reduceGE]))
    refine rsame_c (r := restR r) (D := Lt sa.next) (by show s8.floor ≤ _; rw [fl8]; exact Nat.zero_le _) (fun q hq => by have h : q < sa.next := hq; show q < sr.next; omega) ((hav hst).keep fun q hq => (or q (by have h : q < sa.next := hq; omega)).trans (hk4Q.get q (by have h : q < sa.next := hq; omega))) (hvr.mono fun _ h => h.elim) hw.log.len (by show 0 < _; omega) (by show 0 < _; omega) fun st hkt => ?_
    have nt : sr.next ≤ st.next := hkt.next
    have ot : ∀ q, q < Q.next → st.get q = Q.get q := fun q hq => (hkt.get q (by show q < sr.next; omega)).trans (or q hq)
    have rt := (ot 0 (by omega)).trans rQ
    have bt := (ot s4.next (by omega)).trans bQ
    have flt : st.floor = 0 := hkt.floor.trans fl8
    have hk4t : ∀ q, q < s4.next → st.get q = s4.get q := fun q hq => (ot q (by omega)).trans (hk4Q.get q hq)
    by_cases hn : (nodeOk r.node && okV vs) = true
    case neg =>
      have hne : (nodeOk r.node && okV vs) = false := by simpa using hn
      have nf : (if (nodeOk r.node && okV vs) = true then (0 : Int) else 1) = 1 := by rw [if_neg hn]
      by_cases k1 : r.node < 1
      · have b1 : decide (r.node < 1) = true := by simp [k1]
        (repeat' (with_reducible first|refine w_1 ?_|refine w_2 ?_|refine w_3 ?_|refine w_4 ?_|refine w_5 ?_|refine w_6 ?_|refine w_7 ?_|(refine w_8 (fun hb=>?_) (fun hb=>?_) <;> (try simp only [hb]))|refine w_9 ?_|simp (maxDischargeDepth:=12) only [vis, ↓reduceIte, Nat.reduceEqDiff, reduceCtorEq, Int.reduceEq, Int.reduceNeg, Nat.reduceAdd, Nat.reduceLeDiff, ev, putO, intOp, resultsA, resA, Env.start, Env.ofList, loadA_ptr, storeA_ptr, rt, bt, nf, b1, bne_self_eq_false, Int.reduceBEq, Int.reduceBNe, Int.reduceLT, Int.reduceLE, Int.reduceGT, Int.reduceGE]))
        refine awake14_c _ ?_
        (repeat' (with_reducible first|refine w_1 ?_|refine w_2 ?_|refine w_3 ?_|refine w_4 ?_|refine w_5 ?_|refine w_6 ?_|refine w_7 ?_|(refine w_8 (fun hb=>?_) (fun hb=>?_) <;> (try simp only [hb]))|refine w_9 ?_|simp (maxDischargeDepth:=12) only [vis, ↓reduceIte, Nat.reduceEqDiff, reduceCtorEq, Int.reduceEq, Int.reduceNeg, Nat.reduceAdd, Nat.reduceLeDiff, ev, putO, intOp, resultsA, resA, Env.start, Env.ofList, loadA_ptr, storeA_ptr]))
      have b1 : decide (r.node < 1) = false := by simp [k1]
      by_cases k2 : r.node > 7
      · have b2 : decide (r.node > 7) = true := by simp [k2]
        (repeat' (with_reducible first|refine w_1 ?_|refine w_2 ?_|refine w_3 ?_|refine w_4 ?_|refine w_5 ?_|refine w_6 ?_|refine w_7 ?_|(refine w_8 (fun hb=>?_) (fun hb=>?_) <;> (try simp only [hb]))|refine w_9 ?_|simp (maxDischargeDepth:=12) only [vis, ↓reduceIte, Nat.reduceEqDiff, reduceCtorEq, Int.reduceEq, Int.reduceNeg, Nat.reduceAdd, Nat.reduceLeDiff, ev, putO, intOp, resultsA, resA, Env.start, Env.ofList, loadA_ptr, storeA_ptr, rt, bt, nf, b1, b2, bne_self_eq_false, Int.reduceBEq, Int.reduceBNe, Int.reduceLT, Int.reduceLE, Int.reduceGT, Int.reduceGE]))
        refine awake14_c _ ?_
        (repeat' (with_reducible first|refine w_1 ?_|refine w_2 ?_|refine w_3 ?_|refine w_4 ?_|refine w_5 ?_|refine w_6 ?_|refine w_7 ?_|(refine w_8 (fun hb=>?_) (fun hb=>?_) <;> (try simp only [hb]))|refine w_9 ?_|simp (maxDischargeDepth:=12) only [vis, ↓reduceIte, Nat.reduceEqDiff, reduceCtorEq, Int.reduceEq, Int.reduceNeg, Nat.reduceAdd, Nat.reduceLeDiff, ev, putO, intOp, resultsA, resA, Env.start, Env.ofList, loadA_ptr, storeA_ptr]))
      have b2 : decide (r.node > 7) = false := by simp [k2]
      have k3 : okV vs = false := by
        have : nodeOk r.node = true := by simp only [nodeOk, Bool.and_eq_true, decide_eq_true_eq]; omega
        rw [this] at hne; simpa using hne
      (repeat' (with_reducible first|refine w_1 ?_|refine w_2 ?_|refine w_3 ?_|refine w_4 ?_|refine w_5 ?_|refine w_6 ?_|refine w_7 ?_|(refine w_8 (fun hb=>?_) (fun hb=>?_) <;> (try simp only [hb]))|refine w_9 ?_|simp (maxDischargeDepth:=12) only [vis, ↓reduceIte, Nat.reduceEqDiff, reduceCtorEq, Int.reduceEq, Int.reduceNeg, Nat.reduceAdd, Nat.reduceLeDiff, ev, putO, intOp, resultsA, resA, Env.start, Env.ofList, loadA_ptr, storeA_ptr, rt, bt, b1, b2, bne_self_eq_false, Int.reduceBEq, Int.reduceBNe, Int.reduceLT, Int.reduceLE, Int.reduceGT, Int.reduceGE]))
      refine rcheck_c (vs := vs) (hvs _ (fun _ => False)) hvn ?_
      (repeat' (with_reducible first|refine w_1 ?_|refine w_2 ?_|refine w_3 ?_|refine w_4 ?_|refine w_5 ?_|refine w_6 ?_|refine w_7 ?_|(refine w_8 (fun hb=>?_) (fun hb=>?_) <;> (try simp only [hb]))|refine w_9 ?_|simp (maxDischargeDepth:=12) only [vis, ↓reduceIte, Nat.reduceEqDiff, reduceCtorEq, Int.reduceEq, Int.reduceNeg, Nat.reduceAdd, Nat.reduceLeDiff, ev, putO, intOp, resultsA, resA, Env.start, Env.ofList, loadA_ptr, storeA_ptr, rt, bt, nf, k3, Bool.and_false, bne_self_eq_false, Int.reduceBEq, Int.reduceBNe, Int.reduceLT, Int.reduceLE, Int.reduceGT, Int.reduceGE]))
      refine awake14_c _ ?_
      (repeat' (with_reducible first|refine w_1 ?_|refine w_2 ?_|refine w_3 ?_|refine w_4 ?_|refine w_5 ?_|refine w_6 ?_|refine w_7 ?_|(refine w_8 (fun hb=>?_) (fun hb=>?_) <;> (try simp only [hb]))|refine w_9 ?_|simp (maxDischargeDepth:=12) only [vis, ↓reduceIte, Nat.reduceEqDiff, reduceCtorEq, Int.reduceEq, Int.reduceNeg, Nat.reduceAdd, Nat.reduceLeDiff, ev, putO, intOp, resultsA, resA, Env.start, Env.ofList, loadA_ptr, storeA_ptr]))
    have nf : (if (nodeOk r.node && okV vs) = true then (0 : Int) else 1) = 0 := by rw [if_pos hn]
    have hn' := hn
    simp only [Bool.and_eq_true] at hn'
    obtain ⟨hn1, hn2⟩ := hn'
    have b1 : decide (r.node < 1) = false := by simp only [nodeOk, Bool.and_eq_true, decide_eq_true_eq] at hn1; simp; omega
    have b2 : decide (r.node > 7) = false := by simp only [nodeOk, Bool.and_eq_true, decide_eq_true_eq] at hn1; simp; omega
    obtain ⟨d4, w4, vv4, pv4, e4, hd4, hl4, hvv4, hpv4⟩ := raftC_row (hb4 hn)
    simp only [raftA] at e4
    cases e4
    (repeat' (with_reducible first|refine w_1 ?_|refine w_2 ?_|refine w_3 ?_|refine w_4 ?_|refine w_5 ?_|refine w_6 ?_|refine w_7 ?_|(refine w_8 (fun hb=>?_) (fun hb=>?_) <;> (try simp only [hb]))|refine w_9 ?_|simp (maxDischargeDepth:=12) only [vis, ↓reduceIte, Nat.reduceEqDiff, reduceCtorEq, Int.reduceEq, Int.reduceNeg, Nat.reduceAdd, Nat.reduceLeDiff, ev, putO, intOp, resultsA, resA, Env.start, Env.ofList, loadA_ptr, storeA_ptr, rt, bt, b1, b2, bne_self_eq_false, Int.reduceBEq, Int.reduceBNe, Int.reduceLT, Int.reduceLE, Int.reduceGT, Int.reduceGE]))
    refine rcheck_c (vs := vs) (hvs _ (fun _ => False)) hvn ?_
    (repeat' (with_reducible first|refine w_1 ?_|refine w_2 ?_|refine w_3 ?_|refine w_4 ?_|refine w_5 ?_|refine w_6 ?_|refine w_7 ?_|(refine w_8 (fun hb=>?_) (fun hb=>?_) <;> (try simp only [hb]))|refine w_9 ?_|simp (maxDischargeDepth:=12) only [vis, ↓reduceIte, Nat.reduceEqDiff, reduceCtorEq, Int.reduceEq, Int.reduceNeg, Nat.reduceAdd, Nat.reduceLeDiff, ev, putO, intOp, resultsA, resA, Env.start, Env.ofList, loadA_ptr, storeA_ptr, rt, bt, hn1, hn2, newR, beq_self_eq_true, bne_self_eq_false, Int.reduceBEq, Int.reduceBNe, Int.reduceLT, Int.reduceLE, Int.reduceGT, Int.reduceGE]))
    refine raftMay_c (r := newR r.node vs) (D := Lt s4.next) (by show st.floor ≤ _; rw [flt]; exact Nat.zero_le _) (fun q hq => Nat.lt_of_lt_of_le hq ((by have := hk4Q.next; omega : s4.next ≤ st.next))) ((RaftV.keep (hb4 hn) fun q hq => hk4t q hq)) (newR_wf hvn) fun s9 hk9 => ?_
    rw [newR_ok hn1 hn2]
    have n9 := hk9.next
    have x4 := (hk9.get s4.next (by show s4.next < st.next; omega)).trans bt
    (repeat' (with_reducible first|refine w_1 ?_|refine w_2 ?_|refine w_3 ?_|refine w_4 ?_|refine w_5 ?_|refine w_6 ?_|refine w_7 ?_|(refine w_8 (fun hb=>?_) (fun hb=>?_) <;> (try simp only [hb]))|refine w_9 ?_|simp (maxDischargeDepth:=12) only [vis, ↓reduceIte, Nat.reduceEqDiff, reduceCtorEq, Int.reduceEq, Int.reduceNeg, Nat.reduceAdd, Nat.reduceLeDiff, ev, putO, intOp, resultsA, resA, Env.start, Env.ofList, loadA_ptr, storeA_ptr, x4, newR, bne_self_eq_false, Int.reduceBEq, Int.reduceBNe, Int.reduceLT, Int.reduceLE, Int.reduceGT, Int.reduceGE]))
    have hk49 : ∀ q, q < s4.next → s9.get q = s4.get q := fun q hq => (hk9.get q (by show q < st.next; omega)).trans (hk4t q hq)
    have n49 : s4.next ≤ s9.next := by have : st.next ≤ s9.next := n9; omega
    refine rvoters_c (l := (newR r.node vs).log) (D := Lt s4.next) (by rw [hk9.floor]; show st.floor ≤ _; rw [flt]; exact Nat.zero_le _) (fun q hq => Nat.lt_of_lt_of_le hq n49) ⟨_, _, rfl, hd4.keep (fun q hq => hk49 q hq), hl4.keep (fun q hq => hk49 q hq)⟩ (newR_wf hvn).log fun v10 s10 ho10 hk10 => ?_
    (repeat' (with_reducible first|refine w_1 ?_|refine w_2 ?_|refine w_3 ?_|refine w_4 ?_|refine w_5 ?_|refine w_6 ?_|refine w_7 ?_|(refine w_8 (fun hb=>?_) (fun hb=>?_) <;> (try simp only [hb]))|refine w_9 ?_|simp (maxDischargeDepth:=12) only [vis, ↓reduceIte, Nat.reduceEqDiff, reduceCtorEq, Int.reduceEq, Int.reduceNeg, Nat.reduceAdd, Nat.reduceLeDiff, ev, putO, intOp, resultsA, resA, Env.start, Env.ofList, loadA_ptr, storeA_ptr, bne_self_eq_false, Int.reduceBEq, Int.reduceBNe, Int.reduceLT, Int.reduceLE, Int.reduceGT, Int.reduceGE]))
    replace ho10 : OwnL s10 s9.next v10 3 1 (intsA .i64 (vot (newR r.node vs).log)) := ho10
    rw [newR_vot hn2] at ho10
    refine eqInts_c (xs := vs) (ys := vs) (D := Lt s10.next) (fun q hq => hq) (ho10.sl (intsA_sz _ _) fun q n h => (ho10.row q _ _ _ h).2) (hvs _ _) hvn hvn ?_
    (repeat' (with_reducible first|refine w_1 ?_|refine w_2 ?_|refine w_3 ?_|refine w_4 ?_|refine w_5 ?_|refine w_6 ?_|refine w_7 ?_|(refine w_8 (fun hb=>?_) (fun hb=>?_) <;> (try simp only [hb]))|refine w_9 ?_|simp (maxDischargeDepth:=12) only [vis, ↓reduceIte, Nat.reduceEqDiff, reduceCtorEq, Int.reduceEq, Int.reduceNeg, Nat.reduceAdd, Nat.reduceLeDiff, ev, putO, intOp, resultsA, resA, Env.start, Env.ofList, loadA_ptr, storeA_ptr, decide_true, bne_self_eq_false, Int.reduceBEq, Int.reduceBNe, Int.reduceLT, Int.reduceLE, Int.reduceGT, Int.reduceGE]))
    refine awake14_c _ ?_
    (repeat' (with_reducible first|refine w_1 ?_|refine w_2 ?_|refine w_3 ?_|refine w_4 ?_|refine w_5 ?_|refine w_6 ?_|refine w_7 ?_|(refine w_8 (fun hb=>?_) (fun hb=>?_) <;> (try simp only [hb]))|refine w_9 ?_|simp (maxDischargeDepth:=12) only [vis, ↓reduceIte, Nat.reduceEqDiff, reduceCtorEq, Int.reduceEq, Int.reduceNeg, Nat.reduceAdd, Nat.reduceLeDiff, ev, putO, intOp, resultsA, resA, Env.start, Env.ofList, loadA_ptr, storeA_ptr]))
end Go.Proofs.YtfllmhjjfapnmaaGreat
