/- What the document says of leading, asking, ticks. No statement of the seat is proved here. -/
import Derived.Test.YtfllmhjjfapnmaaGreatVZRefSettle
import Derived.Test.YtfllmhjjfapnmaaGreatVZRaftTick
import Derived.Test.YtfllmhjjfapnmaaGreatVZVE
namespace Go.Proofs.YtfllmhjjfapnmaaGreat
open Go Go.VI
set_option linter.unusedSimpArgs false
attribute [local irreducible] Ws Wp W C
set_option maxHeartbeats 4000000

section
variable {s s' : Mem} {D D' : Nat → Prop} {r : Raft} {out : List Msg} {d w vv pv ov : AV} {K : AV → Mem → Prop}

set_option maxRecDepth 100000 in
theorem rlead_c (hf : s.floor ≤ s.next) (hI : In D s) (hS : StIn s D r out d w vv pv ov) (hw : r.log.Wf) (ht : InU r.term) (ho : out.length < 10000)
    (hK : ∀ d' w' vv' pv' ov' s', StIn s' (NewD D s.next s'.next) (leadR r) (out ++ leadO r) d' w' vv' pv' ov' → Keep s.next s s' → K (stA (leadR r) d' w' vv' pv' ov') s') : C tab 103 [stA r d w vv pv ov] s K := by
  have hA : AppIn r.log r.term 0 [] := ⟨hw, ht, by omega, by decide⟩
  obtain ⟨k1, k2, k3, k4, k5⟩ := hS.cells
  simp only [stA]
  refine C_enter (cf := cf103) rfl (Nat.le_of_ble_eq_true rfl) ?_
  simp only [cf103, oo, on, om, og, oc, ou]
  have f1 : (s.floor ≤ s.next + 1) = True := by simp; omega
  (repeat' (with_reducible first|refine w_1 ?_|refine w_2 ?_|refine w_3 ?_|refine w_4 ?_|refine w_5 ?_|refine w_6 ?_|refine w_7 ?_|(refine w_8 (fun hb=>?_) (fun hb=>?_) <;> (try simp only [hb]))|refine w_9 ?_|simp (maxDischargeDepth:=12) only [vis, ↓reduceIte, Nat.reduceEqDiff, reduceCtorEq, Int.reduceEq, Int.reduceNeg, Nat.reduceAdd, Nat.reduceLeDiff, ev, putO, intOp, resultsA, resA, Env.start, Env.ofList, loadA_ptr, storeA_ptr, k1, k2, k3, k4, k5, hf, f1, bne_self_eq_false, Int.reduceBEq, Int.reduceBNe, Int.reduceLT, Int.reduceLE, Int.reduceGT, Int.reduceGE]))
  have hk0 := (pushes s (stRow r d w vv pv ov)).then (pushes _ stZero)
  have x0 : ((s.push (stRow r d w vv pv ov)).push stZero).get s.next = some (stRow r d w vv pv ov) := by
    rw [Mem.get_push, if_neg (by simp only [next_push']; omega), Mem.get_push, if_pos rfl]
  have x1 : ((s.push (stRow r d w vv pv ov)).push stZero).get (s.next + 1) = some stZero := by
    rw [Mem.get_push, if_pos (by simp only [next_push'])]
  have hS0 := hS.keep (keep_old hI hk0)
  refine rappendN_c (l := r.log) (D := D) (bs := []) (hk0.ok hf) (hI.keep hk0) ⟨d, w, rfl, hS0.d, hS0.w⟩ (Sl.nil _ _ _) hA fun v1 s1 hv1 hk1 => ?_
  have hk01 := hk0.then hk1
  have n1 := hk1.next
  simp only [next_push'] at n1
  obtain ⟨d1, w1, rfl, hd1, hw1⟩ := hv1
  have y0 := (hk1.get s.next (by simp only [next_push']; omega)).trans x0
  have y1 := (hk1.get (s.next + 1) (by simp only [next_push']; omega)).trans x1
  have f2 : (s1.floor ≤ s1.next) = True := by simp [hk01.ok hf]
  have g0 : (s1.floor ≤ s.next) = True := by rw [hk01.floor]; simp; exact hf
  have g1 : (s1.floor ≤ s.next + 1) = True := by rw [hk01.floor]; exact f1
  have m0 : (s.next = s1.next) = False := by simp; omega
  have m1 : (s.next + 1 = s1.next) = False := by simp; omega
  have m2 : (s1.next = s.next) = False := by simp; omega
  simp only [stRow, stZero] at y0 y1
  by_cases hz : (appOut r.log r.term 0 []).2 = 0
  case neg =>
    have c1 : ((appOut r.log r.term 0 []).2 != 0) = true := by simp [hz]
    (repeat' (with_reducible first|refine w_1 ?_|refine w_2 ?_|refine w_3 ?_|refine w_4 ?_|refine w_5 ?_|refine w_6 ?_|refine w_7 ?_|(refine w_8 (fun hb=>?_) (fun hb=>?_) <;> (try simp only [hb]))|refine w_9 ?_|simp (maxDischargeDepth:=12) only [vis, ↓reduceIte, Nat.reduceEqDiff, reduceCtorEq, Int.reduceEq, Int.reduceNeg, Nat.reduceAdd, Nat.reduceLeDiff, ev, putO, intOp, resultsA, resA, Env.start, Env.ofList, loadA_ptr, storeA_ptr, y0, y1, f2, g0, g1, m0, m1, m2, hd1.cell, hw1.cell, c1, k1, k2, k3, k4, k5, bne_self_eq_false, Int.reduceBEq, Int.reduceBNe, Int.reduceLT, Int.reduceLE, Int.reduceGT, Int.reduceGE]))
    have e1 : leadR r = r := by unfold leadR; rw [if_neg hz]
    have e2 : leadO r = [] := by unfold leadO; rw [if_neg hz]
    rw [e1, e2, List.append_nil] at hK
    have hkf := (hk01.then (pushes s1 ⟨28, 5, [[.int .u64 (appOut r.log r.term 0 []).1.base.index, .int .u64 (appOut r.log r.term 0 []).1.base.term, .int .i64 (appOut r.log r.term 0 []).1.base.kind, d1, w1]]⟩)).trans (Keep.put (b := s.next) (r := s.next + 1) (by omega) (some (stRow r d w vv pv ov)))
    exact hK _ _ _ _ _ _ ((hS.keep (keep_old hI hkf)).mono fun q hq => .inl hq) hkf
  have c1 : ((appOut r.log r.term 0 []).2 != 0) = false := by simp [hz]
  obtain ⟨a1, a2, a3, a4, a5⟩ := appOut_ok hA hz
  have e1 : leadR r = settleR (leadS r) := by unfold leadR; rw [if_pos hz]
  have e2 : leadO r = tellAllM (settleR (leadS r)) (settleR (leadS r)).peers := by unfold leadO; rw [if_pos hz]
  rw [e1, e2] at hK
  (repeat' (with_reducible first|refine w_1 ?_|refine w_2 ?_|refine w_3 ?_|refine w_4 ?_|refine w_5 ?_|refine w_6 ?_|refine w_7 ?_|(refine w_8 (fun hb=>?_) (fun hb=>?_) <;> (try simp only [hb]))|refine w_9 ?_|simp (maxDischargeDepth:=12) only [vis, ↓reduceIte, Nat.reduceEqDiff, reduceCtorEq, Int.reduceEq, Int.reduceNeg, Nat.reduceAdd, Nat.reduceLeDiff, ev, putO, intOp, resultsA, resA, Env.start, Env.ofList, loadA_ptr, storeA_ptr, y0, y1, f2, g0, g1, m0, m1, m2, hd1.cell, hw1.cell, c1, k1, k2, k3, k4, k5, bne_self_eq_false, Int.reduceBEq, Int.reduceBNe, Int.reduceLT, Int.reduceLE, Int.reduceGT, Int.reduceGE]))
  generalize hP : Mem.put _ _ _ = P
  have P0 : P.next = s1.next + 1 := by rw [← hP]; simp only [next_put', next_push']
  have P5 : P.floor = s1.floor := by rw [← hP]; simp only [floor_put', floor_push']
  have Pold : ∀ q, q ≠ s.next → q < s1.next → P.get q = s1.get q := fun q h hq => by
    rw [← hP]
    simp only [Mem.get_put, if_neg h, Mem.get_push]
    rw [if_neg (by omega)]
  clear hP
  have hkP : Keep s.next s P := ⟨by omega, by rw [P5]; exact hk01.floor, fun q hq => by rw [Pold q (by omega) (by omega)]; exact hk01.get q hq⟩
  have hN : ∀ q, NewD D (s.next + 2) s1.next q → q ≠ s.next ∧ q < s1.next := fun q hq => hq.elim (fun h => by have := hI q h; omega) fun h => by omega
  have hd1' : Byt s1 (NewD D (s.next + 2) s1.next) d1 _ := hd1
  have hw1' : Ents s1 (NewD D (s.next + 2) s1.next) w1 _ := hw1
  have hSP : StIn P (NewD D (s.next + 2) s1.next) (leadS r) out d1 w1 .nilS .nilS ov :=
    ⟨hd1'.keep fun q hq => Pold q (hN q hq).1 (hN q hq).2, hw1'.keep fun q hq => Pold q (hN q hq).1 (hN q hq).2, Sl.nil _ _ _, Sl.nil _ _ _, (hS.ov.keep (keep_old hI hkP)).mono fun q hq => .inl hq⟩
  refine rsettle_c (r := leadS r) (d := d1) (w := w1) (vv := .nilS) (pv := .nilS) (ov := ov) (out := out) (D := NewD D (s.next + 2) s1.next) (hkP.ok hf) (fun q hq => by have := (hN q hq).2; omega) hSP a4 a5 (by intro p hp; cases hp) (by show 0 < _; omega) List.nodup_nil ho fun pv' ov' s4 hS4 hk4 => ?_
  have hk04 := hkP.then hk4
  have n4 := hk4.next
  have c4 : s4.get (s.next + 1) = _ := (hk4.get (s.next + 1) (by omega)).trans ((Pold (s.next + 1) (by omega) (by omega)).trans y1)
  have fl4 : (s4.floor ≤ s.next + 1) = True := by rw [hk04.floor]; exact f1
  obtain ⟨l1, l2, l3, l4, l5⟩ := hS4.cells
  simp only [stA]
  (repeat' (with_reducible first|refine w_1 ?_|refine w_2 ?_|refine w_3 ?_|refine w_4 ?_|refine w_5 ?_|refine w_6 ?_|refine w_7 ?_|(refine w_8 (fun hb=>?_) (fun hb=>?_) <;> (try simp only [hb]))|refine w_9 ?_|simp (maxDischargeDepth:=12) only [vis, ↓reduceIte, Nat.reduceEqDiff, reduceCtorEq, Int.reduceEq, Int.reduceNeg, Nat.reduceAdd, Nat.reduceLeDiff, ev, putO, intOp, resultsA, resA, Env.start, Env.ofList, loadA_ptr, storeA_ptr, c4, fl4, l1, l2, l3, l4, l5, bne_self_eq_false, Int.reduceBEq, Int.reduceBNe, Int.reduceLT, Int.reduceLE, Int.reduceGT, Int.reduceGE]))
  refine hK d1 w1 .nilS pv' ov' _ (StIn.res (a := s.next + 2) (b := s4.next) hI (hS4.mono ?_) (by omega) (by omega) (Nat.le_refl _)) (hk04.trans (Keep.put (by omega) _))
  rintro q ((h | h) | h)
  · exact .inl h
  · exact .inr ⟨h.1, by omega⟩
  · exact .inr ⟨by omega, h.2⟩

set_option maxRecDepth 100000 in
theorem rask_c (hf : s.floor ≤ s.next) (hI : In D s) (hS : StIn s D r out d w vv pv ov) (hL : logOk r.log = true) (hw : r.log.Wf) (ho : out.length < 10000)
    (hK : ∀ d' w' vv' pv' ov' s', StIn s' (NewD D s.next s'.next) (askR r) (out ++ askO r) d' w' vv' pv' ov' → Keep s.next s s' → K (stA (askR r) d' w' vv' pv' ov') s') : C tab 46 [stA r d w vv pv ov] s K := by
  have hok := logOk_vot hL
  have h7 := vot_len hL
  obtain ⟨k1, k2, k3, k4, k5⟩ := hS.cells
  simp only [stA]
  refine C_enter (cf := cf46) rfl (Nat.le_of_ble_eq_true rfl) ?_
  simp only [cf46, oo, on, om, og, oc, ou]
  have f1 : (s.floor ≤ s.next + 1) = True := by simp; omega
  (repeat' (with_reducible first|refine w_1 ?_|refine w_2 ?_|refine w_3 ?_|refine w_4 ?_|refine w_5 ?_|refine w_6 ?_|refine w_7 ?_|(refine w_8 (fun hb=>?_) (fun hb=>?_) <;> (try simp only [hb]))|refine w_9 ?_|simp (maxDischargeDepth:=12) only [vis, ↓reduceIte, Nat.reduceEqDiff, reduceCtorEq, Int.reduceEq, Int.reduceNeg, Nat.reduceAdd, Nat.reduceLeDiff, ev, putO, intOp, resultsA, resA, Env.start, Env.ofList, loadA_ptr, storeA_ptr, k1, k2, k3, k4, k5, hf, f1, bne_self_eq_false, Int.reduceBEq, Int.reduceBNe, Int.reduceLT, Int.reduceLE, Int.reduceGT, Int.reduceGE]))
  have hk0 := (pushes s (stRow r d w vv pv ov)).then (pushes _ stZero)
  have x0 : ((s.push (stRow r d w vv pv ov)).push stZero).get s.next = some (stRow r d w vv pv ov) := by
    rw [Mem.get_push, if_neg (by simp only [next_push']; omega), Mem.get_push, if_pos rfl]
  have x1 : ((s.push (stRow r d w vv pv ov)).push stZero).get (s.next + 1) = some stZero := by
    rw [Mem.get_push, if_pos (by simp only [next_push'])]
  have hS0 := hS.keep (keep_old hI hk0)
  refine rfollow_c (r := r) (d := d) (w := w) (vv := vv) (pv := pv) (ov := ov) (out := out) (D := D) (t := IntKind.u64.wrap (r.term + 1)) (hk0.ok hf) (hI.keep hk0) hS0 fun s1 hS1 hk1 => ?_
  have hk01 := hk0.then hk1
  have n1 := hk1.next
  simp only [next_push'] at n1
  have y0 := (hk1.get s.next (by simp only [next_push']; omega)).trans x0
  have y1 := (hk1.get (s.next + 1) (by simp only [next_push']; omega)).trans x1
  have f2 : (s1.floor ≤ s1.next) = True := by simp [hk01.ok hf]
  have g0 : (s1.floor ≤ s.next) = True := by rw [hk01.floor]; simp; exact hf
  have m0 : (s.next = s1.next) = False := by simp; omega
  have m1 : (s.next + 1 = s1.next) = False := by simp; omega
  have m2 : (s1.next = s.next) = False := by simp; omega
  simp only [stRow] at y0
  simp only [stA]
  (repeat' (with_reducible first|refine w_1 ?_|refine w_2 ?_|refine w_3 ?_|refine w_4 ?_|refine w_5 ?_|refine w_6 ?_|refine w_7 ?_|(refine w_8 (fun hb=>?_) (fun hb=>?_) <;> (try simp only [hb]))|refine w_9 ?_|simp (maxDischargeDepth:=12) only [vis, ↓reduceIte, Nat.reduceEqDiff, reduceCtorEq, Int.reduceEq, Int.reduceNeg, Nat.reduceAdd, Nat.reduceLeDiff, ev, putO, intOp, resultsA, resA, Env.start, Env.ofList, loadA_ptr, storeA_ptr, y0, f2, g0, m0, m1, m2, k1, k2, k3, k4, k5, bne_self_eq_false, Int.reduceBEq, Int.reduceBNe, Int.reduceLT, Int.reduceLE, Int.reduceGT, Int.reduceGE]))
  generalize hP : Mem.put _ _ _ = P
  have P0 : P.next = s1.next + 1 := by rw [← hP]; simp only [next_put', next_push']
  have P5 : P.floor = s1.floor := by rw [← hP]; simp only [floor_put', floor_push']
  have Pold : ∀ q, q ≠ s.next → q < s1.next → P.get q = s1.get q := fun q h hq => by
    rw [← hP]
    simp only [Mem.get_put, if_neg h, Mem.get_push, next_put']
    rw [if_neg (by omega)]
  have P1 : P.get s.next = some (stRow (askS r) d w (.own s1.next 0 1 1) .nilS ov) := by
    rw [← hP]
    simp only [Mem.get_put, if_true]
    rfl
  have P2 : P.get s1.next = some ⟨3, 1, [[.int .i64 r.node]]⟩ := by
    rw [← hP]
    have a : s1.next ≠ s.next := by omega
    simp only [Mem.get_put, if_neg a, Mem.get_push, next_put', if_true]
    try rfl
  clear hP
  have hkP : Keep s.next s P := ⟨by omega, by rw [P5]; exact hk01.floor, fun q hq => by rw [Pold q (by omega) (by omega)]; exact hk01.get q hq⟩
  have hbS := (hS.keep (keep_old hI hkP)).mono (D' := NewD D (s.next + 2) P.next) fun q hq => .inl hq
  have hSP : StIn P (NewD D (s.next + 2) P.next) (askS r) out d w (.own s1.next 0 1 1) .nilS ov :=
    ⟨hbS.d, hbS.w, Sl.of_row (ty := 3) P2 (.inr ⟨by omega, by omega⟩) (intsA_sz _ _) rfl, Sl.nil _ _ _, hbS.ov⟩
  have hIP : In (NewD D (s.next + 2) P.next) P := fun q hq => hq.elim (fun h => by have := hI q h; omega) fun h => h.2
  refine rvoters_c (l := r.log) (D := NewD D (s.next + 2) P.next) (hkP.ok hf) hIP ⟨d, w, rfl, hSP.d, hSP.w⟩ hw fun v3 s3 ho3 hk3 => ?_
  have hk03 := hkP.then hk3
  have n3 := hk3.next
  have z0 := (hk3.get s.next (by omega)).trans P1
  have z1 := (hk3.get (s.next + 1) (by omega)).trans ((Pold (s.next + 1) (by omega) (by omega)).trans y1)
  have hS3 := (hSP.keep (keep_old hIP hk3))
  simp only [stRow] at z0
  (repeat' (with_reducible first|refine w_1 ?_|refine w_2 ?_|refine w_3 ?_|refine w_4 ?_|refine w_5 ?_|refine w_6 ?_|refine w_7 ?_|(refine w_8 (fun hb=>?_) (fun hb=>?_) <;> (try simp only [hb]))|refine w_9 ?_|simp (maxDischargeDepth:=12) only [vis, ↓reduceIte, Nat.reduceEqDiff, reduceCtorEq, Int.reduceEq, Int.reduceNeg, Nat.reduceAdd, Nat.reduceLeDiff, ev, putO, intOp, resultsA, resA, Env.start, Env.ofList, loadA_ptr, storeA_ptr, z0, bne_self_eq_false, Int.reduceBEq, Int.reduceBNe, Int.reduceLT, Int.reduceLE, Int.reduceGT, Int.reduceGE]))
  have h3 : Sl s3 (fun q => q < s3.next) v3 1 (intsA .i64 (vot r.log)) := ho3.sl (intsA_sz _ _) fun q n h => (ho3.row q _ _ _ h).2
  refine rwon_c (vs := vot r.log) (l := [r.node]) (D := fun q => q < s3.next) h3 (hS3.vv.mono fun q hq => by have := hIP q hq; omega) hok (by show 1 < _; omega) ?_
  obtain ⟨l1, l2, l3, l4, l5⟩ := hS3.cells
  cases hwon : wonV (vot r.log) [r.node]
  · have e1 : askR r = askS r := by unfold askR; rw [if_neg (by rw [hwon]; simp)]
    have e2 : askO r = asksM (askS r) (vot r.log) := by unfold askO; rw [if_neg (by rw [hwon]; simp)]
    rw [e1, e2] at hK
    (repeat' (with_reducible first|refine w_1 ?_|refine w_2 ?_|refine w_3 ?_|refine w_4 ?_|refine w_5 ?_|refine w_6 ?_|refine w_7 ?_|(refine w_8 (fun hb=>?_) (fun hb=>?_) <;> (try simp only [hb]))|refine w_9 ?_|simp (maxDischargeDepth:=12) only [vis, ↓reduceIte, Nat.reduceEqDiff, reduceCtorEq, Int.reduceEq, Int.reduceNeg, Nat.reduceAdd, Nat.reduceLeDiff, ev, putO, intOp, resultsA, resA, Env.start, Env.ofList, loadA_ptr, storeA_ptr, z0, l1, l2, l3, l4, l5, bne_self_eq_false, Int.reduceBEq, Int.reduceBNe, Int.reduceLT, Int.reduceLE, Int.reduceGT, Int.reduceGE]))
    refine rlast_c (l := r.log) (D := NewD D (s.next + 2) P.next) (hk03.ok hf) (hIP.keep hk3) ⟨d, w, rfl, hS3.d, hS3.w⟩ hw fun s4 hk4 => ?_
    have hk04 := hk03.then hk4
    have n4 := hk4.next
    have u0 := (hk4.get s.next (by omega)).trans z0
    have u1 := (hk4.get (s.next + 1) (by omega)).trans z1
    have h4 := h3.keep (s' := s4) fun q hq => hk4.get q hq
    have hl3 : lenA false v3 = some (vot r.log).length := by rw [ho3.len, intsA_len]; rfl
    (repeat' (with_reducible first|refine w_1 ?_|refine w_2 ?_|refine w_3 ?_|refine w_4 ?_|refine w_5 ?_|refine w_6 ?_|refine w_7 ?_|(refine w_8 (fun hb=>?_) (fun hb=>?_) <;> (try simp only [hb]))|refine w_9 ?_|simp (maxDischargeDepth:=12) only [vis, ↓reduceIte, Nat.reduceEqDiff, reduceCtorEq, Int.reduceEq, Int.reduceNeg, Nat.reduceAdd, Nat.reduceLeDiff, ev, putO, intOp, resultsA, resA, Env.start, Env.ofList, loadA_ptr, storeA_ptr]))
    refine W_inv (vot r.log).length (fun i e s' => ∃ ov', s'.get s.next = some (stRow (askS r) d w (.own s1.next 0 1 1) .nilS ov') ∧ s'.get (s.next + 1) = some stZero ∧ StIn s' (NewD D (s.next + 2) s'.next) (askS r) (out ++ asksM (askS r) ((vot r.log).take i)) d w (.own s1.next 0 1 1) .nilS ov' ∧ Keep s.next s s' ∧ s4.next ≤ s'.next ∧ Sl s' (fun q => q < s4.next ∧ q ≠ s.next) v3 1 (intsA .i64 (vot r.log)) ∧ e.get 6 = .int .i64 i) (by delta cf46l0 oo on om og oc ou; exact rfl) ?_ ?_
    · refine ⟨ov, u0, u1, ?_, hk04, Nat.le_refl _, (ho3.sl (D := fun q => q < s3.next ∧ q ≠ s.next) (intsA_sz _ _) fun q n h => ⟨(ho3.row q _ _ _ h).2, by have := (ho3.row q _ _ _ h).1; omega⟩).keep (fun q hq => hk4.get q hq.1) |>.mono fun q hq => ⟨by omega, hq.2⟩, by simp only [Env.get_set, ↓reduceIte]; rfl⟩
      have e0 : out ++ asksM (askS r) ((vot r.log).take 0) = out := by simp [asksM]
      rw [e0]
      exact (hS3.keep (keep_old (hIP.keep hk3) hk4)).mono (NewD.up (Nat.le_refl _) (by omega))
    · rintro i e s' hi hT ⟨ov', b0, b1, hS', hk, hnx, h3', g6⟩
      have g1 := hT 1 rfl
      have g2 := hT 2 rfl
      have g3 := hT 3 rfl
      have g4 := hT 4 rfl
      have g5 := hT 5 rfl
      simp only [Env.get_set, ↓reduceIte, Nat.reduceEqDiff, Env.start, Env.ofList] at g1 g2 g3 g4 g5
      clear hT
      have hI' : In (NewD D (s.next + 2) s'.next) s' := fun q hq => hq.elim (fun h => by have := hI q h; omega) fun h => h.2
      obtain ⟨j1, j2, j3, j4, j5⟩ := hS'.cells
      have b0' := b0
      simp only [stRow] at b0'
      have f' := hk.ok hf
      by_cases hlt : i < (vot r.log).length
      · obtain ⟨n, hx⟩ := get_of hlt
        obtain ⟨p, hpp, P'⟩ := h3'.atkB (fun q hq => by have := hq.1; omega) hx
        have hln := asksM_len (askS r) (vot r.log) i
        by_cases hself : n = r.node
        · have c1 : (n != (askS r).node) = false := by show (n != r.node) = false; simp [hself]
          (repeat' (with_reducible first|refine w_1 ?_|refine w_2 ?_|refine w_3 ?_|refine w_4 ?_|refine w_5 ?_|refine w_6 ?_|refine w_7 ?_|(refine w_8 (fun hb=>?_) (fun hb=>?_) <;> (try simp only [hb]))|refine w_9 ?_|simp (maxDischargeDepth:=12) only [vis, ↓reduceIte, Nat.reduceEqDiff, reduceCtorEq, Int.reduceEq, Int.reduceNeg, Nat.reduceAdd, Nat.reduceLeDiff, ev, putO, intOp, resultsA, resA, Env.start, Env.ofList, loadA_ptr, storeA_ptr, g1, g2, g3, g4, g5, g6, b0', hl3, lt_true hlt, hpp, P'.ld, c1]))
          refine ⟨hlt, ov', rfl, b1, ?_, hk, hnx, h3', succ_av (by omega)⟩
          rw [asksM_next hx, c1]
          simpa using hS'
        · have c1 : (n != (askS r).node) = true := by show (n != r.node) = true; simp [hself]
          (repeat' (with_reducible first|refine w_1 ?_|refine w_2 ?_|refine w_3 ?_|refine w_4 ?_|refine w_5 ?_|refine w_6 ?_|refine w_7 ?_|(refine w_8 (fun hb=>?_) (fun hb=>?_) <;> (try simp only [hb]))|refine w_9 ?_|simp (maxDischargeDepth:=12) only [vis, ↓reduceIte, Nat.reduceEqDiff, reduceCtorEq, Int.reduceEq, Int.reduceNeg, Nat.reduceAdd, Nat.reduceLeDiff, ev, putO, intOp, resultsA, resA, Env.start, Env.ofList, loadA_ptr, storeA_ptr, g1, g2, g3, g4, g5, g6, b0', hl3, lt_true hlt, hpp, P'.ld, c1]))
          refine rsay_c (r := askS r) (d := d) (w := w) (vv := .own s1.next 0 1 1) (pv := .nilS) (ov := ov') (D := NewD D (s.next + 2) s'.next) (m := { kind := 1, to := n, index := (lastE r.log).index, prev := (lastE r.log).term }) f' hI' hS' ⟨.nilS, .nilS, rfl, ⟨[], Sl.nil _ _ _, EntsC.nil _ _⟩, Sl.nil _ _ _⟩ (by rw [List.length_append]; omega) fun ov2 s5 hS5 hk5 => ?_
          have n5 := hk5.next
          have c2 := (hk5.get s.next (by omega)).trans b0'
          have c3 := (hk5.get (s.next + 1) (by omega)).trans b1
          have hk05 := hk.then hk5
          have fl5 : (s5.floor ≤ s.next) = True := by rw [hk05.floor]; simp; exact hf
          obtain ⟨i1, i2, i3, i4, i5⟩ := hS5.cells
          simp only [stA]
          (repeat' (with_reducible first|refine w_1 ?_|refine w_2 ?_|refine w_3 ?_|refine w_4 ?_|refine w_5 ?_|refine w_6 ?_|refine w_7 ?_|(refine w_8 (fun hb=>?_) (fun hb=>?_) <;> (try simp only [hb]))|refine w_9 ?_|simp (maxDischargeDepth:=12) only [vis, ↓reduceIte, Nat.reduceEqDiff, reduceCtorEq, Int.reduceEq, Int.reduceNeg, Nat.reduceAdd, Nat.reduceLeDiff, ev, putO, intOp, resultsA, resA, Env.start, Env.ofList, loadA_ptr, storeA_ptr, g1, g2, g3, g4, g5, g6, c2, fl5, i1, i2, i3, i4, i5]))
          have hnd : ∀ q, NewD (NewD D (s.next + 2) s'.next) s'.next s5.next q → NewD D (s.next + 2) s5.next q := NewD.trans (Nat.le_refl _) n5 (by omega) (Nat.le_refl _)
          have hD2 : ∀ q, NewD D (s.next + 2) s5.next q → q ≠ s.next := fun q hq => hq.elim (fun h => by have := hI q h; omega) fun h => by omega
          refine ⟨hlt, ov2, rfl, c3, ?_, hk05.trans (Keep.put (Nat.le_refl _) _), by (try simp only [next_put']); omega, (h3'.keep fun q hq => by rw [Mem.get_put, if_neg hq.2]; exact hk5.get q (by have := hq.1; omega)), succ_av (by omega)⟩
          rw [asksM_next hx, c1, ← List.append_assoc]
          have := (hS5.mono hnd).keep (s' := s5.put s.next (some (stRow (askS r) d w (.own s1.next 0 1 1) .nilS ov2))) fun q hq => by rw [Mem.get_put, if_neg (hD2 q hq)]
          simpa [stRow, askM, show (askS r).log = r.log from rfl] using this
      · have fl5 : (s'.floor ≤ s.next + 1) = True := by rw [hk.floor]; exact f1
        have b1' := b1
        simp only [stZero] at b1'
        (repeat' (with_reducible first|refine w_1 ?_|refine w_2 ?_|refine w_3 ?_|refine w_4 ?_|refine w_5 ?_|refine w_6 ?_|refine w_7 ?_|(refine w_8 (fun hb=>?_) (fun hb=>?_) <;> (try simp only [hb]))|refine w_9 ?_|simp (maxDischargeDepth:=12) only [vis, ↓reduceIte, Nat.reduceEqDiff, reduceCtorEq, Int.reduceEq, Int.reduceNeg, Nat.reduceAdd, Nat.reduceLeDiff, ev, putO, intOp, resultsA, resA, Env.start, Env.ofList, loadA_ptr, storeA_ptr, g1, g2, g3, g4, g5, g6, b0', b1', fl5, hl3, lt_false hlt, j1, j2, j3, j4, j5, bne_self_eq_false, Int.reduceBEq, Int.reduceBNe, Int.reduceLT, Int.reduceLE, Int.reduceGT, Int.reduceGE]))
        rw [List.take_of_length_le (by omega)] at hS'
        exact hK d w _ _ ov' _ (hS'.res hI (by omega) (by omega) (Nat.le_refl _)) (hk.trans (Keep.put (by omega) _))
  · have e1 : askR r = leadR (askS r) := by unfold askR; rw [if_pos hwon]
    have e2 : askO r = leadO (askS r) := by unfold askO; rw [if_pos hwon]
    rw [e1, e2] at hK
    (repeat' (with_reducible first|refine w_1 ?_|refine w_2 ?_|refine w_3 ?_|refine w_4 ?_|refine w_5 ?_|refine w_6 ?_|refine w_7 ?_|(refine w_8 (fun hb=>?_) (fun hb=>?_) <;> (try simp only [hb]))|refine w_9 ?_|simp (maxDischargeDepth:=12) only [vis, ↓reduceIte, Nat.reduceEqDiff, reduceCtorEq, Int.reduceEq, Int.reduceNeg, Nat.reduceAdd, Nat.reduceLeDiff, ev, putO, intOp, resultsA, resA, Env.start, Env.ofList, loadA_ptr, storeA_ptr, z0, l1, l2, l3, l4, l5, bne_self_eq_false, Int.reduceBEq, Int.reduceBNe, Int.reduceLT, Int.reduceLE, Int.reduceGT, Int.reduceGE]))
    refine rlead_c (r := askS r) (d := d) (w := w) (vv := .own s1.next 0 1 1) (pv := .nilS) (ov := ov) (out := out) (D := NewD D (s.next + 2) P.next) (hk03.ok hf) (hIP.keep hk3) hS3 hw (wrap_inU _) ho fun d' w' vv' pv' ov' s4 hS4 hk4 => ?_
    have hk04 := hk03.then hk4
    have n4 := hk4.next
    have c4 := (hk4.get (s.next + 1) (by omega)).trans z1
    have fl4 : (s4.floor ≤ s.next + 1) = True := by rw [hk04.floor]; exact f1
    obtain ⟨l1, l2, l3, l4, l5⟩ := hS4.cells
    simp only [stZero] at c4
    simp only [stA]
    (repeat' (with_reducible first|refine w_1 ?_|refine w_2 ?_|refine w_3 ?_|refine w_4 ?_|refine w_5 ?_|refine w_6 ?_|refine w_7 ?_|(refine w_8 (fun hb=>?_) (fun hb=>?_) <;> (try simp only [hb]))|refine w_9 ?_|simp (maxDischargeDepth:=12) only [vis, ↓reduceIte, Nat.reduceEqDiff, reduceCtorEq, Int.reduceEq, Int.reduceNeg, Nat.reduceAdd, Nat.reduceLeDiff, ev, putO, intOp, resultsA, resA, Env.start, Env.ofList, loadA_ptr, storeA_ptr, c4, fl4, l1, l2, l3, l4, l5, bne_self_eq_false, Int.reduceBEq, Int.reduceBNe, Int.reduceLT, Int.reduceLE, Int.reduceGT, Int.reduceGE]))
    refine hK d' w' vv' pv' ov' _ (StIn.res (a := s.next + 2) (b := s4.next) hI (hS4.mono ?_) (by omega) (by omega) (Nat.le_refl _)) (hk04.trans (Keep.put (by omega) _))
    rintro q ((h | h) | h)
    · exact .inl h
    · exact .inr ⟨h.1, by omega⟩
    · exact .inr ⟨by omega, h.2⟩

set_option maxRecDepth 100000 in
theorem rtick_c {v : AV} (hf : s.floor ≤ s.next) (hI : In D s) (hv : RaftV s D v r) (hw : r.Wf) (hst : stOk r = true)
    (hK : ∀ d' w' vv' pv' ov' s', StIn s' (NewD D s.next s'.next) (tickR r) (tickO r) d' w' vv' pv' ov' → Keep s.next s s' → K (stA (tickR r) d' w' vv' pv' ov') s') : C tab 12 [v] s K := by
  obtain ⟨⟨bn1, bn2⟩, ⟨be1, be2⟩, hlo, hp7⟩ := stOk_bounds hst
  obtain ⟨d, w, vv, pv, rfl, hd, hl, hvv, hpv⟩ := raftC_row hv
  have hS : StIn s D r [] d w vv pv .nilS := ⟨hd, hl, hvv, hpv, [], Sl.nil _ _ _, MsgsC.nil _ _⟩
  obtain ⟨k1, k2, k3, k4, k5⟩ := hS.cells
  simp only [raftA]
  refine C_enter (cf := cf12) rfl (Nat.le_of_ble_eq_true rfl) ?_
  simp only [cf12, oo, on, om, og, oc, ou]
  have f0 : (s.floor ≤ s.next) = True := by simp; exact hf
  have f1 : (s.floor ≤ s.next + 1) = True := by simp; omega
  have f2 : (s.floor ≤ s.next + 1 + 1) = True := by simp; omega
  have w1 : IntKind.i64.wrap (r.elapsed + 1) = r.elapsed + 1 := wrap_i64 (by omega)
  have w2n : IntKind.i64.wrap (2 * r.node) = 2 * r.node := wrap_i64 (by omega)
  have w10 : IntKind.i64.wrap (10 + 2 * r.node) = 10 + 2 * r.node := wrap_i64 (by omega)
  have hk3 : ∀ x y z, Keep s.next s (((s.push x).push y).push z) := fun x y z => ((pushes s x).then (pushes _ y)).then (pushes _ z)
  have ag : ¬ r.elapsed < 1000 → aged r = r := fun h => by
    have e : min 1000 (r.elapsed + 1) = r.elapsed := by omega
    unfold aged; rw [e]
  have ag2 : r.elapsed < 1000 → (aged r).elapsed = r.elapsed + 1 := fun h => by simp only [aged]; omega
  have fin1 : ∀ P, tickR r = aged r → tickO r = [] → Keep s.next s P → K (stA (aged r) d w vv pv .nilS) P := fun P e1 e2 hkP => by
    have hb := (hS.keep (keep_old hI hkP)).mono (D' := NewD D s.next P.next) fun q hq => .inl hq
    have := hK d w vv pv .nilS P
    rw [e1, e2] at this
    exact this ⟨hb.d, hb.w, hb.vv, hb.pv, hb.ov⟩ hkP
  have st1 : r.elapsed < 1000 → stA (aged r) d w vv pv .nilS = .agg [.int .i64 r.node, .int .u64 r.term, .int .i64 r.vote, .int .u64 r.log.base.index, .int .u64 r.log.base.term, .int .i64 r.log.base.kind, d, w, .int .u64 r.commit, .int .i64 r.role, .int .i64 r.leads, .int .i64 (r.elapsed + 1), vv, pv, .nilS] := fun h => by
    unfold stA; rw [ag2 h]; rfl
  have st2 : ¬ r.elapsed < 1000 → stA (aged r) d w vv pv .nilS = .agg [.int .i64 r.node, .int .u64 r.term, .int .i64 r.vote, .int .u64 r.log.base.index, .int .u64 r.log.base.term, .int .i64 r.log.base.kind, d, w, .int .u64 r.commit, .int .i64 r.role, .int .i64 r.leads, .int .i64 r.elapsed, vv, pv, .nilS] := fun h => by
    rw [ag h]; rfl
  by_cases ro : r.role = 2
  · have b1 : (r.role == 2) = true := by simp [ro]
    by_cases c : 2 ≤ (aged r).elapsed
    case neg =>
      have e1 : tickR r = aged r := by unfold tickR; rw [if_pos ro, if_neg c]
      have e2 : tickO r = [] := by unfold tickO; rw [if_pos ro, if_neg c]
      have hlt : r.elapsed < 1000 := by simp only [aged] at c; omega
      have c0 : decide (r.elapsed < 1000) = true := by simp [hlt]
      have c1 : decide (r.elapsed + 1 ≥ 2) = false := by rw [ag2 hlt] at c; simp; omega
      (repeat' (with_reducible first|refine w_1 ?_|refine w_2 ?_|refine w_3 ?_|refine w_4 ?_|refine w_5 ?_|refine w_6 ?_|refine w_7 ?_|(refine w_8 (fun hb=>?_) (fun hb=>?_) <;> (try simp only [hb]))|refine w_9 ?_|simp (maxDischargeDepth:=12) only [vis, ↓reduceIte, Nat.reduceEqDiff, reduceCtorEq, Int.reduceEq, Int.reduceNeg, Nat.reduceAdd, Nat.reduceLeDiff, ev, putO, intOp, resultsA, resA, Env.start, Env.ofList, loadA_ptr, storeA_ptr, k1, k2, k3, k4, f0, f1, f2, w1, b1, c0, c1, bne_self_eq_false, Int.reduceBEq, Int.reduceBNe, Int.reduceLT, Int.reduceLE, Int.reduceGT, Int.reduceGE]))
      rw [← st1 hlt]
      exact fin1 _ e1 e2 ((hk3 _ _ _).trans (Keep.put (by omega) _))
    have e1 : tickR r = { r with elapsed := 0 } := by unfold tickR; rw [if_pos ro, if_pos c]
    have e2 : tickO r = tellAllM { r with elapsed := 0 } r.peers := by unfold tickO; rw [if_pos ro, if_pos c]
    have hh : (decide (r.elapsed < 1000) = true ∧ decide (r.elapsed + 1 ≥ 2) = true) ∨ (decide (r.elapsed < 1000) = false ∧ decide (r.elapsed ≥ 2) = true) := by
      simp only [decide_eq_true_eq, decide_eq_false_iff_not]
      by_cases hlt : r.elapsed < 1000
      · exact .inl ⟨hlt, by rw [ag2 hlt] at c; omega⟩
      · exact .inr ⟨hlt, by omega⟩
    rcases hh with ⟨c0, c1⟩ | ⟨c0, c1⟩
    all_goals
      (repeat' (with_reducible first|refine w_1 ?_|refine w_2 ?_|refine w_3 ?_|refine w_4 ?_|refine w_5 ?_|refine w_6 ?_|refine w_7 ?_|(refine w_8 (fun hb=>?_) (fun hb=>?_) <;> (try simp only [hb]))|refine w_9 ?_|simp (maxDischargeDepth:=12) only [vis, ↓reduceIte, Nat.reduceEqDiff, reduceCtorEq, Int.reduceEq, Int.reduceNeg, Nat.reduceAdd, Nat.reduceLeDiff, ev, putO, intOp, resultsA, resA, Env.start, Env.ofList, loadA_ptr, storeA_ptr, k1, k2, k3, k4, f0, f1, f2, w1, b1, c0, c1, bne_self_eq_false, Int.reduceBEq, Int.reduceBNe, Int.reduceLT, Int.reduceLE, Int.reduceGT, Int.reduceGE]))
      have hk0 := hk3 (raftRow r d w vv pv) stZero (stRow { r with elapsed := 0 } d w vv pv .nilS)
      have hS0 := hS.keep (keep_old hI hk0)
      refine rtellAll_c (r := { r with elapsed := 0 }) (d := d) (w := w) (vv := vv) (pv := pv) (ov := .nilS) (out := []) (D := D) (hk0.ok hf) (hI.keep hk0) ⟨hS0.d, hS0.w, hS0.vv, hS0.pv, hS0.ov⟩ hw.log.len (by show 0 + r.peers.length < _; omega) fun ov2 s2 hS2 hk2 => ?_
      have hk02 := hk0.then hk2
      have n2 := hk2.next
      simp only [next_push'] at n2
      have z2 : s2.get (s.next + 1 + 1) = some (stRow { r with elapsed := 0 } d w vv pv .nilS) := by
        rw [hk2.get _ (by simp only [next_push']; omega), Mem.get_push, if_pos (by simp only [next_push'])]; rfl
      have z1 : s2.get (s.next + 1) = some stZero := by
        rw [hk2.get _ (by simp only [next_push']; omega), Mem.get_push, if_neg (by simp only [next_push']; omega), Mem.get_push, if_pos (by simp only [next_push'])]; rfl
      have g1 : (s2.floor ≤ s.next + 1) = True := by rw [hk02.floor]; exact f1
      have g2 : (s2.floor ≤ s.next + 1 + 1) = True := by rw [hk02.floor]; exact f2
      obtain ⟨l1, l2, l3, l4, l5⟩ := hS2.cells
      simp only [stRow, stZero] at z2 z1
      simp only [stA]
      (repeat' (with_reducible first|refine w_1 ?_|refine w_2 ?_|refine w_3 ?_|refine w_4 ?_|refine w_5 ?_|refine w_6 ?_|refine w_7 ?_|(refine w_8 (fun hb=>?_) (fun hb=>?_) <;> (try simp only [hb]))|refine w_9 ?_|simp (maxDischargeDepth:=12) only [vis, ↓reduceIte, Nat.reduceEqDiff, reduceCtorEq, Int.reduceEq, Int.reduceNeg, Nat.reduceAdd, Nat.reduceLeDiff, ev, putO, intOp, resultsA, resA, Env.start, Env.ofList, loadA_ptr, storeA_ptr, z1, z2, g1, g2, l1, l2, l3, l4, l5, bne_self_eq_false, Int.reduceBEq, Int.reduceBNe, Int.reduceLT, Int.reduceLE, Int.reduceGT, Int.reduceGE]))
      have hkf : ∀ x y, Keep s.next s ((s2.put (s.next + 1 + 1) x).put (s.next + 1) y) := fun x y => (hk02.trans (Keep.put (by omega) _)).trans (Keep.put (by omega) _)
      have hS3 : ∀ x, StIn (s2.put (s.next + 1 + 1) x) (NewD D (s.next + 3) s2.next) { r with elapsed := 0 } ([] ++ tellAllM { r with elapsed := 0 } r.peers) d w vv pv ov2 := fun x =>
        (hS2.mono (D' := NewD D (s.next + 3) s2.next) (NewD.up (by simp only [next_push']; omega) (Nat.le_refl _))).keep fun q hq => by rw [Mem.get_put, if_neg]; exact hq.elim (fun h => by have := hI q h; omega) fun h => by omega
      rw [e1, e2] at hK
      exact hK d w vv pv ov2 _ ((hS3 _).res hI (by omega) (by omega) (Nat.le_refl _)) (hkf _ _)
  · have b1 : (r.role == 2) = false := by simp [ro]
    have no : asks r = false → tickR r = aged r ∧ tickO r = [] := fun h => by
      unfold tickR tickO
      rw [if_neg ro, if_neg ro, if_neg (by rw [h]; simp), if_neg (by rw [h]; simp)]
      exact ⟨rfl, rfl⟩
    have yes : asks r = true → tickR r = askR (aged r) ∧ tickO r = askO (aged r) := fun h => by
      unfold tickR tickO
      rw [if_neg ro, if_neg ro, if_pos h, if_pos h]
      exact ⟨rfl, rfl⟩
    by_cases c : 10 + 2 * r.node ≤ (aged r).elapsed
    case neg =>
      obtain ⟨e1, e2⟩ := no (by unfold asks; simp [c])
      have hlt : r.elapsed < 1000 := by simp only [aged] at c; omega
      have c0 : decide (r.elapsed < 1000) = true := by simp [hlt]
      have c1 : decide (r.elapsed + 1 ≥ 10 + 2 * r.node) = false := by rw [ag2 hlt] at c; simp; omega
      (repeat' (with_reducible first|refine w_1 ?_|refine w_2 ?_|refine w_3 ?_|refine w_4 ?_|refine w_5 ?_|refine w_6 ?_|refine w_7 ?_|(refine w_8 (fun hb=>?_) (fun hb=>?_) <;> (try simp only [hb]))|refine w_9 ?_|simp (maxDischargeDepth:=12) only [vis, ↓reduceIte, Nat.reduceEqDiff, reduceCtorEq, Int.reduceEq, Int.reduceNeg, Nat.reduceAdd, Nat.reduceLeDiff, ev, putO, intOp, resultsA, resA, Env.start, Env.ofList, loadA_ptr, storeA_ptr, k1, k2, k3, k4, f0, f1, f2, w1, w2n, w10, b1, c0, c1, bne_self_eq_false, Int.reduceBEq, Int.reduceBNe, Int.reduceLT, Int.reduceLE, Int.reduceGT, Int.reduceGE]))
      rw [← st1 hlt]
      exact fin1 _ e1 e2 ((hk3 _ _ _).trans (Keep.put (by omega) _))
    have hh : (decide (r.elapsed < 1000) = true ∧ decide (r.elapsed + 1 ≥ 10 + 2 * r.node) = true ∧ (aged r).elapsed = r.elapsed + 1) ∨ (decide (r.elapsed < 1000) = false ∧ decide (r.elapsed ≥ 10 + 2 * r.node) = true ∧ (aged r).elapsed = r.elapsed) := by
      simp only [decide_eq_true_eq, decide_eq_false_iff_not]
      by_cases hlt : r.elapsed < 1000
      · exact .inl ⟨hlt, by rw [ag2 hlt] at c; omega, ag2 hlt⟩
      · exact .inr ⟨hlt, by rw [ag hlt] at c; omega, by rw [ag hlt]⟩
    by_cases c' : r.term < 4611686018427387904
    case neg =>
      have b4 : decide (r.term < 4611686018427387904) = false := by simp [c']
      obtain ⟨e1, e2⟩ := no (by unfold asks; simp [c'])
      rcases hh with ⟨c0, c1, c2⟩ | ⟨c0, c1, c2⟩
      · (repeat' (with_reducible first|refine w_1 ?_|refine w_2 ?_|refine w_3 ?_|refine w_4 ?_|refine w_5 ?_|refine w_6 ?_|refine w_7 ?_|(refine w_8 (fun hb=>?_) (fun hb=>?_) <;> (try simp only [hb]))|refine w_9 ?_|simp (maxDischargeDepth:=12) only [vis, ↓reduceIte, Nat.reduceEqDiff, reduceCtorEq, Int.reduceEq, Int.reduceNeg, Nat.reduceAdd, Nat.reduceLeDiff, ev, putO, intOp, resultsA, resA, Env.start, Env.ofList, loadA_ptr, storeA_ptr, k1, k2, k3, k4, f0, f1, f2, w1, w2n, w10, b1, b4, c0, c1, bne_self_eq_false, Int.reduceBEq, Int.reduceBNe, Int.reduceLT, Int.reduceLE, Int.reduceGT, Int.reduceGE]))
        rw [← st1 (by simpa using c0)]
        exact fin1 _ e1 e2 ((hk3 _ _ _).trans (Keep.put (by omega) _))
      · (repeat' (with_reducible first|refine w_1 ?_|refine w_2 ?_|refine w_3 ?_|refine w_4 ?_|refine w_5 ?_|refine w_6 ?_|refine w_7 ?_|(refine w_8 (fun hb=>?_) (fun hb=>?_) <;> (try simp only [hb]))|refine w_9 ?_|simp (maxDischargeDepth:=12) only [vis, ↓reduceIte, Nat.reduceEqDiff, reduceCtorEq, Int.reduceEq, Int.reduceNeg, Nat.reduceAdd, Nat.reduceLeDiff, ev, putO, intOp, resultsA, resA, Env.start, Env.ofList, loadA_ptr, storeA_ptr, k1, k2, k3, k4, f0, f1, f2, w1, w2n, w10, b1, b4, c0, c1, bne_self_eq_false, Int.reduceBEq, Int.reduceBNe, Int.reduceLT, Int.reduceLE, Int.reduceGT, Int.reduceGE]))
        rw [← st2 (by simpa using c0)]
        exact fin1 _ e1 e2 ((hk3 _ _ _).trans (Keep.put (by omega) _))
    have b4 : decide (r.term < 4611686018427387904) = true := by simp [c']
    rcases hh with ⟨c0, c1, c2⟩ | ⟨c0, c1, c2⟩
    all_goals
      (repeat' (with_reducible first|refine w_1 ?_|refine w_2 ?_|refine w_3 ?_|refine w_4 ?_|refine w_5 ?_|refine w_6 ?_|refine w_7 ?_|(refine w_8 (fun hb=>?_) (fun hb=>?_) <;> (try simp only [hb]))|refine w_9 ?_|simp (maxDischargeDepth:=12) only [vis, ↓reduceIte, Nat.reduceEqDiff, reduceCtorEq, Int.reduceEq, Int.reduceNeg, Nat.reduceAdd, Nat.reduceLeDiff, ev, putO, intOp, resultsA, resA, Env.start, Env.ofList, loadA_ptr, storeA_ptr, k1, k2, k3, k4, f0, f1, f2, w1, w2n, w10, b1, b4, c0, c1, bne_self_eq_false, Int.reduceBEq, Int.reduceBNe, Int.reduceLT, Int.reduceLE, Int.reduceGT, Int.reduceGE]))
      generalize hP : Mem.push _ _ = P
      have P0 : P.next = s.next + 3 := by rw [← hP]; simp only [next_push', mat_next]
      have P5 : P.floor ≤ P.next := by rw [← hP]; simp only [floor_push', next_push', mat_next, mat_floor]; exact Nat.le_refl _
      have Pold : ∀ q, q < s.next → P.get q = s.get q := fun q hq => by
        rw [← hP]
        simp only [Mem.get_push, next_push', mat_next, mat_get]
        repeat rw [if_neg (by omega)]
      have P3 : P.get (s.next + 1 + 1) = some (stRow (aged r) d w vv pv .nilS) := by
        rw [← hP]
        simp only [Mem.get_push, next_push', mat_next, if_true]
        simp only [stRow, c2]; rfl
      have P2 : P.get (s.next + 1) = some stZero := by
        rw [← hP]
        simp only [Mem.get_push, next_push', mat_next, mat_get, if_true]
        rw [if_neg (by omega)]; rfl
      have P1 : P.get s.next = some (raftRow r d w vv pv) := by
        rw [← hP]
        simp only [Mem.get_push, next_push', mat_next, mat_get]
        repeat first | rw [if_neg (by omega)] | rw [if_pos rfl]
        rfl
      clear hP
      refine rvoters_c (l := r.log) (D := D) P5 (fun q hq => by have := hI q hq; omega) ⟨d, w, rfl, hS.d.keep fun q hq => Pold q (hI q hq), hS.w.keep fun q hq => Pold q (hI q hq)⟩ hw.log fun v4 s4 ho4 hk4 => ?_
      have n4 : s.next + 3 ≤ s4.next := by have := hk4.next; omega
      have y1 := (hk4.get s.next (by omega)).trans P1
      have y2 := (hk4.get (s.next + 1) (by omega)).trans P2
      have y3 := (hk4.get (s.next + 1 + 1) (by omega)).trans P3
      simp only [raftRow] at y1
      simp only [stRow] at y3
      (repeat' (with_reducible first|refine w_1 ?_|refine w_2 ?_|refine w_3 ?_|refine w_4 ?_|refine w_5 ?_|refine w_6 ?_|refine w_7 ?_|(refine w_8 (fun hb=>?_) (fun hb=>?_) <;> (try simp only [hb]))|refine w_9 ?_|simp (maxDischargeDepth:=12) only [vis, ↓reduceIte, Nat.reduceEqDiff, reduceCtorEq, Int.reduceEq, Int.reduceNeg, Nat.reduceAdd, Nat.reduceLeDiff, ev, putO, intOp, resultsA, resA, Env.start, Env.ofList, loadA_ptr, storeA_ptr, y1, bne_self_eq_false, Int.reduceBEq, Int.reduceBNe, Int.reduceLT, Int.reduceLE, Int.reduceGT, Int.reduceGE]))
      have hvf := vot_fit hw.log
      unfold Fit at hvf
      refine Q.in_c (l := vot r.log) (s := s4.at s.floor) (((ho4.sl (D := fun q => q < s4.next) (intsA_sz _ _) fun q n h => (ho4.row q _ _ _ h).2).keep (s' := s4.at s.floor) fun _ _ => rfl).ints) (by omega) fun b hb => ?_
      have hab : asks r = b := by
        unfold asks
        rw [decide_eq_true c, decide_eq_true c', Bool.true_and, Bool.true_and, Bool.eq_iff_iff, decide_eq_true_eq]
        exact hb.symm
      have hk04 : Keep s.next s (s4.at s.floor) := ⟨by show s.next ≤ s4.next; omega, rfl, fun q hq => (hk4.get q (by omega)).trans (Pold q hq)⟩
      have hS4 := hS.keep (keep_old hI hk04)
      cases b
      · obtain ⟨e1, e2⟩ := no hab
        (repeat' (with_reducible first|refine w_1 ?_|refine w_2 ?_|refine w_3 ?_|refine w_4 ?_|refine w_5 ?_|refine w_6 ?_|refine w_7 ?_|(refine w_8 (fun hb=>?_) (fun hb=>?_) <;> (try simp only [hb]))|refine w_9 ?_|simp (maxDischargeDepth:=12) only [vis, ↓reduceIte, Nat.reduceEqDiff, reduceCtorEq, Int.reduceEq, Int.reduceNeg, Nat.reduceAdd, Nat.reduceLeDiff, ev, putO, intOp, resultsA, resA, Env.start, Env.ofList, loadA_ptr, storeA_ptr, y2, y3, stZero, f1, f2, k1, k2, k3, k4, bne_self_eq_false, Int.reduceBEq, Int.reduceBNe, Int.reduceLT, Int.reduceLE, Int.reduceGT, Int.reduceGE]))
        exact fin1 _ e1 e2 (hk04.trans (Keep.put (by omega) _))
      · obtain ⟨e1, e2⟩ := yes hab
        (repeat' (with_reducible first|refine w_1 ?_|refine w_2 ?_|refine w_3 ?_|refine w_4 ?_|refine w_5 ?_|refine w_6 ?_|refine w_7 ?_|(refine w_8 (fun hb=>?_) (fun hb=>?_) <;> (try simp only [hb]))|refine w_9 ?_|simp (maxDischargeDepth:=12) only [vis, ↓reduceIte, Nat.reduceEqDiff, reduceCtorEq, Int.reduceEq, Int.reduceNeg, Nat.reduceAdd, Nat.reduceLeDiff, ev, putO, intOp, resultsA, resA, Env.start, Env.ofList, loadA_ptr, storeA_ptr, y2, y3, stZero, f1, f2, k1, k2, k3, k4, bne_self_eq_false, Int.reduceBEq, Int.reduceBNe, Int.reduceLT, Int.reduceLE, Int.reduceGT, Int.reduceGE]))
        refine rask_c (r := aged r) (d := d) (w := w) (vv := vv) (pv := pv) (ov := .nilS) (out := []) (D := D) (hk04.ok hf) (hI.keep hk04) ⟨hS4.d, hS4.w, hS4.vv, hS4.pv, hS4.ov⟩ hlo hw.log (by show 0 < _; omega) fun d' w' vv' pv' ov' s5 hS5 hk5 => ?_
        have hk05 := hk04.then hk5
        have n5 : s4.next ≤ s5.next := hk5.next
        have z2 := (hk5.get (s.next + 1) (by show s.next + 1 < s4.next; omega)).trans y2
        have z3 := (hk5.get (s.next + 1 + 1) (by show s.next + 1 + 1 < s4.next; omega)).trans y3
        have g1 : (s5.floor ≤ s.next + 1) = True := by rw [hk05.floor]; exact f1
        have g2 : (s5.floor ≤ s.next + 1 + 1) = True := by rw [hk05.floor]; exact f2
        obtain ⟨l1, l2, l3, l4, l5⟩ := hS5.cells
        simp only [stZero] at z2
        simp only [stA]
        (repeat' (with_reducible first|refine w_1 ?_|refine w_2 ?_|refine w_3 ?_|refine w_4 ?_|refine w_5 ?_|refine w_6 ?_|refine w_7 ?_|(refine w_8 (fun hb=>?_) (fun hb=>?_) <;> (try simp only [hb]))|refine w_9 ?_|simp (maxDischargeDepth:=12) only [vis, ↓reduceIte, Nat.reduceEqDiff, reduceCtorEq, Int.reduceEq, Int.reduceNeg, Nat.reduceAdd, Nat.reduceLeDiff, ev, putO, intOp, resultsA, resA, Env.start, Env.ofList, loadA_ptr, storeA_ptr, z2, z3, g1, g2, l1, l2, l3, l4, l5, bne_self_eq_false, Int.reduceBEq, Int.reduceBNe, Int.reduceLT, Int.reduceLE, Int.reduceGT, Int.reduceGE]))
        have hkf : ∀ x y, Keep s.next s ((s5.put (s.next + 1 + 1) x).put (s.next + 1) y) := fun x y => (hk05.trans (Keep.put (by omega) _)).trans (Keep.put (by omega) _)
        have hS6 : ∀ x, StIn (s5.put (s.next + 1 + 1) x) (NewD D (s.next + 3) s5.next) (askR (aged r)) ([] ++ askO (aged r)) d' w' vv' pv' ov' := fun x =>
          (hS5.mono (D' := NewD D (s.next + 3) s5.next) (NewD.up (by show s.next + 3 ≤ s4.next; omega) (Nat.le_refl _))).keep fun q hq => by rw [Mem.get_put, if_neg]; exact hq.elim (fun h => by have := hI q h; omega) fun h => by omega
        rw [e1, e2] at hK
        exact hK d' w' vv' pv' ov' _ ((hS6 _).res hI (by omega) (by omega) (Nat.le_refl _)) (hkf _ _)
end
end Go.Proofs.YtfllmhjjfapnmaaGreat
