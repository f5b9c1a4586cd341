/- The law RaftProposes over the compact program. -/
import Derived.Test.YtfllmhjjfapnmaaGreatVZRefProp
import Derived.Test.YtfllmhjjfapnmaaGreatVZRaftSame
import Derived.Test.YtfllmhjjfapnmaaGreatVZRaftFits
import Derived.Test.YtfllmhjjfapnmaaGreatVZRaftMay
import Derived.Test.YtfllmhjjfapnmaaGreatVZVE
namespace Go.Proofs.YtfllmhjjfapnmaaGreat
open Go Go.VI
set_option linter.unusedSimpArgs false
attribute [local irreducible] Ws Wp W C
set_option maxHeartbeats 4000000
def propRO (r : Raft) (k : Int) (bs : List UInt8) : Raft := if propC r k bs = 0 then propR r k bs else zeroR
def propOO (r : Raft) (k : Int) (bs : List UInt8) : List Msg := if propC r k bs = 0 then propO r k bs else []
def propIO (r : Raft) (k : Int) (bs : List UInt8) : Int := if propC r k bs = 0 then propI r k bs else 0
theorem RaftC.len {s : Mem} {D : Nat → Prop} {c : List AV} {r : Raft} (h : RaftC s D c r) : c.length = 14 := by obtain ⟨_, _, _, _, rfl, _⟩ := h; rfl
theorem RaftC.cell {s : Mem} {D : Nat → Prop} {c : List AV} {r : Raft} (h : RaftC s D c r) : c.all isCell = true := by
  obtain ⟨d, w, vv, pv, rfl, hd, hl, hvv, hpv⟩ := h
  simp only [List.all_cons, List.all_nil, hd.cell, hl.cell, hvv.cell, hpv.cell, cell_int, Bool.and_self]
theorem propose_k {r : Raft} {k : Int} {bs : List UInt8} {D : Nat → Prop} {s : Mem} {v b : AV} {K : AV → Mem → Prop} (hf : s.floor ≤ s.next) (hI : In D s) (hv : RaftV s D v r) (hb : Byt s D b bs) (hP : PropIn r k bs)
    (hK : ∀ c ov s', Keep s.next s s' → RaftC s' (Lt s'.next) c (propRO r k bs) → Msgs s' (Lt s'.next) ov (propOO r k bs) → K (.tup [.agg c, ov, .int .u64 (propIO r k bs), .int .i64 (propC r k bs)]) s') : C tab 26 [v, .int .i64 k, b] s K := by
  refine propose_c hf hI hv hb hP (fun h v' s' hk hv' => ?_) (fun h v' ov s' hk hv' ho => ?_)
  · obtain ⟨c, rfl, hc⟩ := hv'
    have := hK c .nilS s' hk
    unfold propRO propOO propIO at this
    rw [if_neg h, if_neg h, if_neg h] at this
    exact this hc ⟨[], Sl.nil _ _ _, MsgsC.nil _ _⟩
  · obtain ⟨c, rfl, hc⟩ := hv'
    have := hK c ov s' hk
    unfold propRO propOO propIO at this
    rw [if_pos h, if_pos h, if_pos h] at this
    rw [h] at this
    exact this hc ho
theorem rpropose_k {r : Raft} {k : Int} {bs : List UInt8} {D : Nat → Prop} {s : Mem} {v b : AV} {K : AV → Mem → Prop} (hf : s.floor ≤ s.next) (hI : In D s) (hv : RaftV s D v r) (hb : Byt s D b bs) (hP : PropIn r k bs) (hst : stOk r = true)
    (hK : ∀ d' w' vv' pv' ov' s', StIn s' (NewD D s.next s'.next) (propRO r k bs) (propOO r k bs) d' w' vv' pv' ov' → Keep s.next s s' → K (.tup [stA (propRO r k bs) d' w' vv' pv' ov', .int .u64 (propIO r k bs), .int .i64 (propC r k bs)]) s') : C tab 28 [v, .int .i64 k, b] s K := by
  refine rpropose_c hf hI hv hb hP hst (fun h s' hk => ?_) (fun h d' w' vv' pv' ov' s' hS hk => ?_)
  · have := hK .nilS .nilS .nilS .nilS .nilS s'
    unfold propRO propOO propIO at this
    rw [if_neg h, if_neg h, if_neg h] at this
    exact this ⟨Sl.nil _ _ _, ⟨[], Sl.nil _ _ _, EntsC.nil _ _⟩, Sl.nil _ _ _, Sl.nil _ _ _, [], Sl.nil _ _ _, MsgsC.nil _ _⟩ hk
  · have := hK d' w' vv' pv' ov' s'
    unfold propRO propOO propIO at this
    rw [if_pos h, if_pos h, if_pos h] at this
    rw [h] at this
    exact this hS hk
theorem zeroR_fits : Fits zeroR [] := ⟨by simp [zeroR, zeroL], by simp [zeroR], by simp [zeroR], by simp, by intro m hm; cases hm⟩
theorem propRO_fits {r : Raft} {k : Int} {bs : List UInt8} (hP : PropIn r k bs) : Fits (propRO r k bs) (propOO r k bs) := by
  unfold propRO propOO
  by_cases h : propC r k bs = 0
  · rw [if_pos h, if_pos h]
    have ha : (appOut r.log r.term k bs).2 = 0 := by
      unfold propC at h
      split at h
      · cases h
      split at h
      · cases h
      split at h
      · cases h
      split at h
      · rename_i h2; exact absurd h h2.2
      · exact h
    obtain ⟨_, _, _, a4, a5⟩ := appOut_ok hP.app ha
    exact settleR_fits (r := propL r k bs) a4 a5.len hP.w.votes
  · rw [if_neg h, if_neg h]; exact zeroR_fits
theorem compRO_fits {r : Raft} (hw : r.Wf) (ix : Int) : Fits (compRO r ix).1 [] := by
  unfold compRO
  split
  · exact zeroR_fits
  split
  · exact zeroR_fits
  · refine ⟨?_, hw.votes, hw.peers, by simp, by intro m hm; cases hm⟩
    have := hw.log.len
    show (r.log.l.drop _).length < _
    rw [List.length_drop]
    unfold Fit at this
    omega
set_option maxRecDepth 100000 in
theorem proposes_c {r : Raft} {x : Entry} {v xd : AV} (hv : ∀ s D, RaftV s D v r) (hw : r.Wf) (hx : ∀ s D, Byt s D xd x.data) (hxw : x.Wf) : C tab 5 [v, .agg [.int .u64 x.index, .int .u64 x.term, .int .i64 x.kind, xd]] Mem.zero (fun r _ => r = .bool true) := by
  obtain ⟨d, w, vv, pv, rfl, hd, hl, hvv, hpv⟩ := raftC_row (hv Mem.zero fun _ => False)
  have hxd := hx Mem.zero fun _ => False
  have hP : PropIn r x.kind x.data := ⟨hw, hxw.kind, hxw.data⟩
  refine C_enter (cf := cf5) rfl (Nat.le_of_ble_eq_true rfl) ?_
  simp only [cf5, oo, on, om, og, oc, ou, raftA]
  (repeat' (with_reducible first|refine w_1 ?_|refine w_2 ?_|refine w_3 ?_|refine w_4 ?_|refine w_5 ?_|refine w_6 ?_|refine w_7 ?_|(refine w_8 (fun hb=>?_) (fun hb=>?_)<;>try simp only [hb])|refine w_9 ?_|simp (maxDischargeDepth:=12) only [viz,↓reduceIte,Nat.reduceEqDiff,reduceCtorEq,Int.reduceEq,Int.reduceNeg,Nat.reduceAdd,Nat.reduceLeDiff,hd.cell,hl.cell,hvv.cell,hpv.cell,hxd.cell]))
  have hv' : ∀ s D, RaftV s D (.agg [.int .i64 r.node, .int .u64 r.term, .int .i64 r.vote, .int .u64 r.log.base.index, .int .u64 r.log.base.term, .int .i64 r.log.base.kind, d, w, .int .u64 r.commit, .int .i64 r.role, .int .i64 r.leads, .int .i64 r.elapsed, vv, pv]) r := hv
  have hI : ∀ s, In (fun _ => False) s := fun _ _ h => h.elim
  have z0 : Mem.zero.next = 0 := rfl
  refine light14_c (r := r) (D := fun _ => False) (by simp only [floor_push', next_push']; exact Nat.zero_le _) (hI _) (hv' _ _) hw fun b s1 hk1 => ?_
  have n1 := hk1.next
  simp only [next_push', z0] at n1
  have r1 : s1.get 0 = some (raftRow r d w vv pv) := by
    rw [hk1.get _ (by simp only [next_push', z0]; omega), Mem.get_push, if_neg (by simp only [next_push', z0]; omega), Mem.get_push, if_pos z0.symm]; rfl
  have m1 : s1.get 1 = some ⟨25, 4, [[.int .u64 x.index, .int .u64 x.term, .int .i64 x.kind, xd]]⟩ := by
    rw [hk1.get _ (by simp only [next_push', z0]; omega), Mem.get_push, if_pos (by simp only [next_push', z0])]
  have fl1 : s1.floor = 0 := hk1.floor
  simp only [raftRow] at r1
  simp only [z0]
  cases b
  · (repeat' (with_reducible first|refine w_1 ?_|refine w_2 ?_|refine w_3 ?_|refine w_4 ?_|refine w_5 ?_|refine w_6 ?_|refine w_7 ?_|(refine w_8 (fun hb=>?_) (fun hb=>?_)<;>try simp only [hb])|refine w_9 ?_|simp (maxDischargeDepth:=12) only [viz,↓reduceIte,Nat.reduceEqDiff,reduceCtorEq,Int.reduceEq,Int.reduceNeg,Nat.reduceAdd,Nat.reduceLeDiff,bne_self_eq_false, Int.reduceBEq, Int.reduceBNe, Int.reduceLT, Int.reduceLE, Int.reduceGT, Int.reduceGE]))
    refine awake14_c _ ?_
    (repeat' (with_reducible first|refine w_1 ?_|refine w_2 ?_|refine w_3 ?_|refine w_4 ?_|refine w_5 ?_|refine w_6 ?_|refine w_7 ?_|(refine w_8 (fun hb=>?_) (fun hb=>?_)<;>try simp only [hb])|refine w_9 ?_|simp (maxDischargeDepth:=12) only [viz,↓reduceIte,Nat.reduceEqDiff,reduceCtorEq,Int.reduceEq,Int.reduceNeg,Nat.reduceAdd,Nat.reduceLeDiff]))
  by_cases h5 : x.data.length > 5000
  · have c5 : decide ((x.data.length : Int) > 5000) = true := by simp; omega
    (repeat' (with_reducible first|refine w_1 ?_|refine w_2 ?_|refine w_3 ?_|refine w_4 ?_|refine w_5 ?_|refine w_6 ?_|refine w_7 ?_|(refine w_8 (fun hb=>?_) (fun hb=>?_)<;>try simp only [hb])|refine w_9 ?_|simp (maxDischargeDepth:=12) only [viz,↓reduceIte,Nat.reduceEqDiff,reduceCtorEq,Int.reduceEq,Int.reduceNeg,Nat.reduceAdd,Nat.reduceLeDiff,m1,hxd.lenB,c5,bne_self_eq_false, Int.reduceBEq, Int.reduceBNe, Int.reduceLT, Int.reduceLE, Int.reduceGT, Int.reduceGE]))
    refine awake14_c _ ?_
    (repeat' (with_reducible first|refine w_1 ?_|refine w_2 ?_|refine w_3 ?_|refine w_4 ?_|refine w_5 ?_|refine w_6 ?_|refine w_7 ?_|(refine w_8 (fun hb=>?_) (fun hb=>?_)<;>try simp only [hb])|refine w_9 ?_|simp (maxDischargeDepth:=12) only [viz,↓reduceIte,Nat.reduceEqDiff,reduceCtorEq,Int.reduceEq,Int.reduceNeg,Nat.reduceAdd,Nat.reduceLeDiff]))
  have c5 : decide ((x.data.length : Int) > 5000) = false := by simp; omega
  (repeat' (with_reducible first|refine w_1 ?_|refine w_2 ?_|refine w_3 ?_|refine w_4 ?_|refine w_5 ?_|refine w_6 ?_|refine w_7 ?_|(refine w_8 (fun hb=>?_) (fun hb=>?_)<;>try simp only [hb])|refine w_9 ?_|simp (maxDischargeDepth:=12) only [viz,↓reduceIte,Nat.reduceEqDiff,reduceCtorEq,Int.reduceEq,Int.reduceNeg,Nat.reduceAdd,Nat.reduceLeDiff,r1,m1,hxd.lenB,c5,bne_self_eq_false, Int.reduceBEq, Int.reduceBNe, Int.reduceLT, Int.reduceLE, Int.reduceGT, Int.reduceGE]))
  refine propose_k (r := r) (D := fun _ => False) (by rw [fl1]; exact Nat.zero_le _) (hI _) (hv' _ _) (hx _ _) hP fun ac ov sa hka hac hov => ?_
  have na := hka.next
  have ra := (hka.get 0 (by omega)).trans r1
  have ma := (hka.get 1 (by omega)).trans m1
  have fla : sa.floor = 0 := hka.floor.trans fl1
  obtain ⟨ad, aw, avv, apv, rfl, had, haw, havv, hapv⟩ := hac
  have fTa : (sa.floor ≤ sa.next) = True := by rw [fla]; simp
  have q0 : (0 = sa.next) = False := by simp; omega
  have q1 : (1 = sa.next) = False := by simp; omega
  (repeat' (with_reducible first|refine w_1 ?_|refine w_2 ?_|refine w_3 ?_|refine w_4 ?_|refine w_5 ?_|refine w_6 ?_|refine w_7 ?_|(refine w_8 (fun hb=>?_) (fun hb=>?_)<;>try simp only [hb])|refine w_9 ?_|simp (maxDischargeDepth:=12) only [viz,↓reduceIte,Nat.reduceEqDiff,reduceCtorEq,Int.reduceEq,Int.reduceNeg,Nat.reduceAdd,Nat.reduceLeDiff,ra,ma,fTa,q0,q1,had.cell,haw.cell,havv.cell,hapv.cell,bne_self_eq_false, Int.reduceBEq, Int.reduceBNe, Int.reduceLT, Int.reduceLE, Int.reduceGT, Int.reduceGE]))
  generalize hPe : Mem.push _ _ = P
  have hkP : Keep sa.next sa P := by rw [← hPe]; exact pushes sa _
  have nP : P.next = sa.next + 1 := by rw [← hPe]; simp only [next_push']
  have aP : P.get sa.next = some (raftRow (propRO r x.kind x.data) ad aw avv apv) := by rw [← hPe, Mem.get_push, if_pos rfl]; rfl
  clear hPe
  refine raftCompact_c (r := r) (ix := x.index) (D := fun _ => False) (hkP.ok (by rw [fla]; exact Nat.zero_le _)) (hI _) (hv' _ _) hw hxw.index fun v4 s4 hk4 hv4 => ?_
  have n4 := hk4.next
  have hkA := hkP.then hk4
  have r4 := (hkA.get 0 (by omega)).trans ra
  have m4 := (hkA.get 1 (by omega)).trans ma
  have a4 := (hk4.get sa.next (by omega)).trans aP
  have fl4 : s4.floor = 0 := hkA.floor.trans fla
  obtain ⟨cd, cw, cvv, cpv, rfl, hcd, hcw, hcvv, hcpv⟩ := raftC_row hv4
  have fT4 : (s4.floor ≤ s4.next) = True := by rw [fl4]; simp
  have q0 : (0 = s4.next) = False := by simp; omega
  have q1 : (1 = s4.next) = False := by simp; omega
  have qa : (sa.next = s4.next) = False := by simp; omega
  simp only [raftRow] at a4
  simp only [raftA]
  (repeat' (with_reducible first|refine w_1 ?_|refine w_2 ?_|refine w_3 ?_|refine w_4 ?_|refine w_5 ?_|refine w_6 ?_|refine w_7 ?_|(refine w_8 (fun hb=>?_) (fun hb=>?_)<;>try simp only [hb])|refine w_9 ?_|simp (maxDischargeDepth:=12) only [viz,↓reduceIte,Nat.reduceEqDiff,reduceCtorEq,Int.reduceEq,Int.reduceNeg,Nat.reduceAdd,Nat.reduceLeDiff,r4,m4,a4,fT4,q0,q1,qa,hcd.cell,hcw.cell,hcvv.cell,hcpv.cell,bne_self_eq_false, Int.reduceBEq, Int.reduceBNe, Int.reduceLT, Int.reduceLE, Int.reduceGT, Int.reduceGE]))
  generalize hQ : Mem.push _ _ = Q
  have hk4Q : Keep s4.next s4 Q := by rw [← hQ]; exact pushes s4 _
  have nQ : Q.next = s4.next + 1 := by rw [← hQ]; simp only [next_push']
  have rQ := (hk4Q.get 0 (by omega)).trans r4
  have mQ := (hk4Q.get 1 (by omega)).trans m4
  have aQ := (hk4Q.get sa.next (by omega)).trans a4
  have bQ : Q.get s4.next = some (raftRow (compRO r x.index).1 cd cw cvv cpv) := by rw [← hQ, Mem.get_push, if_pos rfl]; rfl
  have flQ : Q.floor = 0 := hk4Q.floor.trans fl4
  clear hQ
  have hkaQ : ∀ q, q < sa.next → Q.get q = sa.get q := fun q hq => (hk4Q.get q (by omega)).trans (hkA.get q hq)
  simp only [raftRow] at bQ
  refine raftMay_c (r := r) (D := fun _ => False) (by rw [flQ]; exact Nat.zero_le _) (hI _) (hv' _ _) hw fun s5 hk5 => ?_
  have n5 := hk5.next
  have r5 := (hk5.get 0 (by omega)).trans rQ
  have m5 := (hk5.get 1 (by omega)).trans mQ
  have a5 := (hk5.get sa.next (by omega)).trans aQ
  have b5 := (hk5.get s4.next (by omega)).trans bQ
  have fl5 : s5.floor = 0 := hk5.floor.trans flQ
  cases hst : stOk r
  · have e1 : propC r x.kind x.data = 1 := by simp [propC, hst]
    have e2 : (compRO r x.index).2 = 1 := by simp [compRO, hst]
    have e3 : propOO r x.kind x.data = [] := by unfold propOO; rw [e1, if_neg (by decide)]
    have e4 : propIO r x.kind x.data = 0 := by unfold propIO; rw [e1, if_neg (by decide)]
    have e5 : lenA false ov = some 0 := by rw [hov.len, e3]; rfl
    have e6 : (((0 : Nat) : Int) == 0) = true := rfl
    (repeat' (with_reducible first|refine w_1 ?_|refine w_2 ?_|refine w_3 ?_|refine w_4 ?_|refine w_5 ?_|refine w_6 ?_|refine w_7 ?_|(refine w_8 (fun hb=>?_) (fun hb=>?_)<;>try simp only [hb])|refine w_9 ?_|simp (maxDischargeDepth:=12) only [viz,↓reduceIte,Nat.reduceEqDiff,reduceCtorEq,Int.reduceEq,Int.reduceNeg,Nat.reduceAdd,Nat.reduceLeDiff,e1,e2,e4,e5,e6,bne_self_eq_false, Int.reduceBEq, Int.reduceBNe, Int.reduceLT, Int.reduceLE, Int.reduceGT, Int.reduceGE]))
    refine awake14_c _ ?_
    (repeat' (with_reducible first|refine w_1 ?_|refine w_2 ?_|refine w_3 ?_|refine w_4 ?_|refine w_5 ?_|refine w_6 ?_|refine w_7 ?_|(refine w_8 (fun hb=>?_) (fun hb=>?_)<;>try simp only [hb])|refine w_9 ?_|simp (maxDischargeDepth:=12) only [viz,↓reduceIte,Nat.reduceEqDiff,reduceCtorEq,Int.reduceEq,Int.reduceNeg,Nat.reduceAdd,Nat.reduceLeDiff]))
  (repeat' (with_reducible first|refine w_1 ?_|refine w_2 ?_|refine w_3 ?_|refine w_4 ?_|refine w_5 ?_|refine w_6 ?_|refine w_7 ?_|(refine w_8 (fun hb=>?_) (fun hb=>?_)<;>try simp only [hb])|refine w_9 ?_|simp (maxDischargeDepth:=12) only [viz,↓reduceIte,Nat.reduceEqDiff,reduceCtorEq,Int.reduceEq,Int.reduceNeg,Nat.reduceAdd,Nat.reduceLeDiff,r5,m5,bne_self_eq_false, Int.reduceBEq, Int.reduceBNe, Int.reduceLT, Int.reduceLE, Int.reduceGT, Int.reduceGE]))
  refine rpropose_k (r := r) (D := fun _ => False) (by rw [fl5]; exact Nat.zero_le _) (hI _) (hv' _ _) (hx _ _) hP hst fun d6 w6 vv6 pv6 ov6 s6 hS6 hk6 => ?_
  have n6 := hk6.next
  have r6 := (hk6.get 0 (by omega)).trans r5
  have m6 := (hk6.get 1 (by omega)).trans m5
  have a6 := (hk6.get sa.next (by omega)).trans a5
  have b6 := (hk6.get s4.next (by omega)).trans b5
  have fl6 : s6.floor = 0 := hk6.floor.trans fl5
  have fT6 : (s6.floor ≤ s6.next) = True := by rw [fl6]; simp
  have q0 : (0 = s6.next) = False := by simp; omega
  have q1 : (1 = s6.next) = False := by simp; omega
  have qa : (sa.next = s6.next) = False := by simp; omega
  have qb : (s4.next = s6.next) = False := by simp; omega
  obtain ⟨l1, l2, l3, l4, l5⟩ := hS6.cells
  simp only [stA]
  (repeat' (with_reducible first|refine w_1 ?_|refine w_2 ?_|refine w_3 ?_|refine w_4 ?_|refine w_5 ?_|refine w_6 ?_|refine w_7 ?_|(refine w_8 (fun hb=>?_) (fun hb=>?_)<;>try simp only [hb])|refine w_9 ?_|simp (maxDischargeDepth:=12) only [viz,↓reduceIte,Nat.reduceEqDiff,reduceCtorEq,Int.reduceEq,Int.reduceNeg,Nat.reduceAdd,Nat.reduceLeDiff,r6,m6,fT6,q0,q1,qa,qb,l1,l2,l3,l4,l5,bne_self_eq_false, Int.reduceBEq, Int.reduceBNe, Int.reduceLT, Int.reduceLE, Int.reduceGT, Int.reduceGE]))
  generalize hT : Mem.push _ _ = T
  have hk6T : Keep s6.next s6 T := by rw [← hT]; exact pushes s6 _
  have nT : T.next = s6.next + 1 := by rw [← hT]; simp only [next_push']
  have tT : T.get s6.next = some (stRow (propRO r x.kind x.data) d6 w6 vv6 pv6 ov6) := by rw [← hT, Mem.get_push, if_pos rfl]; rfl
  clear hT
  have flT : T.floor = 0 := hk6T.floor.trans fl6
  refine rraftCompact_c (r := r) (ix := x.index) (D := fun _ => False) (by rw [flT]; exact Nat.zero_le _) (hI _) (hv' _ _) hw hxw.index hst fun v7 s7 hk7 hv7 => ?_
  have n7 := hk7.next
  have hk67 := hk6T.then hk7
  have a7 := (hk67.get sa.next (by omega)).trans a6
  have b7 := (hk67.get s4.next (by omega)).trans b6
  have t7 := (hk7.get s6.next (by omega)).trans tT
  have fl7 : s7.floor = 0 := hk67.floor.trans fl6
  obtain ⟨ed, ew, evv, epv, rfl, hed, hew, hevv, hepv⟩ := raftC_row hv7
  have fT7 : (s7.floor ≤ s7.next) = True := by rw [fl7]; simp
  have qa : (sa.next = s7.next) = False := by simp; omega
  have qb : (s4.next = s7.next) = False := by simp; omega
  have qt : (s6.next = s7.next) = False := by simp; omega
  have hc := compRO_fits hw x.index
  have hp := propRO_fits hP
  simp only [raftA]
  (repeat' (with_reducible first|refine w_1 ?_|refine w_2 ?_|refine w_3 ?_|refine w_4 ?_|refine w_5 ?_|refine w_6 ?_|refine w_7 ?_|(refine w_8 (fun hb=>?_) (fun hb=>?_)<;>try simp only [hb])|refine w_9 ?_|simp (maxDischargeDepth:=12) only [viz,↓reduceIte,Nat.reduceEqDiff,reduceCtorEq,Int.reduceEq,Int.reduceNeg,Nat.reduceAdd,Nat.reduceLeDiff,a7,b7,fT7,qa,qb,hed.cell,hew.cell,hevv.cell,hepv.cell,bne_self_eq_false,bne_self_eq_false, Int.reduceBEq, Int.reduceBNe, Int.reduceLT, Int.reduceLE, Int.reduceGT, Int.reduceGE]))
  generalize hU : Mem.push _ _ = U
  have hk7U : Keep s7.next s7 U := by rw [← hU]; exact pushes s7 _
  have nU : U.next = s7.next + 1 := by rw [← hU]; simp only [next_push']
  clear hU
  have aU := (hk7U.get sa.next (by omega)).trans a7
  have bU := (hk7U.get s4.next (by omega)).trans b7
  have tU := (hk7U.get s6.next (by omega)).trans t7
  have flU : U.floor = 0 := hk7U.floor.trans fl7
  have c4U : ∀ q, q < s4.next → U.get q = s4.get q := fun q hq => by
    rw [hk7U.get q (by omega), hk67.get q (by omega), hk6.get q (by omega), hk5.get q (by omega), hk4Q.get q hq]
  have caU : ∀ q, q < sa.next → U.get q = sa.get q := fun q hq => by
    rw [c4U q (by omega)]; exact hkA.get q hq
  have c6U : ∀ q, q < s6.next → U.get q = s6.get q := fun q hq => by rw [hk7U.get q (by omega), hk67.get q hq]
  refine rsame_c (r := (compRO r x.index).1) (D := Lt U.next) (by rw [flU]; exact Nat.zero_le _) (fun q hq => hq) ((hv4.keep fun q hq => c4U q hq).mono fun q hq => by have : q < s4.next := hq; show q < U.next; omega) ((hv7.keep fun q hq => hk7U.get q (by rcases hq with h | h; exact h.elim; omega)).mono fun q hq => by rcases hq with h | h; exact h.elim; show q < U.next; omega) hc.log hc.votes hc.peers fun s8 hk8 => ?_
  have n8 := hk8.next
  have a8 := (hk8.get sa.next (by omega)).trans aU
  have t8 := (hk8.get s6.next (by omega)).trans tU
  have fl8 : s8.floor = 0 := hk8.floor.trans flU
  simp only [stRow] at t8
  (repeat' (with_reducible first|refine w_1 ?_|refine w_2 ?_|refine w_3 ?_|refine w_4 ?_|refine w_5 ?_|refine w_6 ?_|refine w_7 ?_|(refine w_8 (fun hb=>?_) (fun hb=>?_)<;>try simp only [hb])|refine w_9 ?_|simp (maxDischargeDepth:=12) only [viz,↓reduceIte,Nat.reduceEqDiff,reduceCtorEq,Int.reduceEq,Int.reduceNeg,Nat.reduceAdd,Nat.reduceLeDiff,a8,t8,bne_self_eq_false,bne_self_eq_false, Int.reduceBEq, Int.reduceBNe, Int.reduceLT, Int.reduceLE, Int.reduceGT, Int.reduceGE]))
  have ca8 : ∀ q, q < sa.next → s8.get q = sa.get q := fun q hq => (hk8.get q (by omega)).trans (caU q hq)
  have c68 : ∀ q, q < s6.next → s8.get q = s6.get q := fun q hq => (hk8.get q (by omega)).trans (c6U q hq)
  have hnew : ∀ q, NewD (fun _ => False) s5.next s6.next q → q < s6.next := fun q hq => by rcases hq with h | h; exact h.elim; omega
  refine rsame_c (r := propRO r x.kind x.data) (D := Lt s8.next) (by rw [fl8]; exact Nat.zero_le _) (fun q hq => hq) ⟨_, rfl, ad, aw, avv, apv, rfl, ?_, ?_, ?_, ?_⟩ ⟨_, rfl, d6, w6, vv6, pv6, rfl, ?_, ?_, ?_, ?_⟩ hp.log hp.votes hp.peers fun s9 hk9 => ?_
  · exact (had.keep fun q hq => ca8 q hq).mono fun q hq => by have : q < sa.next := hq; show q < s8.next; omega
  · exact (haw.keep fun q hq => ca8 q hq).mono fun q hq => by have : q < sa.next := hq; show q < s8.next; omega
  · exact (havv.keep fun q hq => ca8 q hq).mono fun q hq => by have : q < sa.next := hq; show q < s8.next; omega
  · exact (hapv.keep fun q hq => ca8 q hq).mono fun q hq => by have : q < sa.next := hq; show q < s8.next; omega
  · exact (hS6.d.keep fun q hq => c68 q (hnew q hq)).mono fun q hq => by have := hnew q hq; show q < s8.next; omega
  · exact (hS6.w.keep fun q hq => c68 q (hnew q hq)).mono fun q hq => by have := hnew q hq; show q < s8.next; omega
  · exact (hS6.vv.keep fun q hq => c68 q (hnew q hq)).mono fun q hq => by have := hnew q hq; show q < s8.next; omega
  · exact (hS6.pv.keep fun q hq => c68 q (hnew q hq)).mono fun q hq => by have := hnew q hq; show q < s8.next; omega
  have n9 := hk9.next
  have t9 := (hk9.get s6.next (by omega)).trans t8
  have fl9 : s9.floor = 0 := hk9.floor.trans fl8
  (repeat' (with_reducible first|refine w_1 ?_|refine w_2 ?_|refine w_3 ?_|refine w_4 ?_|refine w_5 ?_|refine w_6 ?_|refine w_7 ?_|(refine w_8 (fun hb=>?_) (fun hb=>?_)<;>try simp only [hb])|refine w_9 ?_|simp (maxDischargeDepth:=12) only [viz,↓reduceIte,Nat.reduceEqDiff,reduceCtorEq,Int.reduceEq,Int.reduceNeg,Nat.reduceAdd,Nat.reduceLeDiff,t9,bne_self_eq_false, Int.reduceBEq, Int.reduceBNe, Int.reduceLT, Int.reduceLE, Int.reduceGT, Int.reduceGE]))
  refine sameMsgs_c (ms := propOO r x.kind x.data) (D := Lt s9.next) (by rw [fl9]; exact Nat.zero_le _) (fun q hq => hq) ((hov.keep fun q hq => (hk9.get q (by have : q < sa.next := hq; omega)).trans (ca8 q hq)).mono fun q hq => by have : q < sa.next := hq; show q < s9.next; omega) ((hS6.ov.keep fun q hq => (hk9.get q (by have := hnew q hq; omega)).trans (c68 q (hnew q hq))).mono fun q hq => by have := hnew q hq; show q < s9.next; omega) hp.out hp.ms fun s10 hk10 => ?_
  (repeat' (with_reducible first|refine w_1 ?_|refine w_2 ?_|refine w_3 ?_|refine w_4 ?_|refine w_5 ?_|refine w_6 ?_|refine w_7 ?_|(refine w_8 (fun hb=>?_) (fun hb=>?_)<;>try simp only [hb])|refine w_9 ?_|simp (maxDischargeDepth:=12) only [viz,↓reduceIte,Nat.reduceEqDiff,reduceCtorEq,Int.reduceEq,Int.reduceNeg,Nat.reduceAdd,Nat.reduceLeDiff,bne_self_eq_false, Int.reduceBEq, Int.reduceBNe, Int.reduceLT, Int.reduceLE, Int.reduceGT, Int.reduceGE]))
  refine awake14_c _ ?_
  (repeat' (with_reducible first|refine w_1 ?_|refine w_2 ?_|refine w_3 ?_|refine w_4 ?_|refine w_5 ?_|refine w_6 ?_|refine w_7 ?_|(refine w_8 (fun hb=>?_) (fun hb=>?_)<;>try simp only [hb])|refine w_9 ?_|simp (maxDischargeDepth:=12) only [viz,↓reduceIte,Nat.reduceEqDiff,reduceCtorEq,Int.reduceEq,Int.reduceNeg,Nat.reduceAdd,Nat.reduceLeDiff]))
end Go.Proofs.YtfllmhjjfapnmaaGreat

