/- What the document says of peers told. No statement of the seat is proved here. -/
import Derived.Test.YtfllmhjjfapnmaaGreatVZRefSay
import Derived.Test.YtfllmhjjfapnmaaGreatVZVE
namespace Go.Proofs.YtfllmhjjfapnmaaGreat
open Go Go.VI
set_option linter.unusedSimpArgs false
attribute [local irreducible] Ws Wp W C
set_option maxHeartbeats 4000000
section
variable {s s' : Mem} {D D' : Nat → Prop} {r : Raft} {out : List Msg} {d w vv pv ov : AV} {K : AV → Mem → Prop}
theorem StIn.cells (h : StIn s D r out d w vv pv ov) : isCell d = true ∧ isCell w = true ∧ isCell vv = true ∧ isCell pv = true ∧ isCell ov = true := ⟨h.d.cell, h.w.cell, h.vv.cell, h.pv.cell, h.ov.cell⟩
theorem StIn.res {a b z : Nat} {s2 : Mem} {x : Option Row} (hI : In D s) (h : StIn s2 (NewD D a b) r out d w vv pv ov) (hz : s.next ≤ z) (hza : z < a) (hb : b ≤ s2.next) : StIn (s2.put z x) (NewD D s.next (s2.put z x).next) r out d w vv pv ov :=
  (h.keep fun q hq => by rw [Mem.get_put, if_neg]; exact hq.elim (fun h => by have := hI q h; omega) (fun h => by omega)).mono (NewD.up (by omega) hb)
set_option maxRecDepth 100000 in
theorem rtell_c {p : Peer} (hf : s.floor ≤ s.next) (hI : In D s) (hS : StIn s D r out d w vv pv ov) (hn : Fit r.log.l.length) (ho : out.length < 100000)
    (hK : ∀ ov' s', StIn s' (NewD D s.next s'.next) r (out ++ [stamp r (tellM r p)]) d w vv pv ov' → Keep s.next s s' → K (stA r d w vv pv ov') s') : C tab 101 [stA r d w vv pv ov, .agg (peerC p)] s K := by
  obtain ⟨k1, k2, k3, k4, k5⟩ := hS.cells
  simp only [stA, peerC]
  refine C_enter (cf := cf101) rfl (Nat.le_of_ble_eq_true rfl) ?_
  simp only [cf101, oo, on, om, og, oc, ou]
  have f1 : (s.floor ≤ s.next + 1) = True := by simp; omega
  have f2 : (s.floor ≤ s.next + 1 + 1) = True := by simp; omega
  have f3 : (s.floor ≤ s.next + 1 + 1 + 1) = True := by simp; omega
  by_cases hc : p.2.1 ≤ r.log.base.index
  · have c1 : decide (p.2.1 ≤ r.log.base.index) = true := by simp [hc]
    have e1 : tellM r p = { kind := 5, to := p.1, index := r.log.base.index, prev := r.log.base.term, commit := r.commit, snap := r.log.base } := by unfold tellM; rw [if_pos hc]
    rw [e1] at hK
    (repeat' (with_reducible first|refine w_1 ?_|refine w_2 ?_|refine w_3 ?_|refine w_4 ?_|refine w_5 ?_|refine w_6 ?_|refine w_7 ?_|(refine w_8 (fun hb=>?_) (fun hb=>?_)<;>try simp only [hb])|refine w_9 ?_|simp (maxDischargeDepth:=12) only [viz,↓reduceIte,Nat.reduceEqDiff,reduceCtorEq,Int.reduceEq,Int.reduceNeg,Nat.reduceAdd,Nat.reduceLeDiff,k1,k2,k3,k4,k5,hf,f1,f2,f3,c1,bne_self_eq_false, Int.reduceBEq, Int.reduceBNe, Int.reduceLT, Int.reduceLE, Int.reduceGT, Int.reduceGE]))
    have hk0 := (((pushes s (stRow r d w vv pv ov)).then (pushes _ ⟨86, 3, [[.int .i64 p.1, .int .u64 p.2.1, .int .u64 p.2.2]]⟩)).then (pushes _ ⟨40, 15, [[.int .i64 0, .int .u64 0, .int .i64 0, .int .u64 0, .int .u64 0, .int .i64 0, .nilS, .nilS, .int .u64 0, .int .i64 0, .int .i64 0, .int .i64 0, .nilS, .nilS, .nilS]]⟩)).then (pushes _ ⟨25, 4, [[.int .u64 r.log.base.index, .int .u64 r.log.base.term, .int .i64 r.log.base.kind, d]]⟩)
    have hS0 := hS.keep (keep_old hI hk0)
    refine rsay_c (r := r) (d := d) (w := w) (vv := vv) (pv := pv) (ov := ov) (out := out) (D := D) (m := { kind := 5, to := p.1, index := r.log.base.index, prev := r.log.base.term, commit := r.commit, snap := r.log.base }) (hk0.ok hf) (hI.keep hk0) hS0 ⟨.nilS, d, rfl, ⟨[], Sl.nil _ _ _, EntsC.nil _ _⟩, hS0.d⟩ ho fun ov2 s2 hS2 hk2 => ?_
    obtain ⟨l1, l2, l3, l4, l5⟩ := hS2.cells
    have n2 := hk2.next
    have hk02 := hk0.then hk2
    simp only [next_push'] at n2
    have z2 : s2.get (s.next + 1 + 1) = some ⟨40, 15, [[.int .i64 0, .int .u64 0, .int .i64 0, .int .u64 0, .int .u64 0, .int .i64 0, .nilS, .nilS, .int .u64 0, .int .i64 0, .int .i64 0, .int .i64 0, .nilS, .nilS, .nilS]]⟩ := by
      rw [hk2.get _ (by simp only [next_push']; omega), Mem.get_push, if_neg (by simp only [next_push']; omega), Mem.get_push, if_pos (by simp only [next_push'])]
    have f5 : (s2.floor ≤ s.next + 1 + 1) = True := by rw [hk02.floor]; exact f2
    simp only [stA]
    (repeat' (with_reducible first|refine w_1 ?_|refine w_2 ?_|refine w_3 ?_|refine w_4 ?_|refine w_5 ?_|refine w_6 ?_|refine w_7 ?_|(refine w_8 (fun hb=>?_) (fun hb=>?_)<;>try simp only [hb])|refine w_9 ?_|simp (maxDischargeDepth:=12) only [viz,↓reduceIte,Nat.reduceEqDiff,reduceCtorEq,Int.reduceEq,Int.reduceNeg,Nat.reduceAdd,Nat.reduceLeDiff,z2,f5,l1,l2,l3,l4,l5,bne_self_eq_false, Int.reduceBEq, Int.reduceBNe, Int.reduceLT, Int.reduceLE, Int.reduceGT, Int.reduceGE]))
    exact hK ov2 _ (hS2.res hI (by omega) (by simp only [next_push']; omega) (Nat.le_refl _)) (hk02.trans (Keep.put (by omega) _))
  · have c1 : decide (p.2.1 ≤ r.log.base.index) = false := by simp; omega
    have e1 : tellM r p = { kind := 3, to := p.1, index := IntKind.u64.wrap (p.2.1 - 1), prev := (termO r.log.base.index r.log.base.term r.log.l (IntKind.u64.wrap (p.2.1 - 1))).1, entries := sliceE r.log.base.index r.log.l p.2.1 16, commit := r.commit } := by unfold tellM; rw [if_neg hc]
    rw [e1] at hK
    (repeat' (with_reducible first|refine w_1 ?_|refine w_2 ?_|refine w_3 ?_|refine w_4 ?_|refine w_5 ?_|refine w_6 ?_|refine w_7 ?_|(refine w_8 (fun hb=>?_) (fun hb=>?_)<;>try simp only [hb])|refine w_9 ?_|simp (maxDischargeDepth:=12) only [viz,↓reduceIte,Nat.reduceEqDiff,reduceCtorEq,Int.reduceEq,Int.reduceNeg,Nat.reduceAdd,Nat.reduceLeDiff,k1,k2,k3,k4,k5,hf,f1,f2,f3,c1,bne_self_eq_false, Int.reduceBEq, Int.reduceBNe, Int.reduceLT, Int.reduceLE, Int.reduceGT, Int.reduceGE]))
    have hk0 := (((pushes s (stRow r d w vv pv ov)).then (pushes _ ⟨86, 3, [[.int .i64 p.1, .int .u64 p.2.1, .int .u64 p.2.2]]⟩)).then (pushes _ ⟨40, 15, [[.int .i64 0, .int .u64 0, .int .i64 0, .int .u64 0, .int .u64 0, .int .i64 0, .nilS, .nilS, .int .u64 0, .int .i64 0, .int .i64 0, .int .i64 0, .nilS, .nilS, .nilS]]⟩)).then (pushes _ ⟨25, 4, [[.int .u64 r.log.base.index, .int .u64 r.log.base.term, .int .i64 r.log.base.kind, d]]⟩)
    have hS0 := hS.keep (keep_old hI hk0)
    refine rterm_c (l := r.log) (D := D) (hk0.ok hf) (hI.keep hk0) ⟨d, w, rfl, hS0.d, hS0.w⟩ hn fun s1 hk1 => ?_
    have hk01 := hk0.then hk1
    have n1 := hk1.next
    simp only [next_push'] at n1
    have a1 : s1.get s.next = some (stRow r d w vv pv ov) := by
      rw [hk1.get _ (by simp only [next_push']; omega)]
      simp only [Mem.get_push, next_push']
      repeat first | rw [if_neg (by omega)] | rw [if_pos rfl]
      simp only [if_true, stRow]
    have a2 : s1.get (s.next + 1) = some ⟨86, 3, [[.int .i64 p.1, .int .u64 p.2.1, .int .u64 p.2.2]]⟩ := by
      rw [hk1.get _ (by simp only [next_push']; omega), Mem.get_push, if_neg (by simp only [next_push']; omega), Mem.get_push, if_neg (by simp only [next_push']; omega), Mem.get_push, if_pos (by simp only [next_push'])]
    have a3 : s1.get (s.next + 1 + 1) = some ⟨40, 15, [[.int .i64 0, .int .u64 0, .int .i64 0, .int .u64 0, .int .u64 0, .int .i64 0, .nilS, .nilS, .int .u64 0, .int .i64 0, .int .i64 0, .int .i64 0, .nilS, .nilS, .nilS]]⟩ := by
      rw [hk1.get _ (by simp only [next_push']; omega), Mem.get_push, if_neg (by simp only [next_push']; omega), Mem.get_push, if_pos (by simp only [next_push'])]
    simp only [stRow] at a1
    (repeat' (with_reducible first|refine w_1 ?_|refine w_2 ?_|refine w_3 ?_|refine w_4 ?_|refine w_5 ?_|refine w_6 ?_|refine w_7 ?_|(refine w_8 (fun hb=>?_) (fun hb=>?_)<;>try simp only [hb])|refine w_9 ?_|simp (maxDischargeDepth:=12) only [viz,↓reduceIte,Nat.reduceEqDiff,reduceCtorEq,Int.reduceEq,Int.reduceNeg,Nat.reduceAdd,Nat.reduceLeDiff,a1,a2,bne_self_eq_false, Int.reduceBEq, Int.reduceBNe, Int.reduceLT, Int.reduceLE, Int.reduceGT, Int.reduceGE]))
    have hS1 := hS.keep (keep_old hI hk01)
    refine rsliceN_c (l := r.log) (D := D) (by show s1.next ≤ s1.next; omega) (fun q hq => by have := hI q hq; show q < s1.next; omega) ⟨d, w, rfl, hS1.d, hS1.w⟩ hn fun v' s2 hv2 hk2 => ?_
    have hk12 : Keep s1.next s1 (s2.at s1.floor) := ⟨hk2.next, rfl, hk2.get⟩
    have n2 : s1.next ≤ s2.next := hk2.next
    have hk02 := hk01.then hk12
    have b1 : s2.get s.next = _ := (hk12.get s.next (by omega)).trans a1
    have hcv := hv2.cell
    have hS2 := hS.keep (keep_old hI hk02)
    (repeat' (with_reducible first|refine w_1 ?_|refine w_2 ?_|refine w_3 ?_|refine w_4 ?_|refine w_5 ?_|refine w_6 ?_|refine w_7 ?_|(refine w_8 (fun hb=>?_) (fun hb=>?_)<;>try simp only [hb])|refine w_9 ?_|simp (maxDischargeDepth:=12) only [viz,↓reduceIte,Nat.reduceEqDiff,reduceCtorEq,Int.reduceEq,Int.reduceNeg,Nat.reduceAdd,Nat.reduceLeDiff,b1,hcv,cells_cell hcv,bne_self_eq_false, Int.reduceBEq, Int.reduceBNe, Int.reduceLT, Int.reduceLE, Int.reduceGT, Int.reduceGE]))
    have hI2 : In (NewD D s1.next s2.next) (s2.at s1.floor) := fun q hq => hq.elim (fun h => by have := hI q h; show q < s2.next; omega) fun h => h.2
    refine rsay_c (r := r) (d := d) (w := w) (vv := vv) (pv := pv) (ov := ov) (out := out) (D := NewD D s1.next s2.next) (m := { kind := 3, to := p.1, index := IntKind.u64.wrap (p.2.1 - 1), prev := (termO r.log.base.index r.log.base.term r.log.l (IntKind.u64.wrap (p.2.1 - 1))).1, entries := sliceE r.log.base.index r.log.l p.2.1 16, commit := r.commit }) (hk02.ok hf) hI2 (hS2.mono fun q hq => .inl hq) ⟨v', .nilS, rfl, hv2, Sl.nil _ _ _⟩ ho fun ov3 s3 hS3 hk3 => ?_
    obtain ⟨l1, l2, l3, l4, l5⟩ := hS3.cells
    have n3 : s2.next ≤ s3.next := hk3.next
    have hk03 := hk02.then hk3
    have z3 := (hk3.get (s.next + 1 + 1) (by show s.next + 1 + 1 < s2.next; omega)).trans ((hk12.get (s.next + 1 + 1) (by omega)).trans a3)
    have f5 : (s3.floor ≤ s.next + 1 + 1) = True := by rw [hk03.floor]; exact f2
    simp only [stA]
    (repeat' (with_reducible first|refine w_1 ?_|refine w_2 ?_|refine w_3 ?_|refine w_4 ?_|refine w_5 ?_|refine w_6 ?_|refine w_7 ?_|(refine w_8 (fun hb=>?_) (fun hb=>?_)<;>try simp only [hb])|refine w_9 ?_|simp (maxDischargeDepth:=12) only [viz,↓reduceIte,Nat.reduceEqDiff,reduceCtorEq,Int.reduceEq,Int.reduceNeg,Nat.reduceAdd,Nat.reduceLeDiff,z3,f5,l1,l2,l3,l4,l5,bne_self_eq_false, Int.reduceBEq, Int.reduceBNe, Int.reduceLT, Int.reduceLE, Int.reduceGT, Int.reduceGE]))
    refine hK ov3 _ (StIn.res (a := s1.next) (b := s3.next) hI (hS3.mono ?_) (by omega) (by omega) (Nat.le_refl _)) (hk03.trans (Keep.put (by omega) _))
    rintro q ((h | h) | h)
    · exact .inl h
    · exact .inr ⟨h.1, by omega⟩
    · exact .inr ⟨by have : s2.next ≤ q := h.1; omega, h.2⟩
def stZero : Row := ⟨40, 15, [[.int .i64 0, .int .u64 0, .int .i64 0, .int .u64 0, .int .u64 0, .int .i64 0, .nilS, .nilS, .int .u64 0, .int .i64 0, .int .i64 0, .int .i64 0, .nilS, .nilS, .nilS]]⟩
theorem rtellAll_c (hf : s.floor ≤ s.next) (hI : In D s) (hS : StIn s D r out d w vv pv ov) (hn : Fit r.log.l.length) (ho : out.length + r.peers.length < 100000)
    (hK : ∀ ov' s', StIn s' (NewD D s.next s'.next) r (out ++ tellAllM r r.peers) d w vv pv ov' → Keep s.next s s' → K (stA r d w vv pv ov') s') : C tab 44 [stA r d w vv pv ov] s K := by
  obtain ⟨k1, k2, k3, k4, k5⟩ := hS.cells
  simp only [stA]
  refine C_enter (cf := cf44) rfl (Nat.le_of_ble_eq_true rfl) ?_
  simp only [cf44, oo, on, om, og, oc, ou]
  have f1 : (s.floor ≤ s.next + 1) = True := by simp; omega
  (repeat' (with_reducible first|refine w_1 ?_|refine w_2 ?_|refine w_3 ?_|refine w_4 ?_|refine w_5 ?_|refine w_6 ?_|refine w_7 ?_|(refine w_8 (fun hb=>?_) (fun hb=>?_)<;>try simp only [hb])|refine w_9 ?_|simp (maxDischargeDepth:=12) only [viz,↓reduceIte,Nat.reduceEqDiff,reduceCtorEq,Int.reduceEq,Int.reduceNeg,Nat.reduceAdd,Nat.reduceLeDiff,k1,k2,k3,k4,k5,hf,f1,bne_self_eq_false, Int.reduceBEq, Int.reduceBNe, Int.reduceLT, Int.reduceLE, Int.reduceGT, Int.reduceGE]))
  have hk0 := (pushes s (stRow r d w vv pv ov)).then (pushes _ stZero)
  have a1 : ((s.push (stRow r d w vv pv ov)).push stZero).get s.next = some (stRow r d w vv pv ov) := by
    rw [Mem.get_push, if_neg (by simp only [next_push']; omega), Mem.get_push, if_pos rfl]
  have a2 : ((s.push (stRow r d w vv pv ov)).push stZero).get (s.next + 1) = some stZero := by
    rw [Mem.get_push, if_pos (by simp only [next_push'])]
  have hS0 := hS.keep (keep_old hI hk0)
  have hlen : lenA false pv = some r.peers.length := by rw [hS.pv.len, peersC_len]
  refine W_inv r.peers.length (fun i e s' => ∃ ov', s'.get s.next = some (stRow r d w vv pv ov') ∧ s'.get (s.next + 1) = some stZero ∧ StIn s' (NewD D (s.next + 2) s'.next) r (out ++ tellAllM r (r.peers.take i)) d w vv pv ov' ∧ Keep s.next s s' ∧ s.next + 2 ≤ s'.next ∧ e.get 3 = .int .i64 i) (by delta cf44l0 oo on om og oc ou; exact rfl) ?_ ?_
  · refine ⟨ov, a1, a2, ?_, hk0, Nat.le_refl _, by simp only [Env.get_set, ↓reduceIte]; rfl⟩
    have e1 : out ++ tellAllM r (r.peers.take 0) = out := by simp [tellAllM]
    rw [e1]; exact hS0.mono fun q hq => .inl hq
  · rintro i e s' hi hT ⟨ov', b1, b2, hS', hk, hnx, g3⟩
    have g1 := hT 1 rfl
    have g2 := hT 2 rfl
    simp only [Env.get_set, ↓reduceIte, Nat.reduceEqDiff, Env.start, Env.ofList] at g1 g2
    clear hT
    have hI' : In (NewD D (s.next + 2) s'.next) s' := fun q hq => hq.elim (fun h => by have := hI q h; omega) fun h => h.2
    obtain ⟨l1, l2, l3, l4, l5⟩ := hS'.cells
    simp only [stRow] at b1
    have f' := hk.ok hf
    by_cases hlt : i < r.peers.length
    · obtain ⟨⟨pn, px, pm⟩, hx⟩ := get_of hlt
      obtain ⟨p, hpp, P⟩ := hS'.pv.atk hI' (peersC_get hx)
      simp only [peerC] at P
      have hln := tellAllM_len r r.peers i
      have ld1 : ∀ M, Keep s'.next s' M → loadA M false 1 (adr p 0) = some (.int .i64 pn) := fun M hM => by
        rw [P.ldf M hM 0 false 1 (by simp)]; exact rfl
      by_cases hself : pn = r.node
      · have c1 : (pn != r.node) = false := by simp [hself]
        (repeat' (with_reducible first|refine w_1 ?_|refine w_2 ?_|refine w_3 ?_|refine w_4 ?_|refine w_5 ?_|refine w_6 ?_|refine w_7 ?_|(refine w_8 (fun hb=>?_) (fun hb=>?_)<;>try simp only [hb])|refine w_9 ?_|simp (maxDischargeDepth:=12) only [viz,↓reduceIte,Nat.reduceEqDiff,reduceCtorEq,Int.reduceEq,Int.reduceNeg,Nat.reduceAdd,Nat.reduceLeDiff,g1,g2,g3,b1,hlen,lt_true hlt,hpp,P.adr,ld1,c1]))
        refine ⟨hlt, ov', rfl, b2, ?_, hk, hnx, succ_av (by omega)⟩
        rw [tellAllM_next hx, c1]
        simpa using hS'
      · have c1 : (pn != r.node) = true := by simp [hself]
        (repeat' (with_reducible first|refine w_1 ?_|refine w_2 ?_|refine w_3 ?_|refine w_4 ?_|refine w_5 ?_|refine w_6 ?_|refine w_7 ?_|(refine w_8 (fun hb=>?_) (fun hb=>?_)<;>try simp only [hb])|refine w_9 ?_|simp (maxDischargeDepth:=12) only [viz,↓reduceIte,Nat.reduceEqDiff,reduceCtorEq,Int.reduceEq,Int.reduceNeg,Nat.reduceAdd,Nat.reduceLeDiff,g1,g2,g3,b1,hlen,lt_true hlt,hpp,P.adr,P.ld,ld1,c1]))
        refine rtell_c (r := r) (d := d) (w := w) (vv := vv) (pv := pv) (ov := ov') (p := (pn, px, pm)) (D := NewD D (s.next + 2) s'.next) f' hI' hS' hn (by rw [List.length_append]; omega) fun ov2 s2 hS2 hk2 => ?_
        have n2 := hk2.next
        have c2 := (hk2.get s.next (by omega)).trans b1
        have c3 := (hk2.get (s.next + 1) (by omega)).trans b2
        have hk02 := hk.then hk2
        have f2 : (s2.floor ≤ s.next) = True := by rw [hk02.floor]; simp; exact hf
        obtain ⟨l1, l2, l3, l4, l5⟩ := hS2.cells
        simp only [stA]
        (repeat' (with_reducible first|refine w_1 ?_|refine w_2 ?_|refine w_3 ?_|refine w_4 ?_|refine w_5 ?_|refine w_6 ?_|refine w_7 ?_|(refine w_8 (fun hb=>?_) (fun hb=>?_)<;>try simp only [hb])|refine w_9 ?_|simp (maxDischargeDepth:=12) only [viz,↓reduceIte,Nat.reduceEqDiff,reduceCtorEq,Int.reduceEq,Int.reduceNeg,Nat.reduceAdd,Nat.reduceLeDiff,g1,g2,g3,c2,f2,l1,l2,l3,l4,l5]))
        have hnd : ∀ q, NewD (NewD D (s.next + 2) s'.next) s'.next s2.next q → NewD D (s.next + 2) s2.next q := NewD.trans (Nat.le_refl _) n2 (by omega) (Nat.le_refl _)
        have hD2 : ∀ q, NewD D (s.next + 2) s2.next q → q ≠ s.next := fun q hq => hq.elim (fun h => by have := hI q h; omega) fun h => by omega
        refine ⟨hlt, ov2, rfl, c3, ?_, hk02.trans (Keep.put (Nat.le_refl _) _), by (try simp only [next_put']); omega, succ_av (by omega)⟩
        rw [tellAllM_next hx, c1, ← List.append_assoc]
        have := (hS2.mono hnd).keep (s' := s2.put s.next (some (stRow r d w vv pv ov2))) fun q hq => by rw [Mem.get_put, if_neg (hD2 q hq)]
        simpa [stRow] using this
    · have f5 : (s'.floor ≤ s.next + 1) = True := by rw [hk.floor]; exact f1
      have b2' := b2
      simp only [stZero] at b2'
      (repeat' (with_reducible first|refine w_1 ?_|refine w_2 ?_|refine w_3 ?_|refine w_4 ?_|refine w_5 ?_|refine w_6 ?_|refine w_7 ?_|(refine w_8 (fun hb=>?_) (fun hb=>?_)<;>try simp only [hb])|refine w_9 ?_|simp (maxDischargeDepth:=12) only [viz,↓reduceIte,Nat.reduceEqDiff,reduceCtorEq,Int.reduceEq,Int.reduceNeg,Nat.reduceAdd,Nat.reduceLeDiff,g1,g2,g3,b1,b2',f5,hlen,lt_false hlt,l1,l2,l3,l4,l5,bne_self_eq_false, Int.reduceBEq, Int.reduceBNe, Int.reduceLT, Int.reduceLE, Int.reduceGT, Int.reduceGE]))
      rw [List.take_of_length_le (by omega)] at hS'
      exact hK ov' _ (hS'.res hI (by omega) (by omega) (Nat.le_refl _)) (hk.trans (Keep.put (by omega) _))
end
end Go.Proofs.YtfllmhjjfapnmaaGreat

