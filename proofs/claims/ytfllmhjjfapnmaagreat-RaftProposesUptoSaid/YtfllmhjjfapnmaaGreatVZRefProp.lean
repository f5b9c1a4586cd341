/- ref14.Propose, walked. No statement of the seat is proved here. -/
import Derived.Test.YtfllmhjjfapnmaaGreatVZRB
import Derived.Test.YtfllmhjjfapnmaaGreatVZRefSettle
import Derived.Test.YtfllmhjjfapnmaaGreatVZVE
namespace Go.Proofs.YtfllmhjjfapnmaaGreat
open Go Go.VI
set_option linter.unusedSimpArgs false
attribute [local irreducible] Ws Wp W C
set_option maxHeartbeats 4000000
theorem up_nodup : ∀ (l : List Int) (a : Int), up a l = true → (∀ b ∈ l, a < b) ∧ l.Nodup := by
  intro l
  induction l with
  | nil => intro a _; exact ⟨(by intro b hb; cases hb), List.nodup_nil⟩
  | cons x l ih =>
    intro a h
    simp only [up, Bool.and_eq_true, decide_eq_true_eq] at h
    obtain ⟨h1, h2⟩ := ih x h.2
    refine ⟨fun b hb => ?_, List.nodup_cons.mpr ⟨fun hx => ?_, h2⟩⟩
    · rcases List.mem_cons.mp hb with rfl | hb
      · omega
      · have := h1 b hb; omega
    · have := h1 x hx; omega
theorem okV_nodup {vs : List Int} (h : okV vs = true) : vs.Nodup := by
  simp only [okV, Bool.and_eq_true] at h
  exact (up_nodup vs 0 h.1).2
theorem stOk_peers {r : Raft} (h : stOk r = true) (hr : r.role = 2) : r.peers.map (·.1) = vot r.log := by
  have hst := h
  simp only [stOk, hr, Bool.and_eq_true, Bool.or_eq_true, decide_eq_true_eq] at hst
  rcases hst.2 with (h | h) | h
  · omega
  · omega
  · have := h.2
    simp only [peersOk, Bool.and_eq_true, decide_eq_true_eq] at this
    exact this.2
theorem app_conf {l : Log} {t : Int} {bs : List UInt8} (h : (appOut l t 2 bs).2 ≠ 1) : okV (nodes bs) = true := by
  unfold appOut at h
  split at h
  · exact absurd rfl h
  · rename_i h1
    simp only [Bool.or_eq_true, decide_eq_true_eq, Bool.not_eq_true', not_or, Bool.not_eq_false] at h1
    have := h1.2
    simp only [entOk, newE, Bool.and_eq_true, Bool.or_eq_true, decide_true, Bool.not_true, Bool.false_eq_true, false_or] at this
    exact this.2
def stZ : AV := .agg [.int .i64 0, .int .u64 0, .int .i64 0, .int .u64 0, .int .u64 0, .int .i64 0, .nilS, .nilS, .int .u64 0, .int .i64 0, .int .i64 0, .int .i64 0, .nilS, .nilS, .nilS]
set_option maxRecDepth 100000 in
theorem rpropose_c {r : Raft} {k : Int} {bs : List UInt8} {D : Nat → Prop} {s : Mem} {v b : AV} {K : AV → Mem → Prop} (hf : s.floor ≤ s.next) (hI : In D s) (hv : RaftV s D v r) (hb : Byt s D b bs) (hP : PropIn r k bs) (hst : stOk r = true)
    (hbad : propC r k bs ≠ 0 → ∀ s', Keep s.next s s' → K (.tup [stZ, .int .u64 0, .int .i64 (propC r k bs)]) s')
    (hK : propC r k bs = 0 → ∀ d' w' vv' pv' ov' s', StIn s' (NewD D s.next s'.next) (propR r k bs) (propO r k bs) d' w' vv' pv' ov' → Keep s.next s s' → K (.tup [stA (propR r k bs) d' w' vv' pv' ov', .int .u64 (propI r k bs), .int .i64 0]) s') : C tab 28 [v, .int .i64 k, b] s K := by
  obtain ⟨d, w, vv, pv, rfl, hd, hl, hvv, hpv⟩ := raftC_row hv
  have hw := hP.w
  obtain ⟨hL, hcb, _, _, _⟩ := stOk_parts hst
  have hgood := logOk_good hL hw.log
  simp only [raftA]
  refine C_enter (cf := cf28) rfl (Nat.le_of_ble_eq_true rfl) ?_
  simp only [cf28, oo, on, om, og, oc, ou]
  have f0 : (s.floor ≤ s.next) = True := by simp; exact hf
  have f1 : (s.floor ≤ s.next + 1) = True := by simp; omega
  have f2 : (s.floor ≤ s.next + 1 + 1) = True := by simp; omega
  have kp : ∀ x y z, Keep s.next s (((s.push x).push y).push z) := fun x y z => ((pushes s x).then (pushes _ y)).then (pushes _ z)
  have P0 : ∀ c, c ≠ 0 → propC r k bs = c → ∀ s', Keep s.next s s' → K (.tup [stZ, .int .u64 0, .int .i64 c]) s' := fun c hc he s' h2 => by
    have := hbad (by rw [he]; exact hc) s' h2; rw [he] at this; exact this
  simp only [stZ] at P0
  by_cases hr : r.role = 2
  case neg =>
    have b1 : (r.role != 2) = true := by simp [hr]
    (repeat' (with_reducible first|refine w_1 ?_|refine w_2 ?_|refine w_3 ?_|refine w_4 ?_|refine w_5 ?_|refine w_6 ?_|refine w_7 ?_|(refine w_8 (fun hb=>?_) (fun hb=>?_)<;>try simp only [hb])|refine w_9 ?_|simp (maxDischargeDepth:=12) only [viz,↓reduceIte,Nat.reduceEqDiff,reduceCtorEq,Int.reduceEq,Int.reduceNeg,Nat.reduceAdd,Nat.reduceLeDiff,hd.cell,hl.cell,hvv.cell,hpv.cell,f0,f1,f2,b1,bne_self_eq_false, Int.reduceBEq, Int.reduceBNe, Int.reduceLT, Int.reduceLE, Int.reduceGT, Int.reduceGE]))
    exact P0 4 (by decide) (by simp [propC, hst, hr]) _ (by first | exact kp _ _ _ | exact (kp _ _ _).trans (Keep.put (by omega) _))
  have b1 : (r.role != 2) = false := by simp [hr]
  (repeat' (with_reducible first|refine w_1 ?_|refine w_2 ?_|refine w_3 ?_|refine w_4 ?_|refine w_5 ?_|refine w_6 ?_|refine w_7 ?_|(refine w_8 (fun hb=>?_) (fun hb=>?_)<;>try simp only [hb])|refine w_9 ?_|simp (maxDischargeDepth:=12) only [viz,↓reduceIte,Nat.reduceEqDiff,reduceCtorEq,Int.reduceEq,Int.reduceNeg,Nat.reduceAdd,Nat.reduceLeDiff,hd.cell,hl.cell,hvv.cell,hpv.cell,f0,f1,f2,b1,bne_self_eq_false, Int.reduceBEq, Int.reduceBNe, Int.reduceLT, Int.reduceLE, Int.reduceGT, Int.reduceGE]))
  generalize hM : Mem.push _ _ = M
  have nM : M.next = s.next + 3 := by rw [← hM]; simp only [next_push']
  have hkM : Keep s.next s M := by rw [← hM]; exact kp _ _ _
  have gM : M.get s.next = some ⟨32, 14, [[.int .i64 r.node, .int .u64 r.term, .int .i64 r.vote, .int .u64 r.log.base.index, .int .u64 r.log.base.term, .int .i64 r.log.base.kind, d, w, .int .u64 r.commit, .int .i64 r.role, .int .i64 r.leads, .int .i64 r.elapsed, vv, pv]]⟩ := by
    rw [← hM]; simp [Mem.get_push, next_push']; try omega
  have zM : M.get (s.next + 1) = some ⟨40, 15, [[.int .i64 0, .int .u64 0, .int .i64 0, .int .u64 0, .int .u64 0, .int .i64 0, .nilS, .nilS, .int .u64 0, .int .i64 0, .int .i64 0, .int .i64 0, .nilS, .nilS, .nilS]]⟩ := by
    rw [← hM]; simp [Mem.get_push, next_push']
  have yM : M.get (s.next + 1 + 1) = some ⟨40, 15, [[.int .i64 0, .int .u64 0, .int .i64 0, .int .u64 0, .int .u64 0, .int .i64 0, .nilS, .nilS, .int .u64 0, .int .i64 0, .int .i64 0, .int .i64 0, .nilS, .nilS, .nilS]]⟩ := by
    rw [← hM]; simp [Mem.get_push, next_push']
  clear hM
  refine rappendN_c (l := r.log) (D := D) (bs := bs) (hkM.ok hf) (hI.keep hkM) ⟨d, w, rfl, hd.keep (keep_old hI hkM), hl.keep (keep_old hI hkM)⟩ (Sl.keep hb (keep_old hI hkM)) hP.app fun v2 s2 hv2 hk2 => ?_
  have hk02 := hkM.then hk2
  have n2 := hk2.next
  have g2 := (hk2.get s.next (by omega)).trans gM
  have z2 := (hk2.get (s.next + 1) (by omega)).trans zM
  have y2 := (hk2.get (s.next + 1 + 1) (by omega)).trans yM
  have fz : (s2.floor ≤ s.next + 1) = True := by rw [hk02.floor]; exact f1
  have f22 : (s2.floor ≤ s2.next) = True := by simp; exact hk02.ok hf
  obtain ⟨d2, w2, rfl, hd2, hw2⟩ := hv2
  have cd2 := hd2.cell
  have cw2 := hw2.cell
  have q0 : (s.next = s2.next) = False := by simp; omega
  have q1 : (s.next + 1 = s2.next) = False := by simp; omega
  have q2 : (s.next + 1 + 1 = s2.next) = False := by simp; omega
  have hkx := fun x => hk02.then (pushes s2 x)
  have hpc : propC r k bs = if (appOut r.log r.term k bs).2 = 1 ∨ k = 0 then 1 else if k = 2 ∧ confC r bs ≠ 0 then confC r bs else (appOut r.log r.term k bs).2 := by simp [propC, hst, hr]
  by_cases ha1 : (appOut r.log r.term k bs).2 = 1
  · have a1 : ((appOut r.log r.term k bs).2 == 1) = true := by simp [ha1]
    (repeat' (with_reducible first|refine w_1 ?_|refine w_2 ?_|refine w_3 ?_|refine w_4 ?_|refine w_5 ?_|refine w_6 ?_|refine w_7 ?_|(refine w_8 (fun hb=>?_) (fun hb=>?_)<;>try simp only [hb])|refine w_9 ?_|simp (maxDischargeDepth:=12) only [viz,↓reduceIte,Nat.reduceEqDiff,reduceCtorEq,Int.reduceEq,Int.reduceNeg,Nat.reduceAdd,Nat.reduceLeDiff,g2,z2,y2,fz,f22,q0,q1,q2,cd2,cw2,a1,bne_self_eq_false, Int.reduceBEq, Int.reduceBNe, Int.reduceLT, Int.reduceLE, Int.reduceGT, Int.reduceGE]))
    exact P0 1 (by decide) (by rw [hpc, if_pos (.inl ha1)]) _ ((hkx _).trans (Keep.put (by omega) _))
  have a1 : ((appOut r.log r.term k bs).2 == 1) = false := by simp [ha1]
  by_cases hk0z : k = 0
  · have c1 : (k == 0) = true := by simp [hk0z]
    (repeat' (with_reducible first|refine w_1 ?_|refine w_2 ?_|refine w_3 ?_|refine w_4 ?_|refine w_5 ?_|refine w_6 ?_|refine w_7 ?_|(refine w_8 (fun hb=>?_) (fun hb=>?_)<;>try simp only [hb])|refine w_9 ?_|simp (maxDischargeDepth:=12) only [viz,↓reduceIte,Nat.reduceEqDiff,reduceCtorEq,Int.reduceEq,Int.reduceNeg,Nat.reduceAdd,Nat.reduceLeDiff,g2,z2,y2,fz,f22,q0,q1,q2,cd2,cw2,a1,c1,bne_self_eq_false, Int.reduceBEq, Int.reduceBNe, Int.reduceLT, Int.reduceLE, Int.reduceGT, Int.reduceGE]))
    exact P0 1 (by decide) (by rw [hpc, if_pos (.inr hk0z)]) _ ((hkx _).trans (Keep.put (by omega) _))
  have c1 : (k == 0) = false := by simp [hk0z]
  have hN0 : ∀ q, NewD D M.next s2.next q → q < s2.next ∧ q ≠ s.next ∧ q ≠ s.next + 1 ∧ q ≠ s.next + 1 + 1 := fun q hq => by
    rcases hq with h | h
    · have := hI q h; omega
    · omega
  by_cases hk2z : k = 2
  · have c2 : (k == 2) = true := by simp [hk2z]
    (repeat' (with_reducible first|refine w_1 ?_|refine w_2 ?_|refine w_3 ?_|refine w_4 ?_|refine w_5 ?_|refine w_6 ?_|refine w_7 ?_|(refine w_8 (fun hb=>?_) (fun hb=>?_)<;>try simp only [hb])|refine w_9 ?_|simp (maxDischargeDepth:=12) only [viz,↓reduceIte,Nat.reduceEqDiff,reduceCtorEq,Int.reduceEq,Int.reduceNeg,Nat.reduceAdd,Nat.reduceLeDiff,g2,z2,y2,fz,f22,q0,q1,q2,cd2,cw2,a1,c1,c2,bne_self_eq_false, Int.reduceBEq, Int.reduceBNe, Int.reduceLT, Int.reduceLE, Int.reduceGT, Int.reduceGE]))
    generalize hP' : Mem.push _ _ = P
    have nP : P.next = s2.next + 1 := by rw [← hP']; simp only [next_push']
    have hkP2 : Keep s2.next s2 P := by rw [← hP']; exact pushes _ _
    have tP : P.get s2.next = some ⟨28, 5, [[.int .u64 (appOut r.log r.term k bs).1.base.index, .int .u64 (appOut r.log r.term k bs).1.base.term, .int .i64 (appOut r.log r.term k bs).1.base.kind, d2, w2]]⟩ := by rw [← hP', Mem.get_push, if_pos rfl]
    clear hP'
    have hkP := hk02.then hkP2
    refine rterm_c (l := r.log) (D := D) (hkP.ok hf) (hI.keep hkP) ⟨d, w, rfl, hd.keep (keep_old hI hkP), hl.keep (keep_old hI hkP)⟩ hw.log.len fun s3 hk3 => ?_
    have hk03 := hkP.then hk3
    have n3 := hk3.next
    have o3 : ∀ q, q < s2.next → s3.get q = s2.get q := fun q hq => (hk3.get q (by omega)).trans (hkP2.get q hq)
    have g3 := (o3 s.next (by omega)).trans g2
    have z3 := (o3 (s.next + 1) (by omega)).trans z2
    have y3 := (o3 (s.next + 1 + 1) (by omega)).trans y2
    have t3 := (hk3.get s2.next (by omega)).trans tP
    have fz3 : (s3.floor ≤ s.next + 1) = True := by rw [hk03.floor]; exact f1
    by_cases ht : (termO r.log.base.index r.log.base.term r.log.l r.commit).1 = r.term
    case neg =>
      have x1 : ((termO r.log.base.index r.log.base.term r.log.l r.commit).1 != r.term) = true := by simp [ht]
      have e9 : confC r bs = 9 := by unfold confC; rw [if_pos (.inl ht)]
      (repeat' (with_reducible first|refine w_1 ?_|refine w_2 ?_|refine w_3 ?_|refine w_4 ?_|refine w_5 ?_|refine w_6 ?_|refine w_7 ?_|(refine w_8 (fun hb=>?_) (fun hb=>?_)<;>try simp only [hb])|refine w_9 ?_|simp (maxDischargeDepth:=12) only [viz,↓reduceIte,Nat.reduceEqDiff,reduceCtorEq,Int.reduceEq,Int.reduceNeg,Nat.reduceAdd,Nat.reduceLeDiff,g3,z3,y3,fz3,x1,bne_self_eq_false, Int.reduceBEq, Int.reduceBNe, Int.reduceLT, Int.reduceLE, Int.reduceGT, Int.reduceGE]))
      exact P0 9 (by decide) (by rw [hpc, if_neg (by simp [ha1, hk0z]), if_pos ⟨hk2z, by rw [e9]; decide⟩, e9]) _ (hk03.trans (Keep.put (by omega) _))
    have x1 : ((termO r.log.base.index r.log.base.term r.log.l r.commit).1 != r.term) = false := by simp [ht]
    (repeat' (with_reducible first|refine w_1 ?_|refine w_2 ?_|refine w_3 ?_|refine w_4 ?_|refine w_5 ?_|refine w_6 ?_|refine w_7 ?_|(refine w_8 (fun hb=>?_) (fun hb=>?_)<;>try simp only [hb])|refine w_9 ?_|simp (maxDischargeDepth:=12) only [viz,↓reduceIte,Nat.reduceEqDiff,reduceCtorEq,Int.reduceEq,Int.reduceNeg,Nat.reduceAdd,Nat.reduceLeDiff,g3,z3,y3,fz3,x1,bne_self_eq_false, Int.reduceBEq, Int.reduceBNe, Int.reduceLT, Int.reduceLE, Int.reduceGT, Int.reduceGE]))
    have hlen := hw.log.len
    have hl3 := hl.keep (keep_old hI hk03)
    have hI3 := hI.keep hk03
    have hlw : lenA false w = some r.log.l.length := hl.len
    refine W_inv r.log.l.length (fun i e s' => s' = s3 ∧ e.get 14 = .int .i64 i ∧ (r.log.l.take i).all (fun x => !pendE r.commit x) = true) (by delta cf28l0 oo on om og oc ou; exact rfl) ?_ ?_
    · exact ⟨rfl, by simp only [Env.get_set, ↓reduceIte]; rfl, by simp⟩
    · rintro i e s' hi hT ⟨rfl, g14, ha⟩
      have h2' := hT 2 rfl
      have h3' := hT 3 rfl
      have h6' := hT 6 rfl
      have h9' := hT 9 rfl
      have h10' := hT 10 rfl
      have h11' := hT 11 rfl
      simp only [Env.get_set, ↓reduceIte, Nat.reduceEqDiff, Env.start, Env.ofList] at h2' h3' h6' h9' h10' h11'
      clear hT
      by_cases hlt : i < r.log.l.length
      · obtain ⟨x, hx⟩ := get_of hlt
        obtain ⟨dx, p, hp, P', hdx⟩ := hl3.atk hI3 hx
        cases hpx : pendE r.commit x
        · have fin : (x.kind == 2) = false ∨ ((x.kind == 2) = true ∧ decide (x.index > r.commit) = false) := by
            unfold pendE at hpx
            by_cases h : x.kind = 2
            · right; simp [h] at hpx; exact ⟨by simp [h], by simp; omega⟩
            · left; simp [h]
          rcases fin with e1 | ⟨e1, e2⟩
          · (repeat' (with_reducible first|refine w_1 ?_|refine w_2 ?_|refine w_3 ?_|refine w_4 ?_|refine w_5 ?_|refine w_6 ?_|refine w_7 ?_|(refine w_8 (fun hb=>?_) (fun hb=>?_)<;>try simp only [hb])|refine w_9 ?_|simp (maxDischargeDepth:=12) only [viz,↓reduceIte,Nat.reduceEqDiff,reduceCtorEq,Int.reduceEq,Int.reduceNeg,Nat.reduceAdd,Nat.reduceLeDiff,h3',g14,g3,hlw,lt_true hlt,hp,P'.adr,P'.ldf,P'.ld,Nat.zero_le,e1,bne_self_eq_false, Int.reduceBEq, Int.reduceBNe, Int.reduceLT, Int.reduceLE, Int.reduceGT, Int.reduceGE]))
            exact ⟨hlt, succ_av (by unfold Fit at hlen; omega), all_next ha hx (by rw [hpx]; rfl)⟩
          · (repeat' (with_reducible first|refine w_1 ?_|refine w_2 ?_|refine w_3 ?_|refine w_4 ?_|refine w_5 ?_|refine w_6 ?_|refine w_7 ?_|(refine w_8 (fun hb=>?_) (fun hb=>?_)<;>try simp only [hb])|refine w_9 ?_|simp (maxDischargeDepth:=12) only [viz,↓reduceIte,Nat.reduceEqDiff,reduceCtorEq,Int.reduceEq,Int.reduceNeg,Nat.reduceAdd,Nat.reduceLeDiff,h3',g14,g3,hlw,lt_true hlt,hp,P'.adr,P'.ldf,P'.ld,Nat.zero_le,e1,e2,bne_self_eq_false, Int.reduceBEq, Int.reduceBNe, Int.reduceLT, Int.reduceLE, Int.reduceGT, Int.reduceGE]))
            exact ⟨hlt, succ_av (by unfold Fit at hlen; omega), all_next ha hx (by rw [hpx]; rfl)⟩
        · have e1 : (x.kind == 2) = true := by unfold pendE at hpx; simp only [Bool.and_eq_true, decide_eq_true_eq] at hpx; simp [hpx.1]
          have e2 : decide (x.index > r.commit) = true := by unfold pendE at hpx; simp only [Bool.and_eq_true, decide_eq_true_eq] at hpx; simp; omega
          have e9 : confC r bs = 9 := by unfold confC; rw [if_pos (.inr (List.any_eq_true.mpr ⟨x, List.mem_of_getElem? hx, hpx⟩))]
          (repeat' (with_reducible first|refine w_1 ?_|refine w_2 ?_|refine w_3 ?_|refine w_4 ?_|refine w_5 ?_|refine w_6 ?_|refine w_7 ?_|(refine w_8 (fun hb=>?_) (fun hb=>?_)<;>try simp only [hb])|refine w_9 ?_|simp (maxDischargeDepth:=12) only [viz,↓reduceIte,Nat.reduceEqDiff,reduceCtorEq,Int.reduceEq,Int.reduceNeg,Nat.reduceAdd,Nat.reduceLeDiff,h3',h6',h9',g14,g3,y3,z3,fz3,hlw,lt_true hlt,hp,P'.adr,P'.ldf,P'.ld,Nat.zero_le,e1,e2,bne_self_eq_false, Int.reduceBEq, Int.reduceBNe, Int.reduceLT, Int.reduceLE, Int.reduceGT, Int.reduceGE]))
          exact P0 9 (by decide) (by rw [hpc, if_neg (by simp [ha1, hk0z]), if_pos ⟨hk2z, by rw [e9]; decide⟩, e9]) _ (hk03.trans (Keep.put (by omega) _))
      · rw [List.take_of_length_le (by omega)] at ha
        have hnp : r.log.l.any (pendE r.commit) = false := by
          rw [← Bool.not_eq_true, List.any_eq_true]
          rintro ⟨x, hx, hp⟩
          rw [List.all_eq_true] at ha
          have := ha x hx
          rw [hp] at this; cases this
        (repeat' (with_reducible first|refine w_1 ?_|refine w_2 ?_|refine w_3 ?_|refine w_4 ?_|refine w_5 ?_|refine w_6 ?_|refine w_7 ?_|(refine w_8 (fun hb=>?_) (fun hb=>?_)<;>try simp only [hb])|refine w_9 ?_|simp (maxDischargeDepth:=12) only [viz,↓reduceIte,Nat.reduceEqDiff,reduceCtorEq,Int.reduceEq,Int.reduceNeg,Nat.reduceAdd,Nat.reduceLeDiff,h2',h3',g14,g3,hlw,lt_false hlt,bne_self_eq_false, Int.reduceBEq, Int.reduceBNe, Int.reduceLT, Int.reduceLE, Int.reduceGT, Int.reduceGE]))
        refine rnodes_c (bs := bs) (D := D) (Nat.le_refl _) (Sl.keep hb fun q hq => (keep_old hI hk03 q hq)) (fun q hq => hI3 q hq) hP.bs fun v5 s5 ho5 hk5 => ?_
        have hk35 : Keep s'.next s' (s5.at s'.floor) := Keep.of_at hk5
        have hk05 := hk03.then hk35
        have n5 : s'.next ≤ s5.next := hk5.next
        have g5 : s5.get s.next = _ := (hk35.get s.next (by omega)).trans g3
        (repeat' (with_reducible first|refine w_1 ?_|refine w_2 ?_|refine w_3 ?_|refine w_4 ?_|refine w_5 ?_|refine w_6 ?_|refine w_7 ?_|(refine w_8 (fun hb=>?_) (fun hb=>?_)<;>try simp only [hb])|refine w_9 ?_|simp (maxDischargeDepth:=12) only [viz,↓reduceIte,Nat.reduceEqDiff,reduceCtorEq,Int.reduceEq,Int.reduceNeg,Nat.reduceAdd,Nat.reduceLeDiff,g5,bne_self_eq_false, Int.reduceBEq, Int.reduceBNe, Int.reduceLT, Int.reduceLE, Int.reduceGT, Int.reduceGE]))
        refine rvoters_c (l := r.log) (D := D) (hk05.ok hf) (hI.keep hk05) ⟨d, w, rfl, hd.keep (keep_old hI hk05), hl.keep (keep_old hI hk05)⟩ hw.log fun v6 S ho6 hk6 => ?_
        have n6 : s5.next ≤ S.next := hk6.next
        have hkS := hk05.then hk6
        (repeat' (with_reducible first|refine w_1 ?_|refine w_2 ?_|refine w_3 ?_|refine w_4 ?_|refine w_5 ?_|refine w_6 ?_|refine w_7 ?_|(refine w_8 (fun hb=>?_) (fun hb=>?_)<;>try simp only [hb])|refine w_9 ?_|simp (maxDischargeDepth:=12) only [viz,↓reduceIte,Nat.reduceEqDiff,reduceCtorEq,Int.reduceEq,Int.reduceNeg,Nat.reduceAdd,Nat.reduceLeDiff]))
        have hs5 : Sl S (fun q => s'.next ≤ q ∧ q < s5.next) v5 1 (intsA .i64 (nodes bs)) := (ho5.sl (intsA_sz _ _) fun q n h => ho5.row q 0 n 1 h).keep fun q hq => hk6.get q hq.2
        have hs6 : Sl S (fun q => s5.next ≤ q ∧ q < S.next) v6 1 (intsA .i64 (vot r.log)) := ho6.sl (intsA_sz _ _) fun q n h => ho6.row q 0 n 1 h
        refine differ_c hs5 hs6 (by rw [nodes_len]; exact hP.bs) (vot_fit hw.log) ?_
        have oS : ∀ q, q < s2.next → S.get q = s2.get q := fun q hq => (hk6.get q (by show q < s5.next; omega)).trans ((hk35.get q (by omega)).trans (o3 q hq))
        have gS := (oS s.next (by omega)).trans g2
        have zS := (oS (s.next + 1) (by omega)).trans z2
        have yS := (oS (s.next + 1 + 1) (by omega)).trans y2
        have tS := (hk6.get s2.next (by show s2.next < s5.next; omega)).trans ((hk35.get s2.next (by omega)).trans t3)
        have fzS : (S.floor ≤ s.next + 1) = True := by rw [hkS.floor]; exact f1
        have hok1 : okV (nodes bs) = true := app_conf (by rw [← hk2z]; exact ha1)
        have hok2 := logOk_vot hL
        have hcf : confC r bs = if ((nodes bs).length : Int) + (vot r.log).length - 2 * (Q.cnt (nodes bs) (vot r.log) : Int) ≤ 1 then 0 else 1 := by
          unfold confC
          rw [if_neg (by rw [hnp]; simp [ht])]
          simp [safeV, hok1, hok2]
        by_cases hdf : ((nodes bs).length : Int) + (vot r.log).length - 2 * (Q.cnt (nodes bs) (vot r.log) : Int) ≤ 1
        case neg =>
          have x5 : decide (((nodes bs).length : Int) + (vot r.log).length - 2 * (Q.cnt (nodes bs) (vot r.log) : Int) > 1) = true := by simp; omega
          rw [if_neg hdf] at hcf
          (repeat' (with_reducible first|refine w_1 ?_|refine w_2 ?_|refine w_3 ?_|refine w_4 ?_|refine w_5 ?_|refine w_6 ?_|refine w_7 ?_|(refine w_8 (fun hb=>?_) (fun hb=>?_)<;>try simp only [hb])|refine w_9 ?_|simp (maxDischargeDepth:=12) only [viz,↓reduceIte,Nat.reduceEqDiff,reduceCtorEq,Int.reduceEq,Int.reduceNeg,Nat.reduceAdd,Nat.reduceLeDiff,h6',h9',h11',zS,yS,fzS,x5,bne_self_eq_false, Int.reduceBEq, Int.reduceBNe, Int.reduceLT, Int.reduceLE, Int.reduceGT, Int.reduceGE]))
          exact P0 1 (by decide) (by rw [hpc, if_neg (by simp [ha1, hk0z]), if_pos ⟨hk2z, by rw [hcf]; decide⟩, hcf]) _ (hkS.trans (Keep.put (by omega) _))
        have x5 : decide (((nodes bs).length : Int) + (vot r.log).length - 2 * (Q.cnt (nodes bs) (vot r.log) : Int) > 1) = false := by simp; omega
        rw [if_pos hdf] at hcf
        by_cases ha0 : (appOut r.log r.term k bs).2 = 0
        case neg =>
          have x2 : ((appOut r.log r.term k bs).2 != 0) = true := by simp [ha0]
          (repeat' (with_reducible first|refine w_1 ?_|refine w_2 ?_|refine w_3 ?_|refine w_4 ?_|refine w_5 ?_|refine w_6 ?_|refine w_7 ?_|(refine w_8 (fun hb=>?_) (fun hb=>?_)<;>try simp only [hb])|refine w_9 ?_|simp (maxDischargeDepth:=12) only [viz,↓reduceIte,Nat.reduceEqDiff,reduceCtorEq,Int.reduceEq,Int.reduceNeg,Nat.reduceAdd,Nat.reduceLeDiff,h6',h9',h11',zS,yS,fzS,x5,x2,bne_self_eq_false, Int.reduceBEq, Int.reduceBNe, Int.reduceLT, Int.reduceLE, Int.reduceGT, Int.reduceGE]))
          exact P0 _ ha0 (by rw [hpc, if_neg (by simp [ha1, hk0z]), if_neg (by simp [hcf])]) _ (hkS.trans (Keep.put (by omega) _))
        have x2 : ((appOut r.log r.term k bs).2 != 0) = false := by simp [ha0]
        have e0 : propC r k bs = 0 := by rw [hpc, if_neg (by simp [ha1, hk0z]), if_neg (by simp [hcf])]; exact ha0
        obtain ⟨b1', b2', b3', b4', b5'⟩ := appOut_ok hP.app ha0
        replace hK := hK e0
        have fS : (S.floor ≤ S.next) = True := by simp; exact hkS.ok hf
        have fS1 : (S.floor ≤ s.next + 1) = True := by rw [hkS.floor]; exact f1
        have u0 : (s.next = S.next) = False := by simp; omega
        have u1 : (s2.next = S.next) = False := by simp; omega
        have u2 : (s.next + 1 = S.next) = False := by simp; omega
        (repeat' (with_reducible first|refine w_1 ?_|refine w_2 ?_|refine w_3 ?_|refine w_4 ?_|refine w_5 ?_|refine w_6 ?_|refine w_7 ?_|(refine w_8 (fun hb=>?_) (fun hb=>?_)<;>try simp only [hb])|refine w_9 ?_|simp (maxDischargeDepth:=12) only [viz,↓reduceIte,Nat.reduceEqDiff,reduceCtorEq,Int.reduceEq,Int.reduceNeg,Nat.reduceAdd,Nat.reduceLeDiff,h3',h6',h9',h10',h11',gS,tS,x5,x2,fS,u0,u1,cd2,cw2,hd.cell,hl.cell,hvv.cell,hpv.cell,bne_self_eq_false, Int.reduceBEq, Int.reduceBNe, Int.reduceLT, Int.reduceLE, Int.reduceGT, Int.reduceGE]))
        have hk5 := pushes S (stRow (propL r k bs) d2 w2 vv pv .nilS)
        have o5 : ∀ q, q < s2.next → (S.push (stRow (propL r k bs) d2 w2 vv pv .nilS)).get q = s2.get q := fun q hq => (hk5.get q (by omega)).trans (oS q hq)
        have hkS5 := hkS.then hk5
        have hSt : StIn (S.push (stRow (propL r k bs) d2 w2 vv pv .nilS)) (NewD D M.next s2.next) (propL r k bs) [] d2 w2 vv pv .nilS :=
          ⟨hd2.keep fun q hq => o5 q (hN0 q hq).1, hw2.keep fun q hq => o5 q (hN0 q hq).1, (hvv.keep (keep_old hI hkS5)).mono fun q hq => .inl hq, (hpv.keep (keep_old hI hkS5)).mono fun q hq => .inl hq, [], Sl.nil _ _ _, MsgsC.nil _ _⟩
        refine rsettle_c (r := propL r k bs) (d := d2) (w := w2) (vv := vv) (pv := pv) (ov := .nilS) (out := []) (D := NewD D M.next s2.next) (hkS5.ok hf) (fun q hq => by have := (hN0 q hq).1; simp only [next_push']; omega) hSt b4' b5' hw.peer hw.peers (by show (r.peers.map (·.1)).Nodup; rw [stOk_peers hst hr]; exact okV_nodup (logOk_vot hL)) (by show 0 < _; omega) fun pv6 ov6 s6 hS6 hk6 => ?_
        rw [List.nil_append] at hS6
        have n6 := hk6.next
        simp only [next_push'] at n6
        have hk06 := hkS5.then hk6
        have c6 : s6.get S.next = some (stRow (propL r k bs) d2 w2 vv pv .nilS) := by rw [hk6.get _ (by simp only [next_push']; omega), Mem.get_push, if_pos rfl]; rfl
        have t6 := (hk6.get s2.next (by simp only [next_push']; omega)).trans ((hk5.get s2.next (by omega)).trans tS)
        have z6 := (hk6.get (s.next + 1) (by simp only [next_push']; omega)).trans ((hk5.get (s.next + 1) (by omega)).trans zS)
        have o6 : ∀ q, q < s2.next → s6.get q = s2.get q := fun q hq => (hk6.get q (by simp only [next_push']; omega)).trans (o5 q hq)
        have fl6 : (s6.floor ≤ S.next) = True := by rw [hk06.floor]; simp; omega
        obtain ⟨l1, l2, l3, l4, l5⟩ := hS6.cells
        simp only [stRow] at c6
        simp only [stA]
        have u3 : (S.next = s2.next) = False := by simp; omega
        (repeat' (with_reducible first|refine w_1 ?_|refine w_2 ?_|refine w_3 ?_|refine w_4 ?_|refine w_5 ?_|refine w_6 ?_|refine w_7 ?_|(refine w_8 (fun hb=>?_) (fun hb=>?_)<;>try simp only [hb])|refine w_9 ?_|simp (maxDischargeDepth:=12) only [viz,↓reduceIte,Nat.reduceEqDiff,reduceCtorEq,Int.reduceEq,Int.reduceNeg,Nat.reduceAdd,Nat.reduceLeDiff,h3',h6',h9',h10',h11',c6,t6,fl6,l1,l2,l3,l4,l5,u1,u3,bne_self_eq_false, Int.reduceBEq, Int.reduceBNe, Int.reduceLT, Int.reduceLE, Int.reduceGT, Int.reduceGE]))
        generalize hR : Mem.put _ _ _ = R
        have nR : R.next = s6.next := by rw [← hR]; rfl
        have oR : ∀ q, q ≠ S.next → R.get q = s6.get q := fun q hq => by rw [← hR, Mem.get_put, if_neg hq]
        have cR : R.get S.next = some ⟨40, 15, [[.int .i64 (propR r k bs).node, .int .u64 (propR r k bs).term, .int .i64 (propR r k bs).vote, .int .u64 (propR r k bs).log.base.index, .int .u64 (propR r k bs).log.base.term, .int .i64 (propR r k bs).log.base.kind, d2, w2, .int .u64 (propR r k bs).commit, .int .i64 (propR r k bs).role, .int .i64 (propR r k bs).leads, .int .i64 (propR r k bs).elapsed, vv, pv6, ov6]]⟩ := by rw [← hR, Mem.get_put, if_pos rfl]; rfl
        have flR : R.floor = s.floor := by rw [← hR]; exact hk06.floor
        clear hR
        refine rlast_c (l := (appOut r.log r.term k bs).1) (D := NewD D M.next s2.next) (by rw [flR, nR]; omega) (fun q hq => by have := (hN0 q hq).1; omega) ⟨d2, w2, rfl, hd2.keep fun q hq => ?_, hw2.keep fun q hq => ?_⟩ b5' fun s7 hk7 => ?_
        · exact (oR q (by have := (hN0 q hq).1; omega)).trans (o6 q (hN0 q hq).1)
        · exact (oR q (by have := (hN0 q hq).1; omega)).trans (o6 q (hN0 q hq).1)
        have n7 := hk7.next
        have c7 := (hk7.get S.next (by omega)).trans cR
        have z7 := (hk7.get (s.next + 1) (by omega)).trans ((oR (s.next + 1) (by omega)).trans z6)
        have f7 : (s7.floor ≤ s.next + 1) = True := by rw [hk7.floor, flR]; exact f1
        (repeat' (with_reducible first|refine w_1 ?_|refine w_2 ?_|refine w_3 ?_|refine w_4 ?_|refine w_5 ?_|refine w_6 ?_|refine w_7 ?_|(refine w_8 (fun hb=>?_) (fun hb=>?_)<;>try simp only [hb])|refine w_9 ?_|simp (maxDischargeDepth:=12) only [viz,↓reduceIte,Nat.reduceEqDiff,reduceCtorEq,Int.reduceEq,Int.reduceNeg,Nat.reduceAdd,Nat.reduceLeDiff,h3',h6',h9',h10',h11',c7,z7,f7,l1,l2,l3,l4,l5,bne_self_eq_false, Int.reduceBEq, Int.reduceBNe, Int.reduceLT, Int.reduceLE, Int.reduceGT, Int.reduceGE]))
        generalize hQ : Mem.put _ _ _ = Q
        have nQ : Q.next = s7.next := by rw [← hQ]; rfl
        have oQ : ∀ q, q ≠ s.next + 1 → q ≠ S.next → q < s6.next → Q.get q = s6.get q := fun q h1 h2 h3 => by
          rw [← hQ, Mem.get_put, if_neg h1, hk7.get q (by omega), oR q h2]
        have hQk : Keep s.next s Q := ⟨by omega, by rw [← hQ]; show s7.floor = s.floor; rw [hk7.floor, flR], fun q hq => by rw [oQ q (by omega) (by omega) (by omega)]; exact hk06.get q hq⟩
        have hX : ∀ q, NewD (NewD D M.next s2.next) (S.next + 1) s6.next q → Q.get q = s6.get q := fun q hq => by
          rcases hq with h | h
          · have := hN0 q h; exact oQ q (by omega) (by omega) (by omega)
          · exact oQ q (by omega) (by omega) (by omega)
        have hX2 : ∀ q, NewD (NewD D M.next s2.next) (S.next + 1) s6.next q → NewD D s.next Q.next q := fun q hq => by
          rcases hq with (h | h) | h
          · exact .inl h
          · exact .inr ⟨by omega, by omega⟩
          · exact .inr ⟨by omega, by omega⟩
        have hS6' : StIn s6 (NewD (NewD D M.next s2.next) (S.next + 1) s6.next) (propR r k bs) (propO r k bs) d2 w2 vv pv6 ov6 := hS6
        exact hK d2 w2 vv pv6 ov6 Q ((hS6'.keep hX).mono hX2) hQk
  · have c2 : (k == 2) = false := by simp [hk2z]
    by_cases ha0 : (appOut r.log r.term k bs).2 = 0
    case neg =>
      have x2 : ((appOut r.log r.term k bs).2 != 0) = true := by simp [ha0]
      (repeat' (with_reducible first|refine w_1 ?_|refine w_2 ?_|refine w_3 ?_|refine w_4 ?_|refine w_5 ?_|refine w_6 ?_|refine w_7 ?_|(refine w_8 (fun hb=>?_) (fun hb=>?_)<;>try simp only [hb])|refine w_9 ?_|simp (maxDischargeDepth:=12) only [viz,↓reduceIte,Nat.reduceEqDiff,reduceCtorEq,Int.reduceEq,Int.reduceNeg,Nat.reduceAdd,Nat.reduceLeDiff,g2,z2,y2,fz,f22,q0,q1,q2,cd2,cw2,a1,c1,c2,x2,bne_self_eq_false, Int.reduceBEq, Int.reduceBNe, Int.reduceLT, Int.reduceLE, Int.reduceGT, Int.reduceGE]))
      exact P0 _ ha0 (by rw [hpc, if_neg (by simp [ha1, hk0z]), if_neg (by simp [hk2z])]) _ ((hkx _).trans (Keep.put (by omega) _))
    have x2 : ((appOut r.log r.term k bs).2 != 0) = false := by simp [ha0]
    have e0 : propC r k bs = 0 := by rw [hpc, if_neg (by simp [ha1, hk0z]), if_neg (by simp [hk2z])]; exact ha0
    have f23 : (s2.floor ≤ s2.next + 1) = True := by simp; have := hk02.ok hf; omega
    (repeat' (with_reducible first|refine w_1 ?_|refine w_2 ?_|refine w_3 ?_|refine w_4 ?_|refine w_5 ?_|refine w_6 ?_|refine w_7 ?_|(refine w_8 (fun hb=>?_) (fun hb=>?_)<;>try simp only [hb])|refine w_9 ?_|simp (maxDischargeDepth:=12) only [viz,↓reduceIte,Nat.reduceEqDiff,reduceCtorEq,Int.reduceEq,Int.reduceNeg,Nat.reduceAdd,Nat.reduceLeDiff,g2,z2,y2,fz,f22,f23,q0,q1,q2,cd2,cw2,a1,c1,c2,x2,hd.cell,hl.cell,hvv.cell,hpv.cell,bne_self_eq_false, Int.reduceBEq, Int.reduceBNe, Int.reduceLT, Int.reduceLE, Int.reduceGT, Int.reduceGE]))
    generalize hSe : Mem.push s2 _ = S
    have nS : S.next = s2.next + 1 := by rw [← hSe]; rfl
    have hkP2 : Keep s2.next s2 S := by rw [← hSe]; exact pushes _ _
    have tS : S.get s2.next = some ⟨28, 5, [[.int .u64 (appOut r.log r.term k bs).1.base.index, .int .u64 (appOut r.log r.term k bs).1.base.term, .int .i64 (appOut r.log r.term k bs).1.base.kind, d2, w2]]⟩ := by rw [← hSe, Mem.get_push, if_pos rfl]
    clear hSe
    rw [← nS]
    have hkS := hk02.then hkP2
    have oS : ∀ q, q < s2.next → S.get q = s2.get q := fun q hq => hkP2.get q hq
    have zS := (oS (s.next + 1) (by omega)).trans z2
    obtain ⟨b1', b2', b3', b4', b5'⟩ := appOut_ok hP.app ha0
    replace hK := hK e0
    have fS : (S.floor ≤ S.next) = True := by simp; exact hkS.ok hf
    have fS1 : (S.floor ≤ s.next + 1) = True := by rw [hkS.floor]; exact f1
    have u0 : (s.next = S.next) = False := by simp; omega
    have u1 : (s2.next = S.next) = False := by simp; omega
    have u2 : (s.next + 1 = S.next) = False := by simp; omega
    have hk5 := pushes S (stRow (propL r k bs) d2 w2 vv pv .nilS)
    have o5 : ∀ q, q < s2.next → (S.push (stRow (propL r k bs) d2 w2 vv pv .nilS)).get q = s2.get q := fun q hq => (hk5.get q (by omega)).trans (oS q hq)
    have hkS5 := hkS.then hk5
    have hSt : StIn (S.push (stRow (propL r k bs) d2 w2 vv pv .nilS)) (NewD D M.next s2.next) (propL r k bs) [] d2 w2 vv pv .nilS :=
      ⟨hd2.keep fun q hq => o5 q (hN0 q hq).1, hw2.keep fun q hq => o5 q (hN0 q hq).1, (hvv.keep (keep_old hI hkS5)).mono fun q hq => .inl hq, (hpv.keep (keep_old hI hkS5)).mono fun q hq => .inl hq, [], Sl.nil _ _ _, MsgsC.nil _ _⟩
    refine rsettle_c (r := propL r k bs) (d := d2) (w := w2) (vv := vv) (pv := pv) (ov := .nilS) (out := []) (D := NewD D M.next s2.next) (hkS5.ok hf) (fun q hq => by have := (hN0 q hq).1; simp only [next_push']; omega) hSt b4' b5' hw.peer hw.peers (by show (r.peers.map (·.1)).Nodup; rw [stOk_peers hst hr]; exact okV_nodup (logOk_vot hL)) (by show 0 < _; omega) fun pv6 ov6 s6 hS6 hk6 => ?_
    rw [List.nil_append] at hS6
    have n6 := hk6.next
    simp only [next_push'] at n6
    have hk06 := hkS5.then hk6
    have c6 : s6.get S.next = some (stRow (propL r k bs) d2 w2 vv pv .nilS) := by rw [hk6.get _ (by simp only [next_push']; omega), Mem.get_push, if_pos rfl]; rfl
    have t6 := (hk6.get s2.next (by simp only [next_push']; omega)).trans ((hk5.get s2.next (by omega)).trans tS)
    have z6 := (hk6.get (s.next + 1) (by simp only [next_push']; omega)).trans ((hk5.get (s.next + 1) (by omega)).trans zS)
    have o6 : ∀ q, q < s2.next → s6.get q = s2.get q := fun q hq => (hk6.get q (by simp only [next_push']; omega)).trans (o5 q hq)
    have fl6 : (s6.floor ≤ S.next) = True := by rw [hk06.floor]; simp; omega
    obtain ⟨l1, l2, l3, l4, l5⟩ := hS6.cells
    simp only [stRow] at c6
    simp only [stA]
    have u3 : (S.next = s2.next) = False := by simp; omega
    (repeat' (with_reducible first|refine w_1 ?_|refine w_2 ?_|refine w_3 ?_|refine w_4 ?_|refine w_5 ?_|refine w_6 ?_|refine w_7 ?_|(refine w_8 (fun hb=>?_) (fun hb=>?_)<;>try simp only [hb])|refine w_9 ?_|simp (maxDischargeDepth:=12) only [viz,↓reduceIte,Nat.reduceEqDiff,reduceCtorEq,Int.reduceEq,Int.reduceNeg,Nat.reduceAdd,Nat.reduceLeDiff,c6,t6,fl6,l1,l2,l3,l4,l5,u1,u3,bne_self_eq_false, Int.reduceBEq, Int.reduceBNe, Int.reduceLT, Int.reduceLE, Int.reduceGT, Int.reduceGE]))
    generalize hR : Mem.put _ _ _ = R
    have nR : R.next = s6.next := by rw [← hR]; rfl
    have oR : ∀ q, q ≠ S.next → R.get q = s6.get q := fun q hq => by rw [← hR, Mem.get_put, if_neg hq]
    have cR : R.get S.next = some ⟨40, 15, [[.int .i64 (propR r k bs).node, .int .u64 (propR r k bs).term, .int .i64 (propR r k bs).vote, .int .u64 (propR r k bs).log.base.index, .int .u64 (propR r k bs).log.base.term, .int .i64 (propR r k bs).log.base.kind, d2, w2, .int .u64 (propR r k bs).commit, .int .i64 (propR r k bs).role, .int .i64 (propR r k bs).leads, .int .i64 (propR r k bs).elapsed, vv, pv6, ov6]]⟩ := by rw [← hR, Mem.get_put, if_pos rfl]; rfl
    have flR : R.floor = s.floor := by rw [← hR]; exact hk06.floor
    clear hR
    refine rlast_c (l := (appOut r.log r.term k bs).1) (D := NewD D M.next s2.next) (by rw [flR, nR]; omega) (fun q hq => by have := (hN0 q hq).1; omega) ⟨d2, w2, rfl, hd2.keep fun q hq => ?_, hw2.keep fun q hq => ?_⟩ b5' fun s7 hk7 => ?_
    · exact (oR q (by have := (hN0 q hq).1; omega)).trans (o6 q (hN0 q hq).1)
    · exact (oR q (by have := (hN0 q hq).1; omega)).trans (o6 q (hN0 q hq).1)
    have n7 := hk7.next
    have c7 := (hk7.get S.next (by omega)).trans cR
    have z7 := (hk7.get (s.next + 1) (by omega)).trans ((oR (s.next + 1) (by omega)).trans z6)
    have f7 : (s7.floor ≤ s.next + 1) = True := by rw [hk7.floor, flR]; exact f1
    (repeat' (with_reducible first|refine w_1 ?_|refine w_2 ?_|refine w_3 ?_|refine w_4 ?_|refine w_5 ?_|refine w_6 ?_|refine w_7 ?_|(refine w_8 (fun hb=>?_) (fun hb=>?_)<;>try simp only [hb])|refine w_9 ?_|simp (maxDischargeDepth:=12) only [viz,↓reduceIte,Nat.reduceEqDiff,reduceCtorEq,Int.reduceEq,Int.reduceNeg,Nat.reduceAdd,Nat.reduceLeDiff,c7,z7,f7,l1,l2,l3,l4,l5,bne_self_eq_false, Int.reduceBEq, Int.reduceBNe, Int.reduceLT, Int.reduceLE, Int.reduceGT, Int.reduceGE]))
    generalize hQ : Mem.put _ _ _ = Q
    have nQ : Q.next = s7.next := by rw [← hQ]; rfl
    have oQ : ∀ q, q ≠ s.next + 1 → q ≠ S.next → q < s6.next → Q.get q = s6.get q := fun q h1 h2 h3 => by
      rw [← hQ, Mem.get_put, if_neg h1, hk7.get q (by omega), oR q h2]
    have hQk : Keep s.next s Q := ⟨by omega, by rw [← hQ]; show s7.floor = s.floor; rw [hk7.floor, flR], fun q hq => by rw [oQ q (by omega) (by omega) (by omega)]; exact hk06.get q hq⟩
    have hX : ∀ q, NewD (NewD D M.next s2.next) (S.next + 1) s6.next q → Q.get q = s6.get q := fun q hq => by
      rcases hq with h | h
      · have := hN0 q h; exact oQ q (by omega) (by omega) (by omega)
      · exact oQ q (by omega) (by omega) (by omega)
    have hX2 : ∀ q, NewD (NewD D M.next s2.next) (S.next + 1) s6.next q → NewD D s.next Q.next q := fun q hq => by
      rcases hq with (h | h) | h
      · exact .inl h
      · exact .inr ⟨by omega, by omega⟩
      · exact .inr ⟨by omega, by omega⟩
    have hS6' : StIn s6 (NewD (NewD D M.next s2.next) (S.next + 1) s6.next) (propR r k bs) (propO r k bs) d2 w2 vv pv6 ov6 := hS6
    exact hK d2 w2 vv pv6 ov6 Q ((hS6'.keep hX).mono hX2) hQk
end Go.Proofs.YtfllmhjjfapnmaaGreat

