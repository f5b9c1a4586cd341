/- What the document says of peers settled. No statement of the seat is proved here. -/
import Derived.Test.YtfllmhjjfapnmaaGreatVZRefTurn
import Derived.Test.YtfllmhjjfapnmaaGreatVZVE
namespace Go.Proofs.YtfllmhjjfapnmaaGreat
open Go Go.VI
set_option linter.unusedSimpArgs false
attribute [local irreducible] Ws Wp W C
set_option maxHeartbeats 4000000
def lastP (ps : List Peer) (n : Int) (d : Peer) : Peer := ps.foldl (fun a p => if p.1 = n then p else a) d
theorem lastP_next {ps : List Peer} {i : Nat} {p : Peer} (h : ps[i]? = some p) (n : Int) (d : Peer) : lastP (ps.take (i + 1)) n d = if p.1 = n then p else lastP (ps.take i) n d := by
  unfold lastP
  rw [List.take_add_one, h, List.foldl_append]
  rfl
theorem lastP_no : ∀ (ps : List Peer) (n : Int) (d : Peer), n ∉ ps.map (·.1) → lastP ps n d = d := by
  intro ps
  induction ps with
  | nil => intro n d _; rfl
  | cons p ps ih =>
    intro n d h
    simp only [List.map_cons, List.mem_cons, not_or] at h
    show lastP ps n (if p.1 = n then p else d) = d
    rw [if_neg (fun e => h.1 e.symm), ih n d h.2]
theorem lastP_find : ∀ (ps : List Peer) (n : Int) (d : Peer), (ps.map (·.1)).Nodup → lastP ps n d = (ps.find? fun p => p.1 == n).getD d := by
  intro ps
  induction ps with
  | nil => intro n d _; rfl
  | cons p ps ih =>
    intro n d h
    simp only [List.map_cons, List.nodup_cons] at h
    show lastP ps n (if p.1 = n then p else d) = _
    by_cases e : p.1 = n
    · rw [if_pos e, lastP_no ps n p (by rw [← e]; exact h.1), List.find?_cons_of_pos (by simp [e])]; rfl
    · rw [if_neg e, ih n d h.2, List.find?_cons_of_neg (by simp [e])]
section
variable {s s' : Mem} {D D' : Nat → Prop} {r : Raft} {out : List Msg} {d w vv pv ov : AV} {K : AV → Mem → Prop}
theorem rs_l1 {z p8 iv : Nat} {n : Int} {q0 : Peer} {D5 Dp : Nat → Prop} {s0 : Mem} {E : Env} {v5 : AV} {vs : List Int} (hz : s0.get z = some (stRow r d w vv pv ov)) (hp : s0.get p8 = some ⟨86, 3, [peerC q0]⟩) (hzp : z ≠ p8) (hfl : s0.floor ≤ p8)
    (h5 : Sl s0 D5 v5 1 (intsA .i64 vs)) (hn : vs[iv]? = some n) (hI5 : ∀ q, D5 q → q < s0.next ∧ q ≠ p8) (hpv : Sl s0 Dp pv 3 (peersC r.peers)) (hIp : ∀ q, Dp q → q < s0.next ∧ q ≠ p8) (hfit : Fit r.peers.length)
    (g1 : E.get 1 = .ptr z 0 0) (g5 : E.get 5 = v5) (g7 : E.get 7 = .int .i64 iv) (g8 : E.get 8 = .ptr p8 0 0) (g9 : E.get 9 = .int .i64 0) :
    W tab (.loop cf73l1) E s0 (fun x e s' => x = .exit 2 ∧ Turn p8 s0 s' ∧ s'.get p8 = some ⟨86, 3, [peerC (lastP r.peers n q0)]⟩) := by
  have hlen : lenA false pv = some r.peers.length := by rw [hpv.len, peersC_len]
  refine W_inv r.peers.length (fun k e s' => Turn p8 s0 s' ∧ s'.get p8 = some ⟨86, 3, [peerC (lastP (r.peers.take k) n q0)]⟩ ∧ e.get 9 = .int .i64 k) (by delta cf73l1 oo on om og oc ou; exact rfl) ?_ ?_
  · exact ⟨Turn.refl _ _, by simpa [lastP] using hp, by rw [g9]; rfl⟩
  · rintro k e s' hk hT ⟨ht, h8, h9⟩
    have t1 := (hT 1 rfl).trans g1
    have t5 := (hT 5 rfl).trans g5
    have t7 := (hT 7 rfl).trans g7
    have t8 := (hT 8 rfl).trans g8
    have hz' := (ht.get z hzp).trans hz
    simp only [stRow] at hz'
    have h5' := h5.keep fun q hq => ht.get q (hI5 q hq).2
    have hpv' := hpv.keep fun q hq => ht.get q (hIp q hq).2
    obtain ⟨p5, hp5, P5⟩ := h5'.atkB (fun q hq => by rw [ht.next]; exact (hI5 q hq).1) hn
    by_cases hlt : k < r.peers.length
    · obtain ⟨⟨pn, px, pm⟩, hx⟩ := get_of hlt
      obtain ⟨p, hpp, P⟩ := hpv'.atk (fun q hq => by rw [ht.next]; exact (hIp q hq).1) (peersC_get hx)
      have hl0 : ∀ M, Keep s'.next s' M → loadA M false 1 (adr p 0) = some (.int .i64 pn) := fun M hM => by
        rw [P.ldf M hM 0 false 1 (by simp [peerC])]; exact rfl
      have hl3 : loadA s' true 3 p = some (.agg [.int .i64 pn, .int .u64 px, .int .u64 pm]) := by
        rw [P.ld _ (Keep.refl _ _)]; exact rfl
      have m1 := lastP_next hx n q0
      have fl' : (s'.floor ≤ p8) = True := by rw [ht.floor]; simp; exact hfl
      obtain ⟨qn, qx, qm⟩ : ∃ a b c, peerC (lastP (r.peers.take k) n q0) = [AV.int .i64 a, .int .u64 b, .int .u64 c] := ⟨_, _, _, rfl⟩
      by_cases hq : pn = n
      · have c1 : (pn == n) = true := by simp [hq]
        rw [if_pos hq] at m1
        obtain ⟨qc, hqc⟩ : ∃ x, peerC (lastP (r.peers.take k) n q0) = x := ⟨_, rfl⟩
        simp only [peerC] at h8
        (repeat' (with_reducible first|refine w_1 ?_|refine w_2 ?_|refine w_3 ?_|refine w_4 ?_|refine w_5 ?_|refine w_6 ?_|refine w_7 ?_|(refine w_8 (fun hb=>?_) (fun hb=>?_)<;>try simp only [hb])|refine w_9 ?_|simp (maxDischargeDepth:=12) only [viz,↓reduceIte,Nat.reduceEqDiff,reduceCtorEq,Int.reduceEq,Int.reduceNeg,Nat.reduceAdd,Nat.reduceLeDiff,t1,t5,t7,t8,h9,hz',h8,hlen,lt_true hlt,hpp,hp5,P.adr,P5.ld,hl0,hl3,fl',c1,bne_self_eq_false, Int.reduceBEq, Int.reduceBNe, Int.reduceLT, Int.reduceLE, Int.reduceGT, Int.reduceGE]))
        refine ⟨hlt, ⟨ht.next, ht.floor, fun q hq => by rw [Mem.get_put, if_neg hq]; exact ht.get q hq⟩, ?_, succ_av (by omega)⟩
        rw [m1]; rfl
      · have c1 : (pn == n) = false := by simp [hq]
        rw [if_neg hq] at m1
        (repeat' (with_reducible first|refine w_1 ?_|refine w_2 ?_|refine w_3 ?_|refine w_4 ?_|refine w_5 ?_|refine w_6 ?_|refine w_7 ?_|(refine w_8 (fun hb=>?_) (fun hb=>?_)<;>try simp only [hb])|refine w_9 ?_|simp (maxDischargeDepth:=12) only [viz,↓reduceIte,Nat.reduceEqDiff,reduceCtorEq,Int.reduceEq,Int.reduceNeg,Nat.reduceAdd,Nat.reduceLeDiff,t1,t5,t7,t8,h9,hz',hlen,lt_true hlt,hpp,hp5,P.adr,P5.ld,hl0,hl3,fl',c1,bne_self_eq_false, Int.reduceBEq, Int.reduceBNe, Int.reduceLT, Int.reduceLE, Int.reduceGT, Int.reduceGE]))
        exact ⟨hlt, ht, by rw [m1]; exact h8, succ_av (by omega)⟩
    · (repeat' (with_reducible first|refine w_1 ?_|refine w_2 ?_|refine w_3 ?_|refine w_4 ?_|refine w_5 ?_|refine w_6 ?_|refine w_7 ?_|(refine w_8 (fun hb=>?_) (fun hb=>?_)<;>try simp only [hb])|refine w_9 ?_|simp (maxDischargeDepth:=12) only [viz,↓reduceIte,Nat.reduceEqDiff,reduceCtorEq,Int.reduceEq,Int.reduceNeg,Nat.reduceAdd,Nat.reduceLeDiff,t1,t5,t7,t8,h9,hz',hlen,lt_false hlt]))
      rw [List.take_of_length_le (by omega)] at h8
      exact ⟨ht, h8⟩
theorem peerFor_last {n : Int} (hnd : (r.peers.map (·.1)).Nodup) : (if n = r.node then (n, IntKind.u64.wrap ((lastE r.log).index + 1), (lastE r.log).index) else lastP r.peers n (n, (lastE r.log).index, 0)) = peerFor r n := by
  unfold peerFor
  split
  · rfl
  · rw [lastP_find _ _ _ hnd]
    cases r.peers.find? fun p => p.1 == n <;> rfl
set_option maxRecDepth 100000 in
theorem rsettle_c (hf : s.floor ≤ s.next) (hI : In D s) (hS : StIn s D r out d w vv pv ov) (hL : logOk r.log = true) (hw : r.log.Wf) (hp : ∀ p ∈ r.peers, InU p.2.1 ∧ InU p.2.2) (hn : Fit r.peers.length) (hnd : (r.peers.map (·.1)).Nodup) (ho : out.length < 10000)
    (hK : ∀ pv' ov' s', StIn s' (NewD D s.next s'.next) (settleR r) (out ++ tellAllM (settleR r) (settleR r).peers) d w vv pv' ov' → Keep s.next s s' → K (stA (settleR r) d w vv pv' ov') s') : C tab 73 [stA r d w vv pv ov] s K := by
  obtain ⟨k1, k2, k3, k4, k5⟩ := hS.cells
  have h7 := vot_len hL
  simp only [stA]
  refine C_enter (cf := cf73) rfl (Nat.le_of_ble_eq_true rfl) ?_
  simp only [cf73, oo, on, om, og, oc, ou]
  have f1 : (s.floor ≤ s.next + 1) = True := by simp; omega
  (repeat' (with_reducible first|refine w_1 ?_|refine w_2 ?_|refine w_3 ?_|refine w_4 ?_|refine w_5 ?_|refine w_6 ?_|refine w_7 ?_|(refine w_8 (fun hb=>?_) (fun hb=>?_)<;>try simp only [hb])|refine w_9 ?_|simp (maxDischargeDepth:=12) only [viz,↓reduceIte,Nat.reduceEqDiff,reduceCtorEq,Int.reduceEq,Int.reduceNeg,Nat.reduceAdd,Nat.reduceLeDiff,k1,k2,k3,k4,k5,hf,f1,bne_self_eq_false, Int.reduceBEq, Int.reduceBNe, Int.reduceLT, Int.reduceLE, Int.reduceGT, Int.reduceGE]))
  have hk0 := (pushes s (stRow r d w vv pv ov)).then (pushes _ stZero)
  have x0 : ((s.push (stRow r d w vv pv ov)).push stZero).get s.next = some (stRow r d w vv pv ov) := by
    rw [Mem.get_push, if_neg (by simp only [next_push']; omega), Mem.get_push, if_pos rfl]
  have x1 : ((s.push (stRow r d w vv pv ov)).push stZero).get (s.next + 1) = some stZero := by
    rw [Mem.get_push, if_pos (by simp only [next_push'])]
  have hS0 := hS.keep (keep_old hI hk0)
  refine rlast_c (l := r.log) (D := D) (hk0.ok hf) (hI.keep hk0) ⟨d, w, rfl, hS0.d, hS0.w⟩ hw fun s1 hk1 => ?_
  have hk01 := hk0.then hk1
  have n1 := hk1.next
  simp only [next_push'] at n1
  have y0 := (hk1.get s.next (by simp only [next_push']; omega)).trans x0
  have y1 := (hk1.get (s.next + 1) (by simp only [next_push']; omega)).trans x1
  have y0' := y0
  simp only [stRow] at y0'
  (repeat' (with_reducible first|refine w_1 ?_|refine w_2 ?_|refine w_3 ?_|refine w_4 ?_|refine w_5 ?_|refine w_6 ?_|refine w_7 ?_|(refine w_8 (fun hb=>?_) (fun hb=>?_)<;>try simp only [hb])|refine w_9 ?_|simp (maxDischargeDepth:=12) only [viz,↓reduceIte,Nat.reduceEqDiff,reduceCtorEq,Int.reduceEq,Int.reduceNeg,Nat.reduceAdd,Nat.reduceLeDiff,y0',bne_self_eq_false, Int.reduceBEq, Int.reduceBNe, Int.reduceLT, Int.reduceLE, Int.reduceGT, Int.reduceGE]))
  have hS1 := hS.keep (keep_old hI hk01)
  refine rvoters_c (l := r.log) (D := D) (hk01.ok hf) (hI.keep hk01) ⟨d, w, rfl, hS1.d, hS1.w⟩ hw fun v5 s2 ho5 hk2 => ?_
  have hk02 := hk01.then hk2
  have n2 := hk2.next
  have z0 := (hk2.get s.next (by omega)).trans y0
  have z1 := (hk2.get (s.next + 1) (by omega)).trans y1
  have f2 : (s2.floor ≤ s2.next) = True := by simp [hk02.ok hf]
  (repeat' (with_reducible first|refine w_1 ?_|refine w_2 ?_|refine w_3 ?_|refine w_4 ?_|refine w_5 ?_|refine w_6 ?_|refine w_7 ?_|(refine w_8 (fun hb=>?_) (fun hb=>?_)<;>try simp only [hb])|refine w_9 ?_|simp (maxDischargeDepth:=12) only [viz,↓reduceIte,Nat.reduceEqDiff,reduceCtorEq,Int.reduceEq,Int.reduceNeg,Nat.reduceAdd,Nat.reduceLeDiff,f2]))
  have hl5 : lenA false v5 = some (vot r.log).length := by rw [ho5.len, intsA_len]; rfl
  have h5 : Sl s2 (fun q => q < s2.next) v5 1 (intsA .i64 (vot r.log)) := ho5.sl (intsA_sz _ _) fun q n h => (ho5.row q _ _ _ h).2
  have hS2 := hS.keep (keep_old hI hk02)
  refine W_inv (vot r.log).length (fun i e s' => Keep s2.next s2 s' ∧ e.get 7 = .int .i64 i ∧ ∃ l, e.get 6 = l ∧ OwnL s' s2.next l 86 3 (peersC (((vot r.log).take i).map (peerFor r)))) (by delta cf73l0 oo on om og oc ou; exact rfl) ?_ ?_
  · exact ⟨pushes _ _, by simp only [Env.get_set, ↓reduceIte]; rfl, .emp, (by simp only [ev, Env.get_set, ↓reduceIte, Nat.reduceEqDiff]), OwnL.emp _ _ _ _⟩
  · rintro i e s' hi hT ⟨hk, g7, l, g6, hol⟩
    have g1 := hT 1 rfl
    have g2 := hT 2 rfl
    have g3 := hT 3 rfl
    have g5 := hT 5 rfl
    simp only [Env.get_set, ↓reduceIte, Nat.reduceEqDiff, Env.start, Env.ofList] at g1 g2 g3 g5
    clear hT
    have n3 := hk.next
    have w0 := (hk.get s.next (by omega)).trans z0
    have w1 := (hk.get (s.next + 1) (by omega)).trans z1
    have hk0' := hk02.then hk
    have fT : (s'.floor ≤ s'.next) = True := by simp [hk0'.ok hf]
    have h5' := h5.keep fun q hq => hk.get q hq
    have hS' := hS.keep (keep_old hI hk0')
    by_cases hlt : i < (vot r.log).length
    · obtain ⟨n, hx⟩ := get_of hlt
      obtain ⟨p, hpp, P⟩ := h5'.atkB (fun q hq => Nat.lt_of_lt_of_le hq n3) hx
      have ld : loadA s' false 1 p = some (.int .i64 n) := by rw [P.ld _ (Keep.refl _ _)]; exact rfl
      (repeat' (with_reducible first|refine w_1 ?_|refine w_2 ?_|refine w_3 ?_|refine w_4 ?_|refine w_5 ?_|refine w_6 ?_|refine w_7 ?_|(refine w_8 (fun hb=>?_) (fun hb=>?_)<;>try simp only [hb])|refine w_9 ?_|simp (maxDischargeDepth:=12) only [viz,↓reduceIte,Nat.reduceEqDiff,reduceCtorEq,Int.reduceEq,Int.reduceNeg,Nat.reduceAdd,Nat.reduceLeDiff,g1,g2,g3,g5,g6,g7,hl5,lt_true hlt,hpp,ld,fT]))
      have hkp := pushes s' ⟨86, 3, [peerC (n, (lastE r.log).index, 0)]⟩
      refine W_mono (W_keep (rs_l1 (r := r) (d := d) (w := w) (vv := vv) (pv := pv) (ov := ov) (z := s.next) (p8 := s'.next) (iv := i) (n := n) (q0 := (n, (lastE r.log).index, 0)) (D5 := fun q => q < s2.next) (Dp := D) (v5 := v5) (vs := vot r.log) ?_ ?_ (by omega) (by simp only [floor_push']; simpa using fT) ?_ hx (fun q hq => by simp only [next_push']; omega) ?_ (fun q hq => by have := hI q hq; simp only [next_push']; omega) hn ?_ ?_ ?_ (by simp only [ev, Env.get_set, ↓reduceIte, Nat.reduceEqDiff]) (by simp only [ev, Env.get_set, ↓reduceIte, Nat.reduceEqDiff]))) ?_
      · rw [Mem.get_push, if_neg (by omega)]; exact w0
      · rw [Mem.get_push, if_pos rfl]; rfl
      · exact h5'.keep fun q hq => hkp.get q (by omega)
      · exact hS'.pv.keep fun q hq => hkp.get q (by have := hI q hq; omega)
      · simp only [Env.get_set, ↓reduceIte, Nat.reduceEqDiff, g1]
      · simp only [Env.get_set, ↓reduceIte, Nat.reduceEqDiff, g5]
      · simp only [Env.get_set, ↓reduceIte, Nat.reduceEqDiff, g7]
      rintro x e3 s3 ⟨hT3, rfl, ht3, hr3⟩
      have g1' := (hT3 1 rfl).trans (show _ = AV.ptr s.next 0 0 by simp only [Env.get_set, ↓reduceIte, Nat.reduceEqDiff, g1])
      have g2' := (hT3 2 rfl).trans (show _ = AV.ptr (s.next + 1) 0 0 by simp only [Env.get_set, ↓reduceIte, Nat.reduceEqDiff, g2])
      have g3' := (hT3 3 rfl).trans (show _ = AV.int .u64 (lastE r.log).index by simp only [Env.get_set, ↓reduceIte, Nat.reduceEqDiff, g3])
      have g5' := (hT3 5 rfl).trans (show _ = v5 by simp only [Env.get_set, ↓reduceIte, Nat.reduceEqDiff, g5])
      have g6' := (hT3 6 rfl).trans (show _ = l by simp only [Env.get_set, ↓reduceIte, Nat.reduceEqDiff, g6])
      have g7' := (hT3 7 rfl).trans (show _ = AV.int .i64 i by simp only [Env.get_set, ↓reduceIte, Nat.reduceEqDiff, g7])
      have g8' := (hT3 8 rfl).trans (show _ = AV.ptr s'.next 0 0 from (by simp only [ev, Env.get_set, ↓reduceIte, Nat.reduceEqDiff]))
      have hk3 : Keep s'.next s' s3 := ⟨by rw [ht3.next, next_push']; omega, by rw [ht3.floor, floor_push'], fun q hq => by rw [ht3.get q (by omega), Mem.get_push, if_neg (by omega)]⟩
      have m3 : s3.next = s'.next + 1 := by rw [ht3.next, next_push']
      have u0 := (hk3.get s.next (by omega)).trans w0
      simp only [stRow] at u0
      have h53 := h5'.keep (s' := s3) fun q hq => hk3.get q (by omega)
      obtain ⟨p3, hp3, P3⟩ := h53.atkB (fun q hq => by have : q < s2.next := hq; omega) hx
      have fl3 : (s3.floor ≤ s'.next) = True := by rw [hk3.floor]; exact fT
      have tail : ∀ (q : Peer) (M : Mem) (E : Env) (Kx : AV → Mem → Prop), Keep s'.next s' M → q = peerFor r n → ev E (.t 75) = l → ev E (.t 77) = .own M.next 0 1 3 →
          (∀ v5 s5, OwnL s5 s2.next v5 86 3 (peersC (((vot r.log).take (i + 1)).map (peerFor r))) → Keep s2.next s2 s5 → Kx v5 s5) →
          Wp tab (.app 86 3 24 (.t 75) (.t 77)) E (M.push ⟨86, 3, [[.int .i64 q.1, .int .u64 q.2.1, .int .u64 q.2.2]]⟩) Kx := by
        intro q M E Kx hM hq e1 e2 hKx
        have hoM := ownl_keep hol hM
        have hk2M := hk.then hM
        have hll : (peersC (((vot r.log).take i).map (peerFor r))).length ≤ 7 := by rw [peersC_len, List.length_map, List.length_take]; omega
        refine app_lit (v := l) (k := 1) (b := s2.next) (xs := peersC (((vot r.log).take i).map (peerFor r))) (by rw [hk2M.floor]; exact hk02.ok hf) hk2M.next hoM e1 e2 rfl rfl (room (by rw [List.length_singleton]; omega) (by rw [List.length_singleton]; omega)) ?_
        intro v5 s5 ho5 hx5 _ _
        have : [[AV.int .i64 q.1, .int .u64 q.2.1, .int .u64 q.2.2]] = [peerC q] := rfl
        rw [this, peersC_snoc, hq, ← map_next hx] at ho5
        exact hKx v5 s5 ho5 (hk2M.trans (hx5.keep hk2M.next fun q i n z h => (hoM.row q i n z h).1))
      have hpl := peerFor_last (r := r) (n := n) hnd
      by_cases hself : n = r.node
      · have c2 : (n == r.node) = true := by simp [hself]
        rw [if_pos hself] at hpl
        simp only [peerC] at hr3
        (repeat' (with_reducible first|refine w_1 ?_|refine w_2 ?_|refine w_3 ?_|refine w_4 ?_|refine w_5 ?_|refine w_6 ?_|refine w_7 ?_|(refine w_8 (fun hb=>?_) (fun hb=>?_)<;>try simp only [hb])|refine w_9 ?_|simp (maxDischargeDepth:=12) only [viz,↓reduceIte,Nat.reduceEqDiff,reduceCtorEq,Int.reduceEq,Int.reduceNeg,Nat.reduceAdd,Nat.reduceLeDiff,g1',g2',g3',g5',g6',g7',g8',hp3,P3.ld,u0,hr3,fl3,c2,bne_self_eq_false, Int.reduceBEq, Int.reduceBNe, Int.reduceLT, Int.reduceLE, Int.reduceGT, Int.reduceGE]))
        refine tail (r.node, IntKind.u64.wrap ((lastE r.log).index + 1), (lastE r.log).index) _ _ _ (hk3.trans (Keep.put (Nat.le_refl _) _)) (by rw [← hpl, hself]) (by simp only [ev, Env.get_set, ↓reduceIte, Nat.reduceEqDiff]) (by simp only [ev, Env.get_set, ↓reduceIte, Nat.reduceEqDiff, next_put']) fun v6 s6 ho6 hk6 => ?_
        (repeat' (with_reducible first|refine w_1 ?_|refine w_2 ?_|refine w_3 ?_|refine w_4 ?_|refine w_5 ?_|refine w_6 ?_|refine w_7 ?_|(refine w_8 (fun hb=>?_) (fun hb=>?_)<;>try simp only [hb])|refine w_9 ?_|simp (maxDischargeDepth:=12) only [viz,↓reduceIte,Nat.reduceEqDiff,reduceCtorEq,Int.reduceEq,Int.reduceNeg,Nat.reduceAdd,Nat.reduceLeDiff,g1',g2',g3',g5',g7']))
        exact ⟨hlt, hk6, succ_av (by omega), v6, rfl, ho6⟩
      · have c2 : (n == r.node) = false := by simp [hself]
        rw [if_neg hself] at hpl
        simp only [peerC] at hr3
        (repeat' (with_reducible first|refine w_1 ?_|refine w_2 ?_|refine w_3 ?_|refine w_4 ?_|refine w_5 ?_|refine w_6 ?_|refine w_7 ?_|(refine w_8 (fun hb=>?_) (fun hb=>?_)<;>try simp only [hb])|refine w_9 ?_|simp (maxDischargeDepth:=12) only [viz,↓reduceIte,Nat.reduceEqDiff,reduceCtorEq,Int.reduceEq,Int.reduceNeg,Nat.reduceAdd,Nat.reduceLeDiff,g1',g2',g3',g5',g6',g7',g8',hp3,P3.ld,u0,hr3,fl3,c2,bne_self_eq_false, Int.reduceBEq, Int.reduceBNe, Int.reduceLT, Int.reduceLE, Int.reduceGT, Int.reduceGE]))
        refine tail (lastP r.peers n (n, (lastE r.log).index, 0)) _ _ _ hk3 hpl (by simp only [ev, Env.get_set, ↓reduceIte, Nat.reduceEqDiff]) (by simp only [ev, Env.get_set, ↓reduceIte, Nat.reduceEqDiff]) fun v6 s6 ho6 hk6 => ?_
        (repeat' (with_reducible first|refine w_1 ?_|refine w_2 ?_|refine w_3 ?_|refine w_4 ?_|refine w_5 ?_|refine w_6 ?_|refine w_7 ?_|(refine w_8 (fun hb=>?_) (fun hb=>?_)<;>try simp only [hb])|refine w_9 ?_|simp (maxDischargeDepth:=12) only [viz,↓reduceIte,Nat.reduceEqDiff,reduceCtorEq,Int.reduceEq,Int.reduceNeg,Nat.reduceAdd,Nat.reduceLeDiff,g1',g2',g3',g5',g7']))
        exact ⟨hlt, hk6, succ_av (by omega), v6, rfl, ho6⟩
    · rw [List.take_of_length_le (by omega)] at hol
      have hcl := ownl_cell hol
      have fl' : (s'.floor ≤ s.next) = True := by rw [hk0'.floor]; simp; exact hf
      have w0' := w0
      simp only [stRow] at w0'
      obtain ⟨j1, j2, j3, j4, j5⟩ := hS'.cells
      (repeat' (with_reducible first|refine w_1 ?_|refine w_2 ?_|refine w_3 ?_|refine w_4 ?_|refine w_5 ?_|refine w_6 ?_|refine w_7 ?_|(refine w_8 (fun hb=>?_) (fun hb=>?_)<;>try simp only [hb])|refine w_9 ?_|simp (maxDischargeDepth:=12) only [viz,↓reduceIte,Nat.reduceEqDiff,reduceCtorEq,Int.reduceEq,Int.reduceNeg,Nat.reduceAdd,Nat.reduceLeDiff,g1,g2,g3,g5,g6,g7,hl5,lt_false hlt,w0',hcl,cells_cell hcl,fl',j1,j2,j3,j4,j5]))
      have hsr : settleR r = commitR { r with peers := (vot r.log).map (peerFor r) } := rfl
      rw [hsr] at hK
      have hkM : ∀ x, Keep s.next s (s'.put s.next x) := fun x => hk0'.trans (Keep.put (Nat.le_refl _) _)
      have hI1 : In (NewD D (s.next + 2) s'.next) s' := fun q hq => hq.elim (fun h => by have := hI q h; omega) fun h => h.2
      have hSM : StIn (s'.put s.next (some (stRow { r with peers := (vot r.log).map (peerFor r) } d w vv l ov))) (NewD D (s.next + 2) s'.next) { r with peers := (vot r.log).map (peerFor r) } out d w vv l ov := by
        have hb := (hS.keep (keep_old hI (hkM (some (stRow { r with peers := (vot r.log).map (peerFor r) } d w vv l ov))))).mono (D' := NewD D (s.next + 2) s'.next) fun q hq => .inl hq
        refine ⟨hb.d, hb.w, hb.vv, ?_, hb.ov⟩
        refine (Sl.keep (hol.sl (D := fun q => s2.next ≤ q ∧ q < s'.next) (peersC_sz _) fun q n h => ⟨(hol.row q _ _ _ h).1, (hol.row q _ _ _ h).2⟩) fun q hq => by rw [Mem.get_put, if_neg (by omega)]).mono fun q hq => .inr ⟨by omega, hq.2⟩
      refine rcommit_c (r := { r with peers := (vot r.log).map (peerFor r) }) (d := d) (w := w) (vv := vv) (pv := l) (ov := ov) (out := out) (D := NewD D (s.next + 2) s'.next) ((hkM _).ok hf) hI1 hSM hw (by show ((vot r.log).map (peerFor r)).length < _; rw [List.length_map]; omega) (fun p h => (peers_inU hw hp _ p h).2) fun s4 hS4 hk4 => ?_
      obtain ⟨e1, e2, e3, e4, e5⟩ := commitR_same { r with peers := (vot r.log).map (peerFor r) }
      have n4 : s'.next ≤ s4.next := hk4.next
      have hI4 : In (NewD (NewD D (s.next + 2) s'.next) s'.next s4.next) s4 := fun q hq => hq.elim (fun h => by have := hI1 q h; omega) fun h => h.2
      have hk04 := (hkM (some (stRow { r with peers := (vot r.log).map (peerFor r) } d w vv l ov))).then hk4
      (repeat' (with_reducible first|refine w_1 ?_|refine w_2 ?_|refine w_3 ?_|refine w_4 ?_|refine w_5 ?_|refine w_6 ?_|refine w_7 ?_|(refine w_8 (fun hb=>?_) (fun hb=>?_)<;>try simp only [hb])|refine w_9 ?_|simp (maxDischargeDepth:=12) only [viz,↓reduceIte,Nat.reduceEqDiff,reduceCtorEq,Int.reduceEq,Int.reduceNeg,Nat.reduceAdd,Nat.reduceLeDiff]))
      refine rtellAll_c (r := commitR { r with peers := (vot r.log).map (peerFor r) }) (d := d) (w := w) (vv := vv) (pv := l) (ov := ov) (out := out) (D := NewD (NewD D (s.next + 2) s'.next) s'.next s4.next) (hk04.ok hf) hI4 hS4 (by rw [e1]; exact hw.len) (by rw [e2]; show _ + ((vot r.log).map (peerFor r)).length < _; rw [List.length_map]; omega) fun ov6 s6 hS6 hk6 => ?_
      have hk06 := hk04.then hk6
      have n6 := hk6.next
      have c1 : s6.get (s.next + 1) = some stZero := by
        rw [hk6.get _ (by omega), hk4.get _ (by show s.next + 1 < s'.next; omega), Mem.get_put, if_neg (by omega)]; exact w1
      have fl6 : (s6.floor ≤ s.next + 1) = True := by rw [hk06.floor]; exact f1
      obtain ⟨l1, l2, l3, l4, l5⟩ := hS6.cells
      simp only [stZero] at c1
      simp only [stA]
      (repeat' (with_reducible first|refine w_1 ?_|refine w_2 ?_|refine w_3 ?_|refine w_4 ?_|refine w_5 ?_|refine w_6 ?_|refine w_7 ?_|(refine w_8 (fun hb=>?_) (fun hb=>?_)<;>try simp only [hb])|refine w_9 ?_|simp (maxDischargeDepth:=12) only [viz,↓reduceIte,Nat.reduceEqDiff,reduceCtorEq,Int.reduceEq,Int.reduceNeg,Nat.reduceAdd,Nat.reduceLeDiff,g1,g2,c1,fl6,l1,l2,l3,l4,l5,bne_self_eq_false, Int.reduceBEq, Int.reduceBNe, Int.reduceLT, Int.reduceLE, Int.reduceGT, Int.reduceGE]))
      refine hK l ov6 _ (StIn.res (a := s.next + 2) (b := s6.next) hI (hS6.mono ?_) (by omega) (by omega) (Nat.le_refl _)) (hk06.trans (Keep.put (by omega) _))
      rintro q (((h | h) | h) | h)
      · exact .inl h
      · exact .inr ⟨h.1, by omega⟩
      · exact .inr ⟨by omega, by omega⟩
      · exact .inr ⟨by omega, h.2⟩
end
end Go.Proofs.YtfllmhjjfapnmaaGreat

