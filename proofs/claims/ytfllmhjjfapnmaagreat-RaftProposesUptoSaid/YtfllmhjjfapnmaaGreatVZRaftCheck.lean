/- raft.Check, walked. No statement of the seat is proved here. -/
import Derived.Test.YtfllmhjjfapnmaaGreatVZRaftOk
import Derived.Test.YtfllmhjjfapnmaaGreatVZVE
namespace Go.Proofs.YtfllmhjjfapnmaaGreat
open Go Go.VI
set_option linter.unusedSimpArgs false
attribute [local irreducible] Ws Wp W C
set_option maxHeartbeats 4000000
theorem all_next {α : Type} {l : List α} {p : α → Bool} {i : Nat} {a : α} (h : (l.take i).all p = true) (ha : l[i]? = some a) (hp : p a = true) : (l.take (i + 1)).all p = true := by
  rw [List.take_add_one, ha, List.all_append, h]
  simp [hp]
theorem all_not {α : Type} {l : List α} {p : α → Bool} {i : Nat} {a : α} (ha : l[i]? = some a) (hp : p a = false) : l.all p = false := by
  cases h : l.all p with
  | false => rfl
  | true => rw [List.all_eq_true] at h; rw [h a (List.mem_of_getElem? ha)] at hp; exact hp
theorem map_next {α β : Type} {l : List α} {f : α → β} {i : Nat} {a : α} (ha : l[i]? = some a) : (l.take (i + 1)).map f = (l.take i).map f ++ [f a] := by
  rw [List.take_add_one, ha]; simp
def raftRow (r : Raft) (d w vv pv : AV) : Row := ⟨32, 14, [[.int .i64 r.node, .int .u64 r.term, .int .i64 r.vote, .int .u64 r.log.base.index, .int .u64 r.log.base.term, .int .i64 r.log.base.kind, d, w, .int .u64 r.commit, .int .i64 r.role, .int .i64 r.leads, .int .i64 r.elapsed, vv, pv]]⟩
def raftA (r : Raft) (d w vv pv : AV) : AV := .agg [.int .i64 r.node, .int .u64 r.term, .int .i64 r.vote, .int .u64 r.log.base.index, .int .u64 r.log.base.term, .int .i64 r.log.base.kind, d, w, .int .u64 r.commit, .int .i64 r.role, .int .i64 r.leads, .int .i64 r.elapsed, vv, pv]
theorem vot_fit {l : Log} (hw : l.Wf) : Fit (vot l).length := by
  have := cfgT_fit hw l.l.length
  simp only [vot, nodes, List.length_map]; exact this
theorem peers_c {r : Raft} {D : Nat → Prop} {s : Mem} {v : AV} {K : AV → Mem → Prop} (hf : s.floor ≤ s.next) (hI : In D s) (hv : RaftV s D v r) (hw : r.Wf)
    (hK : ∀ s', Keep s.next s s' → K (.bool (peersOk r)) s') : C tab 56 [v] s K := by
  obtain ⟨_, rfl, d, w, vv, pv, rfl, hd, hl, hvv, hpv⟩ := hv
  refine C_enter (cf := cf56) rfl (Nat.le_of_ble_eq_true rfl) ?_
  simp only [cf56, oo, on, om, og, oc, ou]
  (repeat' (with_reducible first|refine w_1 ?_|refine w_2 ?_|refine w_3 ?_|refine w_4 ?_|refine w_5 ?_|refine w_6 ?_|refine w_7 ?_|(refine w_8 (fun hb=>?_) (fun hb=>?_)<;>try simp only [hb])|refine w_9 ?_|simp (maxDischargeDepth:=12) only [viz,↓reduceIte,Nat.reduceEqDiff,reduceCtorEq,Int.reduceEq,Int.reduceNeg,Nat.reduceAdd,Nat.reduceLeDiff,hd.cell,hl.cell,hvv.cell,hpv.cell,hf]))
  have hk0 := pushes s (raftRow r d w vv pv)
  refine last_c (l := r.log) (hk0.ok hf) (hI.keep hk0) ⟨d, w, rfl, hd.keep (keep_old hI hk0), hl.keep (keep_old hI hk0)⟩ hw.log fun s1 hk1 => ?_
  have hg1 : s1.get s.next = some (raftRow r d w vv pv) := by rw [hk1.get _ (by simp only [next_push']; omega)]; rw [Mem.get_push, if_pos rfl]; rfl
  have hk01 := hk0.then hk1
  have n1 := hk1.next
  simp only [next_push'] at n1
  simp only [raftRow] at hg1
  have hpl : lenA false pv = some r.peers.length := by rw [hpv.len, peersC_len]
  (repeat' (with_reducible first|refine w_1 ?_|refine w_2 ?_|refine w_3 ?_|refine w_4 ?_|refine w_5 ?_|refine w_6 ?_|refine w_7 ?_|(refine w_8 (fun hb=>?_) (fun hb=>?_)<;>try simp only [hb])|refine w_9 ?_|simp (maxDischargeDepth:=12) only [viz,↓reduceIte,Nat.reduceEqDiff,reduceCtorEq,Int.reduceEq,Int.reduceNeg,Nat.reduceAdd,Nat.reduceLeDiff,hg1,hpl]))
  have hpv1 := hpv.keep (keep_old hI hk01)
  have hI1 := hI.keep hk01
  have hf1 := hk01.ok hf
  have hpe := hw.peers
  refine W_inv r.peers.length (fun i e s' => Keep s1.next s1 s' ∧ e.get 17 = .int .i64 i ∧ (r.peers.take i).all (peerOk (lastE r.log).index) = true ∧ ∃ w, e.get 5 = w ∧ OwnL s' s1.next w 3 1 (intsA .i64 ((r.peers.take i).map (·.1)))) (by delta cf56l0 oo on om og oc ou; exact rfl) ?_ ?_
  · refine ⟨Keep.refl _ _, by simp only [Env.get_set, ↓reduceIte]; rfl, by simp, .nilS, (by simp only [ev, Env.get_set, ↓reduceIte, Nat.reduceEqDiff]), OwnL.nil _ _ _ _⟩
  · rintro i e s' hi hT ⟨hk, g17, ha, w5, g5, ho⟩
    have g1 := hT 1 rfl
    have g3 := hT 3 rfl
    have g15 := hT 15 rfl
    have g16 := hT 16 rfl
    simp only [Env.get_set, ↓reduceIte, Nat.reduceEqDiff, Env.start, Env.ofList] at g1 g3 g15 g16
    clear hT
    have hpv' := hpv1.keep (keep_old hI1 hk)
    have hf' := hk.ok hf1
    have fT : (s'.floor ≤ s'.next) = True := by simp [hf']
    have hlen : lenA false w5 = some (intsA .i64 ((r.peers.take i).map (·.1))).length := ho.len
    by_cases hlt : i < r.peers.length
    · obtain ⟨⟨pn, px, pm⟩, hx⟩ := get_of hlt
      obtain ⟨p, hp, P⟩ := hpv'.atk (hI1.keep hk) (peersC_get hx)
      simp only [peerC] at P
      have hkp : ∀ x, Keep s'.next s' (s'.push x) := fun x => pushes s' x
      by_cases hgood : peerOk (lastE r.log).index (pn, px, pm) = true
      · have hg' := hgood
        simp only [peerOk, Bool.and_eq_true, decide_eq_true_eq] at hg'
        have c1 : decide (pm ≥ px) = false := by simp; omega
        have c2 : decide (px > IntKind.u64.wrap ((lastE r.log).index + 1)) = false := by simp; omega
        (repeat' (with_reducible first|refine w_1 ?_|refine w_2 ?_|refine w_3 ?_|refine w_4 ?_|refine w_5 ?_|refine w_6 ?_|refine w_7 ?_|(refine w_8 (fun hb=>?_) (fun hb=>?_)<;>try simp only [hb])|refine w_9 ?_|simp (maxDischargeDepth:=12) only [viz,↓reduceIte,Nat.reduceEqDiff,reduceCtorEq,Int.reduceEq,Int.reduceNeg,Nat.reduceAdd,Nat.reduceLeDiff,g1,g3,g15,g16,g17,g5,lt_true hlt,hp,P.ld,hkp,fT,c1,c2,bne_self_eq_false, Int.reduceBEq, Int.reduceBNe, Int.reduceLT, Int.reduceLE, Int.reduceGT, Int.reduceGE]))
        refine app_lit (v := w5) (k := 1) (b := s1.next) (xs := intsA .i64 ((r.peers.take i).map (·.1))) (by simp only [floor_put', floor_push']; rw [hk.floor]; exact hf1) (by simp only [next_put', next_push']; have := hk.next; omega) (ho.push _) (by simp only [ev, Env.get_set, ↓reduceIte, Nat.reduceEqDiff]) (by simp only [ev, Env.get_set, ↓reduceIte, Nat.reduceEqDiff, next_push']) rfl rfl (room (by simp only [intsA, List.length_map, List.length_take, List.length_singleton]; unfold Fit at hpe; omega) (by simp only [intsA, List.length_map, List.length_take, List.length_singleton]; unfold Fit at hpe; omega)) ?_
        intro v2 s2 ho2 hx2 _ _
        rw [intsA_snoc, ← map_next (f := fun q : Peer => q.1) hx] at ho2
        have hk2 : Keep s1.next s' s2 := ((pushes s' _).le hk.next).trans (hx2.keep (by simp only [next_push']; have := hk.next; omega) fun q i n z h => by rcases ho.push ⟨86, 3, [[.int .i64 pn, .int .u64 px, .int .u64 pm]]⟩ with ⟨h1 | h1, _⟩ | ⟨q2, h1, _, _, h2, _⟩ <;> rw [h1] at h <;> cases h; exact h2)
        (repeat' (with_reducible first|refine w_1 ?_|refine w_2 ?_|refine w_3 ?_|refine w_4 ?_|refine w_5 ?_|refine w_6 ?_|refine w_7 ?_|(refine w_8 (fun hb=>?_) (fun hb=>?_)<;>try simp only [hb])|refine w_9 ?_|simp (maxDischargeDepth:=12) only [viz,↓reduceIte,Nat.reduceEqDiff,reduceCtorEq,Int.reduceEq,Int.reduceNeg,Nat.reduceAdd,Nat.reduceLeDiff,g1,g3,g15,g16,g17]))
        exact ⟨hlt, hk.trans hk2, succ_av (by omega), all_next ha hx hgood, v2, rfl, ho2⟩
      · have hg' : peerOk (lastE r.log).index (pn, px, pm) = false := by simpa using hgood
        have hbad : peersOk r = false := by unfold peersOk; rw [all_not hx hg']; rfl
        have hg2 := hg'
        simp only [peerOk] at hg2
        rw [hbad] at hK
        by_cases c : pm ≥ px
        · have c1 : decide (pm ≥ px) = true := by simp [c]
          (repeat' (with_reducible first|refine w_1 ?_|refine w_2 ?_|refine w_3 ?_|refine w_4 ?_|refine w_5 ?_|refine w_6 ?_|refine w_7 ?_|(refine w_8 (fun hb=>?_) (fun hb=>?_)<;>try simp only [hb])|refine w_9 ?_|simp (maxDischargeDepth:=12) only [viz,↓reduceIte,Nat.reduceEqDiff,reduceCtorEq,Int.reduceEq,Int.reduceNeg,Nat.reduceAdd,Nat.reduceLeDiff,g1,g3,g15,g16,g17,g5,lt_true hlt,hp,P.ld,hkp,fT,c1,bne_self_eq_false, Int.reduceBEq, Int.reduceBNe, Int.reduceLT, Int.reduceLE, Int.reduceGT, Int.reduceGE]))
          exact hK _ ((hk01.then hk).then (pushes _ _))
        · have c1 : decide (pm ≥ px) = false := by simp; omega
          have c2 : decide (px > IntKind.u64.wrap ((lastE r.log).index + 1)) = true := by
            have : pm < px := by omega
            simp [this] at hg2; simp; exact hg2
          (repeat' (with_reducible first|refine w_1 ?_|refine w_2 ?_|refine w_3 ?_|refine w_4 ?_|refine w_5 ?_|refine w_6 ?_|refine w_7 ?_|(refine w_8 (fun hb=>?_) (fun hb=>?_)<;>try simp only [hb])|refine w_9 ?_|simp (maxDischargeDepth:=12) only [viz,↓reduceIte,Nat.reduceEqDiff,reduceCtorEq,Int.reduceEq,Int.reduceNeg,Nat.reduceAdd,Nat.reduceLeDiff,g1,g3,g15,g16,g17,g5,lt_true hlt,hp,P.ld,hkp,fT,c1,c2,bne_self_eq_false, Int.reduceBEq, Int.reduceBNe, Int.reduceLT, Int.reduceLE, Int.reduceGT, Int.reduceGE]))
          exact hK _ ((hk01.then hk).then (pushes _ _))
    · have hg1' := (hk.get s.next (by omega)).trans hg1
      (repeat' (with_reducible first|refine w_1 ?_|refine w_2 ?_|refine w_3 ?_|refine w_4 ?_|refine w_5 ?_|refine w_6 ?_|refine w_7 ?_|(refine w_8 (fun hb=>?_) (fun hb=>?_)<;>try simp only [hb])|refine w_9 ?_|simp (maxDischargeDepth:=12) only [viz,↓reduceIte,Nat.reduceEqDiff,reduceCtorEq,Int.reduceEq,Int.reduceNeg,Nat.reduceAdd,Nat.reduceLeDiff,g1,g3,g15,g16,g17,g5,lt_false hlt,hg1']))
      have hk2 := hk01.then hk
      have hie : i = r.peers.length := by omega
      rw [hie, List.take_length] at ha ho
      refine voters_c (l := r.log) (hk2.ok hf) (hI.keep hk2) ⟨d, w, rfl, hd.keep (keep_old hI hk2), hl.keep (keep_old hI hk2)⟩ hw.log fun v4 s4 ho4 hk4 => ?_
      (repeat' (with_reducible first|refine w_1 ?_|refine w_2 ?_|refine w_3 ?_|refine w_4 ?_|refine w_5 ?_|refine w_6 ?_|refine w_7 ?_|(refine w_8 (fun hb=>?_) (fun hb=>?_)<;>try simp only [hb])|refine w_9 ?_|simp (maxDischargeDepth:=12) only [viz,↓reduceIte,Nat.reduceEqDiff,reduceCtorEq,Int.reduceEq,Int.reduceNeg,Nat.reduceAdd,Nat.reduceLeDiff]))
      have hD4 : In (fun q => q < s4.next) s4 := fun q hq => hq
      refine equalI_c (xs := r.peers.map (·.1)) (ys := vot r.log) (D := fun q => q < s4.next) hD4 ((ho.sl (D := fun q => q < s'.next) (intsA_sz _ _) fun q n h => (ho.row q _ _ _ h).2).keep (fun q hq => hk4.get q hq) |>.mono fun q hq => Nat.lt_of_lt_of_le hq hk4.next) (ho4.sl (intsA_sz _ _) fun q n h => (ho4.row q _ _ _ h).2) (by rw [List.length_map]; exact hw.peers) (vot_fit hw.log) ?_
      (repeat' (with_reducible first|refine w_1 ?_|refine w_2 ?_|refine w_3 ?_|refine w_4 ?_|refine w_5 ?_|refine w_6 ?_|refine w_7 ?_|(refine w_8 (fun hb=>?_) (fun hb=>?_)<;>try simp only [hb])|refine w_9 ?_|simp (maxDischargeDepth:=12) only [viz,↓reduceIte,Nat.reduceEqDiff,reduceCtorEq,Int.reduceEq,Int.reduceNeg,Nat.reduceAdd,Nat.reduceLeDiff]))
      have : peersOk r = decide (r.peers.map (·.1) = vot r.log) := by unfold peersOk; rw [ha, Bool.true_and]
      rw [← this]
      exact hK _ (hk2.then hk4)
theorem raftC_row {r : Raft} {s : Mem} {D : Nat → Prop} {v : AV} (hv : RaftV s D v r) : ∃ d w vv pv, v = raftA r d w vv pv ∧ Byt s D d r.log.base.data ∧ Ents s D w r.log.l ∧ Sl s D vv 1 (intsA .i64 r.votes) ∧ Sl s D pv 3 (peersC r.peers) := by
  obtain ⟨_, rfl, d, w, vv, pv, rfl, h⟩ := hv
  exact ⟨d, w, vv, pv, rfl, h⟩
set_option maxRecDepth 100000 in
theorem raftCheck_c {r : Raft} {D : Nat → Prop} {s : Mem} {v : AV} {K : AV → Mem → Prop} (hf : s.floor ≤ s.next) (hI : In D s) (hv : RaftV s D v r) (hw : r.Wf)
    (hK : ∀ s', Keep s.next s s' → K (.int .i64 (if stOk r = true then 0 else 1)) s') : C tab 18 [v] s K := by
  obtain ⟨d, w, vv, pv, rfl, hd, hl, hvv, hpv⟩ := raftC_row hv
  simp only [raftA]
  refine C_enter (cf := cf18) rfl (Nat.le_of_ble_eq_true rfl) ?_
  simp only [cf18, oo, on, om, og, oc, ou]
  (repeat' (with_reducible first|refine w_1 ?_|refine w_2 ?_|refine w_3 ?_|refine w_4 ?_|refine w_5 ?_|refine w_6 ?_|refine w_7 ?_|(refine w_8 (fun hb=>?_) (fun hb=>?_)<;>try simp only [hb])|refine w_9 ?_|simp (maxDischargeDepth:=12) only [viz,↓reduceIte,Nat.reduceEqDiff,reduceCtorEq,Int.reduceEq,Int.reduceNeg,Nat.reduceAdd,Nat.reduceLeDiff,hd.cell,hl.cell,hvv.cell,hpv.cell,hf]))
  have hk0 := pushes s (raftRow r d w vv pv)
  refine last_c (l := r.log) (hk0.ok hf) (hI.keep hk0) ⟨d, w, rfl, hd.keep (keep_old hI hk0), hl.keep (keep_old hI hk0)⟩ hw.log fun s1 hk1 => ?_
  have hg1 : s1.get s.next = some (raftRow r d w vv pv) := by rw [hk1.get _ (by simp only [next_push']; omega)]; rw [Mem.get_push, if_pos rfl]; rfl
  have hk01 := hk0.then hk1
  have hpl : lenA false pv = some r.peers.length := by rw [hpv.len, peersC_len]
  simp only [raftRow] at hg1
  (repeat' (with_reducible first|refine w_1 ?_|refine w_2 ?_|refine w_3 ?_|refine w_4 ?_|refine w_5 ?_|refine w_6 ?_|refine w_7 ?_|(refine w_8 (fun hb=>?_) (fun hb=>?_)<;>try simp only [hb])|refine w_9 ?_|simp (maxDischargeDepth:=12) only [viz,↓reduceIte,Nat.reduceEqDiff,reduceCtorEq,Int.reduceEq,Int.reduceNeg,Nat.reduceAdd,Nat.reduceLeDiff,hg1]))
  have hbad : stOk r = false → ∀ s', Keep s.next s s' → K (.int .i64 1) s' := fun h s' hk => by have := hK s' hk; simpa [h] using this
  have hgood : stOk r = true → ∀ s', Keep s.next s s' → K (.int .i64 0) s' := fun h s' hk => by have := hK s' hk; simpa [h] using this
  refine rnode_c ?_
  cases h1 : nodeOk r.node
  · (repeat' (with_reducible first|refine w_1 ?_|refine w_2 ?_|refine w_3 ?_|refine w_4 ?_|refine w_5 ?_|refine w_6 ?_|refine w_7 ?_|(refine w_8 (fun hb=>?_) (fun hb=>?_)<;>try simp only [hb])|refine w_9 ?_|simp (maxDischargeDepth:=12) only [viz,↓reduceIte,Nat.reduceEqDiff,reduceCtorEq,Int.reduceEq,Int.reduceNeg,Nat.reduceAdd,Nat.reduceLeDiff,h1,bne_self_eq_false, Int.reduceBEq, Int.reduceBNe, Int.reduceLT, Int.reduceLE, Int.reduceGT, Int.reduceGE]))
    exact hbad (by simp [stOk, h1]) _ hk01
  by_cases h2 : r.term ≤ 4611686018427387904
  case neg =>
    have c2 : decide (r.term > 4611686018427387904) = true := by simp; omega
    (repeat' (with_reducible first|refine w_1 ?_|refine w_2 ?_|refine w_3 ?_|refine w_4 ?_|refine w_5 ?_|refine w_6 ?_|refine w_7 ?_|(refine w_8 (fun hb=>?_) (fun hb=>?_)<;>try simp only [hb])|refine w_9 ?_|simp (maxDischargeDepth:=12) only [viz,↓reduceIte,Nat.reduceEqDiff,reduceCtorEq,Int.reduceEq,Int.reduceNeg,Nat.reduceAdd,Nat.reduceLeDiff,h1,hg1,c2,bne_self_eq_false, Int.reduceBEq, Int.reduceBNe, Int.reduceLT, Int.reduceLE, Int.reduceGT, Int.reduceGE]))
    exact hbad (by simp [stOk, h2]) _ hk01
  have c2 : decide (r.term > 4611686018427387904) = false := by simp; omega
  (repeat' (with_reducible first|refine w_1 ?_|refine w_2 ?_|refine w_3 ?_|refine w_4 ?_|refine w_5 ?_|refine w_6 ?_|refine w_7 ?_|(refine w_8 (fun hb=>?_) (fun hb=>?_)<;>try simp only [hb])|refine w_9 ?_|simp (maxDischargeDepth:=12) only [viz,↓reduceIte,Nat.reduceEqDiff,reduceCtorEq,Int.reduceEq,Int.reduceNeg,Nat.reduceAdd,Nat.reduceLeDiff,h1,c2,hg1,bne_self_eq_false, Int.reduceBEq, Int.reduceBNe, Int.reduceLT, Int.reduceLE, Int.reduceGT, Int.reduceGE]))
  refine some_c ?_
  cases h3 : someOk r.vote
  · (repeat' (with_reducible first|refine w_1 ?_|refine w_2 ?_|refine w_3 ?_|refine w_4 ?_|refine w_5 ?_|refine w_6 ?_|refine w_7 ?_|(refine w_8 (fun hb=>?_) (fun hb=>?_)<;>try simp only [hb])|refine w_9 ?_|simp (maxDischargeDepth:=12) only [viz,↓reduceIte,Nat.reduceEqDiff,reduceCtorEq,Int.reduceEq,Int.reduceNeg,Nat.reduceAdd,Nat.reduceLeDiff,h3,bne_self_eq_false, Int.reduceBEq, Int.reduceBNe, Int.reduceLT, Int.reduceLE, Int.reduceGT, Int.reduceGE]))
    exact hbad (by simp [stOk, h3]) _ hk01
  (repeat' (with_reducible first|refine w_1 ?_|refine w_2 ?_|refine w_3 ?_|refine w_4 ?_|refine w_5 ?_|refine w_6 ?_|refine w_7 ?_|(refine w_8 (fun hb=>?_) (fun hb=>?_)<;>try simp only [hb])|refine w_9 ?_|simp (maxDischargeDepth:=12) only [viz,↓reduceIte,Nat.reduceEqDiff,reduceCtorEq,Int.reduceEq,Int.reduceNeg,Nat.reduceAdd,Nat.reduceLeDiff,h3,hg1,bne_self_eq_false, Int.reduceBEq, Int.reduceBNe, Int.reduceLT, Int.reduceLE, Int.reduceGT, Int.reduceGE]))
  refine some_c ?_
  cases h4 : someOk r.leads
  · (repeat' (with_reducible first|refine w_1 ?_|refine w_2 ?_|refine w_3 ?_|refine w_4 ?_|refine w_5 ?_|refine w_6 ?_|refine w_7 ?_|(refine w_8 (fun hb=>?_) (fun hb=>?_)<;>try simp only [hb])|refine w_9 ?_|simp (maxDischargeDepth:=12) only [viz,↓reduceIte,Nat.reduceEqDiff,reduceCtorEq,Int.reduceEq,Int.reduceNeg,Nat.reduceAdd,Nat.reduceLeDiff,h4,bne_self_eq_false, Int.reduceBEq, Int.reduceBNe, Int.reduceLT, Int.reduceLE, Int.reduceGT, Int.reduceGE]))
    exact hbad (by simp [stOk, h4]) _ hk01
  by_cases h5 : 0 ≤ r.elapsed
  case neg =>
    have c5 : decide (r.elapsed < 0) = true := by simp; omega
    (repeat' (with_reducible first|refine w_1 ?_|refine w_2 ?_|refine w_3 ?_|refine w_4 ?_|refine w_5 ?_|refine w_6 ?_|refine w_7 ?_|(refine w_8 (fun hb=>?_) (fun hb=>?_)<;>try simp only [hb])|refine w_9 ?_|simp (maxDischargeDepth:=12) only [viz,↓reduceIte,Nat.reduceEqDiff,reduceCtorEq,Int.reduceEq,Int.reduceNeg,Nat.reduceAdd,Nat.reduceLeDiff,h4,hg1,c5,bne_self_eq_false, Int.reduceBEq, Int.reduceBNe, Int.reduceLT, Int.reduceLE, Int.reduceGT, Int.reduceGE]))
    exact hbad (by simp [stOk, h5]) _ hk01
  have c5 : decide (r.elapsed < 0) = false := by simp; omega
  by_cases h6 : r.elapsed ≤ 1000
  case neg =>
    have c6 : decide (r.elapsed > 1000) = true := by simp; omega
    (repeat' (with_reducible first|refine w_1 ?_|refine w_2 ?_|refine w_3 ?_|refine w_4 ?_|refine w_5 ?_|refine w_6 ?_|refine w_7 ?_|(refine w_8 (fun hb=>?_) (fun hb=>?_)<;>try simp only [hb])|refine w_9 ?_|simp (maxDischargeDepth:=12) only [viz,↓reduceIte,Nat.reduceEqDiff,reduceCtorEq,Int.reduceEq,Int.reduceNeg,Nat.reduceAdd,Nat.reduceLeDiff,h4,hg1,c5,c6,bne_self_eq_false, Int.reduceBEq, Int.reduceBNe, Int.reduceLT, Int.reduceLE, Int.reduceGT, Int.reduceGE]))
    exact hbad (by simp [stOk, h6]) _ hk01
  have c6 : decide (r.elapsed > 1000) = false := by simp; omega
  (repeat' (with_reducible first|refine w_1 ?_|refine w_2 ?_|refine w_3 ?_|refine w_4 ?_|refine w_5 ?_|refine w_6 ?_|refine w_7 ?_|(refine w_8 (fun hb=>?_) (fun hb=>?_)<;>try simp only [hb])|refine w_9 ?_|simp (maxDischargeDepth:=12) only [viz,↓reduceIte,Nat.reduceEqDiff,reduceCtorEq,Int.reduceEq,Int.reduceNeg,Nat.reduceAdd,Nat.reduceLeDiff,h4,hg1,c5,c6,bne_self_eq_false, Int.reduceBEq, Int.reduceBNe, Int.reduceLT, Int.reduceLE, Int.reduceGT, Int.reduceGE]))
  refine rlogCheck_c (l := r.log) (hk01.ok hf) (hI.keep hk01) ⟨d, w, rfl, hd.keep (keep_old hI hk01), hl.keep (keep_old hI hk01)⟩ hw.log fun s2 hk2 => ?_
  have hk02 := hk01.then hk2
  have hg2 : s2.get s.next = s1.get s.next := hk2.get _ (by have := hk1.next; simp only [next_push'] at this; omega)
  rw [hg1] at hg2
  by_cases h7 : logOk r.log = true
  case neg =>
    have c7 : ((if logOk r.log = true then (0 : Int) else 1) != 0) = true := by rw [if_neg h7]; rfl
    (repeat' (with_reducible first|refine w_1 ?_|refine w_2 ?_|refine w_3 ?_|refine w_4 ?_|refine w_5 ?_|refine w_6 ?_|refine w_7 ?_|(refine w_8 (fun hb=>?_) (fun hb=>?_)<;>try simp only [hb])|refine w_9 ?_|simp (maxDischargeDepth:=12) only [viz,↓reduceIte,Nat.reduceEqDiff,reduceCtorEq,Int.reduceEq,Int.reduceNeg,Nat.reduceAdd,Nat.reduceLeDiff,c7,bne_self_eq_false, Int.reduceBEq, Int.reduceBNe, Int.reduceLT, Int.reduceLE, Int.reduceGT, Int.reduceGE]))
    exact hbad (by simp [stOk, h7]) _ hk02
  have c7 : ((if logOk r.log = true then (0 : Int) else 1) != 0) = false := by rw [if_pos h7]; rfl
  by_cases h8 : (lastE r.log).term ≤ r.term
  case neg =>
    have c8 : decide ((lastE r.log).term > r.term) = true := by simp; omega
    (repeat' (with_reducible first|refine w_1 ?_|refine w_2 ?_|refine w_3 ?_|refine w_4 ?_|refine w_5 ?_|refine w_6 ?_|refine w_7 ?_|(refine w_8 (fun hb=>?_) (fun hb=>?_)<;>try simp only [hb])|refine w_9 ?_|simp (maxDischargeDepth:=12) only [viz,↓reduceIte,Nat.reduceEqDiff,reduceCtorEq,Int.reduceEq,Int.reduceNeg,Nat.reduceAdd,Nat.reduceLeDiff,c7,hg2,c8,bne_self_eq_false, Int.reduceBEq, Int.reduceBNe, Int.reduceLT, Int.reduceLE, Int.reduceGT, Int.reduceGE]))
    exact hbad (by simp [stOk, h8]) _ hk02
  have c8 : decide ((lastE r.log).term > r.term) = false := by simp; omega
  by_cases h9 : r.log.base.index ≤ r.commit
  case neg =>
    have c9 : decide (r.commit < r.log.base.index) = true := by simp; omega
    (repeat' (with_reducible first|refine w_1 ?_|refine w_2 ?_|refine w_3 ?_|refine w_4 ?_|refine w_5 ?_|refine w_6 ?_|refine w_7 ?_|(refine w_8 (fun hb=>?_) (fun hb=>?_)<;>try simp only [hb])|refine w_9 ?_|simp (maxDischargeDepth:=12) only [viz,↓reduceIte,Nat.reduceEqDiff,reduceCtorEq,Int.reduceEq,Int.reduceNeg,Nat.reduceAdd,Nat.reduceLeDiff,c7,hg2,c8,c9,bne_self_eq_false, Int.reduceBEq, Int.reduceBNe, Int.reduceLT, Int.reduceLE, Int.reduceGT, Int.reduceGE]))
    exact hbad (by simp [stOk, h9]) _ hk02
  have c9 : decide (r.commit < r.log.base.index) = false := by simp; omega
  by_cases h10 : r.commit ≤ (lastE r.log).index
  case neg =>
    have c10 : decide (r.commit > (lastE r.log).index) = true := by simp; omega
    (repeat' (with_reducible first|refine w_1 ?_|refine w_2 ?_|refine w_3 ?_|refine w_4 ?_|refine w_5 ?_|refine w_6 ?_|refine w_7 ?_|(refine w_8 (fun hb=>?_) (fun hb=>?_)<;>try simp only [hb])|refine w_9 ?_|simp (maxDischargeDepth:=12) only [viz,↓reduceIte,Nat.reduceEqDiff,reduceCtorEq,Int.reduceEq,Int.reduceNeg,Nat.reduceAdd,Nat.reduceLeDiff,c7,hg2,c8,c9,c10,bne_self_eq_false, Int.reduceBEq, Int.reduceBNe, Int.reduceLT, Int.reduceLE, Int.reduceGT, Int.reduceGE]))
    exact hbad (by simp [stOk, h10]) _ hk02
  have c10 : decide (r.commit > (lastE r.log).index) = false := by simp; omega
  have hst : stOk r = (decide (r.role = 0) && decide (r.votes.length = 0) && decide (r.peers.length = 0) || decide (r.role = 1) && decide (r.peers.length = 0) && (decide (r.votes.length = 0) || okV r.votes) || decide (r.role = 2) && decide (r.votes.length = 0) && peersOk r) := by
    simp [stOk, h1, h2, h3, h4, h5, h6, h7, h8, h9, h10]
  have hvl : lenA false vv = some r.votes.length := hvv.lenB
  have hk0v : ∀ n : Nat, n ≠ 0 → decide ((n : Int) > 0) = true := fun n h => by simp; omega
  have hv0 : ∀ n : Nat, n = 0 → decide ((n : Int) > 0) = false := fun n h => by simp; omega
  by_cases r0 : r.role = 0
  · have b1 : (r.role != 1) = true := by simp [r0]
    have b2 : (r.role != 2) = true := by simp [r0]
    have b3 : (r.role == 0) = true := by simp [r0]
    by_cases e1 : r.votes.length = 0
    case neg =>
      have := hk0v _ e1
      (repeat' (with_reducible first|refine w_1 ?_|refine w_2 ?_|refine w_3 ?_|refine w_4 ?_|refine w_5 ?_|refine w_6 ?_|refine w_7 ?_|(refine w_8 (fun hb=>?_) (fun hb=>?_)<;>try simp only [hb])|refine w_9 ?_|simp (maxDischargeDepth:=12) only [viz,↓reduceIte,Nat.reduceEqDiff,reduceCtorEq,Int.reduceEq,Int.reduceNeg,Nat.reduceAdd,Nat.reduceLeDiff,c7,hg2,c8,c9,c10,b1,b2,b3,hvl,hpl,this,bne_self_eq_false, Int.reduceBEq, Int.reduceBNe, Int.reduceLT, Int.reduceLE, Int.reduceGT, Int.reduceGE]))
      exact hbad (by rw [hst]; simp [r0, e1]) _ hk02
    have d1 := hv0 _ e1
    by_cases e2 : r.peers.length = 0
    case neg =>
      have := hk0v _ e2
      (repeat' (with_reducible first|refine w_1 ?_|refine w_2 ?_|refine w_3 ?_|refine w_4 ?_|refine w_5 ?_|refine w_6 ?_|refine w_7 ?_|(refine w_8 (fun hb=>?_) (fun hb=>?_)<;>try simp only [hb])|refine w_9 ?_|simp (maxDischargeDepth:=12) only [viz,↓reduceIte,Nat.reduceEqDiff,reduceCtorEq,Int.reduceEq,Int.reduceNeg,Nat.reduceAdd,Nat.reduceLeDiff,c7,hg2,c8,c9,c10,b1,b2,b3,hvl,hpl,d1,this,bne_self_eq_false, Int.reduceBEq, Int.reduceBNe, Int.reduceLT, Int.reduceLE, Int.reduceGT, Int.reduceGE]))
      exact hbad (by rw [hst]; simp [r0, e1, e2]) _ hk02
    have d2 := hv0 _ e2
    (repeat' (with_reducible first|refine w_1 ?_|refine w_2 ?_|refine w_3 ?_|refine w_4 ?_|refine w_5 ?_|refine w_6 ?_|refine w_7 ?_|(refine w_8 (fun hb=>?_) (fun hb=>?_)<;>try simp only [hb])|refine w_9 ?_|simp (maxDischargeDepth:=12) only [viz,↓reduceIte,Nat.reduceEqDiff,reduceCtorEq,Int.reduceEq,Int.reduceNeg,Nat.reduceAdd,Nat.reduceLeDiff,c7,hg2,c8,c9,c10,b1,b2,b3,hvl,hpl,d1,d2,bne_self_eq_false, Int.reduceBEq, Int.reduceBNe, Int.reduceLT, Int.reduceLE, Int.reduceGT, Int.reduceGE]))
    exact hgood (by rw [hst]; simp [r0, e1, e2]) _ hk02
  have b3 : (r.role == 0) = false := by simp [r0]
  by_cases r1 : r.role = 1
  · have b1 : (r.role != 1) = false := by simp [r1]
    have b2 : (r.role != 2) = true := by simp [r1]
    have b4 : (r.role == 1) = true := by simp [r1]
    have b5 : (r.role == 2) = false := by simp [r1]
    by_cases e2 : r.peers.length = 0
    case neg =>
      have := hk0v _ e2
      (repeat' (with_reducible first|refine w_1 ?_|refine w_2 ?_|refine w_3 ?_|refine w_4 ?_|refine w_5 ?_|refine w_6 ?_|refine w_7 ?_|(refine w_8 (fun hb=>?_) (fun hb=>?_)<;>try simp only [hb])|refine w_9 ?_|simp (maxDischargeDepth:=12) only [viz,↓reduceIte,Nat.reduceEqDiff,reduceCtorEq,Int.reduceEq,Int.reduceNeg,Nat.reduceAdd,Nat.reduceLeDiff,c7,hg2,c8,c9,c10,b1,b2,b3,b4,b5,hvl,hpl,this,bne_self_eq_false, Int.reduceBEq, Int.reduceBNe, Int.reduceLT, Int.reduceLE, Int.reduceGT, Int.reduceGE]))
      exact hbad (by rw [hst]; simp [r1, e2]) _ hk02
    have d2 := hv0 _ e2
    (repeat' (with_reducible first|refine w_1 ?_|refine w_2 ?_|refine w_3 ?_|refine w_4 ?_|refine w_5 ?_|refine w_6 ?_|refine w_7 ?_|(refine w_8 (fun hb=>?_) (fun hb=>?_)<;>try simp only [hb])|refine w_9 ?_|simp (maxDischargeDepth:=12) only [viz,↓reduceIte,Nat.reduceEqDiff,reduceCtorEq,Int.reduceEq,Int.reduceNeg,Nat.reduceAdd,Nat.reduceLeDiff,c7,hg2,c8,c9,c10,b1,b2,b3,b4,b5,hvl,hpl,d2,bne_self_eq_false, Int.reduceBEq, Int.reduceBNe, Int.reduceLT, Int.reduceLE, Int.reduceGT, Int.reduceGE]))
    refine rising_c (vs := r.votes) (hvv.keep (keep_old hI hk02)) hw.votes ?_
    cases e3 : (decide (r.votes.length = 0) || okV r.votes)
    · (repeat' (with_reducible first|refine w_1 ?_|refine w_2 ?_|refine w_3 ?_|refine w_4 ?_|refine w_5 ?_|refine w_6 ?_|refine w_7 ?_|(refine w_8 (fun hb=>?_) (fun hb=>?_)<;>try simp only [hb])|refine w_9 ?_|simp (maxDischargeDepth:=12) only [viz,↓reduceIte,Nat.reduceEqDiff,reduceCtorEq,Int.reduceEq,Int.reduceNeg,Nat.reduceAdd,Nat.reduceLeDiff,hg2,b5,e3,bne_self_eq_false, Int.reduceBEq, Int.reduceBNe, Int.reduceLT, Int.reduceLE, Int.reduceGT, Int.reduceGE]))
      exact hbad (by rw [hst, e3]; simp [r1, e2]) _ hk02
    · (repeat' (with_reducible first|refine w_1 ?_|refine w_2 ?_|refine w_3 ?_|refine w_4 ?_|refine w_5 ?_|refine w_6 ?_|refine w_7 ?_|(refine w_8 (fun hb=>?_) (fun hb=>?_)<;>try simp only [hb])|refine w_9 ?_|simp (maxDischargeDepth:=12) only [viz,↓reduceIte,Nat.reduceEqDiff,reduceCtorEq,Int.reduceEq,Int.reduceNeg,Nat.reduceAdd,Nat.reduceLeDiff,hg2,b5,e3,bne_self_eq_false, Int.reduceBEq, Int.reduceBNe, Int.reduceLT, Int.reduceLE, Int.reduceGT, Int.reduceGE]))
      exact hgood (by rw [hst, e3]; simp [r1, e2]) _ hk02
  have b1 : (r.role != 1) = true := by simp [r1]
  have b4 : (r.role == 1) = false := by simp [r1]
  by_cases e1 : r.votes.length = 0
  case neg =>
    have := hk0v _ e1
    (repeat' (with_reducible first|refine w_1 ?_|refine w_2 ?_|refine w_3 ?_|refine w_4 ?_|refine w_5 ?_|refine w_6 ?_|refine w_7 ?_|(refine w_8 (fun hb=>?_) (fun hb=>?_)<;>try simp only [hb])|refine w_9 ?_|simp (maxDischargeDepth:=12) only [viz,↓reduceIte,Nat.reduceEqDiff,reduceCtorEq,Int.reduceEq,Int.reduceNeg,Nat.reduceAdd,Nat.reduceLeDiff,c7,hg2,c8,c9,c10,b1,b3,b4,hvl,hpl,this,bne_self_eq_false, Int.reduceBEq, Int.reduceBNe, Int.reduceLT, Int.reduceLE, Int.reduceGT, Int.reduceGE]))
    exact hbad (by rw [hst]; simp [r0, r1, e1]) _ hk02
  have d1 := hv0 _ e1
  by_cases r2 : r.role = 2
  · have b2 : (r.role != 2) = false := by simp [r2]
    have b5 : (r.role == 2) = true := by simp [r2]
    (repeat' (with_reducible first|refine w_1 ?_|refine w_2 ?_|refine w_3 ?_|refine w_4 ?_|refine w_5 ?_|refine w_6 ?_|refine w_7 ?_|(refine w_8 (fun hb=>?_) (fun hb=>?_)<;>try simp only [hb])|refine w_9 ?_|simp (maxDischargeDepth:=12) only [viz,↓reduceIte,Nat.reduceEqDiff,reduceCtorEq,Int.reduceEq,Int.reduceNeg,Nat.reduceAdd,Nat.reduceLeDiff,c7,hg2,c8,c9,c10,b1,b2,b3,b4,b5,hvl,hpl,d1,bne_self_eq_false, Int.reduceBEq, Int.reduceBNe, Int.reduceLT, Int.reduceLE, Int.reduceGT, Int.reduceGE]))
    refine peers_c (r := r) (hk02.ok hf) (hI.keep hk02) ⟨_, rfl, d, w, vv, pv, rfl, hd.keep (keep_old hI hk02), hl.keep (keep_old hI hk02), hvv.keep (keep_old hI hk02), hpv.keep (keep_old hI hk02)⟩ hw fun s3 hk3 => ?_
    cases e3 : peersOk r
    · (repeat' (with_reducible first|refine w_1 ?_|refine w_2 ?_|refine w_3 ?_|refine w_4 ?_|refine w_5 ?_|refine w_6 ?_|refine w_7 ?_|(refine w_8 (fun hb=>?_) (fun hb=>?_)<;>try simp only [hb])|refine w_9 ?_|simp (maxDischargeDepth:=12) only [viz,↓reduceIte,Nat.reduceEqDiff,reduceCtorEq,Int.reduceEq,Int.reduceNeg,Nat.reduceAdd,Nat.reduceLeDiff,e3,bne_self_eq_false, Int.reduceBEq, Int.reduceBNe, Int.reduceLT, Int.reduceLE, Int.reduceGT, Int.reduceGE]))
      exact hbad (by rw [hst]; simp [r2, e1, e3]) _ (hk02.then hk3)
    · (repeat' (with_reducible first|refine w_1 ?_|refine w_2 ?_|refine w_3 ?_|refine w_4 ?_|refine w_5 ?_|refine w_6 ?_|refine w_7 ?_|(refine w_8 (fun hb=>?_) (fun hb=>?_)<;>try simp only [hb])|refine w_9 ?_|simp (maxDischargeDepth:=12) only [viz,↓reduceIte,Nat.reduceEqDiff,reduceCtorEq,Int.reduceEq,Int.reduceNeg,Nat.reduceAdd,Nat.reduceLeDiff,e3,bne_self_eq_false, Int.reduceBEq, Int.reduceBNe, Int.reduceLT, Int.reduceLE, Int.reduceGT, Int.reduceGE]))
      exact hgood (by rw [hst]; simp [r2, e1, e3]) _ (hk02.then hk3)
  have b2 : (r.role != 2) = true := by simp [r2]
  have b5 : (r.role == 2) = false := by simp [r2]
  by_cases e2 : r.peers.length = 0
  case neg =>
    have := hk0v _ e2
    (repeat' (with_reducible first|refine w_1 ?_|refine w_2 ?_|refine w_3 ?_|refine w_4 ?_|refine w_5 ?_|refine w_6 ?_|refine w_7 ?_|(refine w_8 (fun hb=>?_) (fun hb=>?_)<;>try simp only [hb])|refine w_9 ?_|simp (maxDischargeDepth:=12) only [viz,↓reduceIte,Nat.reduceEqDiff,reduceCtorEq,Int.reduceEq,Int.reduceNeg,Nat.reduceAdd,Nat.reduceLeDiff,c7,hg2,c8,c9,c10,b1,b2,b3,b4,b5,hvl,hpl,d1,this,bne_self_eq_false, Int.reduceBEq, Int.reduceBNe, Int.reduceLT, Int.reduceLE, Int.reduceGT, Int.reduceGE]))
    exact hbad (by rw [hst]; simp [r0, r1, r2]) _ hk02
  have d2 := hv0 _ e2
  (repeat' (with_reducible first|refine w_1 ?_|refine w_2 ?_|refine w_3 ?_|refine w_4 ?_|refine w_5 ?_|refine w_6 ?_|refine w_7 ?_|(refine w_8 (fun hb=>?_) (fun hb=>?_)<;>try simp only [hb])|refine w_9 ?_|simp (maxDischargeDepth:=12) only [viz,↓reduceIte,Nat.reduceEqDiff,reduceCtorEq,Int.reduceEq,Int.reduceNeg,Nat.reduceAdd,Nat.reduceLeDiff,c7,hg2,c8,c9,c10,b1,b2,b3,b4,b5,hvl,hpl,d1,d2,bne_self_eq_false, Int.reduceBEq, Int.reduceBNe, Int.reduceLT, Int.reduceLE, Int.reduceGT, Int.reduceGE]))
  exact hbad (by rw [hst]; simp [r0, r1, r2]) _ hk02
end Go.Proofs.YtfllmhjjfapnmaaGreat

