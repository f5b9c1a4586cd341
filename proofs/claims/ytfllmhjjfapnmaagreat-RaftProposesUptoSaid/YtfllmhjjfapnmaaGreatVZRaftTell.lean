/- A peer is told, all are told. No statement of the seat is proved here. -/
import Derived.Test.YtfllmhjjfapnmaaGreatVZRaftGrp
import Derived.Test.YtfllmhjjfapnmaaGreatVZVE
namespace Go.Proofs.YtfllmhjjfapnmaaGreat
open Go Go.VI
set_option linter.unusedSimpArgs false
attribute [local irreducible] Ws Wp W C
set_option maxHeartbeats 4000000
structure LogGood (l : Log) : Prop where
  wf : l.Wf
  cons : Cons l.base.index l.l
  base : l.base.index ≤ 4611686018427387904
  len : l.l.length ≤ 4096
def tellM (r : Raft) (p : Peer) : Msg :=
  if p.2.1 ≤ r.log.base.index then { kind := 5, to := p.1, index := r.log.base.index, prev := r.log.base.term, commit := r.commit, snap := r.log.base }
  else { kind := 3, to := p.1, index := IntKind.u64.wrap (p.2.1 - 1), prev := (termO r.log.base.index r.log.base.term r.log.l (IntKind.u64.wrap (p.2.1 - 1))).1, entries := sliceE r.log.base.index r.log.l p.2.1 16, commit := r.commit }
theorem wrap_inU (n : Int) : InU (IntKind.u64.wrap n) := by
  unfold InU IntKind.wrap
  simp only [IntKind.bits, IntKind.signed, Bool.false_and, Bool.false_eq_true, if_false]
  omega
theorem ownl_cell {s : Mem} {b ty sz : Nat} {v : AV} {xs : List (List AV)} (h : OwnL s b v ty sz xs) : isCell v = true := by
  rcases h with ⟨rfl | rfl, _⟩ | ⟨r, rfl, _⟩ <;> rfl
theorem Grp.new {g : Nat} {s s' : Mem} {r : Raft} {out : List Msg} {d w vv pv ov : AV} (hG : Grp g s r out d w vv pv ov) (hk : s.next ≤ s'.next) : ∀ q, NewD (gD g ov s) s.next s'.next q → gD g ov s' q := by
  rintro q (⟨h1, h2, h3⟩ | ⟨h1, h2⟩)
  · exact ⟨by omega, h2, h3⟩
  · exact ⟨h2, by have := hG.lt; omega, hG.fresh h1⟩
set_option maxRecDepth 100000 in
theorem tell_c {g : Nat} {s : Mem} {r : Raft} {out : List Msg} {d w vv pv ov : AV} {p : Peer} {K : AV → Mem → Prop} (hG : Grp g s r out d w vv pv ov) (hL : LogGood r.log) (hp : InU p.2.1) (ho : out.length < 1000000)
    (hK : ∀ ov' s' v, Grp g s' r (out ++ [stamp r (tellM r p)]) d w vv pv ov' → Went g ov s ov' s' → K v s') : C tab 93 [.ptr g 0 0, .agg (peerC p)] s K := by
  simp only [peerC]
  refine C_enter (cf := cf93) rfl (Nat.le_of_ble_eq_true rfl) ?_
  simp only [cf93, oo, on, om, og, oc, ou]
  have hrow := hG.row
  simp only [grpRow] at hrow
  have hne := nat_ne hG.lt
  have hne' := nat_ne' hG.lt
  have hlt := hG.lt
  have hm1 : (g = s.next + 1) = False := by simp; omega
  have hf : (s.floor ≤ s.next) = True := by simp [hG.ok]
  have hf1 : (s.floor ≤ s.next + 1) = True := by have := hG.ok; simp; omega
  by_cases hc : p.2.1 ≤ r.log.base.index
  · have c1 : decide (p.2.1 ≤ r.log.base.index) = true := by simp [hc]
    (repeat' (with_reducible first|refine w_1 ?_|refine w_2 ?_|refine w_3 ?_|refine w_4 ?_|refine w_5 ?_|refine w_6 ?_|refine w_7 ?_|(refine w_8 (fun hb=>?_) (fun hb=>?_)<;>try simp only [hb])|refine w_9 ?_|simp (maxDischargeDepth:=12) only [viz,↓reduceIte,Nat.reduceEqDiff,reduceCtorEq,Int.reduceEq,Int.reduceNeg,Nat.reduceAdd,Nat.reduceLeDiff,hrow,hne,hne',hm1,hf,hf1,hG.d.cell,c1]))
    have hk0 := (pushes s ⟨86, 3, [[.int .i64 p.1, .int .u64 p.2.1, .int .u64 p.2.2]]⟩).then (pushes _ ⟨25, 4, [[.int .u64 r.log.base.index, .int .u64 r.log.base.term, .int .i64 r.log.base.kind, d]]⟩)
    have hS := hG.keep hk0
    refine cloneB_c (bs := r.log.base.data) (D := gD g ov _) (hk0.ok hG.ok) hS.In hS.d hL.wf.base.data fun v' s1 ho1 hk1 => ?_
    have hc1 := ownl_cell ho1
    have hk01 := hk0.then hk1
    have hrow1 := (hk01.get g hlt).trans hrow
    have n1 := hk1.next
    simp only [next_push'] at n1 ho1
    have h4 : s1.get (s.next + 1) = some ⟨25, 4, [[.int .u64 r.log.base.index, .int .u64 r.log.base.term, .int .i64 r.log.base.kind, d]]⟩ := by
      rw [hk1.get _ (by simp only [next_push']; omega), Mem.get_push, if_pos (by simp only [next_push'])]
    have h3 : s1.get s.next = some ⟨86, 3, [[.int .i64 p.1, .int .u64 p.2.1, .int .u64 p.2.2]]⟩ := by
      rw [hk1.get _ (by simp only [next_push']; omega), Mem.get_push, if_neg (by simp only [next_push']; omega), Mem.get_push, if_pos rfl]
    have f1 : (s1.floor ≤ s.next + 1) = True := by rw [hk01.floor]; exact hf1
    (repeat' (with_reducible first|refine w_1 ?_|refine w_2 ?_|refine w_3 ?_|refine w_4 ?_|refine w_5 ?_|refine w_6 ?_|refine w_7 ?_|(refine w_8 (fun hb=>?_) (fun hb=>?_)<;>try simp only [hb])|refine w_9 ?_|simp (maxDischargeDepth:=12) only [viz,↓reduceIte,Nat.reduceEqDiff,reduceCtorEq,Int.reduceEq,Int.reduceNeg,Nat.reduceAdd,Nat.reduceLeDiff,hrow1,h3,h4,hm1,hc1,cells_cell hc1,f1,putD]))
    have hk2 : Keep s.next s (s1.put (s.next + 1) (some ⟨25, 4, [[.int .u64 r.log.base.index, .int .u64 r.log.base.term, .int .i64 r.log.base.kind, v']]⟩)) := hk01.trans (Keep.put (by omega) _)
    have hS2 := hG.keep hk2
    refine say_c (m := { kind := 5, to := p.1, index := r.log.base.index, prev := r.log.base.term, commit := r.commit, snap := r.log.base }) hS2 ⟨.nilS, v', rfl, ⟨[], Sl.nil _ _ _, EntsC.nil _ _⟩, ?_⟩ ho fun ov' s3 u hG3 hw3 => ?_
    · refine Sl.keep (ho1.sl (D := fun q => s.next + 1 + 1 ≤ q ∧ q < s1.next) (byteC_len _) fun q n h => ⟨(ho1.row q _ _ _ h).1, (ho1.row q _ _ _ h).2⟩) (fun q hq => by rw [Mem.get_put, if_neg (by omega)]) |>.mono fun q hq => ⟨by simp only [next_put']; exact hq.2, by omega, hG.fresh (by omega)⟩
    · (repeat' (with_reducible first|refine w_1 ?_|refine w_2 ?_|refine w_3 ?_|refine w_4 ?_|refine w_5 ?_|refine w_6 ?_|refine w_7 ?_|(refine w_8 (fun hb=>?_) (fun hb=>?_)<;>try simp only [hb])|refine w_9 ?_|simp (maxDischargeDepth:=12) only [viz,↓reduceIte,Nat.reduceEqDiff,reduceCtorEq,Int.reduceEq,Int.reduceNeg,Nat.reduceAdd,Nat.reduceLeDiff]))
      have e1 : tellM r p = { kind := 5, to := p.1, index := r.log.base.index, prev := r.log.base.term, commit := r.commit, snap := r.log.base } := by unfold tellM; rw [if_pos hc]
      rw [← e1] at hG3
      exact hK _ _ _ hG3 ((Went.of_keep ov hk2).trans hw3)
  · have c1 : decide (p.2.1 ≤ r.log.base.index) = false := by simp; omega
    (repeat' (with_reducible first|refine w_1 ?_|refine w_2 ?_|refine w_3 ?_|refine w_4 ?_|refine w_5 ?_|refine w_6 ?_|refine w_7 ?_|(refine w_8 (fun hb=>?_) (fun hb=>?_)<;>try simp only [hb])|refine w_9 ?_|simp (maxDischargeDepth:=12) only [viz,↓reduceIte,Nat.reduceEqDiff,reduceCtorEq,Int.reduceEq,Int.reduceNeg,Nat.reduceAdd,Nat.reduceLeDiff,hrow,hne,hne',hm1,hf,hf1,hG.d.cell,c1]))
    have hk0 := (pushes s ⟨86, 3, [[.int .i64 p.1, .int .u64 p.2.1, .int .u64 p.2.2]]⟩).then (pushes _ ⟨25, 4, [[.int .u64 r.log.base.index, .int .u64 r.log.base.term, .int .i64 r.log.base.kind, d]]⟩)
    have hS := hG.keep hk0
    refine term_c (l := r.log) (D := gD g ov _) (hk0.ok hG.ok) hS.In hS.log hL.wf hL.cons hL.base (wrap_inU _) fun s1 hk1 => ?_
    have hk01 := hk0.then hk1
    have hrow1 := (hk01.get g hlt).trans hrow
    have n1 := hk1.next
    simp only [next_push'] at n1
    have h3 : s1.get s.next = some ⟨86, 3, [[.int .i64 p.1, .int .u64 p.2.1, .int .u64 p.2.2]]⟩ := by
      rw [hk1.get _ (by simp only [next_push']; omega), Mem.get_push, if_neg (by simp only [next_push']; omega), Mem.get_push, if_pos rfl]
    (repeat' (with_reducible first|refine w_1 ?_|refine w_2 ?_|refine w_3 ?_|refine w_4 ?_|refine w_5 ?_|refine w_6 ?_|refine w_7 ?_|(refine w_8 (fun hb=>?_) (fun hb=>?_)<;>try simp only [hb])|refine w_9 ?_|simp (maxDischargeDepth:=12) only [viz,↓reduceIte,Nat.reduceEqDiff,reduceCtorEq,Int.reduceEq,Int.reduceNeg,Nat.reduceAdd,Nat.reduceLeDiff,hrow1,h3]))
    have hS1 := hG.keep hk01
    refine sliceN_c (l := r.log) (D := gD g ov s1) (by show s1.next ≤ s1.next; omega) hS1.In ⟨d, w, rfl, hS1.d, hS1.w⟩ hL.wf hL.cons hp (by omega) fun v' s2 hv2 hk2 => ?_
    have hk12 : Keep s1.next s1 (s2.at s1.floor) := ⟨hk2.next, rfl, hk2.get⟩
    have hrow2 : s2.get g = _ := (hk12.get g hS1.lt).trans hrow1
    have hv2' : Ents (s2.at s1.floor) (gD g ov (s2.at s1.floor)) v' (sliceE r.log.base.index r.log.l p.2.1 16) := hv2.mono (hS1.new hk2.next)
    have hcv := hv2'.cell
    (repeat' (with_reducible first|refine w_1 ?_|refine w_2 ?_|refine w_3 ?_|refine w_4 ?_|refine w_5 ?_|refine w_6 ?_|refine w_7 ?_|(refine w_8 (fun hb=>?_) (fun hb=>?_)<;>try simp only [hb])|refine w_9 ?_|simp (maxDischargeDepth:=12) only [viz,↓reduceIte,Nat.reduceEqDiff,reduceCtorEq,Int.reduceEq,Int.reduceNeg,Nat.reduceAdd,Nat.reduceLeDiff,hrow2,hcv,cells_cell hcv]))
    have hS2 := hG.keep (hk01.then hk12)
    refine say_c (m := { kind := 3, to := p.1, index := IntKind.u64.wrap (p.2.1 - 1), prev := (termO r.log.base.index r.log.base.term r.log.l (IntKind.u64.wrap (p.2.1 - 1))).1, entries := sliceE r.log.base.index r.log.l p.2.1 16, commit := r.commit }) hS2 ⟨v', .nilS, rfl, hv2', Sl.nil _ _ _⟩ ho fun ov' s3 u hG3 hw3 => ?_
    (repeat' (with_reducible first|refine w_1 ?_|refine w_2 ?_|refine w_3 ?_|refine w_4 ?_|refine w_5 ?_|refine w_6 ?_|refine w_7 ?_|(refine w_8 (fun hb=>?_) (fun hb=>?_)<;>try simp only [hb])|refine w_9 ?_|simp (maxDischargeDepth:=12) only [viz,↓reduceIte,Nat.reduceEqDiff,reduceCtorEq,Int.reduceEq,Int.reduceNeg,Nat.reduceAdd,Nat.reduceLeDiff]))
    have e1 : tellM r p = { kind := 3, to := p.1, index := IntKind.u64.wrap (p.2.1 - 1), prev := (termO r.log.base.index r.log.base.term r.log.l (IntKind.u64.wrap (p.2.1 - 1))).1, entries := sliceE r.log.base.index r.log.l p.2.1 16, commit := r.commit } := by unfold tellM; rw [if_neg hc]
    rw [← e1] at hG3
    exact hK _ _ _ hG3 ((Went.of_keep ov (hk01.then hk12)).trans hw3)
def tellAllM (r : Raft) (ps : List Peer) : List Msg := (ps.filter fun p => p.1 != r.node).map fun p => stamp r (tellM r p)
theorem tellAllM_next {r : Raft} {ps : List Peer} {i : Nat} {p : Peer} (h : ps[i]? = some p) : tellAllM r (ps.take (i + 1)) = tellAllM r (ps.take i) ++ (if p.1 != r.node then [stamp r (tellM r p)] else []) := by
  unfold tellAllM
  rw [List.take_add_one, h, List.filter_append, List.map_append]
  congr 1
  simp only [Option.toList_some, List.filter_cons, List.filter_nil]
  split <;> rfl
theorem tellAllM_len (r : Raft) (ps : List Peer) (i : Nat) : (tellAllM r (ps.take i)).length ≤ i := by
  unfold tellAllM
  rw [List.length_map]
  exact Nat.le_trans (List.length_filter_le _ _) (List.length_take_le _ _)
theorem tellAll_c {g : Nat} {s : Mem} {r : Raft} {out : List Msg} {d w vv pv ov : AV} {K : AV → Mem → Prop} (hG : Grp g s r out d w vv pv ov) (hL : LogGood r.log) (hp : ∀ p ∈ r.peers, InU p.2.1) (ho : out.length + r.peers.length < 1000000)
    (hK : ∀ ov' s' v, Grp g s' r (out ++ tellAllM r r.peers) d w vv pv ov' → Went g ov s ov' s' → K v s') : C tab 37 [.ptr g 0 0] s K := by
  refine C_enter (cf := cf37) rfl (Nat.le_of_ble_eq_true rfl) ?_
  simp only [cf37, oo, on, om, og, oc, ou]
  have hrow := hG.row
  simp only [grpRow] at hrow
  have hlen : lenA false pv = some r.peers.length := by rw [hG.pv.len, peersC_len]
  (repeat' (with_reducible first|refine w_1 ?_|refine w_2 ?_|refine w_3 ?_|refine w_4 ?_|refine w_5 ?_|refine w_6 ?_|refine w_7 ?_|(refine w_8 (fun hb=>?_) (fun hb=>?_)<;>try simp only [hb])|refine w_9 ?_|simp (maxDischargeDepth:=12) only [viz,↓reduceIte,Nat.reduceEqDiff,reduceCtorEq,Int.reduceEq,Int.reduceNeg,Nat.reduceAdd,Nat.reduceLeDiff,hrow,hlen]))
  refine W_inv r.peers.length (fun i e s' => ∃ ov', Grp g s' r (out ++ tellAllM r (r.peers.take i)) d w vv pv ov' ∧ Went g ov s ov' s' ∧ e.get 10 = .int .i64 i) (by delta cf37l0 oo on om og oc ou; exact rfl) ?_ ?_
  · refine ⟨ov, by simpa [tellAllM] using hG, Went.refl _ _ _, by simp only [Env.get_set, ↓reduceIte]; rfl⟩
  · rintro i e s' hi hT ⟨ov', hG', hw, g10⟩
    have g0 := hT 0 rfl
    have g8 := hT 8 rfl
    have g9 := hT 9 rfl
    simp only [Env.get_set, ↓reduceIte, Nat.reduceEqDiff, Env.start, Env.ofList] at g0 g8 g9
    clear hT
    by_cases hlt : i < r.peers.length
    · obtain ⟨⟨pn, px, pm⟩, hx⟩ := get_of hlt
      obtain ⟨p, hpp, P⟩ := hG'.pv.atk hG'.In (peersC_get hx)
      simp only [peerC] at P
      have hrow' := hG'.row
      simp only [grpRow] at hrow'
      have hne := nat_ne hG'.lt
      have fT : (s'.floor ≤ s'.next) = True := by simp [hG'.ok]
      have hkp : ∀ x, Keep s'.next s' (s'.push x) := fun x => pushes s' x
      have hln := tellAllM_len r r.peers i
      by_cases hself : pn = r.node
      · have c1 : (pn != r.node) = false := by simp [hself]
        (repeat' (with_reducible first|refine w_1 ?_|refine w_2 ?_|refine w_3 ?_|refine w_4 ?_|refine w_5 ?_|refine w_6 ?_|refine w_7 ?_|(refine w_8 (fun hb=>?_) (fun hb=>?_)<;>try simp only [hb])|refine w_9 ?_|simp (maxDischargeDepth:=12) only [viz,↓reduceIte,Nat.reduceEqDiff,reduceCtorEq,Int.reduceEq,Int.reduceNeg,Nat.reduceAdd,Nat.reduceLeDiff,g0,g8,g9,g10,lt_true hlt,hpp,P.ld,hkp,fT,hne,hrow',c1]))
        refine ⟨hlt, ov', ?_, hw.then_keep (pushes _ _), succ_av (by omega)⟩
        rw [tellAllM_next hx, c1]
        simpa using hG'.keep (pushes _ _)
      · have c1 : (pn != r.node) = true := by simp [hself]
        (repeat' (with_reducible first|refine w_1 ?_|refine w_2 ?_|refine w_3 ?_|refine w_4 ?_|refine w_5 ?_|refine w_6 ?_|refine w_7 ?_|(refine w_8 (fun hb=>?_) (fun hb=>?_)<;>try simp only [hb])|refine w_9 ?_|simp (maxDischargeDepth:=12) only [viz,↓reduceIte,Nat.reduceEqDiff,reduceCtorEq,Int.reduceEq,Int.reduceNeg,Nat.reduceAdd,Nat.reduceLeDiff,g0,g8,g9,g10,lt_true hlt,hpp,P.ld,hkp,fT,hne,hrow',c1]))
        refine tell_c (p := (pn, px, pm)) (hG'.keep (pushes _ _)) hL (hp _ (List.mem_of_getElem? hx)) (by rw [List.length_append]; omega) fun ov2 s2 u hG2 hw2 => ?_
        (repeat' (with_reducible first|refine w_1 ?_|refine w_2 ?_|refine w_3 ?_|refine w_4 ?_|refine w_5 ?_|refine w_6 ?_|refine w_7 ?_|(refine w_8 (fun hb=>?_) (fun hb=>?_)<;>try simp only [hb])|refine w_9 ?_|simp (maxDischargeDepth:=12) only [viz,↓reduceIte,Nat.reduceEqDiff,reduceCtorEq,Int.reduceEq,Int.reduceNeg,Nat.reduceAdd,Nat.reduceLeDiff,g0,g8,g9,g10]))
        refine ⟨hlt, ov2, ?_, (hw.then_keep (pushes _ _)).trans hw2, succ_av (by omega)⟩
        rw [tellAllM_next hx, c1, ← List.append_assoc]
        simpa using hG2
    · (repeat' (with_reducible first|refine w_1 ?_|refine w_2 ?_|refine w_3 ?_|refine w_4 ?_|refine w_5 ?_|refine w_6 ?_|refine w_7 ?_|(refine w_8 (fun hb=>?_) (fun hb=>?_)<;>try simp only [hb])|refine w_9 ?_|simp (maxDischargeDepth:=12) only [viz,↓reduceIte,Nat.reduceEqDiff,reduceCtorEq,Int.reduceEq,Int.reduceNeg,Nat.reduceAdd,Nat.reduceLeDiff,g0,g8,g9,g10,lt_false hlt]))
      rw [List.take_of_length_le (by omega)] at hG'
      exact hK _ _ _ hG' hw
end Go.Proofs.YtfllmhjjfapnmaaGreat

