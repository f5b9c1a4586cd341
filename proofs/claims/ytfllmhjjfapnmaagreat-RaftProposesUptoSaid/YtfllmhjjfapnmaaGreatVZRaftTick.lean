/- raft.Tick. No statement of the seat is proved here. -/
import Derived.Test.YtfllmhjjfapnmaaGreatVZRaftAsk
import Derived.Test.YtfllmhjjfapnmaaGreatVZRaftOwn
import Derived.Test.YtfllmhjjfapnmaaGreatVZVE
namespace Go.Proofs.YtfllmhjjfapnmaaGreat
open Go Go.VI
set_option linter.unusedSimpArgs false
attribute [local irreducible] Ws Wp W C
set_option maxHeartbeats 4000000
def aged (r : Raft) : Raft := { r with elapsed := min 1000 (r.elapsed + 1) }
def asks (r : Raft) : Bool := decide (10 + 2 * r.node ≤ (aged r).elapsed) && decide (r.term < 4611686018427387904) && decide (r.node ∈ vot r.log)
def tickR (r : Raft) : Raft := if r.role = 2 then (if 2 ≤ (aged r).elapsed then { r with elapsed := 0 } else aged r) else if asks r = true then askR (aged r) else aged r
def tickO (r : Raft) : List Msg := if r.role = 2 then (if 2 ≤ (aged r).elapsed then tellAllM { r with elapsed := 0 } r.peers else []) else if asks r = true then askO (aged r) else []
theorem stOk_bounds {r : Raft} (h : stOk r = true) : (1 ≤ r.node ∧ r.node ≤ 7) ∧ (0 ≤ r.elapsed ∧ r.elapsed ≤ 1000) ∧ logOk r.log = true ∧ r.peers.length ≤ 7 := by
  simp only [stOk, Bool.and_eq_true, decide_eq_true_eq, nodeOk] at h
  obtain ⟨⟨⟨⟨⟨⟨⟨⟨⟨⟨h1, h2⟩, h3⟩, h4⟩, h5⟩, h6⟩, h7⟩, h8⟩, h9⟩, h10⟩, h11⟩ := h
  refine ⟨h1, ⟨h5, h6⟩, h7, ?_⟩
  simp only [Bool.or_eq_true, Bool.and_eq_true, decide_eq_true_eq] at h11
  rcases h11 with (h | h) | h
  · omega
  · omega
  · have := h.2
    simp only [peersOk, Bool.and_eq_true, decide_eq_true_eq] at this
    have e := congrArg List.length this.2
    rw [List.length_map] at e
    rw [e]; exact vot_len h7
def zeroR : Raft := ⟨0, 0, 0, zeroL, 0, 0, 0, 0, [], []⟩
theorem Grp.done {g : Nat} {s : Mem} {r : Raft} {out : List Msg} {d w vv pv ov : AV} (hG : Grp g s r out d w vv pv ov) : RaftC s (fun q => q < s.next) [.int .i64 r.node, .int .u64 r.term, .int .i64 r.vote, .int .u64 r.log.base.index, .int .u64 r.log.base.term, .int .i64 r.log.base.kind, d, w, .int .u64 r.commit, .int .i64 r.role, .int .i64 r.leads, .int .i64 r.elapsed, vv, pv] r ∧ Msgs s (fun q => q < s.next) ov out := by
  refine ⟨⟨d, w, vv, pv, rfl, hG.d.mono fun q hq => hq.1, hG.w.mono fun q hq => hq.1, hG.vv.mono fun q hq => hq.1, hG.pv.mono fun q hq => hq.1⟩, ?_⟩
  obtain ⟨xs, h1, h2⟩ := hG.out
  exact ⟨xs, h1.sl h2.sizes fun q n h => (h1.row q _ _ _ h).2, h2.mono fun q hq => hq.1⟩
structure Swap (z : Nat) (s s' : Mem) : Prop where
  was : ∃ ty c, s.get z = some ⟨ty, 14, [c]⟩ ∧ c.length = 14
  is_ : ∃ ty c, s'.get z = some ⟨ty, 14, [c]⟩
  old : ∀ q, q ≠ z → s'.get q = s.get q
theorem Swap.sl {z : Nat} {s s' : Mem} {D : Nat → Prop} {v : AV} {sz : Nat} {xs : List (List AV)} (h : Swap z s s') (hz : sz ≠ 14) (hs : Sl s D v sz xs) : Sl s' D v sz xs := by
  obtain ⟨h1, h2⟩ := hs
  refine ⟨h1, ?_⟩
  rcases h2 with h2 | h2 | h2 | ⟨r, i, n, row, g1, g2, g3, g4, g5⟩
  · exact .inl h2
  · exact .inr (.inl h2)
  · exact .inr (.inr (.inl h2))
  · refine .inr (.inr (.inr ?_))
    by_cases e : r = z
    · subst e
      obtain ⟨ty, c, w1, w2⟩ := h.was
      obtain ⟨ty', c', w3⟩ := h.is_
      rw [w1] at g3
      cases g3
      refine ⟨r, i, n, _, g1, g2, w3, by simpa using g4, ?_⟩
      have : xs = [] := by
        cases xs with
        | nil => rfl
        | cons x xs =>
          exfalso
          have hx : x ∈ ([c].drop i).take n := by rw [← g5]; exact List.mem_cons_self ..
          have hc := List.mem_of_mem_drop (List.mem_of_mem_take hx)
          rw [List.mem_singleton] at hc
          have := h1 x (List.mem_cons_self ..)
          rw [hc, w2] at this
          exact hz this.symm
      subst this
      have hl := congrArg List.length g5
      simp only [List.length_nil, List.length_take, List.length_drop, List.length_singleton] at hl
      symm
      apply List.eq_nil_of_length_eq_zero
      simp only [List.length_take, List.length_drop, List.length_singleton]
      omega
    · exact ⟨r, i, n, row, g1, g2, by rw [h.old r e]; exact g3, g4, g5⟩
theorem Swap.ents {z : Nat} {s s' : Mem} {D : Nat → Prop} {v : AV} {es : List Entry} (h : Swap z s s') (hs : Ents s D v es) : Ents s' D v es := by
  obtain ⟨xs, h1, h2, h3⟩ := hs
  refine ⟨xs, h.sl (by decide) h1, h2, fun i c e g1 g2 => ?_⟩
  obtain ⟨d, k1, k2⟩ := h3 i c e g1 g2
  exact ⟨d, k1, h.sl (by decide) k2⟩
theorem Swap.raft {z : Nat} {s s' : Mem} {D : Nat → Prop} {c : List AV} {r : Raft} (h : Swap z s s') (hs : RaftC s D c r) : RaftC s' D c r := by
  obtain ⟨d, w, vv, pv, h1, h2, h3, h4, h5⟩ := hs
  exact ⟨d, w, vv, pv, h1, h.sl (by decide) h2, h.ents h3, h.sl (by decide) h4, h.sl (by decide) h5⟩
theorem Swap.msgsC {z : Nat} {s s' : Mem} {D : Nat → Prop} {xs : List (List AV)} {ms : List Msg} (h : Swap z s s') (hs : MsgsC s D xs ms) : MsgsC s' D xs ms := by
  refine ⟨hs.1, fun i c m g1 g2 => ?_⟩
  obtain ⟨ew, sd, k1, k2, k3⟩ := hs.2 i c m g1 g2
  exact ⟨ew, sd, k1, h.ents k2, h.sl (by decide) k3⟩
theorem Grp.fin {g z : Nat} {s s' : Mem} {r : Raft} {out : List Msg} {d w vv pv ov : AV} (hG : Grp g s r out d w vv pv ov) (hz : z < g) (hS : Swap z s s') (hn : s'.next = s.next) :
    RaftV s' (Lt s'.next) (raftA r d w vv pv) r ∧ Msgs s' (Lt s'.next) ov out := by
  have hlt : ∀ q, gD g ov s q → Lt s'.next q := fun q hq => by show q < s'.next; rw [hn]; exact hq.1
  refine ⟨⟨_, rfl, hS.raft ⟨d, w, vv, pv, rfl, hG.d.mono hlt, hG.w.mono hlt, hG.vv.mono hlt, hG.pv.mono hlt⟩⟩, ?_⟩
  obtain ⟨xs, h1, h2⟩ := hG.out
  refine ⟨xs, ?_, hS.msgsC (h2.mono hlt)⟩
  refine (Sl.keep (h1.sl (D := fun q => g + 1 ≤ q ∧ q < s.next) h2.sizes fun q n h => ⟨(h1.row q _ _ _ h).1, (h1.row q _ _ _ h).2⟩) fun q hq => hS.old q (by omega)).mono fun q hq => by show q < s'.next; rw [hn]; exact hq.2
set_option maxRecDepth 100000 in
theorem tick_c {r : Raft} {D : Nat → Prop} {s : Mem} {v : AV} {K : AV → Mem → Prop} (hf : s.floor ≤ s.next) (hI : In D s) (hv : RaftV s D v r) (hw : r.Wf)
    (hbad : stOk r = false → ∀ v' s', Keep s.next s s' → (∃ c, v' = .agg c ∧ c.length = 14 ∧ c.all isCell = true) → K (.tup [v', .nilS, .int .i64 1]) s')
    (hK : stOk r = true → ∀ v' ov s', Keep s.next s s' → RaftV s' (Lt s'.next) v' (tickR r) → Msgs s' (Lt s'.next) ov (tickO r) → K (.tup [v', ov, .int .i64 0]) s') : C tab 10 [v] s K := by
  obtain ⟨d, w, vv, pv, rfl, hd, hl, hvv, hpv⟩ := raftC_row hv
  simp only [raftA]
  refine C_enter (cf := cf10) rfl (Nat.le_of_ble_eq_true rfl) ?_
  simp only [cf10, oo, on, om, og, oc, ou]
  have fl1 : (s.floor ≤ s.next + 1) = True := by simp; omega
  (repeat' (with_reducible first|refine w_1 ?_|refine w_2 ?_|refine w_3 ?_|refine w_4 ?_|refine w_5 ?_|refine w_6 ?_|refine w_7 ?_|(refine w_8 (fun hb=>?_) (fun hb=>?_)<;>try simp only [hb])|refine w_9 ?_|simp (maxDischargeDepth:=12) only [viz,↓reduceIte,Nat.reduceEqDiff,reduceCtorEq,Int.reduceEq,Int.reduceNeg,Nat.reduceAdd,Nat.reduceLeDiff,hd.cell,hl.cell,hvv.cell,hpv.cell,hf,fl1]))
  have hk0 := (pushes s (raftRow r d w vv pv)).then (pushes _ ⟨32, 14, [[.int .i64 0, .int .u64 0, .int .i64 0, .int .u64 0, .int .u64 0, .int .i64 0, .nilS, .nilS, .int .u64 0, .int .i64 0, .int .i64 0, .int .i64 0, .nilS, .nilS]]⟩)
  have hI0 := hI.keep hk0
  have hv0 : ∀ M, (∀ q, D q → M.get q = s.get q) → RaftV M D (raftA r d w vv pv) r := fun M hM => ⟨_, rfl, d, w, vv, pv, rfl, hd.keep hM, hl.keep hM, hvv.keep hM, hpv.keep hM⟩
  refine raftCheck_c (r := r) (D := D) (hk0.ok hf) hI0 (hv0 _ (keep_old hI hk0)) hw fun s1 hk1 => ?_
  have hk01 := hk0.then hk1
  have n1 := hk1.next
  simp only [next_push'] at n1
  have g1 : s1.get s.next = some (raftRow r d w vv pv) := by
    rw [hk1.get _ (by simp only [next_push']; omega), Mem.get_push, if_neg (by simp only [next_push']; omega), Mem.get_push, if_pos rfl]; rfl
  have z1 : s1.get (s.next + 1) = some ⟨32, 14, [[.int .i64 0, .int .u64 0, .int .i64 0, .int .u64 0, .int .u64 0, .int .i64 0, .nilS, .nilS, .int .u64 0, .int .i64 0, .int .i64 0, .int .i64 0, .nilS, .nilS]]⟩ := by
    rw [hk1.get _ (by simp only [next_push']; omega), Mem.get_push, if_pos (by simp only [next_push'])]
  have f1 : (s1.floor ≤ s.next + 1) = True := by rw [hk01.floor]; exact fl1
  cases hst : stOk r
  · simp only [raftRow] at g1
    simp only [Bool.false_eq_true, if_false]
    (repeat' (with_reducible first|refine w_1 ?_|refine w_2 ?_|refine w_3 ?_|refine w_4 ?_|refine w_5 ?_|refine w_6 ?_|refine w_7 ?_|(refine w_8 (fun hb=>?_) (fun hb=>?_)<;>try simp only [hb])|refine w_9 ?_|simp (maxDischargeDepth:=12) only [viz,↓reduceIte,Nat.reduceEqDiff,reduceCtorEq,Int.reduceEq,Int.reduceNeg,Nat.reduceAdd,Nat.reduceLeDiff,g1,z1,f1,bne_self_eq_false, Int.reduceBEq, Int.reduceBNe, Int.reduceLT, Int.reduceLE, Int.reduceGT, Int.reduceGE]))
    exact hbad hst _ _ (hk01.trans (Keep.put (by omega) _)) ⟨_, rfl, rfl, rfl⟩
  obtain ⟨⟨bn1, bn2⟩, ⟨be1, be2⟩, hlo, hp7⟩ := stOk_bounds hst
  have hgood := logOk_good hlo hw.log
  replace hK := hK hst
  simp only [if_true]
  have g1' := g1
  simp only [raftRow] at g1'
  (repeat' (with_reducible first|refine w_1 ?_|refine w_2 ?_|refine w_3 ?_|refine w_4 ?_|refine w_5 ?_|refine w_6 ?_|refine w_7 ?_|(refine w_8 (fun hb=>?_) (fun hb=>?_)<;>try simp only [hb])|refine w_9 ?_|simp (maxDischargeDepth:=12) only [viz,↓reduceIte,Nat.reduceEqDiff,reduceCtorEq,Int.reduceEq,Int.reduceNeg,Nat.reduceAdd,Nat.reduceLeDiff,g1',bne_self_eq_false, Int.reduceBEq, Int.reduceBNe, Int.reduceLT, Int.reduceLE, Int.reduceGT, Int.reduceGE]))
  refine rown_c (r := r) (D := D) (hk01.ok hf) (hI.keep hk01) (hv0 _ (keep_old hI hk01)) hw hgood fun g s2 d2 w2 vv2 pv2 hk2 hg2 hG2 => ?_
  have hk02 := hk01.then hk2
  have n2 := hk2.next
  have r2 := hG2.row
  simp only [grpRow] at r2
  have w1 : IntKind.i64.wrap (r.elapsed + 1) = r.elapsed + 1 := wrap_i64 (by omega)
  (repeat' (with_reducible first|refine w_1 ?_|refine w_2 ?_|refine w_3 ?_|refine w_4 ?_|refine w_5 ?_|refine w_6 ?_|refine w_7 ?_|(refine w_8 (fun hb=>?_) (fun hb=>?_)<;>try simp only [hb])|refine w_9 ?_|simp (maxDischargeDepth:=12) only [viz,↓reduceIte,Nat.reduceEqDiff,reduceCtorEq,Int.reduceEq,Int.reduceNeg,Nat.reduceAdd,Nat.reduceLeDiff,r2,w1]))
  refine mn_c (a := 1000) (b := r.elapsed + 1) (by simp only [ev, Env.get_set, ↓reduceIte, Nat.reduceEqDiff]) (by simp only [ev, Env.get_set, ↓reduceIte, Nat.reduceEqDiff]) ?_
  have flg : (s2.floor ≤ g) = True := by simp [hG2.fl]
  obtain ⟨hG3, hw3⟩ := hG2.set (aged r) (s' := s2.put g (some (grpRow (aged r) d2 w2 vv2 pv2 .nilS))) ⟨rfl, rfl, fun q hq => by simp only [Mem.get_put, if_neg hq]⟩ (by rw [Mem.get_put, if_pos rfl]) hG2.d hG2.w hG2.vv hG2.pv
  have z2 : s2.get (s.next + 1) = _ := (hk2.get _ (by omega)).trans z1
  have gz : g ≠ s.next + 1 := by omega
  have gz' : (g = s.next + 1) = False := by simp [gz]
  have zg' : (s.next + 1 = g) = False := by simp; omega
  have zD : gD g .nilS s2 (s.next + 1) := ⟨by omega, gz.symm, fun _ _ _ h => by cases h⟩
  have fin : ∀ (r' : Raft) (out' : List Msg) (d' w' vv' pv' ov' : AV) (M P : Mem), tickR r = r' → tickO r = out' → Grp g M r' out' d' w' vv' pv' ov' → Went g .nilS s2 ov' M → P.next = M.next → P.floor = M.floor → (∃ c, P.get (s.next + 1) = some ⟨32, 14, [c]⟩) → (∀ q, q ≠ s.next + 1 → P.get q = M.get q) → K (.tup [raftA r' d' w' vv' pv', ov', .int .i64 0]) P := by
    intro r' out' d' w' vv' pv' ov' M P e1 e2 hGM hwM hn hfl hzP hold
    subst e1 e2
    have hzM := hwM.box zD z2
    obtain ⟨c, hc⟩ := hzP
    obtain ⟨h1, h2⟩ := hGM.fin (z := s.next + 1) (s' := P) (by omega) ⟨⟨_, _, hzM, rfl⟩, ⟨_, c, hc⟩, hold⟩ hn
    have nM := hwM.next
    refine hK _ _ _ ⟨by omega, by rw [hfl, hwM.floor]; exact hk02.floor, fun q hq => ?_⟩ h1 h2
    rw [hold q (by omega), hwM.get q (by omega) (by omega) (fun _ _ _ h => by cases h), hk02.get q hq]
  by_cases ro : r.role = 2
  · have b1 : (r.role == 2) = true := by simp [ro]
    by_cases c : 2 ≤ (aged r).elapsed
    · have b2 : decide (min 1000 (r.elapsed + 1) ≥ 2) = true := by simp only [aged] at c; simp; omega
      have e1 : tickR r = { r with elapsed := 0 } := by unfold tickR; rw [if_pos ro, if_pos c]
      have e2 : tickO r = tellAllM { r with elapsed := 0 } r.peers := by unfold tickO; rw [if_pos ro, if_pos c]
      (repeat' (with_reducible first|refine w_1 ?_|refine w_2 ?_|refine w_3 ?_|refine w_4 ?_|refine w_5 ?_|refine w_6 ?_|refine w_7 ?_|(refine w_8 (fun hb=>?_) (fun hb=>?_)<;>try simp only [hb])|refine w_9 ?_|simp (maxDischargeDepth:=12) only [viz,↓reduceIte,Nat.reduceEqDiff,reduceCtorEq,Int.reduceEq,Int.reduceNeg,Nat.reduceAdd,Nat.reduceLeDiff,r2,flg,b1,b2,bne_self_eq_false, Int.reduceBEq, Int.reduceBNe, Int.reduceLT, Int.reduceLE, Int.reduceGT, Int.reduceGE]))
      have key : ∀ M, Turn g s2 M → M.get g = some (grpRow { r with elapsed := 0 } d2 w2 vv2 pv2 .nilS) → Grp g M { r with elapsed := 0 } [] d2 w2 vv2 pv2 .nilS ∧ Went g .nilS s2 .nilS M := fun M hT hrM => hG2.set { r with elapsed := 0 } hT hrM hG2.d hG2.w hG2.vv hG2.pv
      obtain ⟨hG4, hw4⟩ := key ((s2.put g (some (grpRow (aged r) d2 w2 vv2 pv2 .nilS))).put g (some (grpRow { r with elapsed := 0 } d2 w2 vv2 pv2 .nilS))) ⟨rfl, rfl, fun q hq => by simp only [Mem.get_put, if_neg hq]⟩ (by rw [Mem.get_put, if_pos rfl])
      refine tellAll_c hG4 hgood (fun p hp => (hw.peer p hp).1) (by show 0 + r.peers.length < _; omega) fun ov5 s5 u5 hG5 hw5 => ?_
      have r5 := hG5.row
      have z5 := (hw4.trans hw5).box zD z2
      have fl5 : (s5.floor ≤ s.next + 1) = True := by rw [(hw4.trans hw5).floor, hk2.floor]; exact f1
      simp only [grpRow] at r5
      (repeat' (with_reducible first|refine w_1 ?_|refine w_2 ?_|refine w_3 ?_|refine w_4 ?_|refine w_5 ?_|refine w_6 ?_|refine w_7 ?_|(refine w_8 (fun hb=>?_) (fun hb=>?_)<;>try simp only [hb])|refine w_9 ?_|simp (maxDischargeDepth:=12) only [viz,↓reduceIte,Nat.reduceEqDiff,reduceCtorEq,Int.reduceEq,Int.reduceNeg,Nat.reduceAdd,Nat.reduceLeDiff,r5,z5,gz',zg',fl5,hG5.d.cell,hG5.w.cell,hG5.vv.cell,hG5.pv.cell,hG5.cellO,bne_self_eq_false, Int.reduceBEq, Int.reduceBNe, Int.reduceLT, Int.reduceLE, Int.reduceGT, Int.reduceGE]))
      rw [List.nil_append] at hG5
      exact fin _ _ d2 w2 vv2 pv2 ov5 s5 _ e1 e2 hG5 (hw4.trans hw5) rfl rfl ⟨_, by rw [Mem.get_put, if_neg gz.symm, Mem.get_put, if_pos rfl]⟩ fun q hq => by
        by_cases h : q = g
        · rw [h, Mem.get_put, if_pos rfl, r5]
        · rw [Mem.get_put, if_neg h, Mem.get_put, if_neg hq, Mem.get_put, if_neg h]
    · have b2 : decide (min 1000 (r.elapsed + 1) ≥ 2) = false := by simp only [aged] at c; simp; omega
      have b3 : (r.role != 2) = false := by simp [ro]
      have e1 : tickR r = aged r := by unfold tickR; rw [if_pos ro, if_neg c]
      have e2 : tickO r = [] := by unfold tickO; rw [if_pos ro, if_neg c]
      have fl2 : (s2.floor ≤ s.next + 1) = True := by rw [hk2.floor]; exact f1
      (repeat' (with_reducible first|refine w_1 ?_|refine w_2 ?_|refine w_3 ?_|refine w_4 ?_|refine w_5 ?_|refine w_6 ?_|refine w_7 ?_|(refine w_8 (fun hb=>?_) (fun hb=>?_)<;>try simp only [hb])|refine w_9 ?_|simp (maxDischargeDepth:=12) only [viz,↓reduceIte,Nat.reduceEqDiff,reduceCtorEq,Int.reduceEq,Int.reduceNeg,Nat.reduceAdd,Nat.reduceLeDiff,r2,z2,flg,fl2,b1,b2,b3,gz',zg',hG2.d.cell,hG2.w.cell,hG2.vv.cell,hG2.pv.cell,bne_self_eq_false, Int.reduceBEq, Int.reduceBNe, Int.reduceLT, Int.reduceLE, Int.reduceGT, Int.reduceGE]))
      exact fin _ _ d2 w2 vv2 pv2 .nilS _ _ e1 e2 hG3 hw3 rfl rfl ⟨_, by rw [Mem.get_put, if_neg gz.symm, Mem.get_put, if_pos rfl]⟩ fun q hq => by
        by_cases h : q = g
        · rw [h, Mem.get_put, if_pos rfl, Mem.get_put, if_pos rfl]; rfl
        · rw [Mem.get_put, if_neg h, Mem.get_put, if_neg hq, Mem.get_put, if_neg h, Mem.get_put, if_neg h, Mem.get_put, if_neg h]
  · have b1 : (r.role == 2) = false := by simp [ro]
    have b3 : (r.role != 2) = true := by simp [ro]
    have fl2 : (s2.floor ≤ s.next + 1) = True := by rw [hk2.floor]; exact f1
    have w2n : IntKind.i64.wrap (2 * r.node) = 2 * r.node := wrap_i64 (by omega)
    have w10 : IntKind.i64.wrap (10 + 2 * r.node) = 10 + 2 * r.node := wrap_i64 (by omega)
    have no : asks r = false → tickR r = aged r ∧ tickO r = [] := fun h => by
      unfold tickR tickO
      rw [if_neg ro, if_neg ro, if_neg (by rw [h]; simp), if_neg (by rw [h]; simp)]
      exact ⟨rfl, rfl⟩
    have yes : asks r = true → tickR r = askR (aged r) ∧ tickO r = askO (aged r) := fun h => by
      unfold tickR tickO
      rw [if_neg ro, if_neg ro, if_pos h, if_pos h]
      exact ⟨rfl, rfl⟩
    by_cases c : 10 + 2 * r.node ≤ (aged r).elapsed
    case neg =>
      have b2 : decide (min 1000 (r.elapsed + 1) ≥ 10 + 2 * r.node) = false := by simp only [aged] at c; simp; omega
      obtain ⟨e1, e2⟩ := no (by unfold asks; simp [c])
      (repeat' (with_reducible first|refine w_1 ?_|refine w_2 ?_|refine w_3 ?_|refine w_4 ?_|refine w_5 ?_|refine w_6 ?_|refine w_7 ?_|(refine w_8 (fun hb=>?_) (fun hb=>?_)<;>try simp only [hb])|refine w_9 ?_|simp (maxDischargeDepth:=12) only [viz,↓reduceIte,Nat.reduceEqDiff,reduceCtorEq,Int.reduceEq,Int.reduceNeg,Nat.reduceAdd,Nat.reduceLeDiff,r2,z2,flg,fl2,b1,b2,b3,w2n,w10,gz',zg',hG2.d.cell,hG2.w.cell,hG2.vv.cell,hG2.pv.cell,bne_self_eq_false, Int.reduceBEq, Int.reduceBNe, Int.reduceLT, Int.reduceLE, Int.reduceGT, Int.reduceGE]))
      exact fin _ _ d2 w2 vv2 pv2 .nilS _ _ e1 e2 hG3 hw3 rfl rfl ⟨_, by rw [Mem.get_put, if_neg gz.symm, Mem.get_put, if_pos rfl]⟩ fun q hq => by
        by_cases h : q = g
        · rw [h, Mem.get_put, if_pos rfl, Mem.get_put, if_pos rfl]; rfl
        · rw [Mem.get_put, if_neg h, Mem.get_put, if_neg hq, Mem.get_put, if_neg h, Mem.get_put, if_neg h, Mem.get_put, if_neg h]
    have b2 : decide (min 1000 (r.elapsed + 1) ≥ 10 + 2 * r.node) = true := by simp only [aged] at c; simp; omega
    by_cases c' : r.term < 4611686018427387904
    case neg =>
      have b4 : decide (r.term < 4611686018427387904) = false := by simp [c']
      obtain ⟨e1, e2⟩ := no (by unfold asks; simp [c'])
      (repeat' (with_reducible first|refine w_1 ?_|refine w_2 ?_|refine w_3 ?_|refine w_4 ?_|refine w_5 ?_|refine w_6 ?_|refine w_7 ?_|(refine w_8 (fun hb=>?_) (fun hb=>?_)<;>try simp only [hb])|refine w_9 ?_|simp (maxDischargeDepth:=12) only [viz,↓reduceIte,Nat.reduceEqDiff,reduceCtorEq,Int.reduceEq,Int.reduceNeg,Nat.reduceAdd,Nat.reduceLeDiff,r2,z2,flg,fl2,b1,b2,b3,b4,w2n,w10,gz',zg',hG2.d.cell,hG2.w.cell,hG2.vv.cell,hG2.pv.cell,bne_self_eq_false, Int.reduceBEq, Int.reduceBNe, Int.reduceLT, Int.reduceLE, Int.reduceGT, Int.reduceGE]))
      exact fin _ _ d2 w2 vv2 pv2 .nilS _ _ e1 e2 hG3 hw3 rfl rfl ⟨_, by rw [Mem.get_put, if_neg gz.symm, Mem.get_put, if_pos rfl]⟩ fun q hq => by
        by_cases h : q = g
        · rw [h, Mem.get_put, if_pos rfl, Mem.get_put, if_pos rfl]; rfl
        · rw [Mem.get_put, if_neg h, Mem.get_put, if_neg hq, Mem.get_put, if_neg h, Mem.get_put, if_neg h, Mem.get_put, if_neg h]
    have b4 : decide (r.term < 4611686018427387904) = true := by simp [c']
    (repeat' (with_reducible first|refine w_1 ?_|refine w_2 ?_|refine w_3 ?_|refine w_4 ?_|refine w_5 ?_|refine w_6 ?_|refine w_7 ?_|(refine w_8 (fun hb=>?_) (fun hb=>?_)<;>try simp only [hb])|refine w_9 ?_|simp (maxDischargeDepth:=12) only [viz,↓reduceIte,Nat.reduceEqDiff,reduceCtorEq,Int.reduceEq,Int.reduceNeg,Nat.reduceAdd,Nat.reduceLeDiff,r2,z2,flg,fl2,b1,b2,b3,b4,w2n,w10,gz',zg',bne_self_eq_false, Int.reduceBEq, Int.reduceBNe, Int.reduceLT, Int.reduceLE, Int.reduceGT, Int.reduceGE]))
    have o3 : ∀ x q, gD g .nilS s2 q → ((s2.at s2.next).put g x).get q = s2.get q := fun x q hq => by rw [Mem.get_put, if_neg hq.2.1]; rfl
    refine gvoters_c (r := aged r) (d := d2) (w := w2) (vv := vv2) (pv := pv2) (ov := .nilS) (D := gD g .nilS s2) (Nat.le_refl _) (fun q hq => hq.1) (by rw [Mem.get_put, if_pos rfl]; rfl) ⟨d2, w2, rfl, hG2.d.keep (o3 _), hG2.w.keep (o3 _)⟩ hw.log fun v4 s4 ho4 hk4 => ?_
    have hvt : vot (aged r).log = vot r.log := rfl
    rw [hvt] at ho4
    have hk4' : Keep (s2.put g (some (grpRow (aged r) d2 w2 vv2 pv2 .nilS))).next (s2.put g (some (grpRow (aged r) d2 w2 vv2 pv2 .nilS))) (s4.at s2.floor) := ⟨hk4.next, rfl, hk4.get⟩
    have hG4 := hG3.keep hk4'
    have hw4 := hw3.then_keep hk4'
    have r4 := hG4.row
    simp only [grpRow, aged] at r4
    have r4' : s4.get g = _ := r4
    have z4 : s4.get (s.next + 1) = _ := hw4.box zD z2
    have fl4 : (s2.floor ≤ s.next + 1) = True := fl2
    (repeat' (with_reducible first|refine w_1 ?_|refine w_2 ?_|refine w_3 ?_|refine w_4 ?_|refine w_5 ?_|refine w_6 ?_|refine w_7 ?_|(refine w_8 (fun hb=>?_) (fun hb=>?_)<;>try simp only [hb])|refine w_9 ?_|simp (maxDischargeDepth:=12) only [viz,↓reduceIte,Nat.reduceEqDiff,reduceCtorEq,Int.reduceEq,Int.reduceNeg,Nat.reduceAdd,Nat.reduceLeDiff,r4',bne_self_eq_false, Int.reduceBEq, Int.reduceBNe, Int.reduceLT, Int.reduceLE, Int.reduceGT, Int.reduceGE]))
    have hvf := vot_fit hw.log
    unfold Fit at hvf
    refine Q.contains_c (l := vot r.log) (s := s4.at s2.floor) (((ho4.sl (D := fun q => q < s4.next) (intsA_sz _ _) fun q n h => (ho4.row q _ _ _ h).2).keep (s' := s4.at s2.floor) fun _ _ => rfl).ints) (by omega) fun b hb => ?_
    have hab : asks r = b := by
      unfold asks
      rw [decide_eq_true c, decide_eq_true c', Bool.true_and, Bool.true_and, Bool.eq_iff_iff, decide_eq_true_eq]
      exact hb.symm
    cases b
    · obtain ⟨e1, e2⟩ := no hab
      (repeat' (with_reducible first|refine w_1 ?_|refine w_2 ?_|refine w_3 ?_|refine w_4 ?_|refine w_5 ?_|refine w_6 ?_|refine w_7 ?_|(refine w_8 (fun hb=>?_) (fun hb=>?_)<;>try simp only [hb])|refine w_9 ?_|simp (maxDischargeDepth:=12) only [viz,↓reduceIte,Nat.reduceEqDiff,reduceCtorEq,Int.reduceEq,Int.reduceNeg,Nat.reduceAdd,Nat.reduceLeDiff,r4',z4,fl4,gz',zg',hG2.d.cell,hG2.w.cell,hG2.vv.cell,hG2.pv.cell,bne_self_eq_false, Int.reduceBEq, Int.reduceBNe, Int.reduceLT, Int.reduceLE, Int.reduceGT, Int.reduceGE]))
      exact fin _ _ d2 w2 vv2 pv2 .nilS (s4.at s2.floor) _ e1 e2 hG4 hw4 rfl rfl ⟨_, by rw [Mem.get_put, if_neg gz.symm, Mem.get_put, if_pos rfl]⟩ fun q hq => by
        by_cases h : q = g
        · rw [h, Mem.get_put, if_pos rfl, r4]
        · rw [Mem.get_put, if_neg h, Mem.get_put, if_neg hq, Mem.get_put, if_neg h]
    · obtain ⟨e1, e2⟩ := yes hab
      (repeat' (with_reducible first|refine w_1 ?_|refine w_2 ?_|refine w_3 ?_|refine w_4 ?_|refine w_5 ?_|refine w_6 ?_|refine w_7 ?_|(refine w_8 (fun hb=>?_) (fun hb=>?_)<;>try simp only [hb])|refine w_9 ?_|simp (maxDischargeDepth:=12) only [viz,↓reduceIte,Nat.reduceEqDiff,reduceCtorEq,Int.reduceEq,Int.reduceNeg,Nat.reduceAdd,Nat.reduceLeDiff,r4',bne_self_eq_false, Int.reduceBEq, Int.reduceBNe, Int.reduceLT, Int.reduceLE, Int.reduceGT, Int.reduceGE]))
      refine gask_c hG4 hlo hw.log (by show 0 < _; omega) fun d5 w5 vv5 pv5 ov5 s5 u5 hG5 hw5 => ?_
      have r5 := hG5.row
      have z5 := (hw4.trans hw5).box zD z2
      have fl5 : (s5.floor ≤ s.next + 1) = True := by rw [(hw4.trans hw5).floor]; exact fl2
      simp only [grpRow] at r5
      (repeat' (with_reducible first|refine w_1 ?_|refine w_2 ?_|refine w_3 ?_|refine w_4 ?_|refine w_5 ?_|refine w_6 ?_|refine w_7 ?_|(refine w_8 (fun hb=>?_) (fun hb=>?_)<;>try simp only [hb])|refine w_9 ?_|simp (maxDischargeDepth:=12) only [viz,↓reduceIte,Nat.reduceEqDiff,reduceCtorEq,Int.reduceEq,Int.reduceNeg,Nat.reduceAdd,Nat.reduceLeDiff,r5,z5,gz',zg',fl5,hG5.d.cell,hG5.w.cell,hG5.vv.cell,hG5.pv.cell,hG5.cellO,bne_self_eq_false, Int.reduceBEq, Int.reduceBNe, Int.reduceLT, Int.reduceLE, Int.reduceGT, Int.reduceGE]))
      rw [List.nil_append] at hG5
      exact fin _ _ d5 w5 vv5 pv5 ov5 s5 _ e1 e2 hG5 (hw4.trans hw5) rfl rfl ⟨_, by rw [Mem.get_put, if_neg gz.symm, Mem.get_put, if_pos rfl]⟩ fun q hq => by
        by_cases h : q = g
        · rw [h, Mem.get_put, if_pos rfl, r5]
        · rw [Mem.get_put, if_neg h, Mem.get_put, if_neg hq, Mem.get_put, if_neg h]
end Go.Proofs.YtfllmhjjfapnmaaGreat

