/- A group turns: its term, what is committed. No statement of the seat is proved here. -/
import Derived.Test.YtfllmhjjfapnmaaGreatVZRaftWon
import Derived.Test.YtfllmhjjfapnmaaGreatVZVE
namespace Go.Proofs.YtfllmhjjfapnmaaGreat
open Go Go.VI
set_option linter.unusedSimpArgs false
attribute [local irreducible] Ws Wp W C
set_option maxHeartbeats 4000000
theorem Grp.set {g : Nat} {s s' : Mem} {r : Raft} {out : List Msg} {d w vv pv ov : AV} (hG : Grp g s r out d w vv pv ov) (r' : Raft) {d' w' vv' pv' : AV} (hT : Turn g s s') (hrow : s'.get g = some (grpRow r' d' w' vv' pv' ov)) (hd : Byt s (gD g ov s) d' r'.log.base.data) (hw : Ents s (gD g ov s) w' r'.log.l) (hv : Sl s (gD g ov s) vv' 1 (intsA .i64 r'.votes)) (hp : Sl s (gD g ov s) pv' 3 (peersC r'.peers)) :
    Grp g s' r' out d' w' vv' pv' ov ∧ Went g ov s ov s' := by
  have old : ∀ q, gD g ov s q → s'.get q = s.get q := fun q hq => hT.get q hq.2.1
  have mv : ∀ q, gD g ov s q → gD g ov s' q := fun q hq => ⟨by rw [hT.next]; exact hq.1, hq.2⟩
  obtain ⟨xs, h1, h2⟩ := hG.out
  refine ⟨⟨hrow, (hd.keep old).mono mv, (hw.keep old).mono mv, (hv.keep old).mono mv, (hp.keep old).mono mv, by rw [hT.next]; exact hG.lt, by rw [hT.floor]; exact hG.fl, xs, ?_, (h2.keep old).mono mv⟩, ⟨by rw [hT.next]; exact Nat.le_refl _, hT.floor, fun q _ hne _ => hT.get q hne, fun _ i n z h => .inl ⟨i, n, z, h⟩⟩⟩
  rcases h1 with h1 | ⟨q, h3, h4, h5, h6, h7⟩
  · exact .inl h1
  · exact .inr ⟨q, h3, by rw [hT.get q (by omega)]; exact h4, by rw [hT.floor]; exact h5, h6, by rw [hT.next]; exact h7⟩
section
variable {g : Nat} {s : Mem} {r : Raft} {out : List Msg} {d w vv pv ov : AV} {K : AV → Mem → Prop}
theorem gvoters_c {D : Nat → Prop} (hf : s.floor ≤ s.next) (hI : In D s) (hrow : s.get g = some (grpRow r d w vv pv ov)) (hl : LogV s D (.agg [.int .u64 r.log.base.index, .int .u64 r.log.base.term, .int .i64 r.log.base.kind, d, w]) r.log) (hw : r.log.Wf) (hK : ∀ v' s', OwnL s' s.next v' 3 1 (intsA .i64 (vot r.log)) → Keep s.next s s' → K v' s') : C tab 39 [.ptr g 0 0] s K := by
  refine C_enter (cf := cf39) rfl (Nat.le_of_ble_eq_true rfl) ?_
  simp only [cf39, oo, on, om, og, oc, ou]
  simp only [grpRow] at hrow
  (repeat' (with_reducible first|refine w_1 ?_|refine w_2 ?_|refine w_3 ?_|refine w_4 ?_|refine w_5 ?_|refine w_6 ?_|refine w_7 ?_|(refine w_8 (fun hb=>?_) (fun hb=>?_)<;>try simp only [hb])|refine w_9 ?_|simp (maxDischargeDepth:=12) only [viz,↓reduceIte,Nat.reduceEqDiff,reduceCtorEq,Int.reduceEq,Int.reduceNeg,Nat.reduceAdd,Nat.reduceLeDiff,hrow]))
  refine voters_c (l := r.log) hf hI hl hw fun v' s' ho hk => ?_
  (repeat' (with_reducible first|refine w_1 ?_|refine w_2 ?_|refine w_3 ?_|refine w_4 ?_|refine w_5 ?_|refine w_6 ?_|refine w_7 ?_|(refine w_8 (fun hb=>?_) (fun hb=>?_)<;>try simp only [hb])|refine w_9 ?_|simp (maxDischargeDepth:=12) only [viz,↓reduceIte,Nat.reduceEqDiff,reduceCtorEq,Int.reduceEq,Int.reduceNeg,Nat.reduceAdd,Nat.reduceLeDiff]))
  exact hK _ _ ho hk
theorem gend_c (hG : Grp g s r out d w vv pv ov) (hw : r.log.Wf) (hK : ∀ s', Keep s.next s s' → K (.int .u64 (lastE r.log).index) s') : C tab 68 [.ptr g 0 0] s K := by
  refine C_enter (cf := cf68) rfl (Nat.le_of_ble_eq_true rfl) ?_
  simp only [cf68, oo, on, om, og, oc, ou]
  have hrow := hG.row
  simp only [grpRow] at hrow
  (repeat' (with_reducible first|refine w_1 ?_|refine w_2 ?_|refine w_3 ?_|refine w_4 ?_|refine w_5 ?_|refine w_6 ?_|refine w_7 ?_|(refine w_8 (fun hb=>?_) (fun hb=>?_)<;>try simp only [hb])|refine w_9 ?_|simp (maxDischargeDepth:=12) only [viz,↓reduceIte,Nat.reduceEqDiff,reduceCtorEq,Int.reduceEq,Int.reduceNeg,Nat.reduceAdd,Nat.reduceLeDiff,hrow]))
  refine last_c (l := r.log) hG.ok hG.In hG.log hw fun s' hk => ?_
  (repeat' (with_reducible first|refine w_1 ?_|refine w_2 ?_|refine w_3 ?_|refine w_4 ?_|refine w_5 ?_|refine w_6 ?_|refine w_7 ?_|(refine w_8 (fun hb=>?_) (fun hb=>?_)<;>try simp only [hb])|refine w_9 ?_|simp (maxDischargeDepth:=12) only [viz,↓reduceIte,Nat.reduceEqDiff,reduceCtorEq,Int.reduceEq,Int.reduceNeg,Nat.reduceAdd,Nat.reduceLeDiff]))
  exact hK _ hk
theorem gfollow_c {t : Int} (hG : Grp g s r out d w vv pv ov) (hK : ∀ s' v, Grp g s' (followR r t) out d w .nilS .nilS ov → Went g ov s ov s' → K v s') : C tab 75 [.ptr g 0 0, .int .u64 t] s K := by
  refine C_enter (cf := cf75) rfl (Nat.le_of_ble_eq_true rfl) ?_
  simp only [cf75, oo, on, om, og, oc, ou]
  have hrow := hG.row
  simp only [grpRow] at hrow
  have fl : (s.floor ≤ g) = True := by simp [hG.fl]
  (repeat' (with_reducible first|refine w_1 ?_|refine w_2 ?_|refine w_3 ?_|refine w_4 ?_|refine w_5 ?_|refine w_6 ?_|refine w_7 ?_|(refine w_8 (fun hb=>?_) (fun hb=>?_)<;>try simp only [hb])|refine w_9 ?_|simp (maxDischargeDepth:=12) only [viz,↓reduceIte,Nat.reduceEqDiff,reduceCtorEq,Int.reduceEq,Int.reduceNeg,Nat.reduceAdd,Nat.reduceLeDiff,hrow,fl]))
  have key : ∀ s', Turn g s s' → s'.get g = some (grpRow (followR r t) d w .nilS .nilS ov) → K (.tup []) s' := fun s' h1 h2 => by
    obtain ⟨a, b⟩ := hG.set (followR r t) h1 h2 hG.d hG.w (Sl.nil _ _ _) (Sl.nil _ _ _)
    exact hK _ _ a b
  exact key _ ⟨rfl, rfl, fun q hq => by simp only [Mem.get_put, if_neg hq]⟩ (by rw [Mem.get_put, if_pos rfl]; rfl)
theorem gcommit_c (hG : Grp g s r out d w vv pv ov) (hL : LogGood r.log) (hp : ∀ p ∈ r.peers, InU p.2.1 ∧ InU p.2.2) (hn : Fit r.peers.length) (hK : ∀ s' v, Grp g s' (commitR r) out d w vv pv ov → Went g ov s ov s' → K v s') : C tab 119 [.ptr g 0 0] s K := by
  refine C_enter (cf := cf119) rfl (Nat.le_of_ble_eq_true rfl) ?_
  simp only [cf119, oo, on, om, og, oc, ou]
  have hrow := hG.row
  simp only [grpRow] at hrow
  (repeat' (with_reducible first|refine w_1 ?_|refine w_2 ?_|refine w_3 ?_|refine w_4 ?_|refine w_5 ?_|refine w_6 ?_|refine w_7 ?_|(refine w_8 (fun hb=>?_) (fun hb=>?_)<;>try simp only [hb])|refine w_9 ?_|simp (maxDischargeDepth:=12) only [viz,↓reduceIte,Nat.reduceEqDiff,reduceCtorEq,Int.reduceEq,Int.reduceNeg,Nat.reduceAdd,Nat.reduceLeDiff,hrow]))
  refine gvoters_c (r := r) (d := d) (w := w) (vv := vv) (pv := pv) (ov := ov) (D := gD g ov s) (Nat.le_refl _) hG.In hG.row ⟨d, w, rfl, hG.d, hG.w⟩ hL.wf fun v1 s1 ho1 hk1 => ?_
  have hk1' : Keep s.next s (s1.at s.floor) := ⟨hk1.next, rfl, hk1.get⟩
  have n1 : s.next ≤ s1.next := hk1.next
  have hr1 : s1.get g = _ := (hk1'.get g hG.lt).trans hrow
  have hG1 := hG.keep hk1'
  (repeat' (with_reducible first|refine w_1 ?_|refine w_2 ?_|refine w_3 ?_|refine w_4 ?_|refine w_5 ?_|refine w_6 ?_|refine w_7 ?_|(refine w_8 (fun hb=>?_) (fun hb=>?_)<;>try simp only [hb])|refine w_9 ?_|simp (maxDischargeDepth:=12) only [viz,↓reduceIte,Nat.reduceEqDiff,reduceCtorEq,Int.reduceEq,Int.reduceNeg,Nat.reduceAdd,Nat.reduceLeDiff,hr1]))
  refine qcommit_c (vs := vot r.log) (ps := r.peers) (D := fun q => q < s1.next) (by show s.floor ≤ s1.next; have := hG.ok; omega) (fun q hq => hq) ((ho1.at (show s.floor ≤ s.next from hG.ok)).sl (intsA_sz _ _) fun q n h => (ho1.row q _ _ _ h).2) (vot_fit hL.wf) (hG1.pv.mono fun q hq => hq.1) hn fun s2 hk2 => ?_
  have hG2 := hG1.keep hk2
  have hr2 := hG2.row
  have hw2 := (Went.of_keep (g := g) ov hk1').then_keep hk2
  simp only [grpRow] at hr2
  (repeat' (with_reducible first|refine w_1 ?_|refine w_2 ?_|refine w_3 ?_|refine w_4 ?_|refine w_5 ?_|refine w_6 ?_|refine w_7 ?_|(refine w_8 (fun hb=>?_) (fun hb=>?_)<;>try simp only [hb])|refine w_9 ?_|simp (maxDischargeDepth:=12) only [viz,↓reduceIte,Nat.reduceEqDiff,reduceCtorEq,Int.reduceEq,Int.reduceNeg,Nat.reduceAdd,Nat.reduceLeDiff,hr2]))
  have hm : InU (major (vot r.log) r.peers) := by
    unfold major
    split
    · rename_i hok
      have h0 := (okV_len hok).1
      have := (Q.mid_spec (l := Q.ms (vot r.log) r.peers) (by rw [Q.ms_len]; omega)).1
      obtain ⟨n, _, e⟩ := List.mem_map.mp this
      rw [← e]
      exact firstM_inU (fun p hp' => (hp p hp').2) n
    · unfold InU; omega
  refine term_c (l := r.log) (D := gD g ov s2) hG2.ok hG2.In hG2.log hL.wf hL.cons hL.base hm fun s3 hk3 => ?_
  have hG3 := hG2.keep hk3
  have hw3 := hw2.then_keep hk3
  have hr3 := hG3.row
  simp only [grpRow] at hr3
  have fl3 : (s3.floor ≤ g) = True := by simp [hG3.fl]
  have fin : commitR r = r → K (.tup []) s3 := fun h => by rw [← h] at hG3; exact hK _ _ hG3 hw3
  have hcr : commitR r = if (termO r.log.base.index r.log.base.term r.log.l (major (vot r.log) r.peers)).2 = true ∧ r.commit < major (vot r.log) r.peers ∧ (termO r.log.base.index r.log.base.term r.log.l (major (vot r.log) r.peers)).1 = r.term then { r with commit := major (vot r.log) r.peers } else r := rfl
  generalize termO r.log.base.index r.log.base.term r.log.l (major (vot r.log) r.peers) = to at hcr ⊢
  obtain ⟨tt, tb⟩ := to
  simp only at hcr
  cases tb
  · (repeat' (with_reducible first|refine w_1 ?_|refine w_2 ?_|refine w_3 ?_|refine w_4 ?_|refine w_5 ?_|refine w_6 ?_|refine w_7 ?_|(refine w_8 (fun hb=>?_) (fun hb=>?_)<;>try simp only [hb])|refine w_9 ?_|simp (maxDischargeDepth:=12) only [viz,↓reduceIte,Nat.reduceEqDiff,reduceCtorEq,Int.reduceEq,Int.reduceNeg,Nat.reduceAdd,Nat.reduceLeDiff,hr3,bne_self_eq_false, Int.reduceBEq, Int.reduceBNe, Int.reduceLT, Int.reduceLE, Int.reduceGT, Int.reduceGE]))
    exact fin (by rw [hcr]; simp)
  by_cases c : r.commit < major (vot r.log) r.peers
  case neg =>
    have c1 : decide (major (vot r.log) r.peers > r.commit) = false := by simp; omega
    (repeat' (with_reducible first|refine w_1 ?_|refine w_2 ?_|refine w_3 ?_|refine w_4 ?_|refine w_5 ?_|refine w_6 ?_|refine w_7 ?_|(refine w_8 (fun hb=>?_) (fun hb=>?_)<;>try simp only [hb])|refine w_9 ?_|simp (maxDischargeDepth:=12) only [viz,↓reduceIte,Nat.reduceEqDiff,reduceCtorEq,Int.reduceEq,Int.reduceNeg,Nat.reduceAdd,Nat.reduceLeDiff,hr3,c1,bne_self_eq_false, Int.reduceBEq, Int.reduceBNe, Int.reduceLT, Int.reduceLE, Int.reduceGT, Int.reduceGE]))
    exact fin (by rw [hcr]; simp [c])
  have c1 : decide (major (vot r.log) r.peers > r.commit) = true := by simp [c]
  by_cases c' : tt = r.term
  case neg =>
    have c2 : (tt == r.term) = false := by simp [c']
    (repeat' (with_reducible first|refine w_1 ?_|refine w_2 ?_|refine w_3 ?_|refine w_4 ?_|refine w_5 ?_|refine w_6 ?_|refine w_7 ?_|(refine w_8 (fun hb=>?_) (fun hb=>?_)<;>try simp only [hb])|refine w_9 ?_|simp (maxDischargeDepth:=12) only [viz,↓reduceIte,Nat.reduceEqDiff,reduceCtorEq,Int.reduceEq,Int.reduceNeg,Nat.reduceAdd,Nat.reduceLeDiff,hr3,c1,c2,bne_self_eq_false, Int.reduceBEq, Int.reduceBNe, Int.reduceLT, Int.reduceLE, Int.reduceGT, Int.reduceGE]))
    exact fin (by rw [hcr]; simp [c'])
  have c2 : (tt == r.term) = true := by simp [c']
  (repeat' (with_reducible first|refine w_1 ?_|refine w_2 ?_|refine w_3 ?_|refine w_4 ?_|refine w_5 ?_|refine w_6 ?_|refine w_7 ?_|(refine w_8 (fun hb=>?_) (fun hb=>?_)<;>try simp only [hb])|refine w_9 ?_|simp (maxDischargeDepth:=12) only [viz,↓reduceIte,Nat.reduceEqDiff,reduceCtorEq,Int.reduceEq,Int.reduceNeg,Nat.reduceAdd,Nat.reduceLeDiff,hr3,c1,c2,fl3,bne_self_eq_false, Int.reduceBEq, Int.reduceBNe, Int.reduceLT, Int.reduceLE, Int.reduceGT, Int.reduceGE]))
  rw [if_pos ⟨rfl, c, c'⟩] at hcr
  obtain ⟨h1, h2⟩ := hG3.set (commitR r) (s' := s3.put g (some (grpRow (commitR r) d w vv pv ov))) (d' := d) (w' := w) (vv' := vv) (pv' := pv) ⟨rfl, rfl, fun q hq => by simp only [Mem.get_put, if_neg hq]⟩ (by rw [Mem.get_put, if_pos rfl]) (by rw [hcr]; exact hG3.d) (by rw [hcr]; exact hG3.w) (by rw [hcr]; exact hG3.vv) (by rw [hcr]; exact hG3.pv)
  have := hK _ (.tup []) h1 (hw3.trans h2)
  rw [hcr] at this
  exact this
theorem find_at {ps : List Peer} {n : Int} {i : Nat} {p : Peer} (hi : ps[i]? = some p) (hp : p.1 = n) (hj : ∀ q ∈ ps.take i, q.1 ≠ n) : ps.find? (fun p => p.1 == n) = some p := by
  have hlt := (List.getElem?_eq_some_iff.mp hi).1
  have hs : ps = ps.take i ++ p :: ps.drop (i + 1) := by
    have hg : ps[i] = p := (List.getElem?_eq_some_iff.mp hi).2
    rw [← hg, ← List.drop_eq_getElem_cons hlt, List.take_append_drop]
  have h1 : (ps.take i).find? (fun p => p.1 == n) = none := List.find?_eq_none.mpr (by intro x hx; simpa using hj x hx)
  rw [hs, List.find?_append, h1]
  simp [hp]
theorem find_no {ps : List Peer} {n : Int} (h : ∀ q ∈ ps, q.1 ≠ n) : ps.find? (fun p => p.1 == n) = none := List.find?_eq_none.mpr (by intro x hx; simpa using h x hx)
theorem peersC_snoc (ps : List Peer) (p : Peer) : peersC ps ++ [peerC p] = peersC (ps ++ [p]) := by simp [peersC]
set_option maxRecDepth 100000 in
theorem gsettle_c (hG : Grp g s r out d w vv pv ov) (hL : logOk r.log = true) (hw : r.log.Wf) (hp : ∀ p ∈ r.peers, InU p.2.1 ∧ InU p.2.2) (hn : Fit r.peers.length) (ho : out.length < 100000)
    (hK : ∀ ov' pv' s' v, Grp g s' (settleR r) (out ++ tellAllM (settleR r) (settleR r).peers) d w vv pv' ov' → Went g ov s ov' s' → K v s') : C tab 67 [.ptr g 0 0] s K := by
  have hgood := logOk_good hL hw
  have h7 := vot_len hL
  refine C_enter (cf := cf67) rfl (Nat.le_of_ble_eq_true rfl) ?_
  simp only [cf67, oo, on, om, og, oc, ou]
  (repeat' (with_reducible first|refine w_1 ?_|refine w_2 ?_|refine w_3 ?_|refine w_4 ?_|refine w_5 ?_|refine w_6 ?_|refine w_7 ?_|(refine w_8 (fun hb=>?_) (fun hb=>?_)<;>try simp only [hb])|refine w_9 ?_|simp (maxDischargeDepth:=12) only [viz,↓reduceIte,Nat.reduceEqDiff,reduceCtorEq,Int.reduceEq,Int.reduceNeg,Nat.reduceAdd,Nat.reduceLeDiff]))
  refine gend_c hG hw fun s1 hk1 => ?_
  have hG1 := hG.keep hk1
  (repeat' (with_reducible first|refine w_1 ?_|refine w_2 ?_|refine w_3 ?_|refine w_4 ?_|refine w_5 ?_|refine w_6 ?_|refine w_7 ?_|(refine w_8 (fun hb=>?_) (fun hb=>?_)<;>try simp only [hb])|refine w_9 ?_|simp (maxDischargeDepth:=12) only [viz,↓reduceIte,Nat.reduceEqDiff,reduceCtorEq,Int.reduceEq,Int.reduceNeg,Nat.reduceAdd,Nat.reduceLeDiff]))
  refine gvoters_c (r := r) hG1.ok hG1.In hG1.row hG1.log hw fun v2 s2 ho2 hk2 => ?_
  have hG2 := hG1.keep hk2
  have hk02 := hk1.then hk2
  have hl2 : lenA false v2 = some (vot r.log).length := by rw [ho2.len, intsA_len]
  (repeat' (with_reducible first|refine w_1 ?_|refine w_2 ?_|refine w_3 ?_|refine w_4 ?_|refine w_5 ?_|refine w_6 ?_|refine w_7 ?_|(refine w_8 (fun hb=>?_) (fun hb=>?_)<;>try simp only [hb])|refine w_9 ?_|simp (maxDischargeDepth:=12) only [viz,↓reduceIte,Nat.reduceEqDiff,reduceCtorEq,Int.reduceEq,Int.reduceNeg,Nat.reduceAdd,Nat.reduceLeDiff,hl2]))
  refine W_inv (vot r.log).length (fun i e s' => Keep s2.next s2 s' ∧ e.get 13 = .int .i64 i ∧ ∃ l, e.get 3 = l ∧ OwnL s' s2.next l 86 3 (peersC (((vot r.log).take i).map (peerFor r)))) (by delta cf67l0 oo on om og oc ou; exact rfl) ?_ ?_
  · exact ⟨Keep.refl _ _, by simp only [Env.get_set, ↓reduceIte]; rfl, .nilS, (by simp only [ev, Env.get_set, ↓reduceIte, Nat.reduceEqDiff]), OwnL.nil _ _ _ _⟩
  · rintro i e s' hi hT ⟨hk, g13, l, g3, hol⟩
    have g0 := hT 0 rfl
    have g2 := hT 2 rfl
    have g11 := hT 11 rfl
    have g12 := hT 12 rfl
    simp only [Env.get_set, ↓reduceIte, Nat.reduceEqDiff, Env.start, Env.ofList] at g0 g2 g11 g12
    clear hT
    have hG' := hG2.keep hk
    have hr' := hG'.row
    simp only [grpRow] at hr'
    have fT : (s'.floor ≤ s'.next) = True := by simp [hG'.ok]
    have hne := nat_ne hG'.lt
    by_cases hlt : i < (vot r.log).length
    · obtain ⟨n, hx⟩ := get_of hlt
      have hv2 : Sl s' (fun q => q < s'.next) v2 1 (intsA .i64 (vot r.log)) := ((ho2.sl (D := fun q => q < s2.next) (intsA_sz _ _) fun q n h => (ho2.row q _ _ _ h).2).keep fun q hq => hk.get q hq).mono fun q hq => Nat.lt_of_lt_of_le hq hk.next
      obtain ⟨p, hpp, P⟩ := hv2.atkB (fun q hq => hq) hx
      have ld : loadA s' false 1 p = some (.int .i64 n) := by rw [P.ld _ (Keep.refl _ _)]; exact rfl
      have hne1 : (g = s'.next + 1) = False := by have := hG'.lt; simp; omega
      have fT1 : (s'.floor ≤ s'.next + 1) = True := by have := hG'.ok; simp; omega
      (repeat' (with_reducible first|refine w_1 ?_|refine w_2 ?_|refine w_3 ?_|refine w_4 ?_|refine w_5 ?_|refine w_6 ?_|refine w_7 ?_|(refine w_8 (fun hb=>?_) (fun hb=>?_)<;>try simp only [hb])|refine w_9 ?_|simp (maxDischargeDepth:=12) only [viz,↓reduceIte,Nat.reduceEqDiff,reduceCtorEq,Int.reduceEq,Int.reduceNeg,Nat.reduceAdd,Nat.reduceLeDiff,g0,g2,g11,g12,g13,g3,lt_true hlt,hpp,ld,fT,fT1,hr',hne,hne1]))
      have hkS : Keep s'.next s' ((s'.push ⟨3, 1, [[.int .i64 n]]⟩).push ⟨86, 3, [[.int .i64 n, .int .u64 (lastE r.log).index, .int .u64 0]]⟩) := (pushes _ _).then (pushes _ _)
      have hGS := hG'.keep hkS
      have hll : (peersC (((vot r.log).take i).map (peerFor r))).length ≤ 7 := by rw [peersC_len, List.length_map, List.length_take]; omega
      have tail : ∀ (q : Peer) (M : Mem) (E : Env) (Kx : AV → Mem → Prop), Keep s'.next s' M → q = peerFor r n → ev E (.t 49) = l → ev E (.t 51) = .own M.next 0 1 3 →
          (∀ v5 s5, OwnL s5 s2.next v5 86 3 (peersC (((vot r.log).take (i + 1)).map (peerFor r))) → Keep s2.next s2 s5 → Kx v5 s5) →
          Wp tab (.app 86 3 24 (.t 49) (.t 51)) E (M.push ⟨86, 3, [[.int .i64 q.1, .int .u64 q.2.1, .int .u64 q.2.2]]⟩) Kx := by
        intro q M E Kx hM hq e1 e2 hKx
        have hoM := ownl_keep hol hM
        have hk2M := hk.then hM
        refine app_lit (v := l) (k := 1) (b := s2.next) (xs := peersC (((vot r.log).take i).map (peerFor r))) (by rw [hk2M.floor]; exact hG2.ok) hk2M.next hoM e1 e2 rfl rfl (room (by rw [List.length_singleton]; omega) (by rw [List.length_singleton]; omega)) ?_
        intro v5 s5 ho5 hx5 _ _
        have : [[AV.int .i64 q.1, .int .u64 q.2.1, .int .u64 q.2.2]] = [peerC q] := rfl
        rw [this, peersC_snoc, hq, ← map_next hx] at ho5
        exact hKx v5 s5 ho5 (hk2M.trans (hx5.keep hk2M.next fun q i n z h => (hoM.row q i n z h).1))
      refine idx_c (ps := r.peers) (n := n) (D := gD g ov _) (settle1_tells (n := n) (by rw [Mem.get_push, if_neg (by simp only [next_push']; omega), Mem.get_push, if_pos rfl]) (by simp only [next_push']; omega)) hGS.In hGS.pv hn (fun j q s3 hk3 hxq hpn hj => ?_) (fun hno s3 hk3 => ?_)
      all_goals
        have hk03 := hkS.then hk3
        have hG3 := hG'.keep hk03
        have hr3 := hG3.row
        simp only [grpRow] at hr3
        have n3 := hk3.next
        simp only [next_push'] at n3
        have q5 : s3.get s'.next = some ⟨3, 1, [[.int .i64 n]]⟩ := by rw [hk3.get _ (by simp only [next_push']; omega), Mem.get_push, if_neg (by simp only [next_push']; omega), Mem.get_push, if_pos rfl]
        have q6 : s3.get (s'.next + 1) = some ⟨86, 3, [[.int .i64 n, .int .u64 (lastE r.log).index, .int .u64 0]]⟩ := by rw [hk3.get _ (by simp only [next_push']; omega), Mem.get_push, if_pos (by simp only [next_push'])]
        have fl3 : (s3.floor ≤ s'.next + 1) = True := by have := hG3.fl; have := hG'.lt; simp; omega
        have hgn : (g = s'.next) = False := by have := hG'.lt; simp; omega
        have hol3 := ownl_keep hol hk03
      · obtain ⟨p4, hp4, P4⟩ := hG3.pv.atk hG3.In (peersC_get hxq)
        have ld4 : loadA s3 true 3 p4 = some (.agg (peerC q)) := by rw [P4.ld _ (Keep.refl _ _)]; exact rfl
        have c1 : decide ((j : Int) ≥ 0) = true := by simp
        obtain ⟨qn, qx, qm⟩ := q
        simp only at hpn
        subst hpn
        simp only [peerC] at ld4
        by_cases hself : qn = r.node
        · have c2 : (qn == r.node) = true := by simp [hself]
          (repeat' (with_reducible first|refine w_1 ?_|refine w_2 ?_|refine w_3 ?_|refine w_4 ?_|refine w_5 ?_|refine w_6 ?_|refine w_7 ?_|(refine w_8 (fun hb=>?_) (fun hb=>?_)<;>try simp only [hb])|refine w_9 ?_|simp (maxDischargeDepth:=12) only [viz,↓reduceIte,Nat.reduceEqDiff,reduceCtorEq,Int.reduceEq,Int.reduceNeg,Nat.reduceAdd,Nat.reduceLeDiff,g0,g2,g11,g12,g13,g3,c1,hr3,q5,q6,hp4,ld4,fl3,hne1,hgn,c2,bne_self_eq_false, Int.reduceBEq, Int.reduceBNe, Int.reduceLT, Int.reduceLE, Int.reduceGT, Int.reduceGE]))
          refine tail (qn, IntKind.u64.wrap ((lastE r.log).index + 1), (lastE r.log).index) _ _ _ (by
            refine ⟨?_, ?_, fun q hq => ?_⟩
            · (try simp only [next_put']); exact hk03.next
            · (try simp only [floor_put']); exact hk03.floor
            · have a1 : q ≠ s'.next + 1 := by omega
              (try simp only [Mem.get_put, if_neg a1]); exact hk03.get q hq) (by unfold peerFor; rw [if_pos hself]) (by simp only [ev, Env.get_set, ↓reduceIte, Nat.reduceEqDiff]) (by simp only [ev, Env.get_set, ↓reduceIte, Nat.reduceEqDiff, next_put']) fun v5 s5 ho5 hk5 => ?_
          (repeat' (with_reducible first|refine w_1 ?_|refine w_2 ?_|refine w_3 ?_|refine w_4 ?_|refine w_5 ?_|refine w_6 ?_|refine w_7 ?_|(refine w_8 (fun hb=>?_) (fun hb=>?_)<;>try simp only [hb])|refine w_9 ?_|simp (maxDischargeDepth:=12) only [viz,↓reduceIte,Nat.reduceEqDiff,reduceCtorEq,Int.reduceEq,Int.reduceNeg,Nat.reduceAdd,Nat.reduceLeDiff,g0,g2,g11,g12,g13]))
          exact ⟨hlt, hk5, succ_av (by omega), v5, rfl, ho5⟩
        · have c2 : (qn == r.node) = false := by simp [hself]
          (repeat' (with_reducible first|refine w_1 ?_|refine w_2 ?_|refine w_3 ?_|refine w_4 ?_|refine w_5 ?_|refine w_6 ?_|refine w_7 ?_|(refine w_8 (fun hb=>?_) (fun hb=>?_)<;>try simp only [hb])|refine w_9 ?_|simp (maxDischargeDepth:=12) only [viz,↓reduceIte,Nat.reduceEqDiff,reduceCtorEq,Int.reduceEq,Int.reduceNeg,Nat.reduceAdd,Nat.reduceLeDiff,g0,g2,g11,g12,g13,g3,c1,hr3,q5,q6,hp4,ld4,fl3,hne1,hgn,c2,bne_self_eq_false, Int.reduceBEq, Int.reduceBNe, Int.reduceLT, Int.reduceLE, Int.reduceGT, Int.reduceGE]))
          refine tail (qn, qx, qm) _ _ _ (by
            refine ⟨?_, ?_, fun q hq => ?_⟩
            · (try simp only [next_put']); exact hk03.next
            · (try simp only [floor_put']); exact hk03.floor
            · have a1 : q ≠ s'.next + 1 := by omega
              (try simp only [Mem.get_put, if_neg a1]); exact hk03.get q hq) (by unfold peerFor; rw [if_neg hself, find_at hxq rfl hj]) (by simp only [ev, Env.get_set, ↓reduceIte, Nat.reduceEqDiff]) (by simp only [ev, Env.get_set, ↓reduceIte, Nat.reduceEqDiff, next_put']) fun v5 s5 ho5 hk5 => ?_
          (repeat' (with_reducible first|refine w_1 ?_|refine w_2 ?_|refine w_3 ?_|refine w_4 ?_|refine w_5 ?_|refine w_6 ?_|refine w_7 ?_|(refine w_8 (fun hb=>?_) (fun hb=>?_)<;>try simp only [hb])|refine w_9 ?_|simp (maxDischargeDepth:=12) only [viz,↓reduceIte,Nat.reduceEqDiff,reduceCtorEq,Int.reduceEq,Int.reduceNeg,Nat.reduceAdd,Nat.reduceLeDiff,g0,g2,g11,g12,g13]))
          exact ⟨hlt, hk5, succ_av (by omega), v5, rfl, ho5⟩
      · have c1 : decide ((-1 : Int) ≥ 0) = false := by decide
        by_cases hself : n = r.node
        · have c2 : (n == r.node) = true := by simp [hself]
          (repeat' (with_reducible first|refine w_1 ?_|refine w_2 ?_|refine w_3 ?_|refine w_4 ?_|refine w_5 ?_|refine w_6 ?_|refine w_7 ?_|(refine w_8 (fun hb=>?_) (fun hb=>?_)<;>try simp only [hb])|refine w_9 ?_|simp (maxDischargeDepth:=12) only [viz,↓reduceIte,Nat.reduceEqDiff,reduceCtorEq,Int.reduceEq,Int.reduceNeg,Nat.reduceAdd,Nat.reduceLeDiff,g0,g2,g11,g12,g13,g3,c1,hr3,q5,q6,fl3,hne1,hgn,c2,bne_self_eq_false, Int.reduceBEq, Int.reduceBNe, Int.reduceLT, Int.reduceLE, Int.reduceGT, Int.reduceGE]))
          refine tail (n, IntKind.u64.wrap ((lastE r.log).index + 1), (lastE r.log).index) _ _ _ (by
            refine ⟨?_, ?_, fun q hq => ?_⟩
            · (try simp only [next_put']); exact hk03.next
            · (try simp only [floor_put']); exact hk03.floor
            · have a1 : q ≠ s'.next + 1 := by omega
              (try simp only [Mem.get_put, if_neg a1]); exact hk03.get q hq) (by unfold peerFor; rw [if_pos hself]) (by simp only [ev, Env.get_set, ↓reduceIte, Nat.reduceEqDiff]) (by simp only [ev, Env.get_set, ↓reduceIte, Nat.reduceEqDiff, next_put']) fun v5 s5 ho5 hk5 => ?_
          (repeat' (with_reducible first|refine w_1 ?_|refine w_2 ?_|refine w_3 ?_|refine w_4 ?_|refine w_5 ?_|refine w_6 ?_|refine w_7 ?_|(refine w_8 (fun hb=>?_) (fun hb=>?_)<;>try simp only [hb])|refine w_9 ?_|simp (maxDischargeDepth:=12) only [viz,↓reduceIte,Nat.reduceEqDiff,reduceCtorEq,Int.reduceEq,Int.reduceNeg,Nat.reduceAdd,Nat.reduceLeDiff,g0,g2,g11,g12,g13]))
          exact ⟨hlt, hk5, succ_av (by omega), v5, rfl, ho5⟩
        · have c2 : (n == r.node) = false := by simp [hself]
          (repeat' (with_reducible first|refine w_1 ?_|refine w_2 ?_|refine w_3 ?_|refine w_4 ?_|refine w_5 ?_|refine w_6 ?_|refine w_7 ?_|(refine w_8 (fun hb=>?_) (fun hb=>?_)<;>try simp only [hb])|refine w_9 ?_|simp (maxDischargeDepth:=12) only [viz,↓reduceIte,Nat.reduceEqDiff,reduceCtorEq,Int.reduceEq,Int.reduceNeg,Nat.reduceAdd,Nat.reduceLeDiff,g0,g2,g11,g12,g13,g3,c1,hr3,q5,q6,fl3,hne1,hgn,c2,bne_self_eq_false, Int.reduceBEq, Int.reduceBNe, Int.reduceLT, Int.reduceLE, Int.reduceGT, Int.reduceGE]))
          refine tail (n, (lastE r.log).index, 0) _ _ _ (by
            refine ⟨?_, ?_, fun q hq => ?_⟩
            · (try simp only [next_put']); exact hk03.next
            · (try simp only [floor_put']); exact hk03.floor
            · have a1 : q ≠ s'.next + 1 := by omega
              (try simp only [Mem.get_put, if_neg a1]); exact hk03.get q hq) (by unfold peerFor; rw [if_neg hself, find_no hno]) (by simp only [ev, Env.get_set, ↓reduceIte, Nat.reduceEqDiff]) (by simp only [ev, Env.get_set, ↓reduceIte, Nat.reduceEqDiff, next_put']) fun v5 s5 ho5 hk5 => ?_
          (repeat' (with_reducible first|refine w_1 ?_|refine w_2 ?_|refine w_3 ?_|refine w_4 ?_|refine w_5 ?_|refine w_6 ?_|refine w_7 ?_|(refine w_8 (fun hb=>?_) (fun hb=>?_)<;>try simp only [hb])|refine w_9 ?_|simp (maxDischargeDepth:=12) only [viz,↓reduceIte,Nat.reduceEqDiff,reduceCtorEq,Int.reduceEq,Int.reduceNeg,Nat.reduceAdd,Nat.reduceLeDiff,g0,g2,g11,g12,g13]))
          exact ⟨hlt, hk5, succ_av (by omega), v5, rfl, ho5⟩
    · rw [List.take_of_length_le (by omega)] at hol
      have hcl := ownl_cell hol
      have flg : (s'.floor ≤ g) = True := by simp [hG'.fl]
      (repeat' (with_reducible first|refine w_1 ?_|refine w_2 ?_|refine w_3 ?_|refine w_4 ?_|refine w_5 ?_|refine w_6 ?_|refine w_7 ?_|(refine w_8 (fun hb=>?_) (fun hb=>?_)<;>try simp only [hb])|refine w_9 ?_|simp (maxDischargeDepth:=12) only [viz,↓reduceIte,Nat.reduceEqDiff,reduceCtorEq,Int.reduceEq,Int.reduceNeg,Nat.reduceAdd,Nat.reduceLeDiff,g0,g2,g11,g12,g13,g3,lt_false hlt,hr',hcl,cells_cell hcl,flg]))
      have hsr : settleR r = commitR { r with peers := (vot r.log).map (peerFor r) } := rfl
      rw [hsr] at hK
      obtain ⟨hA, hwA⟩ := hG'.set { r with peers := (vot r.log).map (peerFor r) } (s' := s'.put g (some (grpRow { r with peers := (vot r.log).map (peerFor r) } d w vv l ov))) (d' := d) (w' := w) (vv' := vv) (pv' := l) ⟨rfl, rfl, fun q hq => by simp only [Mem.get_put, if_neg hq]⟩ (by rw [Mem.get_put, if_pos rfl]) hG'.d hG'.w hG'.vv
        (hol.sl (peersC_sz _) fun q n h => ⟨(hol.row q _ _ _ h).2, by have := (hol.row q _ _ _ h).1; have := hG2.lt; omega, hG2.fresh (hol.row q _ _ _ h).1⟩)
      refine gcommit_c hA hgood (peers_inU hw hp _) (by show ((vot r.log).map (peerFor r)).length < _; rw [List.length_map]; omega) fun s5 u hG5 hw5 => ?_
      obtain ⟨e1, e2, e3, e4, e5⟩ := commitR_same { r with peers := (vot r.log).map (peerFor r) }
      (repeat' (with_reducible first|refine w_1 ?_|refine w_2 ?_|refine w_3 ?_|refine w_4 ?_|refine w_5 ?_|refine w_6 ?_|refine w_7 ?_|(refine w_8 (fun hb=>?_) (fun hb=>?_)<;>try simp only [hb])|refine w_9 ?_|simp (maxDischargeDepth:=12) only [viz,↓reduceIte,Nat.reduceEqDiff,reduceCtorEq,Int.reduceEq,Int.reduceNeg,Nat.reduceAdd,Nat.reduceLeDiff,g0]))
      refine tellAll_c hG5 (by rw [e1]; exact hgood) (by rw [e2]; exact fun p h => (peers_inU hw hp _ p h).1) (by rw [e2]; show _ + ((vot r.log).map (peerFor r)).length < _; rw [List.length_map]; omega) fun ov6 s6 u6 hG6 hw6 => ?_
      (repeat' (with_reducible first|refine w_1 ?_|refine w_2 ?_|refine w_3 ?_|refine w_4 ?_|refine w_5 ?_|refine w_6 ?_|refine w_7 ?_|(refine w_8 (fun hb=>?_) (fun hb=>?_)<;>try simp only [hb])|refine w_9 ?_|simp (maxDischargeDepth:=12) only [viz,↓reduceIte,Nat.reduceEqDiff,reduceCtorEq,Int.reduceEq,Int.reduceNeg,Nat.reduceAdd,Nat.reduceLeDiff]))
      exact hK _ _ _ _ hG6 ((((Went.of_keep ov (hk02.then hk)).trans hwA).trans hw5).trans hw6)
end
end Go.Proofs.YtfllmhjjfapnmaaGreat

