/- A group leads, asks. No statement of the seat is proved here. -/
import Derived.Test.YtfllmhjjfapnmaaGreatVZRaftGrp2
import Derived.Test.YtfllmhjjfapnmaaGreatVZVE
namespace Go.Proofs.YtfllmhjjfapnmaaGreat
open Go Go.VI
set_option linter.unusedSimpArgs false
attribute [local irreducible] Ws Wp W C
set_option maxHeartbeats 4000000
theorem Grp.step {g : Nat} {s s' : Mem} {r : Raft} {out : List Msg} {d w vv pv ov : AV} (hG : Grp g s r out d w vv pv ov) (r' : Raft) {d' w' vv' pv' : AV} (hn : s.next ≤ s'.next) (hfl : s'.floor = s.floor) (hold : ∀ q, gD g ov s q → s'.get q = s.get q) (hov : ∀ q i n z, ov = .own q i n z → s'.get q = s.get q) (hrow : s'.get g = some (grpRow r' d' w' vv' pv' ov))
    (hd : Byt s' (gD g ov s') d' r'.log.base.data) (hw : Ents s' (gD g ov s') w' r'.log.l) (hv : Sl s' (gD g ov s') vv' 1 (intsA .i64 r'.votes)) (hp : Sl s' (gD g ov s') pv' 3 (peersC r'.peers)) :
    Grp g s' r' out d' w' vv' pv' ov ∧ Went g ov s ov s' := by
  have mv : ∀ q, gD g ov s q → gD g ov s' q := fun q hq => ⟨Nat.lt_of_lt_of_le hq.1 hn, hq.2⟩
  obtain ⟨xs, h1, h2⟩ := hG.out
  refine ⟨⟨hrow, hd, hw, hv, hp, Nat.lt_of_lt_of_le hG.lt hn, by rw [hfl]; exact hG.fl, xs, ?_, (h2.keep hold).mono mv⟩, ⟨hn, hfl, fun q a b c => hold q ⟨a, b, c⟩, fun _ i n z h => .inl ⟨i, n, z, h⟩⟩⟩
  rcases h1 with h1 | ⟨q, h3, h4, h5, h6, h7⟩
  · exact .inl h1
  · exact .inr ⟨q, h3, by rw [hov q _ _ _ h3]; exact h4, by rw [hfl]; exact h5, h6, Nat.lt_of_lt_of_le h7 hn⟩
section
variable {g : Nat} {s : Mem} {r : Raft} {out : List Msg} {d w vv pv ov : AV} {K : AV → Mem → Prop}
set_option maxRecDepth 100000 in
theorem glead_c (hG : Grp g s r out d w vv pv ov) (hL : LogGood r.log) (ht : InU r.term) (ho : out.length < 100000)
    (hK : ∀ d' w' vv' pv' ov' s' v, Grp g s' (leadR r) (out ++ leadO r) d' w' vv' pv' ov' → Went g ov s ov' s' → K v s') : C tab 97 [.ptr g 0 0] s K := by
  have hA : AppIn r.log r.term 0 [] := ⟨hL.wf, ht, by omega, by decide⟩
  refine C_enter (cf := cf97) rfl (Nat.le_of_ble_eq_true rfl) ?_
  simp only [cf97, oo, on, om, og, oc, ou]
  have hrow := hG.row
  simp only [grpRow] at hrow
  (repeat' (with_reducible first|refine w_1 ?_|refine w_2 ?_|refine w_3 ?_|refine w_4 ?_|refine w_5 ?_|refine w_6 ?_|refine w_7 ?_|(refine w_8 (fun hb=>?_) (fun hb=>?_)<;>try simp only [hb])|refine w_9 ?_|simp (maxDischargeDepth:=12) only [viz,↓reduceIte,Nat.reduceEqDiff,reduceCtorEq,Int.reduceEq,Int.reduceNeg,Nat.reduceAdd,Nat.reduceLeDiff,hrow]))
  refine appendN_c (l := r.log) (D := gD g ov s) (bs := []) (Nat.le_refl _) hG.In ⟨d, w, rfl, hG.d, hG.w⟩ (Sl.nil _ _ _) hA fun v1 s1 hv1 hk1 => ?_
  have hk1' : Keep s.next s (s1.at s.floor) := ⟨hk1.next, rfl, hk1.get⟩
  have n1 : s.next ≤ s1.next := hk1.next
  have hG1 := hG.keep hk1'
  have hv1' : LogV (s1.at s.floor) (gD g ov (s1.at s.floor)) v1 (appOut r.log r.term 0 []).1 := hv1.mono (hG.new hk1.next)
  obtain ⟨d1, w1, rfl, hd1, hw1⟩ := hv1'
  have hr1 := hG1.row
  simp only [grpRow] at hr1
  have f1 : s.floor ≤ s1.next := by have := hG.ok; omega
  have f1' : (s.floor ≤ s1.next) = True := by simp [f1]
  have hr1s : s1.get g = _ := hr1
  have hne : (g = s1.next) = False := by have := hG.lt; simp; omega
  have flg : (s.floor ≤ g) = True := by simp [hG.fl]
  by_cases hz : (appOut r.log r.term 0 []).2 = 0
  case neg =>
    have c1 : ((appOut r.log r.term 0 []).2 != 0) = true := by simp [hz]
    (repeat' (with_reducible first|refine w_1 ?_|refine w_2 ?_|refine w_3 ?_|refine w_4 ?_|refine w_5 ?_|refine w_6 ?_|refine w_7 ?_|(refine w_8 (fun hb=>?_) (fun hb=>?_)<;>try simp only [hb])|refine w_9 ?_|simp (maxDischargeDepth:=12) only [viz,↓reduceIte,Nat.reduceEqDiff,reduceCtorEq,Int.reduceEq,Int.reduceNeg,Nat.reduceAdd,Nat.reduceLeDiff,hr1s,hd1.cell,hw1.cell,f1',le_s1 f1,hne,c1]))
    have e1 : leadR r = r := by unfold leadR; rw [if_neg hz]
    have e2 : leadO r = [] := by unfold leadO; rw [if_neg hz]
    rw [e1, e2, List.append_nil] at hK
    exact hK _ _ _ _ _ _ _ (hG1.keep (pushes _ _)) ((Went.of_keep ov hk1').then_keep (pushes _ _))
  have c1 : ((appOut r.log r.term 0 []).2 != 0) = false := by simp [hz]
  obtain ⟨a1, a2, a3, a4, a5⟩ := appOut_ok hA hz
  (repeat' (with_reducible first|refine w_1 ?_|refine w_2 ?_|refine w_3 ?_|refine w_4 ?_|refine w_5 ?_|refine w_6 ?_|refine w_7 ?_|(refine w_8 (fun hb=>?_) (fun hb=>?_)<;>try simp only [hb])|refine w_9 ?_|simp (maxDischargeDepth:=12) only [viz,↓reduceIte,Nat.reduceEqDiff,reduceCtorEq,Int.reduceEq,Int.reduceNeg,Nat.reduceAdd,Nat.reduceLeDiff,hr1s,hd1.cell,hw1.cell,f1',le_s1 f1,hne,flg,c1]))
  have hkp := pushes (s1.at s.floor) ⟨28, 5, [[.int .u64 (appOut r.log r.term 0 []).1.base.index, .int .u64 (appOut r.log r.term 0 []).1.base.term, .int .i64 (appOut r.log r.term 0 []).1.base.kind, d1, w1]]⟩
  have hG2 := hG1.keep hkp
  have e1 : leadR r = settleR (leadS r) := by unfold leadR; rw [if_pos hz]
  have e2 : leadO r = tellAllM (settleR (leadS r)) (settleR (leadS r)).peers := by unfold leadO; rw [if_pos hz]
  rw [e1, e2] at hK
  have key : ∀ M, Turn g ((s1.at s.floor).push ⟨28, 5, [[.int .u64 (appOut r.log r.term 0 []).1.base.index, .int .u64 (appOut r.log r.term 0 []).1.base.term, .int .i64 (appOut r.log r.term 0 []).1.base.kind, d1, w1]]⟩) M → M.get g = some (grpRow (leadS r) d1 w1 .nilS .nilS ov) → C tab 67 [.ptr g 0 0] M (fun _ s' => K (.tup []) s') := fun M hT hrM => by
    obtain ⟨h1, h2⟩ := hG2.set (leadS r) hT hrM ((hd1.keep fun q hq => hkp.get q hq.1).mono fun q hq => ⟨Nat.lt_of_lt_of_le hq.1 hkp.next, hq.2⟩) ((hw1.keep fun q hq => hkp.get q hq.1).mono fun q hq => ⟨Nat.lt_of_lt_of_le hq.1 hkp.next, hq.2⟩) (Sl.nil _ _ _) (Sl.nil _ _ _)
    refine gsettle_c h1 a4 a5 (by intro p hp; cases hp) (by show 0 < _; omega) ho fun ov' pv' s' v hG3 hw3 => ?_
    exact hK _ _ _ _ _ _ _ hG3 ((((Went.of_keep ov hk1').then_keep hkp).trans h2).trans hw3)
  exact key _ ⟨rfl, rfl, fun q hq => by simp only [Mem.get_put, if_neg hq]⟩ (by rw [Mem.get_put, if_pos rfl]; rfl)
theorem asksM_next {vs : List Int} {i : Nat} {n : Int} (h : vs[i]? = some n) : asksM r (vs.take (i + 1)) = asksM r (vs.take i) ++ (if n != r.node then [askM r n] else []) := by
  unfold asksM
  rw [List.take_add_one, h, List.filter_append, List.map_append]
  congr 1
  simp only [Option.toList_some, List.filter_cons, List.filter_nil]
  split <;> rfl
theorem asksM_len (r : Raft) (vs : List Int) (i : Nat) : (asksM r (vs.take i)).length ≤ i := by
  unfold asksM
  rw [List.length_map]
  exact Nat.le_trans (List.length_filter_le _ _) (List.length_take_le _ _)
theorem ask1_c {p1 p2 p3 : Nat} {n : Int} (hG : Grp g s r out d w vv pv ov) (h1 : s.get p1 = some ⟨75, 1, [[.ptr g 0 0]]⟩) (h2 : s.get p2 = some ⟨22, 1, [[.int .u64 (lastE r.log).index]]⟩) (h3 : s.get p3 = some ⟨22, 1, [[.int .u64 (lastE r.log).term]]⟩) (ho : out.length < 1000000)
    (hK : ∀ ov' s' v, Grp g s' r (out ++ [askM r n]) d w vv pv ov' → Went g ov s ov' s' → K v s') : C tab 99 [.int .i64 n, .ptr p1 0 0, .ptr p2 0 0, .ptr p3 0 0] s K := by
  refine C_enter (cf := cf99) rfl (Nat.le_of_ble_eq_true rfl) ?_
  simp only [cf99, oo, on, om, og, oc, ou]
  (repeat' (with_reducible first|refine w_1 ?_|refine w_2 ?_|refine w_3 ?_|refine w_4 ?_|refine w_5 ?_|refine w_6 ?_|refine w_7 ?_|(refine w_8 (fun hb=>?_) (fun hb=>?_)<;>try simp only [hb])|refine w_9 ?_|simp (maxDischargeDepth:=12) only [viz,↓reduceIte,Nat.reduceEqDiff,reduceCtorEq,Int.reduceEq,Int.reduceNeg,Nat.reduceAdd,Nat.reduceLeDiff,h1,h2,h3]))
  refine say_c (m := { kind := 1, to := n, index := (lastE r.log).index, prev := (lastE r.log).term }) hG ⟨.nilS, .nilS, rfl, ⟨[], Sl.nil _ _ _, EntsC.nil _ _⟩, Sl.nil _ _ _⟩ ho fun ov' s' v hG' hw' => ?_
  (repeat' (with_reducible first|refine w_1 ?_|refine w_2 ?_|refine w_3 ?_|refine w_4 ?_|refine w_5 ?_|refine w_6 ?_|refine w_7 ?_|(refine w_8 (fun hb=>?_) (fun hb=>?_)<;>try simp only [hb])|refine w_9 ?_|simp (maxDischargeDepth:=12) only [viz,↓reduceIte,Nat.reduceEqDiff,reduceCtorEq,Int.reduceEq,Int.reduceNeg,Nat.reduceAdd,Nat.reduceLeDiff]))
  exact hK _ _ _ hG' hw'
theorem gothers_c {p1 p2 p3 : Nat} (hG : Grp g s r out d w vv pv ov) (hw : r.log.Wf) (hL : okV (vot r.log) = true) (q1 : gD g ov s p1) (q2 : gD g ov s p2) (q3 : gD g ov s p3)
    (h1 : s.get p1 = some ⟨75, 1, [[.ptr g 0 0]]⟩) (h2 : s.get p2 = some ⟨22, 1, [[.int .u64 (lastE r.log).index]]⟩) (h3 : s.get p3 = some ⟨22, 1, [[.int .u64 (lastE r.log).term]]⟩) (ho : out.length < 100000)
    (hK : ∀ ov' s' v, Grp g s' r (out ++ asksM r (vot r.log)) d w vv pv ov' → Went g ov s ov' s' → K v s') : C tab 98 [.ptr g 0 0, .fn 99 [.ptr p1 0 0, .ptr p2 0 0, .ptr p3 0 0]] s K := by
  have h7 := (okV_len hL).2
  refine C_enter (cf := cf98) rfl (Nat.le_of_ble_eq_true rfl) ?_
  simp only [cf98, oo, on, om, og, oc, ou]
  (repeat' (with_reducible first|refine w_1 ?_|refine w_2 ?_|refine w_3 ?_|refine w_4 ?_|refine w_5 ?_|refine w_6 ?_|refine w_7 ?_|(refine w_8 (fun hb=>?_) (fun hb=>?_)<;>try simp only [hb])|refine w_9 ?_|simp (maxDischargeDepth:=12) only [viz,↓reduceIte,Nat.reduceEqDiff,reduceCtorEq,Int.reduceEq,Int.reduceNeg,Nat.reduceAdd,Nat.reduceLeDiff]))
  refine gvoters_c (r := r) hG.ok hG.In hG.row hG.log hw fun v1 s1 ho1 hk1 => ?_
  have hG1 := hG.keep hk1
  have hl1 : lenA false v1 = some (vot r.log).length := by rw [ho1.len, intsA_len]
  (repeat' (with_reducible first|refine w_1 ?_|refine w_2 ?_|refine w_3 ?_|refine w_4 ?_|refine w_5 ?_|refine w_6 ?_|refine w_7 ?_|(refine w_8 (fun hb=>?_) (fun hb=>?_)<;>try simp only [hb])|refine w_9 ?_|simp (maxDischargeDepth:=12) only [viz,↓reduceIte,Nat.reduceEqDiff,reduceCtorEq,Int.reduceEq,Int.reduceNeg,Nat.reduceAdd,Nat.reduceLeDiff,hl1]))
  have hw1 := Went.of_keep (g := g) ov hk1
  have hsv : Sl s1 (gD g ov s1) v1 1 (intsA .i64 (vot r.log)) := ho1.sl (intsA_sz _ _) fun q n h => ⟨(ho1.row q _ _ _ h).2, by have := (ho1.row q _ _ _ h).1; have := hG.lt; omega, hG.fresh (ho1.row q _ _ _ h).1⟩
  refine W_inv (vot r.log).length (fun i e s' => ∃ ov', Grp g s' r (out ++ asksM r ((vot r.log).take i)) d w vv pv ov' ∧ Went g ov s1 ov' s' ∧ e.get 9 = .int .i64 i) (by delta cf98l0 oo on om og oc ou; exact rfl) ?_ ?_
  · exact ⟨ov, by simpa [asksM] using hG1, Went.refl _ _ _, by simp only [Env.get_set, ↓reduceIte]; rfl⟩
  · rintro i e s' hi hT ⟨ov', hG', hw', g9⟩
    have g0 := hT 0 rfl
    have g1 := hT 1 rfl
    have g7 := hT 7 rfl
    have g8 := hT 8 rfl
    simp only [Env.get_set, ↓reduceIte, Nat.reduceEqDiff, Env.start, Env.ofList] at g0 g1 g7 g8
    clear hT
    by_cases hlt : i < (vot r.log).length
    · obtain ⟨n, hx⟩ := get_of hlt
      have hsv' := (hsv.keep fun q hq => hw'.gd hq).mono fun q hq => hw'.gd' hq
      obtain ⟨p, hp, P⟩ := hsv'.atkB hG'.In hx
      have ld : loadA s' false 1 p = some (.int .i64 n) := by rw [P.ld _ (Keep.refl _ _)]; exact rfl
      have hr' := hG'.row
      simp only [grpRow] at hr'
      have hln := asksM_len r (vot r.log) i
      by_cases hself : n = r.node
      · have c1 : (n != r.node) = false := by simp [hself]
        (repeat' (with_reducible first|refine w_1 ?_|refine w_2 ?_|refine w_3 ?_|refine w_4 ?_|refine w_5 ?_|refine w_6 ?_|refine w_7 ?_|(refine w_8 (fun hb=>?_) (fun hb=>?_)<;>try simp only [hb])|refine w_9 ?_|simp (maxDischargeDepth:=12) only [viz,↓reduceIte,Nat.reduceEqDiff,reduceCtorEq,Int.reduceEq,Int.reduceNeg,Nat.reduceAdd,Nat.reduceLeDiff,g0,g1,g7,g8,g9,lt_true hlt,hp,ld,hr',c1]))
        refine ⟨hlt, ov', ?_, hw', succ_av (by omega)⟩
        rw [asksM_next hx, c1]
        simpa using hG'
      · have c1 : (n != r.node) = true := by simp [hself]
        have hw0 := hw1.trans hw'
        (repeat' (with_reducible first|refine w_1 ?_|refine w_2 ?_|refine w_3 ?_|refine w_4 ?_|refine w_5 ?_|refine w_6 ?_|refine w_7 ?_|(refine w_8 (fun hb=>?_) (fun hb=>?_)<;>try simp only [hb])|refine w_9 ?_|simp (maxDischargeDepth:=12) only [viz,↓reduceIte,Nat.reduceEqDiff,reduceCtorEq,Int.reduceEq,Int.reduceNeg,Nat.reduceAdd,Nat.reduceLeDiff,g0,g1,g7,g8,g9,lt_true hlt,hp,ld,hr',c1]))
        refine ask1_c hG' (hw0.box q1 h1) (hw0.box q2 h2) (hw0.box q3 h3) (by rw [List.length_append]; omega) fun ov2 s2 u hG2 hw2 => ?_
        (repeat' (with_reducible first|refine w_1 ?_|refine w_2 ?_|refine w_3 ?_|refine w_4 ?_|refine w_5 ?_|refine w_6 ?_|refine w_7 ?_|(refine w_8 (fun hb=>?_) (fun hb=>?_)<;>try simp only [hb])|refine w_9 ?_|simp (maxDischargeDepth:=12) only [viz,↓reduceIte,Nat.reduceEqDiff,reduceCtorEq,Int.reduceEq,Int.reduceNeg,Nat.reduceAdd,Nat.reduceLeDiff,g0,g1,g7,g8,g9]))
        refine ⟨hlt, ov2, ?_, hw'.trans hw2, succ_av (by omega)⟩
        rw [asksM_next hx, c1, ← List.append_assoc]
        simpa using hG2
    · (repeat' (with_reducible first|refine w_1 ?_|refine w_2 ?_|refine w_3 ?_|refine w_4 ?_|refine w_5 ?_|refine w_6 ?_|refine w_7 ?_|(refine w_8 (fun hb=>?_) (fun hb=>?_)<;>try simp only [hb])|refine w_9 ?_|simp (maxDischargeDepth:=12) only [viz,↓reduceIte,Nat.reduceEqDiff,reduceCtorEq,Int.reduceEq,Int.reduceNeg,Nat.reduceAdd,Nat.reduceLeDiff,g0,g1,g7,g8,g9,lt_false hlt]))
      rw [List.take_of_length_le (by omega)] at hG'
      exact hK _ _ _ hG' (hw1.trans hw')
set_option maxRecDepth 100000 in
theorem gask_c (hG : Grp g s r out d w vv pv ov) (hL : logOk r.log = true) (hw : r.log.Wf) (ho : out.length < 100000)
    (hK : ∀ d' w' vv' pv' ov' s' v, Grp g s' (askR r) (out ++ askO r) d' w' vv' pv' ov' → Went g ov s ov' s' → K v s') : C tab 40 [.ptr g 0 0] s K := by
  refine C_enter (cf := cf40) rfl (Nat.le_of_ble_eq_true rfl) ?_
  simp only [cf40, oo, on, om, og, oc, ou]
  have hrow := hG.row
  simp only [grpRow] at hrow
  have hne := nat_ne hG.lt
  have hne' := nat_ne' hG.lt
  have fl : (s.floor ≤ s.next) = True := by simp [hG.ok]
  have hcp : cells (AV.ptr g 0 0) = [.ptr g 0 0] := rfl
  (repeat' (with_reducible first|refine w_1 ?_|refine w_2 ?_|refine w_3 ?_|refine w_4 ?_|refine w_5 ?_|refine w_6 ?_|refine w_7 ?_|(refine w_8 (fun hb=>?_) (fun hb=>?_)<;>try simp only [hb])|refine w_9 ?_|simp (maxDischargeDepth:=12) only [viz,↓reduceIte,Nat.reduceEqDiff,reduceCtorEq,Int.reduceEq,Int.reduceNeg,Nat.reduceAdd,Nat.reduceLeDiff,hrow,hne,hne',fl,hcp]))
  have hk0 := pushes s ⟨75, 1, [[.ptr g 0 0]]⟩
  have hG0 := hG.keep hk0
  refine gfollow_c hG0 fun s1 u1 hG1 hw1 => ?_
  have hw01 := (Went.of_keep (g := g) ov hk0).trans hw1
  have n1 := hw1.next
  simp only [next_push'] at n1
  have q1 : gD g ov (s.push ⟨75, 1, [[.ptr g 0 0]]⟩) s.next := ⟨by simp only [next_push']; omega, by have := hG.lt; omega, hG.fresh (Nat.le_refl _)⟩
  have b1 := hw1.box q1 (show _ = some ⟨75, 1, [[.ptr g 0 0]]⟩ by rw [Mem.get_push, if_pos rfl])
  have hr1 := hG1.row
  simp only [grpRow] at hr1
  have f1 : (s1.floor ≤ g) = True := by simp [hG1.fl]
  have f2 : (s1.floor ≤ s1.next) = True := by simp [hG1.ok]
  have hn1 := nat_ne hG1.lt
  have hn2 := nat_ne' hG1.lt
  have hn3 : (s.next = s1.next) = False := by simp; omega
  have hn4 : (s1.next = s.next) = False := by simp; omega
  (repeat' (with_reducible first|refine w_1 ?_|refine w_2 ?_|refine w_3 ?_|refine w_4 ?_|refine w_5 ?_|refine w_6 ?_|refine w_7 ?_|(refine w_8 (fun hb=>?_) (fun hb=>?_)<;>try simp only [hb])|refine w_9 ?_|simp (maxDischargeDepth:=12) only [viz,↓reduceIte,Nat.reduceEqDiff,reduceCtorEq,Int.reduceEq,Int.reduceNeg,Nat.reduceAdd,Nat.reduceLeDiff,hr1,b1,f1,f2,hn1,hn2,hn3,hn4,hne,hne']))
  generalize hP : Mem.put _ _ _ = P
  have P0 : P.next = s1.next + 1 := by rw [← hP]; simp only [next_put', next_push']; rfl
  have P5 : P.floor ≤ P.next := by rw [← hP]; simp only [floor_put', next_put', floor_push', next_push']; exact Nat.le_refl _
  have P1 : ∀ q, q ≠ g → q ≠ s.next → q < s1.next → P.get q = s1.get q := fun q a1 a2 a3 => by
    have a4 : q ≠ s1.next := by omega
    rw [← hP]
    simp only [Mem.get_put, if_neg a1, if_neg a2, if_neg a4]
    rw [Mem.get_push]; exact if_neg a4
  have b2 : g ≠ s.next := by have := hG.lt; omega
  have b3 : g ≠ s1.next := by have := hG1.lt; omega
  have b4 : s.next ≠ s1.next := by omega
  have P2 : P.get g = some (grpRow (askS r) d w (.own s1.next 0 1 1) .nilS ov) := by
    rw [← hP]
    simp only [Mem.get_put, if_neg b2, if_neg b3, if_true]
    rfl
  have P3 : P.get s.next = some ⟨75, 1, [[.ptr g 0 0]]⟩ := by
    rw [← hP]
    simp only [Mem.get_put, if_neg b2.symm, if_neg b4, if_true]
  have P4 : P.get s1.next = some ⟨3, 1, [[.int .i64 r.node]]⟩ := by
    rw [← hP]
    simp only [Mem.get_put, if_neg b3.symm, if_neg b4.symm, if_true]
    try rfl
  clear hP
  have oldP : ∀ q, gD g ov s1 q → q ≠ s.next → P.get q = s1.get q := fun q hq h => P1 q hq.2.1 h hq.1
  have oldP' : ∀ q, gD g ov s1 q → P.get q = s1.get q := fun q hq => by
    by_cases h : q = s.next
    · subst h; rw [P3, b1]
    · exact P1 q hq.2.1 h hq.1
  have PI : In (gD g ov s1) P := fun q hq => by have := hq.1; omega
  refine gvoters_c (r := askS r) (d := d) (w := w) (vv := .own s1.next 0 1 1) (pv := .nilS) (ov := ov) (D := gD g ov s1) P5 PI P2 ⟨d, w, rfl, hG1.d.keep oldP', hG1.w.keep oldP'⟩ hw fun v2 s2 ho2 hk2 => ?_
  have n2 : s1.next + 1 ≤ s2.next := by have := hk2.next; omega
  have r2 := (hk2.get g (by have := hG1.lt; omega)).trans P2
  have r3 := (hk2.get s.next (by omega)).trans P3
  have r4 := (hk2.get s1.next (by omega)).trans P4
  have old2 : ∀ q, gD g ov s1 q → s2.get q = s1.get q := fun q hq => by rw [hk2.get q (by have := hq.1; omega)]; exact oldP' q hq
  have mv2 : ∀ f q, gD g ov s1 q → gD g ov (s2.at f) q := fun f q hq => ⟨by show q < s2.next; have := hq.1; omega, hq.2⟩
  have sv : ∀ f, Sl (s2.at f) (gD g ov (s2.at f)) (.own s1.next 0 1 1) 1 (intsA .i64 [r.node]) := fun f => by
    exact Sl.of_row (ty := 3) r4 ⟨by show s1.next < s2.next; omega, b3.symm, hG1.fresh (Nat.le_refl _)⟩ (intsA_sz _ _) rfl
  obtain ⟨hG2, hw2⟩ := hG1.step (s' := s2.at s1.floor) (askS r) (d' := d) (w' := w) (vv' := .own s1.next 0 1 1) (pv' := .nilS) (by show s1.next ≤ s2.next; omega) rfl old2 (fun q i n z h => by
    have := hG1.out
    obtain ⟨xs, h1, _⟩ := this
    rcases h1 with ⟨h1 | h1, _⟩ | ⟨q', h3, h4, h5, h6, h7⟩
    · rw [h1] at h; cases h
    · rw [h1] at h; cases h
    · have e : q' = q := by rw [h3] at h; cases h; rfl
      subst e
      show s2.get q' = _
      rw [hk2.get q' (by omega)]
      by_cases h : q' = s.next
      · rw [h, P3, b1]
      · exact P1 q' (by omega) h h7) r2 ((hG1.d.keep old2).mono (mv2 _)) ((hG1.w.keep old2).mono (mv2 _)) (sv _) (Sl.nil _ _ _)
  have hw02 := hw01.trans hw2
  simp only [grpRow] at r2
  have nA : ∀ n, nilA (.ptr g 0 n) = some (.ptr g 0 n) := fun _ => rfl
  (repeat' (with_reducible first|refine w_1 ?_|refine w_2 ?_|refine w_3 ?_|refine w_4 ?_|refine w_5 ?_|refine w_6 ?_|refine w_7 ?_|(refine w_8 (fun hb=>?_) (fun hb=>?_)<;>try simp only [hb])|refine w_9 ?_|simp (maxDischargeDepth:=12) only [viz,↓reduceIte,Nat.reduceEqDiff,reduceCtorEq,Int.reduceEq,Int.reduceNeg,Nat.reduceAdd,Nat.reduceLeDiff,r2,r3]))
  refine qwon_c (vs := vot r.log) (l := [r.node]) (D := fun q => q < s2.next) ((ho2.sl (intsA_sz _ _) fun q n h => (ho2.row q _ _ _ h).2).keep fun _ _ => rfl) ((sv _).mono fun q hq => hq.1) (vot_fit hw) (by show 1 < _; omega) ?_
  have hvt : vot (askS r).log = vot r.log := rfl
  cases hwon : wonV (vot r.log) [r.node]
  · have e1 : askR r = askS r := by unfold askR; rw [if_neg (by rw [hwon]; simp)]
    have e2 : askO r = asksM (askS r) (vot r.log) := by unfold askO; rw [if_neg (by rw [hwon]; simp)]
    rw [e1, e2] at hK
    (repeat' (with_reducible first|refine w_1 ?_|refine w_2 ?_|refine w_3 ?_|refine w_4 ?_|refine w_5 ?_|refine w_6 ?_|refine w_7 ?_|(refine w_8 (fun hb=>?_) (fun hb=>?_)<;>try simp only [hb])|refine w_9 ?_|simp (maxDischargeDepth:=12) only [viz,↓reduceIte,Nat.reduceEqDiff,reduceCtorEq,Int.reduceEq,Int.reduceNeg,Nat.reduceAdd,Nat.reduceLeDiff,r2,r3]))
    refine last_c (l := (askS r).log) (D := gD g ov (s2.at s1.floor)) hG2.ok hG2.In hG2.log hw fun s3 hk3 => ?_
    have hG3 := hG2.keep hk3
    have n3 : s2.next ≤ s3.next := hk3.next
    have r33 : s3.get s.next = some ⟨75, 1, [[.ptr g 0 0]]⟩ := (hk3.get s.next (by show s.next < s2.next; omega)).trans r3
    have f3 : (s3.floor ≤ s3.next) = True := by simp [hG3.ok]
    have f31 : (s3.floor ≤ s3.next + 1) = True := by have := hG3.ok; simp; omega
    have m1 : (s.next = s3.next) = False := by simp; omega
    have m2 : (s.next = s3.next + 1) = False := by simp; omega
    (repeat' (with_reducible first|refine w_1 ?_|refine w_2 ?_|refine w_3 ?_|refine w_4 ?_|refine w_5 ?_|refine w_6 ?_|refine w_7 ?_|(refine w_8 (fun hb=>?_) (fun hb=>?_)<;>try simp only [hb])|refine w_9 ?_|simp (maxDischargeDepth:=12) only [viz,↓reduceIte,Nat.reduceEqDiff,reduceCtorEq,Int.reduceEq,Int.reduceNeg,Nat.reduceAdd,Nat.reduceLeDiff,r33,f3,f31,m1,m2,bne_self_eq_false, Int.reduceBEq, Int.reduceBNe, Int.reduceLT, Int.reduceLE, Int.reduceGT, Int.reduceGE]))
    have hkM : ∀ a b c e, Keep s3.next s3 ((((s3.push a).push b).put s3.next c).put (s3.next + 1) e) := fun a b c e => (((pushes s3 a).then (pushes _ b)).trans (Keep.put (Nat.le_refl _) _)).trans (Keep.put (Nat.le_succ _) _)
    have hG4 := hG3.keep (hkM ⟨22, 1, [[.int .u64 0]]⟩ ⟨22, 1, [[.int .u64 0]]⟩ (some ⟨22, 1, [[.int .u64 (lastE (askS r).log).index]]⟩) (some ⟨22, 1, [[.int .u64 (lastE (askS r).log).term]]⟩))
    have glt := hG3.lt
    refine gothers_c (p1 := s.next) (p2 := s3.next) (p3 := s3.next + 1) hG4 hw (logOk_vot hL) ⟨by simp only [next_put', next_push']; omega, b2.symm, hG.fresh (Nat.le_refl _)⟩ ⟨by simp only [next_put', next_push']; omega, by omega, hG3.fresh (Nat.le_refl _)⟩ ⟨by simp only [next_put', next_push']; omega, by omega, hG3.fresh (Nat.le_succ _)⟩ ?_ ?_ ?_ ho fun ov' s' u hG' hw' => ?_
    · rw [(hkM _ _ _ _).get _ (by omega)]; exact r33
    · rw [Mem.get_put, if_neg (by omega), Mem.get_put, if_pos rfl]
    · rw [Mem.get_put, if_pos rfl]
    · exact hK _ _ _ _ _ _ _ hG' (((hw02.then_keep hk3).then_keep (hkM _ _ _ _)).trans hw')
  · have e1 : askR r = leadR (askS r) := by unfold askR; rw [if_pos hwon]
    have e2 : askO r = leadO (askS r) := by unfold askO; rw [if_pos hwon]
    rw [e1, e2] at hK
    (repeat' (with_reducible first|refine w_1 ?_|refine w_2 ?_|refine w_3 ?_|refine w_4 ?_|refine w_5 ?_|refine w_6 ?_|refine w_7 ?_|(refine w_8 (fun hb=>?_) (fun hb=>?_)<;>try simp only [hb])|refine w_9 ?_|simp (maxDischargeDepth:=12) only [viz,↓reduceIte,Nat.reduceEqDiff,reduceCtorEq,Int.reduceEq,Int.reduceNeg,Nat.reduceAdd,Nat.reduceLeDiff,r2,r3]))
    refine glead_c hG2 (logOk_good hL hw) (wrap_inU _) ho fun d' w' vv' pv' ov' s' u hG' hw' => ?_
    (repeat' (with_reducible first|refine w_1 ?_|refine w_2 ?_|refine w_3 ?_|refine w_4 ?_|refine w_5 ?_|refine w_6 ?_|refine w_7 ?_|(refine w_8 (fun hb=>?_) (fun hb=>?_)<;>try simp only [hb])|refine w_9 ?_|simp (maxDischargeDepth:=12) only [viz,↓reduceIte,Nat.reduceEqDiff,reduceCtorEq,Int.reduceEq,Int.reduceNeg,Nat.reduceAdd,Nat.reduceLeDiff]))
    exact hK _ _ _ _ _ _ _ hG' (hw02.trans hw')
end
end Go.Proofs.YtfllmhjjfapnmaaGreat

