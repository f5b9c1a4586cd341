/- A state of one's own. No statement of the seat is proved here. -/
import Derived.Test.YtfllmhjjfapnmaaGreatVZRaftTell
import Derived.Test.YtfllmhjjfapnmaaGreatVZVE
namespace Go.Proofs.YtfllmhjjfapnmaaGreat
open Go Go.VI
set_option linter.unusedSimpArgs false
attribute [local irreducible] Ws Wp W C
set_option maxHeartbeats 4000000
theorem cloneI_c {es : List (List AV)} {D : Nat → Prop} {s : Mem} {v : AV} {K : AV → Mem → Prop} (hf : s.floor ≤ s.next) (hI : In D s) (hv : Sl s D v 1 es) (hn : Fit es.length)
    (hK : ∀ v' s', OwnL s' s.next v' 3 1 es → Keep s.next s s' → K v' s') : C tab 91 [v] s K := by
  refine C_enter (cf := cf91) rfl (Nat.le_of_ble_eq_true rfl) ?_
  simp only [cf91, oo, on, om, og, oc, ou]
  by_cases h0 : v = .nilS
  · subst h0
    have hb : es = [] := by
      rcases hv.2 with ⟨_, h⟩ | ⟨h, _⟩ | h | ⟨r, i, n, row, h, _⟩
      · exact h
      all_goals cases h
    rw [hb] at hK
    (repeat' (with_reducible first|refine w_1 ?_|refine w_2 ?_|refine w_3 ?_|refine w_4 ?_|refine w_5 ?_|refine w_6 ?_|refine w_7 ?_|(refine w_8 (fun hb=>?_) (fun hb=>?_)<;>try simp only [hb])|refine w_9 ?_|simp (maxDischargeDepth:=12) only [viz,↓reduceIte,Nat.reduceEqDiff,reduceCtorEq,Int.reduceEq,Int.reduceNeg,Nat.reduceAdd,Nat.reduceLeDiff,eq_nil]))
    exact hK _ _ (OwnL.nil _ _ _ _) (Keep.refl _ _)
  · have he : eqA .sl v .nilS = some false := by
      rcases hv.2 with ⟨h, _⟩ | ⟨rfl, _⟩ | rfl | ⟨r, i, n, row, rfl, _⟩
      · exact absurd h h0
      all_goals rfl
    (repeat' (with_reducible first|refine w_1 ?_|refine w_2 ?_|refine w_3 ?_|refine w_4 ?_|refine w_5 ?_|refine w_6 ?_|refine w_7 ?_|(refine w_8 (fun hb=>?_) (fun hb=>?_)<;>try simp only [hb])|refine w_9 ?_|simp (maxDischargeDepth:=12) only [viz,↓reduceIte,Nat.reduceEqDiff,reduceCtorEq,Int.reduceEq,Int.reduceNeg,Nat.reduceAdd,Nat.reduceLeDiff,he]))
    refine app_x (b := s.next) (xs := []) (ys := es) (by simp only [floor_push']; exact hf) (by simp only [next_push']; omega) (OwnL.emp _ _ _ _) (hv.readk hI _ (pushes _ _)) ?_ (room (by simp; omega) (by simp; omega)) ?_
    · exact hv.uni
    · intro v' s' ho hx _ _
      (repeat' (with_reducible first|refine w_1 ?_|refine w_2 ?_|refine w_3 ?_|refine w_4 ?_|refine w_5 ?_|refine w_6 ?_|refine w_7 ?_|(refine w_8 (fun hb=>?_) (fun hb=>?_)<;>try simp only [hb])|refine w_9 ?_|simp (maxDischargeDepth:=12) only [viz,↓reduceIte,Nat.reduceEqDiff,reduceCtorEq,Int.reduceEq,Int.reduceNeg,Nat.reduceAdd,Nat.reduceLeDiff]))
      exact hK _ _ ho ((pushes _ _).then (hx.keep (Nat.le_refl _) fun r i n z h => by simp only [ev, Env.get_set, ↓reduceIte, Nat.reduceEqDiff, reduceCtorEq] at h))
theorem cloneP_c {es : List (List AV)} {D : Nat → Prop} {s : Mem} {v : AV} {K : AV → Mem → Prop} (hf : s.floor ≤ s.next) (hI : In D s) (hv : Sl s D v 3 es) (hn : Fit es.length)
    (hK : ∀ v' s', OwnL s' s.next v' 86 3 es → Keep s.next s s' → K v' s') : C tab 92 [v] s K := by
  refine C_enter (cf := cf92) rfl (Nat.le_of_ble_eq_true rfl) ?_
  simp only [cf92, oo, on, om, og, oc, ou]
  by_cases h0 : v = .nilS
  · subst h0
    have hb : es = [] := by
      rcases hv.2 with ⟨_, h⟩ | ⟨h, _⟩ | h | ⟨r, i, n, row, h, _⟩
      · exact h
      all_goals cases h
    rw [hb] at hK
    (repeat' (with_reducible first|refine w_1 ?_|refine w_2 ?_|refine w_3 ?_|refine w_4 ?_|refine w_5 ?_|refine w_6 ?_|refine w_7 ?_|(refine w_8 (fun hb=>?_) (fun hb=>?_)<;>try simp only [hb])|refine w_9 ?_|simp (maxDischargeDepth:=12) only [viz,↓reduceIte,Nat.reduceEqDiff,reduceCtorEq,Int.reduceEq,Int.reduceNeg,Nat.reduceAdd,Nat.reduceLeDiff,eq_nil]))
    exact hK _ _ (OwnL.nil _ _ _ _) (Keep.refl _ _)
  · have he : eqA .sl v .nilS = some false := by
      rcases hv.2 with ⟨h, _⟩ | ⟨rfl, _⟩ | rfl | ⟨r, i, n, row, rfl, _⟩
      · exact absurd h h0
      all_goals rfl
    (repeat' (with_reducible first|refine w_1 ?_|refine w_2 ?_|refine w_3 ?_|refine w_4 ?_|refine w_5 ?_|refine w_6 ?_|refine w_7 ?_|(refine w_8 (fun hb=>?_) (fun hb=>?_)<;>try simp only [hb])|refine w_9 ?_|simp (maxDischargeDepth:=12) only [viz,↓reduceIte,Nat.reduceEqDiff,reduceCtorEq,Int.reduceEq,Int.reduceNeg,Nat.reduceAdd,Nat.reduceLeDiff,he]))
    refine app_x (b := s.next) (xs := []) (ys := es) (by simp only [floor_push']; exact hf) (by simp only [next_push']; omega) (OwnL.emp _ _ _ _) (hv.readk hI _ (pushes _ _)) ?_ (room (by simp; omega) (by simp; omega)) ?_
    · exact hv.uni
    · intro v' s' ho hx _ _
      (repeat' (with_reducible first|refine w_1 ?_|refine w_2 ?_|refine w_3 ?_|refine w_4 ?_|refine w_5 ?_|refine w_6 ?_|refine w_7 ?_|(refine w_8 (fun hb=>?_) (fun hb=>?_)<;>try simp only [hb])|refine w_9 ?_|simp (maxDischargeDepth:=12) only [viz,↓reduceIte,Nat.reduceEqDiff,reduceCtorEq,Int.reduceEq,Int.reduceNeg,Nat.reduceAdd,Nat.reduceLeDiff]))
      exact hK _ _ ho ((pushes _ _).then (hx.keep (Nat.le_refl _) fun r i n z h => by simp only [ev, Env.get_set, ↓reduceIte, Nat.reduceEqDiff, reduceCtorEq] at h))
theorem slice_all {l : Log} (h : LogGood l) : sliceE l.base.index l.l (IntKind.u64.wrap (l.base.index + 1)) l.l.length = l.l := by
  have hb := h.base
  have h0 := h.wf.base.index.1
  have w1 : IntKind.u64.wrap (l.base.index + 1) = l.base.index + 1 := wrap_u64 (by omega)
  have := filter_drop l.l l.base.index 0 h.cons
  unfold sliceE
  rw [w1, if_neg (by omega)]
  simp only [Int.natCast_zero, Int.add_zero, List.drop_zero] at this
  simp only [Int.toNat_natCast, this, List.take_length]
set_option maxRecDepth 100000 in
theorem rown_c {r : Raft} {D : Nat → Prop} {s : Mem} {v : AV} {K : AV → Mem → Prop} (hf : s.floor ≤ s.next) (hI : In D s) (hv : RaftV s D v r) (hw : r.Wf) (hL : LogGood r.log)
    (hK : ∀ g s' d w vv pv, Keep s.next s s' → s.next ≤ g → Grp g s' r [] d w vv pv .nilS → K (.ptr g 0 0) s') : C tab 36 [v] s K := by
  obtain ⟨d, w, vv, pv, rfl, hd, hl, hvv, hpv⟩ := raftC_row hv
  simp only [raftA]
  have hb := hL.base
  have hb0 := hL.wf.base.index.1
  refine C_enter (cf := cf36) rfl (Nat.le_of_ble_eq_true rfl) ?_
  simp only [cf36, oo, on, om, og, oc, ou]
  (repeat' (with_reducible first|refine w_1 ?_|refine w_2 ?_|refine w_3 ?_|refine w_4 ?_|refine w_5 ?_|refine w_6 ?_|refine w_7 ?_|(refine w_8 (fun hb=>?_) (fun hb=>?_)<;>try simp only [hb])|refine w_9 ?_|simp (maxDischargeDepth:=12) only [viz,↓reduceIte,Nat.reduceEqDiff,reduceCtorEq,Int.reduceEq,Int.reduceNeg,Nat.reduceAdd,Nat.reduceLeDiff,hd.cell,hl.cell,hvv.cell,hpv.cell,hf,hl.len]))
  have hk0 := pushes s (raftRow r d w vv pv)
  have hla := slice_all hL
  have o0 : ∀ q, D q → ((s.at (s.next + 1)).push (raftRow r d w vv pv)).get q = s.get q := fun q hq => keep_old hI hk0 q hq
  simp only [raftRow] at o0
  refine sliceN_c (l := r.log) (D := D) (by show s.next + 1 ≤ s.next + 1; omega) (fun q hq => by have := hI q hq; show q < s.next + 1; omega) ⟨d, w, rfl, hd.keep o0, hl.keep o0⟩ hL.wf hL.cons (wrap_inU _) (by have := hL.len; omega) fun v1 s1 hv1 hk1 => ?_
  rw [hla] at hv1
  have n1 : s.next + 1 ≤ s1.next := hk1.next
  have hc1 := hv1.cell
  have g1 : s1.get s.next = some (raftRow r d w vv pv) := by
    rw [hk1.get s.next (by show s.next < s.next + 1; omega)]
    show (s.push (raftRow r d w vv pv)).get s.next = _
    rw [Mem.get_push, if_pos rfl]
  have old1 : ∀ q, q < s.next → s1.get q = s.get q := fun q hq => by
    rw [hk1.get q (by show q < s.next + 1; omega)]
    show (s.push (raftRow r d w vv pv)).get q = _
    rw [Mem.get_push, if_neg (by omega)]
  simp only [raftRow] at g1
  (repeat' (with_reducible first|refine w_1 ?_|refine w_2 ?_|refine w_3 ?_|refine w_4 ?_|refine w_5 ?_|refine w_6 ?_|refine w_7 ?_|(refine w_8 (fun hb=>?_) (fun hb=>?_)<;>try simp only [hb])|refine w_9 ?_|simp (maxDischargeDepth:=12) only [viz,↓reduceIte,Nat.reduceEqDiff,reduceCtorEq,Int.reduceEq,Int.reduceNeg,Nat.reduceAdd,Nat.reduceLeDiff,g1,hc1,cells_cell hc1,hd.cell]))
  have kM1 : ∀ x, Keep s.next s ((s1.at s.floor).put s.next x) := fun x => ⟨by show s.next ≤ s1.next; omega, rfl, fun q hq => by rw [Mem.get_put, if_neg (by omega)]; exact old1 q hq⟩
  refine cloneB_c (bs := r.log.base.data) (D := D) ((kM1 _).ok hf) (hI.keep (kM1 _)) (hd.keep (keep_old hI (kM1 _))) hL.wf.base.data fun v2 s2 ho2 hk2 => ?_
  have hc2 := ownl_cell ho2
  have n2 : s1.next ≤ s2.next := hk2.next
  have g2 : s2.get s.next = some (raftRow r d v1 vv pv) := by
    rw [hk2.get s.next (by show s.next < s1.next; omega), Mem.get_put, if_pos rfl]; rfl
  have f2 : (s2.floor ≤ s.next) = True := by rw [hk2.floor]; simp only [floor_put']; simp; exact hf
  simp only [raftRow] at g2
  (repeat' (with_reducible first|refine w_1 ?_|refine w_2 ?_|refine w_3 ?_|refine w_4 ?_|refine w_5 ?_|refine w_6 ?_|refine w_7 ?_|(refine w_8 (fun hb=>?_) (fun hb=>?_)<;>try simp only [hb])|refine w_9 ?_|simp (maxDischargeDepth:=12) only [viz,↓reduceIte,Nat.reduceEqDiff,reduceCtorEq,Int.reduceEq,Int.reduceNeg,Nat.reduceAdd,Nat.reduceLeDiff,g2,hc2,cells_cell hc2,f2]))
  have kM2 : ∀ x, Keep s.next s (s2.put s.next x) := fun x => ⟨by show s.next ≤ s2.next; omega, by show s2.floor = s.floor; rw [hk2.floor]; rfl, fun q hq => by rw [Mem.get_put, if_neg (by omega), hk2.get q (by show q < s1.next; omega)]; exact (kM1 _).get q hq⟩
  have o2 : ∀ f x q, q < s.next → ((s2.at f).put s.next x).get q = s.get q := fun f x q hq => (kM2 x).get q hq
  have n02 : s.next + 1 ≤ s2.next := by omega
  refine cloneI_c (es := intsA .i64 r.votes) (D := D) (by show s2.next ≤ s2.next; omega) (fun q hq => by have := hI q hq; show q < s2.next; omega) (hvv.keep fun q hq => o2 _ _ q (hI q hq)) (by rw [intsA, List.length_map]; exact hw.votes) fun v3 s3 ho3 hk3 => ?_
  have hc3 := ownl_cell ho3
  have n3 : s2.next ≤ s3.next := hk3.next
  have g3 : s3.get s.next = some (raftRow r v2 v1 vv pv) := by
    rw [hk3.get s.next (by show s.next < s2.next; omega), Mem.get_put, if_pos rfl]; rfl
  simp only [raftRow] at g3
  (repeat' (with_reducible first|refine w_1 ?_|refine w_2 ?_|refine w_3 ?_|refine w_4 ?_|refine w_5 ?_|refine w_6 ?_|refine w_7 ?_|(refine w_8 (fun hb=>?_) (fun hb=>?_)<;>try simp only [hb])|refine w_9 ?_|simp (maxDischargeDepth:=12) only [viz,↓reduceIte,Nat.reduceEqDiff,reduceCtorEq,Int.reduceEq,Int.reduceNeg,Nat.reduceAdd,Nat.reduceLeDiff,g3]))
  have o3 : ∀ f q, q < s.next → (s3.at f).get q = s.get q := fun f q hq => by
    show s3.get q = _
    rw [hk3.get q (by show q < s2.next; omega)]; exact o2 _ _ q hq
  have f0 : s2.floor = s.floor := by rw [hk2.floor]; rfl
  refine cloneP_c (es := peersC r.peers) (D := D) (by show s2.floor ≤ s3.next; omega) (fun q hq => by have := hI q hq; show q < s3.next; omega) (hpv.keep fun q hq => o3 _ q (hI q hq)) (by rw [peersC_len]; exact hw.peers) fun v4 s4 ho4 hk4 => ?_
  have hc4 := ownl_cell ho4
  have n4 : s3.next ≤ s4.next := hk4.next
  have g4 : s4.get s.next = some (raftRow r v2 v1 vv pv) := by
    rw [hk4.get s.next (by show s.next < s3.next; omega)]; exact g3
  have f4 : (s4.floor ≤ s.next) = True := by rw [hk4.floor]; show (s2.floor ≤ s.next) = True; exact f2
  have f5 : (s4.floor ≤ s4.next) = True := by simp; simp at f4; omega
  have hne : (s.next = s4.next) = False := by simp; omega
  simp only [raftRow] at g4
  (repeat' (with_reducible first|refine w_1 ?_|refine w_2 ?_|refine w_3 ?_|refine w_4 ?_|refine w_5 ?_|refine w_6 ?_|refine w_7 ?_|(refine w_8 (fun hb=>?_) (fun hb=>?_)<;>try simp only [hb])|refine w_9 ?_|simp (maxDischargeDepth:=12) only [viz,↓reduceIte,Nat.reduceEqDiff,reduceCtorEq,Int.reduceEq,Int.reduceNeg,Nat.reduceAdd,Nat.reduceLeDiff,g4,hc3,cells_cell hc3,hc4,cells_cell hc4,f4,f5,hne,hc2,hc1]))
  have c3 : ∀ q, q < s3.next → s4.get q = s3.get q := fun q hq => hk4.get q hq
  have c2 : ∀ q, q ≠ s.next → q < s2.next → s3.get q = s2.get q := fun q h1 hq => by
    rw [hk3.get q (by show q < s2.next; omega), Mem.get_put, if_neg h1]; rfl
  have c1 : ∀ q, q ≠ s.next → q < s1.next → s2.get q = s1.get q := fun q h1 hq => by
    rw [hk2.get q (by show q < s1.next; omega), Mem.get_put, if_neg h1]; rfl
  have c4 : ∀ x y z q, q ≠ s.next → q < s4.next → (((s4.put s.next x).put s.next y).push z).get q = s4.get q := fun x y z q h1 hq => by
    rw [Mem.get_push, if_neg (by simp only [next_put']; omega), Mem.get_put, if_neg h1, Mem.get_put, if_neg h1]
  refine hK s4.next _ v2 v1 v3 v4 ⟨?_, ?_, fun q hq => ?_⟩ (by omega) ⟨?_, ?_, ?_, ?_, ?_, ?_, ?_, ⟨[], OwnL.nil _ _ _ _, MsgsC.nil _ _⟩⟩
  · simp only [next_push', next_put']; omega
  · show s4.floor = s.floor; rw [hk4.floor]; exact f0
  · rw [c4 _ _ _ q (by omega) (by omega), c3 q (by omega), c2 q (by omega) (by omega), c1 q (by omega) (by omega), old1 q hq]
  · rw [Mem.get_push, if_pos (by simp only [next_put'])]; rfl
  · refine (Sl.keep (ho2.sl (D := fun q => s1.next ≤ q ∧ q < s2.next) (byteC_len _) fun q n h => ho2.row q 0 n 1 h) fun q hq => ?_).mono fun q hq => ⟨by simp only [next_push', next_put']; omega, by omega, fun _ _ _ h => by cases h⟩
    rw [c4 _ _ _ q (by omega) (by omega), c3 q (by omega), c2 q (by omega) (by omega)]
  · refine (Ents.keep (hv1.mono (D' := fun q => q < s1.next ∧ q ≠ s.next) ?_) fun q hq => ?_).mono fun q hq => ⟨by simp only [next_push', next_put']; omega, by omega, fun _ _ _ h => by cases h⟩
    · rintro q (h | h)
      · have := hI q h; exact ⟨by omega, by omega⟩
      · exact ⟨h.2, by have : s.next + 1 ≤ q := h.1; omega⟩
    · rw [c4 _ _ _ q (by omega) (by omega), c3 q (by omega), c2 q (by omega) (by omega), c1 q (by omega) (by omega)]
  · refine (Sl.keep (ho3.sl (D := fun q => s2.next ≤ q ∧ q < s3.next) (intsA_sz _ _) fun q n h => ho3.row q 0 n 1 h) fun q hq => ?_).mono fun q hq => ⟨by simp only [next_push', next_put']; omega, by omega, fun _ _ _ h => by cases h⟩
    rw [c4 _ _ _ q (by omega) (by omega), c3 q (by omega)]
  · refine (Sl.keep (ho4.sl (D := fun q => s3.next ≤ q ∧ q < s4.next) (peersC_sz _) fun q n h => ho4.row q 0 n 3 h) fun q hq => ?_).mono fun q hq => ⟨by simp only [next_push', next_put']; omega, by omega, fun _ _ _ h => by cases h⟩
    rw [c4 _ _ _ q (by omega) (by omega)]
  · simp only [next_push', next_put']; omega
  · show s4.floor ≤ s4.next; simpa using f5
end Go.Proofs.YtfllmhjjfapnmaaGreat

