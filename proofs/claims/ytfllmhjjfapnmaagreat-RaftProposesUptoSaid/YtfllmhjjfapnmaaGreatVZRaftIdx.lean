/- A peer is looked for; what a majority has. No statement of the seat is proved here. -/
import Derived.Test.YtfllmhjjfapnmaaGreatVZRaftTell
import Derived.Test.YtfllmhjjfapnmaaGreatVZQPure
import Derived.Test.YtfllmhjjfapnmaaGreatVZVE
namespace Go.Proofs.YtfllmhjjfapnmaaGreat
open Go Go.VI
set_option linter.unusedSimpArgs false
attribute [local irreducible] Ws Wp W C
set_option maxHeartbeats 4000000
theorem ownl_keep {s s' : Mem} {b ty sz : Nat} {v : AV} {xs : List (List AV)} (h : OwnL s b v ty sz xs) (k : Keep s.next s s') : OwnL s' b v ty sz xs := by
  rcases h with h | ⟨r, h1, h2, h3, h4, h5⟩
  · exact .inl h
  · exact .inr ⟨r, h1, by rw [k.get r h5]; exact h2, by rw [k.floor]; exact h3, h4, Nat.lt_of_lt_of_le h5 k.next⟩
def Tells (f r : Nat) (n : Int) (s : Mem) : Prop := ∀ (s' : Mem) (p : Peer) (K : AV → Mem → Prop), Keep s.next s s' → (∀ s'', Keep s'.next s' s'' → K (.bool (p.1 == n)) s'') → C tab f [.agg (peerC p), .ptr r 0 0] s' K
theorem idx_c {f r : Nat} {ps : List Peer} {n : Int} {D : Nat → Prop} {s : Mem} {w : AV} {K : AV → Mem → Prop} (hcl : Tells f r n s) (hI : In D s) (hw : Sl s D w 3 (peersC ps)) (hn : Fit ps.length)
    (hyes : ∀ (i : Nat) p s', Keep s.next s s' → ps[i]? = some p → p.1 = n → (∀ q ∈ ps.take i, q.1 ≠ n) → K (.int .i64 i) s') (hno : (∀ q ∈ ps, q.1 ≠ n) → ∀ s', Keep s.next s s' → K (.int .i64 (-1)) s') : C tab 117 [w, .fn f [.ptr r 0 0]] s K := by
  refine C_enter (cf := cf117) rfl (Nat.le_of_ble_eq_true rfl) ?_
  simp only [cf117, oo, on, om, og, oc, ou]
  have hlen : lenA false w = some ps.length := by rw [hw.len, peersC_len]
  (repeat' (with_reducible first|refine w_1 ?_|refine w_2 ?_|refine w_3 ?_|refine w_4 ?_|refine w_5 ?_|refine w_6 ?_|refine w_7 ?_|(refine w_8 (fun hb=>?_) (fun hb=>?_)<;>try simp only [hb])|refine w_9 ?_|simp (maxDischargeDepth:=12) only [viz,↓reduceIte,Nat.reduceEqDiff,reduceCtorEq,Int.reduceEq,Int.reduceNeg,Nat.reduceAdd,Nat.reduceLeDiff,hlen]))
  refine W_inv ps.length (fun i e s' => Keep s.next s s' ∧ e.get 8 = .int .i64 i ∧ ∀ q ∈ ps.take i, q.1 ≠ n) (by delta cf117l0 oo on om og oc ou; exact rfl) ?_ ?_
  · refine ⟨Keep.refl _ _, by simp only [Env.get_set, ↓reduceIte]; rfl, by simp⟩
  · rintro i e s' hi hT ⟨hk, g8, ha⟩
    have g0 := hT 0 rfl
    have g1 := hT 1 rfl
    have g7 := hT 7 rfl
    simp only [Env.get_set, ↓reduceIte, Nat.reduceEqDiff, Env.start, Env.ofList] at g0 g1 g7
    clear hT
    by_cases hlt : i < ps.length
    · obtain ⟨p, hx⟩ := get_of hlt
      obtain ⟨pp, hp, P⟩ := (hw.keep (keep_old hI hk)).atk (hI.keep hk) (peersC_get hx)
      have ld : loadA s' true 3 pp = some (.agg (peerC p)) := by rw [P.ld _ (Keep.refl _ _)]; exact rfl
      (repeat' (with_reducible first|refine w_1 ?_|refine w_2 ?_|refine w_3 ?_|refine w_4 ?_|refine w_5 ?_|refine w_6 ?_|refine w_7 ?_|(refine w_8 (fun hb=>?_) (fun hb=>?_)<;>try simp only [hb])|refine w_9 ?_|simp (maxDischargeDepth:=12) only [viz,↓reduceIte,Nat.reduceEqDiff,reduceCtorEq,Int.reduceEq,Int.reduceNeg,Nat.reduceAdd,Nat.reduceLeDiff,g0,g1,g7,g8,lt_true hlt,hp,ld]))
      refine hcl s' p _ hk fun s2 hk2 => ?_
      by_cases hpn : p.1 = n
      · have c1 : (p.1 == n) = true := by simp [hpn]
        (repeat' (with_reducible first|refine w_1 ?_|refine w_2 ?_|refine w_3 ?_|refine w_4 ?_|refine w_5 ?_|refine w_6 ?_|refine w_7 ?_|(refine w_8 (fun hb=>?_) (fun hb=>?_)<;>try simp only [hb])|refine w_9 ?_|simp (maxDischargeDepth:=12) only [viz,↓reduceIte,Nat.reduceEqDiff,reduceCtorEq,Int.reduceEq,Int.reduceNeg,Nat.reduceAdd,Nat.reduceLeDiff,g0,g1,g7,g8,c1]))
        exact hyes i p _ (hk.then hk2) hx hpn ha
      · have c1 : (p.1 == n) = false := by simp [hpn]
        (repeat' (with_reducible first|refine w_1 ?_|refine w_2 ?_|refine w_3 ?_|refine w_4 ?_|refine w_5 ?_|refine w_6 ?_|refine w_7 ?_|(refine w_8 (fun hb=>?_) (fun hb=>?_)<;>try simp only [hb])|refine w_9 ?_|simp (maxDischargeDepth:=12) only [viz,↓reduceIte,Nat.reduceEqDiff,reduceCtorEq,Int.reduceEq,Int.reduceNeg,Nat.reduceAdd,Nat.reduceLeDiff,g0,g1,g7,g8,c1]))
        refine ⟨hlt, hk.then hk2, succ_av (by omega), ?_⟩
        intro q hq
        rw [List.take_add_one, hx] at hq
        rcases List.mem_append.mp hq with hq | hq
        · exact ha q hq
        · simp at hq; subst hq; exact hpn
    · (repeat' (with_reducible first|refine w_1 ?_|refine w_2 ?_|refine w_3 ?_|refine w_4 ?_|refine w_5 ?_|refine w_6 ?_|refine w_7 ?_|(refine w_8 (fun hb=>?_) (fun hb=>?_)<;>try simp only [hb])|refine w_9 ?_|simp (maxDischargeDepth:=12) only [viz,↓reduceIte,Nat.reduceEqDiff,reduceCtorEq,Int.reduceEq,Int.reduceNeg,Nat.reduceAdd,Nat.reduceLeDiff,g0,g1,g7,g8,lt_false hlt]))
      refine hno ?_ _ hk
      rw [List.take_of_length_le (by omega)] at ha
      exact ha
theorem settle1_tells {r : Nat} {n : Int} {s : Mem} (hr : s.get r = some ⟨3, 1, [[.int .i64 n]]⟩) (hlt : r < s.next) : Tells 118 r n s := by
  intro s' p K hk hK
  have h1 := (hk.get r hlt).trans hr
  have hne : (r = s'.next) = False := by have := hk.next; simp; omega
  refine C_enter (cf := cf118) rfl (Nat.le_of_ble_eq_true rfl) ?_
  simp only [cf118, oo, on, om, og, oc, ou, peerC]
  (repeat' (with_reducible first|refine w_1 ?_|refine w_2 ?_|refine w_3 ?_|refine w_4 ?_|refine w_5 ?_|refine w_6 ?_|refine w_7 ?_|(refine w_8 (fun hb=>?_) (fun hb=>?_)<;>try simp only [hb])|refine w_9 ?_|simp (maxDischargeDepth:=12) only [viz,↓reduceIte,Nat.reduceEqDiff,reduceCtorEq,Int.reduceEq,Int.reduceNeg,Nat.reduceAdd,Nat.reduceLeDiff,h1,hne]))
  exact hK _ (pushes _ _)
theorem commit1_tells {r : Nat} {n : Int} {s : Mem} (hr : s.get r = some ⟨3, 1, [[.int .i64 n]]⟩) (hlt : r < s.next) : Tells 144 r n s := by
  intro s' p K hk hK
  have h1 := (hk.get r hlt).trans hr
  have hne : (r = s'.next) = False := by have := hk.next; simp; omega
  refine C_enter (cf := cf144) rfl (Nat.le_of_ble_eq_true rfl) ?_
  simp only [cf144, oo, on, om, og, oc, ou, peerC]
  (repeat' (with_reducible first|refine w_1 ?_|refine w_2 ?_|refine w_3 ?_|refine w_4 ?_|refine w_5 ?_|refine w_6 ?_|refine w_7 ?_|(refine w_8 (fun hb=>?_) (fun hb=>?_)<;>try simp only [hb])|refine w_9 ?_|simp (maxDischargeDepth:=12) only [viz,↓reduceIte,Nat.reduceEqDiff,reduceCtorEq,Int.reduceEq,Int.reduceNeg,Nat.reduceAdd,Nat.reduceLeDiff,h1,hne]))
  exact hK _ (pushes _ _)
def major (vs : List Int) (ps : List Peer) : Int := if okV vs = true then Q.mid (Q.ms vs ps) else 0
theorem firstM_inU {ps : List Peer} (h : ∀ p ∈ ps, InU p.2.2) (n : Int) : InU (Q.firstM ps n) := by
  unfold Q.firstM
  split
  · rename_i p hp; exact h p (List.mem_of_find?_eq_some hp)
  · exact ⟨by omega, by omega⟩
theorem qcommit_c {vs : List Int} {ps : List Peer} {D : Nat → Prop} {s : Mem} {v w : AV} {K : AV → Mem → Prop} (hf : s.floor ≤ s.next) (hI : In D s) (hv : Sl s D v 1 (intsA .i64 vs)) (hn : Fit vs.length) (hw : Sl s D w 3 (peersC ps)) (hp : Fit ps.length)
    (hK : ∀ s', Keep s.next s s' → K (.int .u64 (major vs ps)) s') : C tab 135 [v, w] s K := by
  refine C_enter (cf := cf135) rfl (Nat.le_of_ble_eq_true rfl) ?_
  simp only [cf135, oo, on, om, og, oc, ou]
  (repeat' (with_reducible first|refine w_1 ?_|refine w_2 ?_|refine w_3 ?_|refine w_4 ?_|refine w_5 ?_|refine w_6 ?_|refine w_7 ?_|(refine w_8 (fun hb=>?_) (fun hb=>?_)<;>try simp only [hb])|refine w_9 ?_|simp (maxDischargeDepth:=12) only [viz,↓reduceIte,Nat.reduceEqDiff,reduceCtorEq,Int.reduceEq,Int.reduceNeg,Nat.reduceAdd,Nat.reduceLeDiff]))
  refine check_c hv hn ?_
  unfold major at hK
  cases hok : okV vs
  · (repeat' (with_reducible first|refine w_1 ?_|refine w_2 ?_|refine w_3 ?_|refine w_4 ?_|refine w_5 ?_|refine w_6 ?_|refine w_7 ?_|(refine w_8 (fun hb=>?_) (fun hb=>?_)<;>try simp only [hb])|refine w_9 ?_|simp (maxDischargeDepth:=12) only [viz,↓reduceIte,Nat.reduceEqDiff,reduceCtorEq,Int.reduceEq,Int.reduceNeg,Nat.reduceAdd,Nat.reduceLeDiff,bne_self_eq_false, Int.reduceBEq, Int.reduceBNe, Int.reduceLT, Int.reduceLE, Int.reduceGT, Int.reduceGE]))
    rw [hok] at hK
    exact hK _ (Keep.refl _ _)
  rw [hok] at hK
  simp only [if_true] at hK
  obtain ⟨h0, h7⟩ := okV_len hok
  (repeat' (with_reducible first|refine w_1 ?_|refine w_2 ?_|refine w_3 ?_|refine w_4 ?_|refine w_5 ?_|refine w_6 ?_|refine w_7 ?_|(refine w_8 (fun hb=>?_) (fun hb=>?_)<;>try simp only [hb])|refine w_9 ?_|simp (maxDischargeDepth:=12) only [viz,↓reduceIte,Nat.reduceEqDiff,reduceCtorEq,Int.reduceEq,Int.reduceNeg,Nat.reduceAdd,Nat.reduceLeDiff,hv.lenB,bne_self_eq_false, Int.reduceBEq, Int.reduceBNe, Int.reduceLT, Int.reduceLE, Int.reduceGT, Int.reduceGE]))
  refine W_inv vs.length (fun i e s' => Keep s.next s s' ∧ e.get 15 = .int .i64 i ∧ ∃ l, e.get 5 = l ∧ OwnL s' s.next l 22 1 (intsA .u64 (Q.ms (vs.take i) ps))) (by delta cf135l0 oo on om og oc ou; exact rfl) ?_ ?_
  · exact ⟨Keep.refl _ _, by simp only [Env.get_set, ↓reduceIte]; rfl, .nilS, (by simp only [ev, Env.get_set, ↓reduceIte, Nat.reduceEqDiff]), OwnL.nil _ _ _ _⟩
  · rintro i e s' hi hT ⟨hk, g15, l, g5, ho⟩
    have g1 := hT 1 rfl
    have g13 := hT 13 rfl
    have g14 := hT 14 rfl
    simp only [Env.get_set, ↓reduceIte, Nat.reduceEqDiff, Env.start, Env.ofList] at g1 g13 g14
    clear hT
    have fT : (s'.floor ≤ s'.next) = True := by simp [hk.ok hf]
    have nx := hk.next
    by_cases hlt : i < vs.length
    · obtain ⟨a, ha⟩ := get_of hlt
      obtain ⟨p, hpp, P⟩ := (hv.keep (keep_old hI hk)).atkB (hI.keep hk) ha
      have ld : loadA s' false 1 p = some (.int .i64 a) := by rw [P.ld _ (Keep.refl _ _)]; exact rfl
      (repeat' (with_reducible first|refine w_1 ?_|refine w_2 ?_|refine w_3 ?_|refine w_4 ?_|refine w_5 ?_|refine w_6 ?_|refine w_7 ?_|(refine w_8 (fun hb=>?_) (fun hb=>?_)<;>try simp only [hb])|refine w_9 ?_|simp (maxDischargeDepth:=12) only [viz,↓reduceIte,Nat.reduceEqDiff,reduceCtorEq,Int.reduceEq,Int.reduceNeg,Nat.reduceAdd,Nat.reduceLeDiff,g1,g13,g14,g15,g5,lt_true hlt,hpp,ld,fT]))
      have hk1 : Keep s'.next s' (s'.push ⟨3, 1, [[.int .i64 a]]⟩) := pushes _ _
      refine idx_c (ps := ps) (n := a) (D := D) (commit1_tells (n := a) (by rw [Mem.get_push, if_pos rfl]) (by simp only [next_push']; omega)) (hI.keep (hk.then (pushes _ _))) (hw.keep (keep_old hI (hk.then (pushes _ _)))) hp (fun j q s2 hk2 hx hpn hj => ?_) (fun hno s2 hk2 => ?_)
      all_goals
        have hk02 := hk.then (hk1.then hk2)
        have hn2 := hk2.next
        simp only [next_push'] at hn2
        have ho2 := ownl_keep ho (hk1.then hk2)
      · obtain ⟨p2, hp2, P2⟩ := (hw.keep (keep_old hI hk02)).atk (hI.keep hk02) (peersC_get hx)
        have ad2 := P2.adr 2
        have ld2 : loadA s2 false 1 (adr p2 2) = some (.int .u64 q.2.2) := by rw [P2.ldf _ (Keep.refl _ _) 2 false 1 (by simp [peerC])]; exact rfl
        have c1 : decide ((j : Int) ≥ 0) = true := by simp
        (repeat' (with_reducible first|refine w_1 ?_|refine w_2 ?_|refine w_3 ?_|refine w_4 ?_|refine w_5 ?_|refine w_6 ?_|refine w_7 ?_|(refine w_8 (fun hb=>?_) (fun hb=>?_)<;>try simp only [hb])|refine w_9 ?_|simp (maxDischargeDepth:=12) only [viz,↓reduceIte,Nat.reduceEqDiff,reduceCtorEq,Int.reduceEq,Int.reduceNeg,Nat.reduceAdd,Nat.reduceLeDiff,g1,g13,g14,g15,g5,c1,hp2,ad2,ld2]))
        refine app_lit (v := l) (k := 1) (b := s.next) (xs := intsA .u64 (Q.ms (vs.take i) ps)) (by rw [hk02.floor]; exact hf) hk02.next ho2 (by simp only [ev, Env.get_set, ↓reduceIte, Nat.reduceEqDiff]) (by simp only [ev, Env.get_set, ↓reduceIte, Nat.reduceEqDiff]) rfl rfl (room (by rw [intsA_len, Q.ms_len, List.length_singleton, List.length_take]; omega) (by rw [intsA_len, Q.ms_len, List.length_singleton, List.length_take]; omega)) ?_
        intro v3 s3 ho3 hx3 _ _
        rw [intsA_snoc, ← Q.firstM_at hx hpn hj, ← Q.ms_take vs ps i a ha] at ho3
        have hk3 : Keep s.next s2 s3 := hx3.keep hk02.next fun q i n z h => (ho2.row q i n z h).1
        (repeat' (with_reducible first|refine w_1 ?_|refine w_2 ?_|refine w_3 ?_|refine w_4 ?_|refine w_5 ?_|refine w_6 ?_|refine w_7 ?_|(refine w_8 (fun hb=>?_) (fun hb=>?_)<;>try simp only [hb])|refine w_9 ?_|simp (maxDischargeDepth:=12) only [viz,↓reduceIte,Nat.reduceEqDiff,reduceCtorEq,Int.reduceEq,Int.reduceNeg,Nat.reduceAdd,Nat.reduceLeDiff,g1,g13,g14,g15]))
        exact ⟨hlt, hk02.trans hk3, succ_av (by omega), v3, rfl, ho3⟩
      · have c1 : decide ((-1 : Int) ≥ 0) = false := by decide
        (repeat' (with_reducible first|refine w_1 ?_|refine w_2 ?_|refine w_3 ?_|refine w_4 ?_|refine w_5 ?_|refine w_6 ?_|refine w_7 ?_|(refine w_8 (fun hb=>?_) (fun hb=>?_)<;>try simp only [hb])|refine w_9 ?_|simp (maxDischargeDepth:=12) only [viz,↓reduceIte,Nat.reduceEqDiff,reduceCtorEq,Int.reduceEq,Int.reduceNeg,Nat.reduceAdd,Nat.reduceLeDiff,g1,g13,g14,g15,g5,c1]))
        refine app_lit (v := l) (k := 1) (b := s.next) (xs := intsA .u64 (Q.ms (vs.take i) ps)) (by rw [hk02.floor]; exact hf) hk02.next ho2 (by simp only [ev, Env.get_set, ↓reduceIte, Nat.reduceEqDiff]) (by simp only [ev, Env.get_set, ↓reduceIte, Nat.reduceEqDiff]) rfl rfl (room (by rw [intsA_len, Q.ms_len, List.length_singleton, List.length_take]; omega) (by rw [intsA_len, Q.ms_len, List.length_singleton, List.length_take]; omega)) ?_
        intro v3 s3 ho3 hx3 _ _
        rw [intsA_snoc, ← Q.firstM_none hno, ← Q.ms_take vs ps i a ha] at ho3
        have hk3 : Keep s.next s2 s3 := hx3.keep hk02.next fun q i n z h => (ho2.row q i n z h).1
        (repeat' (with_reducible first|refine w_1 ?_|refine w_2 ?_|refine w_3 ?_|refine w_4 ?_|refine w_5 ?_|refine w_6 ?_|refine w_7 ?_|(refine w_8 (fun hb=>?_) (fun hb=>?_)<;>try simp only [hb])|refine w_9 ?_|simp (maxDischargeDepth:=12) only [viz,↓reduceIte,Nat.reduceEqDiff,reduceCtorEq,Int.reduceEq,Int.reduceNeg,Nat.reduceAdd,Nat.reduceLeDiff,g1,g13,g14,g15]))
        exact ⟨hlt, hk02.trans hk3, succ_av (by omega), v3, rfl, ho3⟩
    · rw [List.take_of_length_le (by omega)] at ho
      have hml := Q.ms_len vs ps
      rcases ho with ⟨_, h⟩ | ⟨r, rfl, hr, hfr, hbr, hrn⟩
      · have : (intsA .u64 (Q.ms vs ps)).length = vs.length := by rw [intsA_len, Q.ms_len]
        rw [h] at this; simp at this; omega
      rw [intsA_len] at g5
      (repeat' (with_reducible first|refine w_1 ?_|refine w_2 ?_|refine w_3 ?_|refine w_4 ?_|refine w_5 ?_|refine w_6 ?_|refine w_7 ?_|(refine w_8 (fun hb=>?_) (fun hb=>?_)<;>try simp only [hb])|refine w_9 ?_|simp (maxDischargeDepth:=12) only [viz,↓reduceIte,Nat.reduceEqDiff,reduceCtorEq,Int.reduceEq,Int.reduceNeg,Nat.reduceAdd,Nat.reduceLeDiff,g1,g13,g14,g15,g5,lt_false hlt]))
      refine Q.sort_c (xs := Q.ms vs ps) rfl (by omega) (by omega) hr hfr ?_
      intro v' s2 hT hs2
      (repeat' (with_reducible first|refine w_1 ?_|refine w_2 ?_|refine w_3 ?_|refine w_4 ?_|refine w_5 ?_|refine w_6 ?_|refine w_7 ?_|(refine w_8 (fun hb=>?_) (fun hb=>?_)<;>try simp only [hb])|refine w_9 ?_|simp (maxDischargeDepth:=12) only [viz,↓reduceIte,Nat.reduceEqDiff,reduceCtorEq,Int.reduceEq,Int.reduceNeg,Nat.reduceAdd,Nat.reduceLeDiff,g5]))
      refine Q.need_c _ (Q.wf_nat (by omega)) _ _ ?_
      have hk' : Q.needF ((Q.ms vs ps).length : Int) = ((Q.ms vs ps).length / 2 + 1 : Nat) := by
        rw [Q.needF, if_neg (by omega)]; omega
      have hw2 : IntKind.i64.wrap (((Q.ms vs ps).length : Int) - (((Q.ms vs ps).length / 2 + 1 : Nat) : Int)) = (((Q.ms vs ps).length - ((Q.ms vs ps).length / 2 + 1) : Nat) : Int) := by rw [wrap_i64 (by omega)]; omega
      have ha := at0 (k := .i64) (r := r) (z := 1) (show (Q.ms vs ps).length - ((Q.ms vs ps).length / 2 + 1) < (Q.ms vs ps).length by omega)
      have hld := load0 hs2 (show (Q.ms vs ps).length - ((Q.ms vs ps).length / 2 + 1) < (Q.isrt (Q.ms vs ps) ((Q.ms vs ps).length - 1)).length by rw [Q.isrt_len]; omega)
      (repeat' (with_reducible first|refine w_1 ?_|refine w_2 ?_|refine w_3 ?_|refine w_4 ?_|refine w_5 ?_|refine w_6 ?_|refine w_7 ?_|(refine w_8 (fun hb=>?_) (fun hb=>?_)<;>try simp only [hb])|refine w_9 ?_|simp (maxDischargeDepth:=12) only [viz,↓reduceIte,Nat.reduceEqDiff,reduceCtorEq,Int.reduceEq,Int.reduceNeg,Nat.reduceAdd,Nat.reduceLeDiff,g5,hk',hw2,ha,hld]))
      exact hK _ (hk.trans (hT.keep hbr))
end Go.Proofs.YtfllmhjjfapnmaaGreat

