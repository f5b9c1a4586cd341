/- A list and a span more: the program's way. No statement of the seat is proved here. -/
import Derived.Test.YthibbbfhkfebkaaGreatVZMA
import Derived.Test.YthibbbfhkfebkaaGreatVZTD
import Derived.Test.YthibbbfhkfebkaaGreatVZVE
import Derived.Test.YthibbbfhkfebkaaGreatVZFD
namespace Go.Proofs.YthibbbfhkfebkaaGreat
open Go Go.VI
set_option linter.unusedSimpArgs false
structure AddM (r0 : Nat) (st : AddSt) (w6 w7 : AV) (M : Mem) : Prop where
  g : M.get r0 = some ⟨47, 2, [[.str st.s.frm, .str st.s.to]]⟩
  o6 : OwnL M (r0 + 1) w6 47 2 (st.low.map spanC)
  o7 : OwnL M (r0 + 1) w7 47 2 (st.high.map spanC)
  ne : ∀ p i n z i' n' z', w6 = .own p i n z → w7 ≠ .own p i' n' z'
  n : r0 < M.next
  f : M.floor ≤ r0
theorem _root_.Go.VI.OwnL.stay {s s' : Mem} {b ty sz : Nat} {v : AV} {xs : List (List AV)} (h : OwnL s b v ty sz xs) (hg : ∀ r i n z, v = .own r i n z → s'.get r = s.get r) (hf : s'.floor = s.floor) (hn : s.next ≤ s'.next) : OwnL s' b v ty sz xs := by
  rcases h with h | ⟨r, rfl, h1, h2, h3, h4⟩
  · exact .inl h
  · exact .inr ⟨r, rfl, by rw [hg r _ _ _ rfl]; exact h1, by rw [hf]; exact h2, h3, by omega⟩
theorem AddM.push {r0 : Nat} {st : AddSt} {w6 w7 : AV} {M : Mem} (h : AddM r0 st w6 w7 M) (R : Row) : AddM r0 st w6 w7 (M.push R) := by
  have := h.n
  exact ⟨by rw [Mem.get_push, if_neg (by omega)]; exact h.g, h.o6.push _, h.o7.push _, h.ne, by rw [next_push']; omega, h.f⟩
theorem AddM.lo {r0 : Nat} {st : AddSt} {w6 w7 v : AV} {M N : Mem} (h : AddM r0 st w6 w7 M) {y : Span} (ho : OwnL N (r0 + 1) v 47 2 (st.low.map spanC ++ [spanC y])) (hx : KeepX w6 M N) (hv : ∀ r i n z, v = .own r i n z → M.next ≤ r) : AddM r0 ⟨st.low ++ [y], st.s, st.high⟩ v w7 N := by
  have hn := h.n
  refine ⟨?_, by simpa using ho, ?_, ?_, by have := hx.next; omega, by rw [hx.floor]; exact h.f⟩
  · rw [hx.get r0 hn fun i n z e => by have := h.o6.row _ _ _ _ e; omega]; exact h.g
  · refine h.o7.stay (fun r i n z e => hx.get r (h.o7.row _ _ _ _ e).2 fun i' n' z' e' => ?_) hx.floor hx.next
    exact h.ne _ _ _ _ _ _ _ e' e
  · intro p i n z i' n' z' e e'
    have := hv _ _ _ _ e
    have := (h.o7.row _ _ _ _ e').2
    omega
theorem AddM.hi {r0 : Nat} {st : AddSt} {w6 w7 v : AV} {M N : Mem} (h : AddM r0 st w6 w7 M) {y : Span} (ho : OwnL N (r0 + 1) v 47 2 (st.high.map spanC ++ [spanC y])) (hx : KeepX w7 M N) (hv : ∀ r i n z, v = .own r i n z → M.next ≤ r) : AddM r0 ⟨st.low, st.s, st.high ++ [y]⟩ w6 v N := by
  have hn := h.n
  refine ⟨?_, ?_, by simpa using ho, ?_, by have := hx.next; omega, by rw [hx.floor]; exact h.f⟩
  · rw [hx.get r0 hn fun i n z e => by have := h.o7.row _ _ _ _ e; omega]; exact h.g
  · refine h.o6.stay (fun r i n z e => hx.get r (h.o6.row _ _ _ _ e).2 fun i' n' z' e' => ?_) hx.floor hx.next
    exact h.ne _ _ _ _ _ _ _ e e'
  · intro p i n z i' n' z' e e'
    have := hv _ _ _ _ e'
    have := (h.o6.row _ _ _ _ e).2
    omega
theorem AddM.set {r0 : Nat} {st : AddSt} {w6 w7 : AV} {M : Mem} (h : AddM r0 st w6 w7 M) (x : Span) : AddM r0 ⟨st.low, x, st.high⟩ w6 w7 (M.put r0 (some ⟨47, 2, [[.str x.frm, .str x.to]]⟩)) := by
  refine ⟨by rw [Mem.get_put, if_pos rfl], ?_, ?_, h.ne, h.n, h.f⟩
  · refine h.o6.stay (fun r i n z e => ?_) rfl (Nat.le_refl _)
    have := h.o6.row _ _ _ _ e
    rw [Mem.get_put, if_neg (by omega)]
  · refine h.o7.stay (fun r i n z e => ?_) rfl (Nat.le_refl _)
    have := h.o7.row _ _ _ _ e
    rw [Mem.get_put, if_neg (by omega)]
theorem add_take {l : List Span} {s x : Span} {i : Nat} (h : l[i]? = some x) : (l.take (i + 1)).foldl addStep ⟨[], s, []⟩ = addStep ((l.take i).foldl addStep ⟨[], s, []⟩) x := by
  rw [List.take_add_one, h, Option.toList_some, List.foldl_append]; rfl
theorem add_sum (l : List Span) (st : AddSt) : (l.foldl addStep st).low.length + (l.foldl addStep st).high.length ≤ st.low.length + st.high.length + l.length := by
  induction l generalizing st with
  | nil => simp
  | cons x r ih =>
    have h1 := ih (addStep st x)
    have h2 : (addStep st x).low.length + (addStep st x).high.length ≤ st.low.length + st.high.length + 1 := by
      unfold addStep
      repeat' split
      all_goals simp only [List.length_append, List.length_cons, List.length_nil]
      all_goals omega
    rw [List.foldl_cons, List.length_cons]
    omega
attribute [local irreducible] Ws Wp W C
set_option maxHeartbeats 4000000
theorem mn_str {e : Env} {s : Mem} {K : AV → Mem → Prop} {x y : Opd} {a b : Txt} (hx : ev e x = .str a) (hy : ev e y = .str b) (hK : K (.str (mnS a b)) s) : Wp tab (.mnmx false [x, y]) e s K := by
  rw [Wp_mnmx]
  simp only [stepOp, List.map_cons, List.map_nil, hx, hy, best, if_true, Bool.false_eq_true, if_false, Option.map_some, K2_some]
  exact hK
theorem mx_str {e : Env} {s : Mem} {K : AV → Mem → Prop} {x y : Opd} {a b : Txt} (hx : ev e x = .str a) (hy : ev e y = .str b) (hK : K (.str (mxS a b)) s) : Wp tab (.mnmx true [x, y]) e s K := by
  rw [Wp_mnmx]
  simp only [stepOp, List.map_cons, List.map_nil, hx, hy, best, if_true, Bool.false_eq_true, if_false, Option.map_some, K2_some]
  exact hK
theorem sadd_c {l : List Span} {x : Span} {v : AV} {D : Nat → Prop} {s : Mem} {K : AV → Mem → Prop} (hf : s.floor ≤ s.next) (hI : In D s) (hv : Spans s D v l) (hl : l.length < 1000) (h1 : formS l = true) (h2 : mayS x = true)
    (hK : ∀ v' s', Keep s.next s s' → OwnL s' s.next v' 47 2 ((addP l x).map spanC) → K (if (addP l x).length ≤ 64 then .tup [v', .int .i64 0] else .tup [.nilS, .int .i64 2]) s') : C tab 52 [v, .agg (spanC x)] s K := by
  refine C_enter (cf := cf52) rfl (Nat.le_of_ble_eq_true rfl) ?_
  simp only [cf52, oo, on, om, og, oc, ou, spanC]
  have hlen : lenA false v = some l.length := hv.lenB
  (repeat' (with_reducible first|refine w_1 ?_|refine w_2 ?_|simp (maxDischargeDepth:=12) only [viz,↓reduceIte,Nat.reduceAdd]))
  refine form_c (D := D) (l := l) (by simp only [floor_push', next_push']; omega) (fun q hq => by rw [next_push']; have := hI q hq; omega) (hv.keep fun q hq => (pushes s _).get q (hI q hq)) (by omega) fun s1 k1 => ?_
  have q1 := (Kp.of_push s ⟨47, 2, [[.str x.frm, .str x.to]]⟩).then k1
  have g1 := q1.g
  have f1 := q1.k.floor
  have n1 := q1.n
  rw [h1]
  (repeat' with_reducible ((try refine w_9 ?_);simp (maxDischargeDepth:=12) only [viz,↓reduceIte,Nat.reduceEqDiff,g1]))
  refine smay_c (x := x) fun s2 k2 => ?_
  have q2 := q1.then k2
  have g2 := q2.g
  have f2 := q2.k.floor
  have n2 := q2.n
  have e2 := q2.k.next
  rw [h2]
  (repeat' (with_reducible first|refine w_1 ?_|refine w_2 ?_|refine w_3 ?_|refine w_4 ?_|refine w_5 ?_|((try refine w_9 ?_);simp (maxDischargeDepth:=12) only [viz,↓reduceIte,reduceCtorEq,hlen])))
  have hm0 : AddM s.next ⟨[], x, []⟩ .nilS .nilS s2 := ⟨g2, OwnL.nil _ _ _ _, OwnL.nil _ _ _ _, fun p i n z _ _ _ h => by (cases h), n2, by rw [f2]; exact hf⟩
  refine W_inv l.length (fun i E s' => ∃ w6 w7, Keep s.next s s' ∧ AddM s.next ((l.take i).foldl addStep ⟨[], x, []⟩) w6 w7 s' ∧ E.get 3 = .ptr s.next 0 0 ∧ E.get 6 = w6 ∧ E.get 7 = w7 ∧ E.get 18 = v ∧ E.get 19 = .int .i64 l.length ∧ E.get 20 = .int .i64 i) (by delta cf52l0 oo on om og oc ou; exact rfl) ?_ ?_
  · refine ⟨.nilS, .nilS, q2.k, hm0, (by simp only [ev, Env.get_set, ↓reduceIte, Nat.reduceEqDiff]), (by simp only [ev, Env.get_set, ↓reduceIte, Nat.reduceEqDiff]), (by simp only [ev, Env.get_set, ↓reduceIte, Nat.reduceEqDiff]), (by simp only [ev, Env.get_set, ↓reduceIte, Nat.reduceEqDiff]), (by simp only [ev, Env.get_set, ↓reduceIte, Nat.reduceEqDiff]), ?_⟩
    simp only [ev, Env.get_set, ↓reduceIte, Nat.reduceEqDiff]
    rfl
  rintro i E s' hile _ ⟨w6, w7, hk, hm, g3, g6, g7, g18, g19, g20⟩
  by_cases hlt : i < l.length
  · obtain ⟨y, hy⟩ := get_of hlt
    obtain ⟨p, hp, P, hld⟩ := hv.ldk hI hy rfl rfl
    have hld' := hld _ hk
    simp only [spanC] at hld'
    have hfl := hk.ok hf
    have hst := add_take (s := x) hy
    have hsum := add_sum (l.take i) ⟨[], x, []⟩
    rw [List.length_take] at hsum
    simp only [List.length_nil] at hsum
    generalize (l.take i).foldl addStep ⟨[], x, []⟩ = st at hm hst hsum
    have gm := hm.g
    have nm := hm.n
    have ne1 : (s.next = s'.next) = False := by simp; omega
    have ne2 : (s'.next = s.next) = False := by simp; omega
    have fm : s'.floor ≤ s.next := hm.f
    have hR := hm.push ⟨47, 2, [[.str y.frm, .str y.to]]⟩
    have fin : ∀ {a b : AV} {N : Mem}, AddM s.next (addStep st y) a b N → Keep s.next s N → ∃ w6 w7, Keep s.next s N ∧ AddM s.next ((l.take (i + 1)).foldl addStep ⟨[], x, []⟩) w6 w7 N ∧ a = w6 ∧ b = w7 := fun h k => ⟨_, _, k, by rw [hst]; exact h, rfl, rfl⟩
    (repeat' (with_reducible first|refine w_1 ?_|refine w_2 ?_|refine w_3 ?_|refine w_4 ?_|refine w_5 ?_|simp (maxDischargeDepth:=12) only [viz,↓reduceIte,Nat.reduceEqDiff,Nat.reduceAdd,g3,g18,g19,g20,lt_true hlt,hp,hld',hfl,gm,ne1]))
    refine ahead_c ?_
    (repeat' (with_reducible first|refine w_1 ?_|refine w_2 ?_|refine w_4 ?_|(refine w_8 (fun hb=>?_) (fun hb=>?_)<;>(try simp only [Bool.not_eq_true',Bool.not_eq_false'] at hb)<;>try simp only [hb])|simp (maxDischargeDepth:=12) only [viz,↓reduceIte,Nat.reduceEqDiff,Nat.reduceAdd,g3,g6,gm,ne1]))
    · refine app_lit (v := w6) (k := 1) (b := s.next + 1) (xs := st.low.map spanC) (ys := [spanC y]) (s := s'.push ⟨47, 2, [[.str y.frm, .str y.to]]⟩) (by rw [floor_push']; omega) (by rw [next_push']; omega) hR.o6 (by simp only [ev, Env.get_set, ↓reduceIte, Nat.reduceEqDiff]) (by simp only [ev, Env.get_set, ↓reduceIte, Nat.reduceEqDiff]; rfl) rfl rfl (room (by simp; omega) (by simp; omega)) ?_
      intro v2 s3 ho hx hfr _
      have hm2 := hR.lo ho hx hfr
      have e : addStep st y = ⟨st.low ++ [y], st.s, st.high⟩ := by unfold addStep; rw [if_pos hb]
      rw [← e] at hm2
      (repeat' (with_reducible first|refine w_2 ?_|simp (maxDischargeDepth:=12) only [viz,↓reduceIte,Nat.reduceEqDiff,g3,g7,g18,g19,g20]))
      have hk2 : Keep s.next s s3 := (hk.trans ((pushes s' _).le (by omega))).trans (hx.keep (by rw [next_push']; omega) fun r i n z h => by have := (hm.o6.row r i n z h).1; omega)
      obtain ⟨a, b, c1, c2, c3, c4⟩ := fin hm2 hk2
      exact ⟨hlt, a, b, c1, c2, c3, c4, succ_av (by omega)⟩
    · refine ahead_c ?_
      (repeat' (with_reducible first|refine w_1 ?_|refine w_2 ?_|refine w_4 ?_|(refine w_8 (fun hb=>?_) (fun hb=>?_)<;>(try simp only [Bool.not_eq_true',Bool.not_eq_false'] at hb)<;>try simp only [hb])|simp (maxDischargeDepth:=12) only [viz,↓reduceIte,Nat.reduceEqDiff,Nat.reduceAdd,g3,g7,gm,ne1]))
      · rename_i hb0
        refine app_lit (v := w7) (k := 1) (b := s.next + 1) (xs := st.high.map spanC) (ys := [spanC y]) (s := s'.push ⟨47, 2, [[.str y.frm, .str y.to]]⟩) (by rw [floor_push']; omega) (by rw [next_push']; omega) hR.o7 (by simp only [ev, Env.get_set, ↓reduceIte, Nat.reduceEqDiff]) (by simp only [ev, Env.get_set, ↓reduceIte, Nat.reduceEqDiff]; rfl) rfl rfl (room (by simp; omega) (by simp; omega)) ?_
        intro v2 s3 ho hx hfr _
        have hm2 := hR.hi ho hx hfr
        have e : addStep st y = ⟨st.low, st.s, st.high ++ [y]⟩ := by unfold addStep; rw [if_neg (by rw [hb0]; simp), if_pos hb]
        rw [← e] at hm2
        (repeat' (with_reducible first|refine w_2 ?_|simp (maxDischargeDepth:=12) only [viz,↓reduceIte,Nat.reduceEqDiff,g3,g6,g18,g19,g20]))
        have hk2 : Keep s.next s s3 := (hk.trans ((pushes s' _).le (by omega))).trans (hx.keep (by rw [next_push']; omega) fun r i n z h => by have := (hm.o7.row r i n z h).1; omega)
        obtain ⟨a, b, c1, c2, c3, c4⟩ := fin hm2 hk2
        exact ⟨hlt, a, b, c1, c2, c3, c4, succ_av (by omega)⟩
      · rename_i hb0
        have em : addStep st y = ⟨st.low, mrg st.s y, st.high⟩ := by unfold addStep; rw [if_neg (by rw [hb0]; simp), if_neg (by rw [hb]; simp)]
        refine mn_str (a := st.s.frm) (b := y.frm) (by simp only [ev, Env.get_set, ↓reduceIte, Nat.reduceEqDiff]) (by simp only [ev, Env.get_set, ↓reduceIte, Nat.reduceEqDiff]) ?_
        (repeat' (with_reducible first|refine w_1 ?_|refine w_2 ?_|simp (maxDischargeDepth:=12) only [viz,↓reduceIte,Nat.reduceEqDiff,Nat.reduceAdd,g3,gm,ne1,ne2,fm]))
        refine below_c ?_
        (repeat' (with_reducible first|refine w_2 ?_|refine w_4 ?_|refine w_5 ?_|(refine w_8 (fun hb=>?_) (fun hb=>?_)<;>(try simp only [Bool.not_eq_true',Bool.not_eq_false'] at hb)<;>try simp only [hb])|simp (maxDischargeDepth:=12) only [viz,↓reduceIte,Nat.reduceEqDiff,Nat.reduceAdd,g3,g6,g7,g18,g19,g20,ne2,fm]))
        · have hm2 := (hR.set ⟨mnS st.s.frm y.frm, st.s.to⟩).set (mrg st.s y)
          rw [← em] at hm2
          have ey : mrg st.s y = ⟨mnS st.s.frm y.frm, y.to⟩ := by unfold mrg; rw [if_pos (by assumption)]
          rw [ey] at hm2
          obtain ⟨a, b, c1, c2, c3, c4⟩ := fin hm2 (((hk.trans ((pushes s' _).le (by omega))).trans (Keep.put (Nat.le_refl _) _)).trans (Keep.put (Nat.le_refl _) _))
          exact ⟨hlt, a, b, c1, c2, c3, c4, succ_av (by omega)⟩
        · have hm2 := (hR.set (mrg st.s y))
          rw [← em] at hm2
          have ey : mrg st.s y = ⟨mnS st.s.frm y.frm, st.s.to⟩ := by unfold mrg; rw [if_neg (by simp only [hb, Bool.false_eq_true, not_false_eq_true])]
          rw [ey] at hm2
          obtain ⟨a, b, c1, c2, c3, c4⟩ := fin hm2 ((hk.trans ((pushes s' _).le (by omega))).trans (Keep.put (Nat.le_refl _) _))
          exact ⟨hlt, a, b, c1, c2, c3, c4, succ_av (by omega)⟩
  · have hte : l.take i = l := List.take_of_length_le (by omega)
    rw [hte] at hm
    have hsum := add_sum l ⟨[], x, []⟩
    simp only [List.length_nil] at hsum
    have hout : addP l x = (l.foldl addStep ⟨[], x, []⟩).out := rfl
    generalize l.foldl addStep ⟨[], x, []⟩ = st at hm hsum hout
    have gm := hm.g
    have nm := hm.n
    have c6 : isCell w6 = true := (hm.o6.sl (D := fun _ => True) (span_cells _) fun _ _ _ => trivial).cell
    have c7 : isCell w7 = true := (hm.o7.sl (D := fun _ => True) (span_cells _) fun _ _ _ => trivial).cell
    have ne2 : (s'.next = s.next) = False := by simp; omega
    have ne1 : (s.next = s'.next) = False := by simp; omega
    (repeat' (with_reducible first|refine w_1 ?_|refine w_2 ?_|refine w_4 ?_|refine w_7 ?_|simp (maxDischargeDepth:=12) only [viz,↓reduceIte,Nat.reduceEqDiff,Nat.reduceAdd,g3,g6,g7,g19,g20,lt_false hlt,gm]))
    have hfil : ∀ E' : Env, E'.get 59 = w6 → E'.get 61 = .own s'.next 0 1 2 → E'.get 62 = w7 → fillLit 1 E' [(0, .t 59), (1, .t 61), (2, .t 62)] (List.replicate 3 [.nilS]) = some [[w6], [.own s'.next 0 1 2], [w7]] := by
      intro E' h1 h2 h3
      simp [fillLit, ev, h1, h2, h3, cells_cell c6, cells_cell c7, cells_own, c6, c7, cell_own, List.replicate]
    rw [hfil _ (by simp only [ev, Env.get_set, ↓reduceIte, Nat.reduceEqDiff]) (by simp only [ev, Env.get_set, ↓reduceIte, Nat.reduceEqDiff]) (by simp only [ev, Env.get_set, ↓reduceIte, Nat.reduceEqDiff]), Option.map_some, K2_some]
    have hfin : [st.low, [st.s], st.high].flatten = addP l x := by rw [hout]; simp [AddSt.out]
    have hkl : Keep s.next s ((s'.push ⟨47, 2, [[.str st.s.frm, .str st.s.to]]⟩).push ⟨22, 1, [[w6], [.own s'.next 0 1 2], [w7]]⟩) := (hk.trans ((pushes s' _).le (by omega))).trans ((pushes _ _).le (by rw [next_push']; omega))
    have hm3 := (hm.push ⟨47, 2, [[.str st.s.frm, .str st.s.to]]⟩).push ⟨22, 1, [[w6], [.own s'.next 0 1 2], [w7]]⟩
    have hlt3 : (addP l x).length ≤ 1001 := by rw [hout]; simp only [AddSt.out, List.length_append, List.length_cons, List.length_nil]; omega
    refine concat_c (vs := [w6, .own s'.next 0 1 2, w7]) (ls := [st.low, [st.s], st.high]) (D := fun p => p < s'.next + 1 + 1) (hkl.ok hf) (fun q hq => by rw [next_push', next_push']; exact hq) (by rw [next_push', next_push']; omega) (by rw [Mem.get_push, if_pos (by rw [next_push'])]; rfl) rfl ?_ (by rw [hfin, hout]; simp [AddSt.out]; omega) (by rw [hfin]; omega) (by simp) fun v4 s4 k4 o4 => ?_
    · intro j v l' e1 e2
      match j with
      | 0 =>
        obtain rfl := Option.some.inj e1
        obtain rfl := Option.some.inj e2
        exact hm3.o6.sl (span_cells _) fun r n h => by have := (hm.o6.row r 0 n 2 h).2; omega
      | 1 =>
        obtain rfl := Option.some.inj e1
        obtain rfl := Option.some.inj e2
        refine Sl.of_row (ty := 47) ?_ (by omega) (span_cells [st.s]) rfl
        rw [Mem.get_push, next_push', if_neg (by omega), Mem.get_push, if_pos rfl]; rfl
      | 2 =>
        obtain rfl := Option.some.inj e1
        obtain rfl := Option.some.inj e2
        exact hm3.o7.sl (span_cells _) fun r n h => by have := (hm.o7.row r 0 n 2 h).2; omega
      | j + 3 => simp at e1
    rw [hfin] at o4
    have k4' := hkl.then k4
    have e4 := hkl.next
    have o4' := o4.le e4
    have hl4 : lenA false v4 = some (addP l x).length := by rw [o4.len, List.length_map]
    have hK4 := hK v4 s4 k4' o4'
    refine told_c hl4 ?_
    by_cases h64 : (addP l x).length ≤ 64
    · simp only [h64, if_true] at hK4 ⊢
      (repeat' (with_reducible first|refine w_6 ?_|simp (maxDischargeDepth:=12) only [viz,↓reduceIte]))
      exact hK4
    · simp only [h64, if_false] at hK4 ⊢
      (repeat' (with_reducible first|refine w_6 ?_|simp (maxDischargeDepth:=12) only [viz,↓reduceIte]))
      exact hK4
end Go.Proofs.YthibbbfhkfebkaaGreat
/- A list without a span's keys: the program's way. No statement of the seat is proved here. -/
namespace Go.Proofs.YthibbbfhkfebkaaGreat
open Go Go.VI
set_option linter.unusedSimpArgs false
structure LessM (r0 : Nat) (x : Span) (out : List Span) (w : AV) (M : Mem) : Prop where
  g : M.get r0 = some ⟨47, 2, [[.str x.frm, .str x.to]]⟩
  o : OwnL M (r0 + 1) w 47 2 (out.map spanC)
  n : r0 < M.next
  f : M.floor ≤ r0
theorem LessM.push {r0 : Nat} {x : Span} {out : List Span} {w : AV} {M : Mem} (h : LessM r0 x out w M) (R : Row) : LessM r0 x out w (M.push R) := by
  have := h.n
  exact ⟨by rw [Mem.get_push, if_neg (by omega)]; exact h.g, h.o.push _, by rw [next_push']; omega, h.f⟩
theorem LessM.app {r0 : Nat} {x y : Span} {out : List Span} {w v : AV} {M N : Mem} (h : LessM r0 x out w M) (ho : OwnL N (r0 + 1) v 47 2 (out.map spanC ++ [spanC y])) (hx : KeepX w M N) : LessM r0 x (out ++ [y]) v N := by
  have hn := h.n
  refine ⟨?_, by simpa using ho, by have := hx.next; omega, by rw [hx.floor]; exact h.f⟩
  rw [hx.get r0 hn fun i n z e => by have := h.o.row _ _ _ _ e; omega]; exact h.g
attribute [local irreducible] Ws Wp W C
set_option maxHeartbeats 4000000
theorem sless_c {l : List Span} {x : Span} {v : AV} {D : Nat → Prop} {s : Mem} {K : AV → Mem → Prop} (hf : s.floor ≤ s.next) (hI : In D s) (hv : Spans s D v l) (hl : l.length < 1000) (h1 : formS l = true) (h2 : mayS x = true)
    (hK : ∀ v' s', Keep s.next s s' → OwnL s' s.next v' 47 2 ((lessP l x).map spanC) → K (if (lessP l x).length ≤ 64 then .tup [v', .int .i64 0] else .tup [.nilS, .int .i64 2]) s') : C tab 58 [v, .agg (spanC x)] s K := by
  refine C_enter (cf := cf58) rfl (Nat.le_of_ble_eq_true rfl) ?_
  simp only [cf58, oo, on, om, og, oc, ou, spanC]
  have hlen : lenA false v = some l.length := hv.lenB
  (repeat' (with_reducible first|refine w_1 ?_|refine w_2 ?_|simp (maxDischargeDepth:=12) only [viz,↓reduceIte,Nat.reduceAdd]))
  refine form_c (D := D) (l := l) (by simp only [floor_push', next_push']; omega) (fun q hq => by rw [next_push']; have := hI q hq; omega) (hv.keep fun q hq => (pushes s _).get q (hI q hq)) (by omega) fun s1 k1 => ?_
  have q1 := (Kp.of_push s ⟨47, 2, [[.str x.frm, .str x.to]]⟩).then k1
  have g1 := q1.g
  rw [h1]
  (repeat' with_reducible ((try refine w_9 ?_);simp (maxDischargeDepth:=12) only [viz,↓reduceIte,Nat.reduceEqDiff,g1]))
  refine smay_c (x := x) fun s2 k2 => ?_
  have q2 := q1.then k2
  have g2 := q2.g
  have n2 := q2.n
  have f2 := q2.k.floor
  rw [h2]
  (repeat' (with_reducible first|refine w_1 ?_|refine w_2 ?_|refine w_3 ?_|refine w_4 ?_|refine w_5 ?_|((try refine w_9 ?_);simp (maxDischargeDepth:=12) only [viz,↓reduceIte,reduceCtorEq,hlen])))
  refine W_inv l.length (fun i E s' => ∃ w, Keep s.next s s' ∧ LessM s.next x (lessP (l.take i) x) w s' ∧ E.get 3 = .ptr s.next 0 0 ∧ E.get 6 = w ∧ E.get 17 = v ∧ E.get 18 = .int .i64 l.length ∧ E.get 19 = .int .i64 i) (by delta cf58l0 oo on om og oc ou; exact rfl) ?_ ?_
  · refine ⟨.nilS, q2.k, ⟨g2, OwnL.nil _ _ _ _, n2, by rw [f2]; exact hf⟩, (by simp only [ev, Env.get_set, ↓reduceIte, Nat.reduceEqDiff]), (by simp only [ev, Env.get_set, ↓reduceIte, Nat.reduceEqDiff]), (by simp only [ev, Env.get_set, ↓reduceIte, Nat.reduceEqDiff]), (by simp only [ev, Env.get_set, ↓reduceIte, Nat.reduceEqDiff]), ?_⟩
    simp only [ev, Env.get_set, ↓reduceIte, Nat.reduceEqDiff]
    rfl
  rintro i E s' hile _ ⟨w, hk, hm, g3, g6, g17, g18, g19⟩
  by_cases hlt : i < l.length
  · obtain ⟨y, hy⟩ := get_of hlt
    obtain ⟨p, hp, P, hld⟩ := hv.ldk hI hy rfl rfl
    have hld' := hld _ hk
    simp only [spanC] at hld'
    have hfl := hk.ok hf
    have hst : lessP (l.take (i + 1)) x = lessP (l.take i) x ++ cutL x y := by rw [List.take_add_one, hy, Option.toList_some, less_snoc]
    have hlo := less_len (l.take i) x
    rw [List.length_take] at hlo
    generalize lessP (l.take i) x = out at hm hst hlo
    have gm := hm.g
    have nm := hm.n
    have ne1 : (s.next = s'.next) = False := by simp; omega
    have ne2 : (s'.next = s.next) = False := by simp; omega
    have ne3 : (s.next = s'.next + 1) = False := by simp; omega
    have fm : s'.floor ≤ s.next := hm.f
    have hR := hm.push ⟨47, 2, [[.str y.frm, .str y.to]]⟩
    have hkR : Keep s.next s (s'.push ⟨47, 2, [[.str y.frm, .str y.to]]⟩) := hk.trans ((pushes s' _).le (by omega))
    have fin : ∀ {a : AV} {N : Mem}, LessM s.next x (out ++ cutL x y) a N → Keep s.next s N → ∃ w, Keep s.next s N ∧ LessM s.next x (lessP (l.take (i + 1)) x) w N ∧ a = w := fun h k => ⟨_, k, by rw [hst]; exact h, rfl⟩
    (repeat' (with_reducible first|refine w_1 ?_|refine w_2 ?_|refine w_3 ?_|refine w_4 ?_|refine w_5 ?_|(refine w_8 (fun hb=>?_) (fun hb=>?_)<;>(try simp only [Bool.not_eq_true',Bool.not_eq_false'] at hb)<;>try simp only [hb])|simp (maxDischargeDepth:=12) only [viz,↓reduceIte,Nat.reduceEqDiff,Nat.reduceAdd,g3,g6,g17,g18,g19,lt_true hlt,hp,hld',hfl,gm,ne1]))
    · refine least_c ?_
      (repeat' with_reducible simp (maxDischargeDepth:=12) only [viz,↓reduceIte,Nat.reduceAdd])
      refine app_lit (v := w) (k := 1) (b := s.next + 1) (xs := out.map spanC) (ys := [spanC ⟨y.frm, leastS y.to x.frm⟩]) (s := s'.push ⟨47, 2, [[.str y.frm, .str y.to]]⟩) (by rw [floor_push']; omega) (by rw [next_push']; omega) hR.o (by simp only [ev, Env.get_set, ↓reduceIte, Nat.reduceEqDiff]) (by simp only [ev, Env.get_set, ↓reduceIte, Nat.reduceEqDiff]; rfl) rfl rfl (room (by simp; omega) (by simp; omega)) ?_
      intro v3 s3 ho3 hx3 hz1 hz2
      have hm3 := hR.app ho3 hx3
      have hk3 : Keep s.next s s3 := hkR.trans (hx3.keep (by rw [next_push']; omega) fun r i n z h => by have := (hm.o.row r i n z h).1; omega)
      have g3r : s3.get s'.next = some ⟨47, 2, [[.str y.frm, .str y.to]]⟩ := by
        rw [hx3.get s'.next (by rw [next_push']; omega) fun i n z h => by have := (hm.o.row _ i n z h).2; omega, Mem.get_push, if_pos rfl]
      have gm3 := hm3.g
      have nm3 := hm3.n
      have n3' : s'.next < s3.next := by have := hx3.next; rw [next_push'] at this; omega
      (repeat' (with_reducible first|refine w_1 ?_|refine w_2 ?_|simp (maxDischargeDepth:=12) only [viz,↓reduceIte,Nat.reduceEqDiff,Nat.reduceAdd,g3,gm3,g3r]))
      refine below_c ?_
      (repeat' (with_reducible first|refine w_2 ?_|refine w_4 ?_|refine w_5 ?_|(refine w_8 (fun hb=>?_) (fun hb=>?_)<;>(try simp only [Bool.not_eq_true',Bool.not_eq_false'] at hb)<;>try simp only [hb])|simp (maxDischargeDepth:=12) only [viz,↓reduceIte,Nat.reduceEqDiff,Nat.reduceAdd,g3,g17,g18,g19,gm3,g3r]))
      · rename_i hb0
        refine mx_str (a := x.to) (b := y.frm) (by simp only [ev, Env.get_set, ↓reduceIte, Nat.reduceEqDiff]) (by simp only [ev, Env.get_set, ↓reduceIte, Nat.reduceEqDiff]) ?_
        (repeat' with_reducible simp (maxDischargeDepth:=12) only [viz,↓reduceIte,Nat.reduceAdd,g3r])
        refine app_lit (v := v3) (k := 1) (b := s.next + 1) (xs := (out ++ [(⟨y.frm, leastS y.to x.frm⟩ : Span)]).map spanC) (ys := [spanC ⟨mxS x.to y.frm, y.to⟩]) (s := s3) (by have := hm3.f; omega) (by omega) hm3.o (by simp only [ev, Env.get_set, ↓reduceIte, Nat.reduceEqDiff]) (by simp only [ev, Env.get_set, ↓reduceIte, Nat.reduceEqDiff]) rfl rfl (room (by simp; omega) (by simp; omega)) ?_
        intro v4 s4 ho4 hx4 hz3 hz4
        have hm4 := hm3.app ho4 hx4
        have hk4 : Keep s.next s s4 := hk3.trans (hx4.keep (by omega) fun r i n z h => by have := (hm3.o.row r i n z h).1; omega)
        have e : out ++ [(⟨y.frm, leastS y.to x.frm⟩ : Span)] ++ [⟨mxS x.to y.frm, y.to⟩] = out ++ cutL x y := by
          have hb0' : bl y.frm x.frm = true := hb0
          simp [cutL, hb0', hb]
        rw [e] at hm4
        (repeat' (with_reducible first|refine w_2 ?_|simp (maxDischargeDepth:=12) only [viz,↓reduceIte,Nat.reduceEqDiff,g3,g17,g18,g19]))
        obtain ⟨a, c1, c2, c3⟩ := fin hm4 hk4
        exact ⟨hlt, a, c1, c2, c3, succ_av (by omega)⟩
      · rename_i hb0
        have e : out ++ [(⟨y.frm, leastS y.to x.frm⟩ : Span)] = out ++ cutL x y := by
          have hb0' : bl y.frm x.frm = true := hb0
          simp [cutL, hb0', hb]
        rw [e] at hm3
        obtain ⟨a, c1, c2, c3⟩ := fin hm3 hk3
        exact ⟨hlt, a, c1, c2, c3, succ_av (by omega)⟩
    · refine below_c ?_
      (repeat' (with_reducible first|refine w_2 ?_|refine w_4 ?_|refine w_5 ?_|(refine w_8 (fun hb=>?_) (fun hb=>?_)<;>(try simp only [Bool.not_eq_true',Bool.not_eq_false'] at hb)<;>try simp only [hb])|simp (maxDischargeDepth:=12) only [viz,↓reduceIte,Nat.reduceEqDiff,Nat.reduceAdd,g3,g6,g17,g18,g19,gm,ne1]))
      · rename_i hb0
        refine mx_str (a := x.to) (b := y.frm) (by simp only [ev, Env.get_set, ↓reduceIte, Nat.reduceEqDiff]) (by simp only [ev, Env.get_set, ↓reduceIte, Nat.reduceEqDiff]) ?_
        (repeat' with_reducible simp (maxDischargeDepth:=12) only [viz,↓reduceIte,Nat.reduceAdd])
        refine app_lit (v := w) (k := 1) (b := s.next + 1) (xs := out.map spanC) (ys := [spanC ⟨mxS x.to y.frm, y.to⟩]) (s := s'.push ⟨47, 2, [[.str y.frm, .str y.to]]⟩) (by rw [floor_push']; omega) (by rw [next_push']; omega) hR.o (by simp only [ev, Env.get_set, ↓reduceIte, Nat.reduceEqDiff]) (by simp only [ev, Env.get_set, ↓reduceIte, Nat.reduceEqDiff]; rfl) rfl rfl (room (by simp; omega) (by simp; omega)) ?_
        intro v4 s4 ho4 hx4 hz3 hz4
        have hm4 := hR.app ho4 hx4
        have hk4 : Keep s.next s s4 := hkR.trans (hx4.keep (by rw [next_push']; omega) fun r i n z h => by have := (hm.o.row r i n z h).1; omega)
        have e : out ++ [(⟨mxS x.to y.frm, y.to⟩ : Span)] = out ++ cutL x y := by
          have hb0' : bl y.frm x.frm = false := hb0
          simp [cutL, hb0', hb]
        rw [e] at hm4
        (repeat' (with_reducible first|refine w_2 ?_|simp (maxDischargeDepth:=12) only [viz,↓reduceIte,Nat.reduceEqDiff,g3,g17,g18,g19]))
        obtain ⟨a, c1, c2, c3⟩ := fin hm4 hk4
        exact ⟨hlt, a, c1, c2, c3, succ_av (by omega)⟩
      · rename_i hb0
        have e : out = out ++ cutL x y := by
          have hb0' : bl y.frm x.frm = false := hb0
          simp [cutL, hb0', hb]
        rw [e] at hR
        obtain ⟨a, c1, c2, c3⟩ := fin hR hkR
        exact ⟨hlt, a, c1, c2, c3, succ_av (by omega)⟩
  · have hte : l.take i = l := List.take_of_length_le (by omega)
    rw [hte] at hm
    have o4 := hm.o.le (show s.next ≤ s.next + 1 by omega)
    have hl4 : lenA false w = some (lessP l x).length := by rw [o4.len, List.length_map]
    have hK4 := hK w s' hk o4
    (repeat' (with_reducible first|refine w_1 ?_|refine w_2 ?_|refine w_4 ?_|refine w_7 ?_|simp (maxDischargeDepth:=12) only [viz,↓reduceIte,Nat.reduceEqDiff,g6,g18,g19,lt_false hlt]))
    refine told_c hl4 ?_
    by_cases h64 : (lessP l x).length ≤ 64
    · simp only [h64, if_true] at hK4 ⊢
      (repeat' (with_reducible first|refine w_6 ?_|simp (maxDischargeDepth:=12) only [viz,↓reduceIte]))
      exact hK4
    · simp only [h64, if_false] at hK4 ⊢
      (repeat' (with_reducible first|refine w_6 ?_|simp (maxDischargeDepth:=12) only [viz,↓reduceIte]))
      exact hK4
end Go.Proofs.YthibbbfhkfebkaaGreat
/- Keys that are to be handed over: the program. No statement of the seat is proved here. -/
namespace Go.Proofs.YthibbbfhkfebkaaGreat
open Go Go.VI
set_option linter.unusedSimpArgs false
def withF (t : Table) (l : List Span) : Table := ⟨t.now, t.spans, l, t.holds, t.marks, t.ints⟩
def frzP (t : Table) (x : Span) : Int × Table :=
  if (mayT t && mayS x) = false then (1, zeroT)
  else if coversS t.spans x = false then (10, zeroT)
  else if (addP t.frozen x).length ≤ 64 then (0, withF t (addP t.frozen x)) else (2, zeroT)
theorem may_form {t : Table} (h : mayT t = true) : formS t.spans = true ∧ formS t.frozen = true := by
  simp only [mayT, Bool.and_eq_true] at h
  exact ⟨h.1.1.1.1.1.1.1.2, h.1.1.1.1.1.1.2⟩
attribute [local irreducible] Ws Wp W C
set_option maxHeartbeats 4000000
theorem freeze_c {t : Table} {w : TV} {x : Span} {D : Nat → Prop} {s : Mem} {K : AV → Mem → Prop} (hf : s.floor ≤ s.next) (hI : In D s) (hw : TabIn s D w t) (hs : Small t)
    (hK : ∀ w' s', Keep s.next s s' → TabIn s' (fun r => s.next ≤ r ∧ r < s'.next) w' (frzP t x).2 → K (.tup [.agg (tabC (frzP t x).2 w'), .int .i64 (frzP t x).1]) s') : C tab 15 [.agg (tabC t w), .agg (spanC x)] s K := by
  refine C_enter (cf := cf15) rfl (Nat.le_of_ble_eq_true rfl) ?_
  simp only [cf15, oo, on, om, og, oc, ou, tabC, spanC]
  have hz : ∀ M e R, Keep s.next s M → frzP t x = (e, zeroT) → K (.tup [.agg [.int .i64 0, .nilS, .nilS, .nilS, .nilS, .nilS], .int .i64 e]) (M.put (s.next + 1 + 1) R) := fun M e R hM h => by
    rw [h] at hK
    exact hK zeroW _ (hM.trans (Keep.put (by omega) _)) (zero_in _ _)
  have r0 := R3.of_push s ⟨27, 6, [[.int .i64 t.now, w.sp, w.fr, w.ho, w.ma, w.it]]⟩ ⟨47, 2, [[.str x.frm, .str x.to]]⟩ ⟨27, 6, [[.int .i64 0, .nilS, .nilS, .nilS, .nilS, .nilS]]⟩
  have k0 := (pushes s ⟨27, 6, [[.int .i64 t.now, w.sp, w.fr, w.ho, w.ma, w.it]]⟩).then ((pushes _ ⟨47, 2, [[.str x.frm, .str x.to]]⟩).then (pushes _ ⟨27, 6, [[.int .i64 0, .nilS, .nilS, .nilS, .nilS, .nilS]]⟩))
  (repeat' (with_reducible first|refine w_1 ?_|refine w_2 ?_|refine w_3 ?_|simp (maxDischargeDepth:=12) only [viz,↓reduceIte,Nat.reduceAdd,hw.sp.cell,hw.fr.cell,hw.ho.cell,hw.ma.cell,hw.it.cell,r0.a]))
  generalize ((s.push _).push _).push _ = S0 at *
  refine check_c (D := D) (k0.ok hf) (hI.keep k0) (hw.keep fun r hr => k0.get r (hI r hr)) hs fun s1 h1 => ?_
  rw [tab_same]
  have r1 := r0.then h1
  have k1 := k0.then h1
  have f1 : s1.floor ≤ s.next + 1 + 1 := by rw [k1.floor]; omega
  (repeat' (with_reducible first|refine w_1 ?_|refine w_2 ?_|refine w_4 ?_|refine w_6 ?_|(refine w_8 (fun hb=>?_) (fun hb=>?_)<;>(try simp only [Bool.not_eq_true',Bool.not_eq_false'] at hb)<;>try simp only [hb])|refine w_13 (fun hc=>(by (try simp only [Bool.and_eq_true] at hc);simp (maxDischargeDepth:=12) only [viz,↓reduceIte,Nat.reduceEqDiff,r1.b,cond_false,hc];first|exact ⟨rfl,rfl⟩|exact rfl)) ?_|refine w_12 ?_|((try refine w_9 ?_);simp (maxDischargeDepth:=12) only [viz,↓reduceIte,Nat.reduceEqDiff,Nat.reduceAdd,r1.c,f1])))
  · refine scheck_c (x := x) fun s2 h2 => ?_
    have r2 := r1.then h2
    have k2 := k1.then h2
    have f2 : s2.floor ≤ s.next + 1 + 1 := by rw [k2.floor]; omega
    (repeat' (with_reducible first|refine w_1 ?_|refine w_2 ?_|refine w_4 ?_|refine w_6 ?_|(refine w_8 (fun hb=>?_) (fun hb=>?_)<;>(try simp only [Bool.not_eq_true',Bool.not_eq_false'] at hb)<;>try simp only [hb])|((try refine w_9 ?_);simp (maxDischargeDepth:=12) only [viz,↓reduceIte,Nat.reduceEqDiff,Nat.reduceAdd,r2.a,r2.b,r2.c,f2])))
    · refine hz _ _ _ k2 ?_
      unfold frzP
      rw [if_pos (by grind)]
    have hmt : mayT t = true := by grind
    have hmx : mayS x = true := by grind
    obtain ⟨fo1, fo2⟩ := may_form hmt
    refine covers_c (a := x) (D := D) (k2.ok hf) (hI.keep k2) (hw.sp.keep fun r hr => k2.get r (hI r hr)) (by have := hs.sp; omega) fun s3 h3 => ?_
    have r3 := r2.then h3
    have k3 := k2.then h3
    have f3 : s3.floor ≤ s.next + 1 + 1 := by rw [k3.floor]; omega
    (repeat' (with_reducible first|refine w_1 ?_|refine w_2 ?_|refine w_4 ?_|refine w_5 ?_|refine w_6 ?_|(refine w_8 (fun hb=>?_) (fun hb=>?_)<;>(try simp only [Bool.not_eq_true',Bool.not_eq_false'] at hb)<;>try simp only [hb])|simp (maxDischargeDepth:=12) only [viz,↓reduceIte,Nat.reduceEqDiff,Nat.reduceAdd,r3.a,r3.b,r3.c,f3]))
    · refine hz _ _ _ k3 ?_
      unfold frzP
      rw [if_neg (by rw [hmt, hmx]; simp), if_pos (by simpa using hb)]
    have hcv : coversS t.spans x = true := by simpa using hb
    refine sadd_c (x := x) (l := t.frozen) (D := D) (k3.ok hf) (hI.keep k3) (hw.fr.keep fun r hr => k3.get r (hI r hr)) (by have := hs.fr; omega) fo2 hmx fun v4 s4 h4 o4 => ?_
    have r4 := r3.then h4
    have k4 := k3.then h4
    have f4 : s4.floor ≤ s.next + 1 + 1 := by rw [k4.floor]; omega
    have n3 := r3.n
    by_cases h64 : (addP t.frozen x).length ≤ 64
    · have hfz : frzP t x = (0, withF t (addP t.frozen x)) := by
        unfold frzP
        rw [if_neg (by rw [hmt, hmx]; simp), if_neg (by rw [hcv]; simp), if_pos h64]
      rw [hfz] at hK
      simp only [h64, if_true]
      (repeat' (with_reducible first|refine w_1 ?_|refine w_2 ?_|refine w_4 ?_|refine w_5 ?_|simp (maxDischargeDepth:=12) only [viz,↓reduceIte,Nat.reduceEqDiff,Nat.reduceAdd,r4.a,bne_self_eq_false, Int.reduceBEq, Int.reduceBNe, Int.reduceLT, Int.reduceLE, Int.reduceGT, Int.reduceGE]))
      refine own_c (D := D) (k4.ok hf) (hI.keep k4) (hw.keep fun r hr => k4.get r (hI r hr)) hs fun w5 m s5 h5 o5 => ?_
      have r5 := r4.then h5
      have k5 := k4.then h5
      have f5 : s5.floor ≤ s.next := by rw [k5.floor]; exact hf
      have f55 : s5.floor ≤ s.next + 1 + 1 := by omega
      have t5 := o5.tab
      have n4 := r4.n
      have e4 := o4.keep h5 fun r e => (o4.row r 0 _ 2 e).2
      have s4' : Spans s5 (fun q => s3.next ≤ q ∧ q < s4.next) v4 (addP t.frozen x) := e4.sl (span_cells _) fun r n e => o4.row r 0 n 2 e
      have c4 := s4'.cell
      simp only [tabC]
      (repeat' (with_reducible first|refine w_1 ?_|refine w_2 ?_|refine w_6 ?_|simp (maxDischargeDepth:=12) only [viz,↓reduceIte,Nat.reduceEqDiff,Nat.reduceAdd,r5.a,r5.c,f5,f55,t5.sp.cell,t5.fr.cell,t5.ho.cell,t5.ma.cell,t5.it.cell,c4,cells_cell c4]))
      generalize hPe : Mem.put _ _ _ = P
      have hPg : ∀ q, s.next + 1 + 1 < q → P.get q = s5.get q := fun q hq => by
        rw [← hPe]
        simp only [Mem.get_put]
        repeat' rw [if_neg (by omega)]
      have hPk : Keep s.next s P := by
        rw [← hPe]
        exact ((k5.trans (Keep.put (by omega) _)).trans (Keep.put (by omega) _)).trans (Keep.put (by omega) _)
      have hPn : P.next = s5.next := by rw [← hPe]; rfl
      have n5 := h5.next
      refine hK ⟨w5.sp, v4, w5.ho, w5.ma, w5.it⟩ P hPk ⟨?_, ?_, ?_, ?_, ?_⟩
      · exact (t5.sp.keep fun q hq => hPg q (by omega)).mono fun q hq => by omega
      · exact (s4'.keep fun q hq => hPg q (by omega)).mono fun q hq => by omega
      · exact (t5.ho.keep fun q hq => hPg q (by omega)).mono fun q hq => by omega
      · exact (t5.ma.keep fun q hq => hPg q (by omega)).mono fun q hq => by omega
      · exact (t5.it.keep fun q hq => hPg q (by omega)).mono fun q hq => by omega
    · have hfz : frzP t x = (2, zeroT) := by
        unfold frzP
        rw [if_neg (by rw [hmt, hmx]; simp), if_neg (by rw [hcv]; simp), if_neg h64]
      simp only [h64, if_false]
      (repeat' (with_reducible first|refine w_1 ?_|refine w_2 ?_|refine w_4 ?_|refine w_6 ?_|simp (maxDischargeDepth:=12) only [viz,↓reduceIte,Nat.reduceEqDiff,Nat.reduceAdd,r4.c,f4, Int.reduceBEq, Int.reduceBNe, Int.reduceLT, Int.reduceLE, Int.reduceGT, Int.reduceGE]))
      exact hz _ _ _ k4 hfz
  · refine hz _ _ _ k1 ?_
    unfold frzP
    rw [if_pos (by grind)]
end Go.Proofs.YthibbbfhkfebkaaGreat

