/- The law QuorumRises over the compact program. -/
import Derived.Test.YtgedimcfeofjcaaVLawCommits
namespace Go.Proofs.Ytgedimcfeofjcaa
open Go Go.VI
set_option linter.unusedSimpArgs false

/-- The same nodes, each as far or further. -/
def Rise : List Peer → List Peer → Prop
  | [], [] => True
  | p :: ps, q :: qs => p.1 = q.1 ∧ p.2.2 ≤ q.2.2 ∧ Rise ps qs
  | _, _ => False
theorem Rise.refl : ∀ ps, Rise ps ps
  | [] => trivial
  | _ :: ps => ⟨rfl, Int.le_refl _, Rise.refl ps⟩
theorem Rise.len : ∀ {ps qs : List Peer}, Rise ps qs → qs.length = ps.length
  | [], [], _ => rfl
  | _ :: ps, _ :: qs, h => by simp [Rise.len h.2.2]
  | [], _ :: _, h => h.elim
  | _ :: _, [], h => h.elim
theorem Rise.set : ∀ {ps qs : List Peer} {k : Nat} {q : Peer} {x : Int}, Rise ps qs → qs[k]? = some q → q.2.2 ≤ x → Rise ps (qs.set k (q.1, q.2.1, x))
  | [], [], _, _, _, _, h, _ => by simp at h
  | [], _ :: _, _, _, _, h, _, _ => h.elim
  | _ :: _, [], _, _, _, h, _, _ => h.elim
  | _ :: _, _ :: _, 0, _, _, h, hq, hx => by
    simp at hq
    subst hq
    exact ⟨h.1, Int.le_trans h.2.1 hx, h.2.2⟩
  | _ :: _, _ :: _, k + 1, _, _, h, hq, hx => ⟨h.1, h.2.1, Rise.set h.2.2 (by simpa using hq) hx⟩
theorem firstM_cons (p : Peer) (ps : List Peer) (n : Int) : firstM (p :: ps) n = if p.1 == n then p.2.2 else firstM ps n := by
  unfold firstM
  rw [List.find?_cons]
  cases p.1 == n <;> simp
theorem Rise.first : ∀ {ps qs : List Peer}, Rise ps qs → ∀ n, firstM ps n ≤ firstM qs n
  | [], [], _, _ => Int.le_refl _
  | p :: ps, q :: qs, h, n => by
    rw [firstM_cons, firstM_cons, h.1]
    split
    · exact h.2.1
    · exact h.2.2.first n
  | [], _ :: _, h, _ => h.elim
  | _ :: _, [], h, _ => h.elim
theorem Rise.nonneg : ∀ {ps qs : List Peer}, Rise ps qs → (∀ p ∈ ps, 0 ≤ p.2.2) → ∀ q ∈ qs, 0 ≤ q.2.2
  | [], [], _, _, q, hq => by simp at hq
  | p :: ps, q :: qs, h, h0, x, hx => by
    rcases List.mem_cons.mp hx with rfl | hx
    · have := h0 p (List.mem_cons_self ..); have := h.2.1; omega
    · exact h.2.2.nonneg (fun p hp => h0 p (List.mem_cons_of_mem _ hp)) x hx
  | [], _ :: _, h, _, _, _ => h.elim
  | _ :: _, [], h, _, _, _ => h.elim
theorem ge_rise {ps qs : List Peer} (h : Rise ps qs) (x : Int) : ∀ vs : List Int, ge (ms vs ps) x ≤ ge (ms vs qs) x
  | [] => Nat.le_refl _
  | v :: vs => by
    have ih := ge_rise h x vs
    have hf := h.first v
    simp only [ge, ms, List.map_cons, List.filter_cons] at ih ⊢
    split
    · rename_i h1
      rw [if_pos (by simp only [decide_eq_true_eq] at h1 ⊢; omega)]
      simpa using ih
    · split
      · simp only [List.length_cons]; omega
      · exact ih

/-- How many voters' peers are as far as a number. -/
def far (vs : List Int) (ps : List Peer) (c : Int) : Nat := (vs.filter fun v => met ps v && decide (c ≤ firstM ps v)).length
theorem far_le (vs : List Int) (ps : List Peer) (c : Int) : far vs ps c ≤ vs.length := List.length_filter_le _ _
theorem far_take (vs : List Int) (ps : List Peer) (c : Int) (i : Nat) (a : Int) (h : vs[i]? = some a) : far (vs.take (i + 1)) ps c = far (vs.take i) ps c + if met ps a = true ∧ c ≤ firstM ps a then 1 else 0 := by
  unfold far
  rw [take_snoc h, List.filter_append, List.length_append]
  congr 1
  simp only [List.filter_cons, List.filter_nil, Bool.and_eq_true, decide_eq_true_eq]
  split <;> rfl
theorem far_ge {vs : List Int} {ps : List Peer} {c : Int} (hc : 0 < c) : far vs ps c = ge (ms vs ps) c := by
  induction vs with
  | nil => rfl
  | cons v vs ih =>
    simp only [far, ge, ms, List.map_cons, List.filter_cons, Bool.and_eq_true, decide_eq_true_eq] at ih ⊢
    by_cases h1 : met ps v = true
    · by_cases h2 : c ≤ firstM ps v
      · rw [if_pos ⟨h1, h2⟩, if_pos h2]; simp [ih]
      · rw [if_neg (fun h => h2 h.2), if_neg h2]; exact ih
    · have h3 : firstM ps v = 0 := firstM_unmet (by simpa using h1)
      rw [if_neg (fun h => h1 h.1), if_neg (by omega)]; exact ih

theorem met_true {ps : List Peer} {i : Nat} {p : Peer} (h : ps[i]? = some p) : met ps p.1 = true := by
  simp only [met, List.any_eq_true, beq_iff_eq]
  exact ⟨p, List.mem_of_getElem? h, rfl⟩
theorem met_false {ps : List Peer} {n : Int} (h : ∀ q ∈ ps, q.1 ≠ n) : met ps n = false := by
  simp only [met, List.any_eq_false, beq_iff_eq]
  exact fun q hq => h q hq

theorem far_l1 {vs : List Int} {ps : List Peer} {a c : Int} {iv n0 : Nat} {s : Mem} {v w : AV} {Q : Ex → Env → Mem → Prop} (hv : isSl v (intsA .i64 vs)) (ha : vs[iv]? = some a) (hw : Els s w 3 (peersC ps)) (hlen : ps.length < 1000) (hn0 : n0 < 1000)
    {E : Env} (g0 : E.get 0 = v) (g1 : E.get 1 = w) (g7 : E.get 7 = .int .u64 c) (g8 : E.get 8 = .int .i64 n0) (g9 : E.get 9 = .int .i64 iv)
    (hQ : ∀ e', (∀ t, t < 8 → e'.get t = E.get t) → e'.get 9 = E.get 9 → e'.get 8 = .int .i64 ((n0 + if met ps a = true ∧ c ≤ firstM ps a then 1 else 0 : Nat) : Int) → Q (.exit 2) e' s) :
    ∀ (k i : Nat) (e : Env), i + k = ps.length → (∀ q ∈ ps.take i, q.1 ≠ a) → (∀ t, t < 10 → e.get t = E.get t) → e.get 10 = .int .i64 i → W tab (.loop cf6l1) e s Q := by
  intro k
  induction k with
  | zero =>
    intro i e hi hnt hE h10
    have hlt := lt_false (show ¬ i < ps.length by omega)
    have h1 : e.get 1 = w := by rw [hE 1 (by omega), g1]
    have h8 : e.get 8 = .int .i64 n0 := by rw [hE 8 (by omega), g8]
    have hl := hw.len
    rw [peersC_len] at hl
    have hm : met ps a = false := met_false (by rwa [List.take_of_length_le (by omega)] at hnt)
    refine W_loop' (by delta cf6l1; exact rfl) ?_
    (repeat' (with_reducible first | refine W_seq ?_ | refine W_region ?_ | refine W_block ?_ | refine W_if ?_ | refine W_skip ?_ | refine W_ret ?_ | refine W_exit ?_ | (refine Cs_intro (fun hb => ?_) (fun hb => ?_) <;> (try simp only [hb])) | refine Ws_if ?_ | simp only [Ws_op, Ws_up, Ws_nil, Wp_call, Wp_mv, Wp_pick, Wp_new, Wp_box, Wp_build, Wp_lit, Wp_load, Wp_store, Wp_nilCheck, Wp_ibin, Wp_sbin, Wp_beq, Wp_un, Wp_conv, Wp_toStr, Wp_same, Wp_ifc, Wp_fn, Wp_cutS, Wp_cutT, Wp_fieldAddr, Wp_field, Wp_at, Wp_atT, Wp_ext, Wp_len, P1_some, ibinA_int, sbinA_str, unA_not, unA_neg, convA_int, sameA_str, nilA_ptr, nilA_ref, nilA_fn, addrA_ptr, addrA_ref, lenA_nil, lenA_sl, lenA_own, lenA_str, bdA_none, ev, putO, K2_some, K2_none, Seq_normal, Seq_exit, Seq_ret, Blk_normal, Blk_exit, Blk_ret, RK_normal, RK_ret, P1_K2, resultsA, resA, List.mapM_cons, List.mapM_nil, Option.bind_eq_bind, Option.bind_some, Option.pure_def, Env.get_set, intOp, Option.map_some, Option.map_none, asB_bool, asG_bool, asG_und, Cs_true, Cs_false, List.map_cons, List.map_nil, List.append_nil, List.nil_append, List.cons_append, ↓reduceIte, Nat.reduceEqDiff, reduceCtorEq, ne_eq, not_true_eq_false, not_false_eq_true, beq_self_eq_true, beq_true, beq_false, Int.reduceEq, Int.reduceNeg, decide_true, decide_false, Bool.not_true, Bool.not_false, Nat.reduceAdd, Bool.false_eq_true, Bool.not_eq_true, Env.start, Env.ofList, fill_one, one1_int, fill_none, mem_eta, load_floor, load_ref1, h1, h10, hl, hlt]))
    refine hQ _ ?_ ?_ ?_
    · intro t ht
      simp only [Env.get_set]
      repeat rw [if_neg (by omega)]
      exact hE t (by omega)
    · simp only [Env.get_set, ↓reduceIte, Nat.reduceEqDiff]; exact hE 9 (by omega)
    · simp only [Env.get_set, ↓reduceIte, Nat.reduceEqDiff, h8, hm]; rfl
  | succ k ih =>
    intro i e hi hnt hE h10
    have hlt := lt_true (show i < ps.length by omega)
    have h0 : e.get 0 = v := by rw [hE 0 (by omega), g0]
    have h1 : e.get 1 = w := by rw [hE 1 (by omega), g1]
    have h7 : e.get 7 = .int .u64 c := by rw [hE 7 (by omega), g7]
    have h8 : e.get 8 = .int .i64 n0 := by rw [hE 8 (by omega), g8]
    have h9 : e.get 9 = .int .i64 iv := by rw [hE 9 (by omega), g9]
    have hl := hw.len
    rw [peersC_len] at hl
    obtain ⟨p, hp⟩ : ∃ a, ps[i]? = some a := ⟨ps[i]'(by omega), List.getElem?_eq_getElem _⟩
    obtain ⟨b, hb1, _, hb3⟩ := hw.get .i64 i _ (peersC_get ps i p hp)
    obtain ⟨x, hc1, hc2⟩ := hb3 0
    have hc3 : loadA s false 1 x = some (.int .i64 p.1) := hc2 false 1 (by simp [peerC])
    obtain ⟨d, hd1, hd2⟩ := hb3 2
    have hd3 : loadA s false 1 d = some (.int .u64 p.2.2) := hd2 false 1 (by simp [peerC])
    obtain ⟨q, hq1, hq2⟩ := (hv.toInts s).get .i64 iv a ha
    refine W_loop' (by delta cf6l1; exact rfl) ?_
    (repeat' (with_reducible first | refine W_seq ?_ | refine W_region ?_ | refine W_block ?_ | refine W_if ?_ | refine W_skip ?_ | refine W_ret ?_ | refine W_exit ?_ | (refine Cs_intro (fun hb => ?_) (fun hb => ?_) <;> (try simp only [hb])) | refine Ws_if ?_ | simp only [Ws_op, Ws_up, Ws_nil, Wp_call, Wp_mv, Wp_pick, Wp_new, Wp_box, Wp_build, Wp_lit, Wp_load, Wp_store, Wp_nilCheck, Wp_ibin, Wp_sbin, Wp_beq, Wp_un, Wp_conv, Wp_toStr, Wp_same, Wp_ifc, Wp_fn, Wp_cutS, Wp_cutT, Wp_fieldAddr, Wp_field, Wp_at, Wp_atT, Wp_ext, Wp_len, P1_some, ibinA_int, sbinA_str, unA_not, unA_neg, convA_int, sameA_str, nilA_ptr, nilA_ref, nilA_fn, addrA_ptr, addrA_ref, lenA_nil, lenA_sl, lenA_own, lenA_str, bdA_none, ev, putO, K2_some, K2_none, Seq_normal, Seq_exit, Seq_ret, Blk_normal, Blk_exit, Blk_ret, RK_normal, RK_ret, P1_K2, resultsA, resA, List.mapM_cons, List.mapM_nil, Option.bind_eq_bind, Option.bind_some, Option.pure_def, Env.get_set, intOp, Option.map_some, Option.map_none, asB_bool, asG_bool, asG_und, Cs_true, Cs_false, List.map_cons, List.map_nil, List.append_nil, List.nil_append, List.cons_append, ↓reduceIte, Nat.reduceEqDiff, reduceCtorEq, ne_eq, not_true_eq_false, not_false_eq_true, beq_self_eq_true, beq_true, beq_false, Int.reduceEq, Int.reduceNeg, decide_true, decide_false, Bool.not_true, Bool.not_false, Nat.reduceAdd, Bool.false_eq_true, Bool.not_eq_true, Env.start, Env.ofList, fill_one, one1_int, fill_none, mem_eta, load_floor, load_ref1, h0, h1, h7, h8, h9, h10, hl, hlt, hb1, hc1, hc3, hd1, hd3, hq1, hq2]))
    · rename_i hb0
      have hpa : p.1 = a := by simpa using hb0
      have hmt : met ps a = true := hpa ▸ met_true hp
      have hfm : firstM ps a = p.2.2 := firstM_at hp hpa hnt
      refine hQ _ ?_ ?_ ?_
      · intro t ht
        simp only [Env.get_set]
        repeat rw [if_neg (by omega)]
        exact hE t (by omega)
      · simp only [Env.get_set, ↓reduceIte, Nat.reduceEqDiff]; exact hE 9 (by omega)
      · simp only [Env.get_set, ↓reduceIte, Nat.reduceEqDiff]
        rw [if_pos ⟨hmt, by rw [hfm]; exact of_decide_eq_true hb⟩, succ_cast (by omega)]
    · rename_i hb0
      have hpa : p.1 = a := by simpa using hb0
      have hfm : firstM ps a = p.2.2 := firstM_at hp hpa hnt
      refine hQ _ ?_ ?_ ?_
      · intro t ht
        simp only [Env.get_set]
        repeat rw [if_neg (by omega)]
        exact hE t (by omega)
      · simp only [Env.get_set, ↓reduceIte, Nat.reduceEqDiff]; exact hE 9 (by omega)
      · simp only [Env.get_set, ↓reduceIte, Nat.reduceEqDiff, h8]
        rw [if_neg (fun h => of_decide_eq_false hb (by rw [← hfm]; exact h.2))]; rfl
    · refine ih (i + 1) _ (by omega) ?_ ?_ ?_
      · rw [take_snoc hp]
        intro q hq
        rcases List.mem_append.mp hq with hq | hq
        · exact hnt q hq
        · obtain rfl := List.mem_singleton.mp hq
          simpa using hb
      · intro t ht
        simp only [Env.get_set]
        repeat rw [if_neg (by omega)]
        exact hE t ht
      · simp only [Env.get_set, ↓reduceIte, Nat.reduceEqDiff]
        rw [succ_cast (by omega)]

theorem far_l0 {vs : List Int} {ps : List Peer} {c : Int} {s : Mem} {v w : AV} {Q : Ex → Env → Mem → Prop} (hv : isSl v (intsA .i64 vs)) (hv7 : vs.length ≤ 7) (hw : Els s w 3 (peersC ps)) (hlen : ps.length < 1000)
    {E : Env} (g0 : E.get 0 = v) (g1 : E.get 1 = w) (g7 : E.get 7 = .int .u64 c)
    (hQ : ∀ e', (∀ t, t < 8 → e'.get t = E.get t) → e'.get 8 = .int .i64 (far vs ps c) → Q (.exit 0) e' s) :
    ∀ (k i : Nat) (e : Env), i + k = vs.length → (∀ t, t < 8 → e.get t = E.get t) → e.get 8 = .int .i64 (far (vs.take i) ps c) → e.get 9 = .int .i64 i → W tab (.loop cf6l0) e s Q := by
  intro k
  induction k with
  | zero =>
    intro i e hi hE h8 h9
    have hlt := lt_false (show ¬ i < vs.length by omega)
    have h0 : e.get 0 = v := by rw [hE 0 (by omega), g0]
    have hvl := (hv.toInts s).len
    refine W_loop' (by delta cf6l0; exact rfl) ?_
    (repeat' (with_reducible first | refine W_seq ?_ | refine W_region ?_ | refine W_block ?_ | refine W_if ?_ | refine W_skip ?_ | refine W_ret ?_ | refine W_exit ?_ | (refine Cs_intro (fun hb => ?_) (fun hb => ?_) <;> (try simp only [hb])) | refine Ws_if ?_ | simp only [Ws_op, Ws_up, Ws_nil, Wp_call, Wp_mv, Wp_pick, Wp_new, Wp_box, Wp_build, Wp_lit, Wp_load, Wp_store, Wp_nilCheck, Wp_ibin, Wp_sbin, Wp_beq, Wp_un, Wp_conv, Wp_toStr, Wp_same, Wp_ifc, Wp_fn, Wp_cutS, Wp_cutT, Wp_fieldAddr, Wp_field, Wp_at, Wp_atT, Wp_ext, Wp_len, P1_some, ibinA_int, sbinA_str, unA_not, unA_neg, convA_int, sameA_str, nilA_ptr, nilA_ref, nilA_fn, addrA_ptr, addrA_ref, lenA_nil, lenA_sl, lenA_own, lenA_str, bdA_none, ev, putO, K2_some, K2_none, Seq_normal, Seq_exit, Seq_ret, Blk_normal, Blk_exit, Blk_ret, RK_normal, RK_ret, P1_K2, resultsA, resA, List.mapM_cons, List.mapM_nil, Option.bind_eq_bind, Option.bind_some, Option.pure_def, Env.get_set, intOp, Option.map_some, Option.map_none, asB_bool, asG_bool, asG_und, Cs_true, Cs_false, List.map_cons, List.map_nil, List.append_nil, List.nil_append, List.cons_append, ↓reduceIte, Nat.reduceEqDiff, reduceCtorEq, ne_eq, not_true_eq_false, not_false_eq_true, beq_self_eq_true, beq_true, beq_false, Int.reduceEq, Int.reduceNeg, decide_true, decide_false, Bool.not_true, Bool.not_false, Nat.reduceAdd, Bool.false_eq_true, Bool.not_eq_true, Env.start, Env.ofList, fill_one, one1_int, fill_none, mem_eta, load_floor, load_ref1, h0, h9, hvl, hlt]))
    refine hQ _ ?_ ?_
    · intro t ht
      simp only [Env.get_set]
      repeat rw [if_neg (by omega)]
      exact hE t ht
    · simp only [Env.get_set, ↓reduceIte, Nat.reduceEqDiff, h8]
      rw [List.take_of_length_le (by omega)]
  | succ k ih =>
    intro i e hi hE h8 h9
    have hlt := lt_true (show i < vs.length by omega)
    have h0 : e.get 0 = v := by rw [hE 0 (by omega), g0]
    have h1 : e.get 1 = w := by rw [hE 1 (by omega), g1]
    have h7 : e.get 7 = .int .u64 c := by rw [hE 7 (by omega), g7]
    have hvl := (hv.toInts s).len
    obtain ⟨a, ha⟩ : ∃ a, vs[i]? = some a := ⟨vs[i]'(by omega), List.getElem?_eq_getElem _⟩
    have hft := far_take vs ps c i a ha
    have hfl := far_le (vs.take i) ps c
    have hfl2 : (vs.take i).length ≤ vs.length := by simp; omega
    refine W_loop' (by delta cf6l0; exact rfl) ?_
    (repeat' (with_reducible first | refine W_seq ?_ | refine W_region ?_ | refine W_block ?_ | refine W_if ?_ | refine W_skip ?_ | refine W_ret ?_ | refine W_exit ?_ | (refine Cs_intro (fun hb => ?_) (fun hb => ?_) <;> (try simp only [hb])) | refine Ws_if ?_ | simp only [Ws_op, Ws_up, Ws_nil, Wp_call, Wp_mv, Wp_pick, Wp_new, Wp_box, Wp_build, Wp_lit, Wp_load, Wp_store, Wp_nilCheck, Wp_ibin, Wp_sbin, Wp_beq, Wp_un, Wp_conv, Wp_toStr, Wp_same, Wp_ifc, Wp_fn, Wp_cutS, Wp_cutT, Wp_fieldAddr, Wp_field, Wp_at, Wp_atT, Wp_ext, Wp_len, P1_some, ibinA_int, sbinA_str, unA_not, unA_neg, convA_int, sameA_str, nilA_ptr, nilA_ref, nilA_fn, addrA_ptr, addrA_ref, lenA_nil, lenA_sl, lenA_own, lenA_str, bdA_none, ev, putO, K2_some, K2_none, Seq_normal, Seq_exit, Seq_ret, Blk_normal, Blk_exit, Blk_ret, RK_normal, RK_ret, P1_K2, resultsA, resA, List.mapM_cons, List.mapM_nil, Option.bind_eq_bind, Option.bind_some, Option.pure_def, Env.get_set, intOp, Option.map_some, Option.map_none, asB_bool, asG_bool, asG_und, Cs_true, Cs_false, List.map_cons, List.map_nil, List.append_nil, List.nil_append, List.cons_append, ↓reduceIte, Nat.reduceEqDiff, reduceCtorEq, ne_eq, not_true_eq_false, not_false_eq_true, beq_self_eq_true, beq_true, beq_false, Int.reduceEq, Int.reduceNeg, decide_true, decide_false, Bool.not_true, Bool.not_false, Nat.reduceAdd, Bool.false_eq_true, Bool.not_eq_true, Env.start, Env.ofList, fill_one, one1_int, fill_none, mem_eta, load_floor, load_ref1, h0, h1, h7, h8, h9, hvl, hlt]))
    refine far_l1 (a := a) (c := c) (iv := i) (n0 := far (vs.take i) ps c) hv ha hw hlen (by omega) ?_ ?_ ?_ ?_ ?_ ?_ ps.length 0 _ (by omega) (by simp) (fun t _ => rfl) ?_
    · simp only [Env.get_set, ↓reduceIte, Nat.reduceEqDiff, h0]
    · simp only [Env.get_set, ↓reduceIte, Nat.reduceEqDiff, h1]
    · simp only [Env.get_set, ↓reduceIte, Nat.reduceEqDiff, h7]
    · simp only [Env.get_set, ↓reduceIte, Nat.reduceEqDiff, h8]
    · simp only [Env.get_set, ↓reduceIte, Nat.reduceEqDiff, h9]
    · intro e' hE' k9 k8
      rw [← hft] at k8
      simp only [Env.get_set, ↓reduceIte, Nat.reduceEqDiff, h9] at k9
      (repeat' (with_reducible first | refine W_seq ?_ | refine W_region ?_ | refine W_block ?_ | refine W_if ?_ | refine W_skip ?_ | refine W_ret ?_ | refine W_exit ?_ | (refine Cs_intro (fun hb => ?_) (fun hb => ?_) <;> (try simp only [hb])) | refine Ws_if ?_ | simp only [Ws_op, Ws_up, Ws_nil, Wp_call, Wp_mv, Wp_pick, Wp_new, Wp_box, Wp_build, Wp_lit, Wp_load, Wp_store, Wp_nilCheck, Wp_ibin, Wp_sbin, Wp_beq, Wp_un, Wp_conv, Wp_toStr, Wp_same, Wp_ifc, Wp_fn, Wp_cutS, Wp_cutT, Wp_fieldAddr, Wp_field, Wp_at, Wp_atT, Wp_ext, Wp_len, P1_some, ibinA_int, sbinA_str, unA_not, unA_neg, convA_int, sameA_str, nilA_ptr, nilA_ref, nilA_fn, addrA_ptr, addrA_ref, lenA_nil, lenA_sl, lenA_own, lenA_str, bdA_none, ev, putO, K2_some, K2_none, Seq_normal, Seq_exit, Seq_ret, Blk_normal, Blk_exit, Blk_ret, RK_normal, RK_ret, P1_K2, resultsA, resA, List.mapM_cons, List.mapM_nil, Option.bind_eq_bind, Option.bind_some, Option.pure_def, Env.get_set, intOp, Option.map_some, Option.map_none, asB_bool, asG_bool, asG_und, Cs_true, Cs_false, List.map_cons, List.map_nil, List.append_nil, List.nil_append, List.cons_append, ↓reduceIte, Nat.reduceEqDiff, reduceCtorEq, ne_eq, not_true_eq_false, not_false_eq_true, beq_self_eq_true, beq_true, beq_false, Int.reduceEq, Int.reduceNeg, decide_true, decide_false, Bool.not_true, Bool.not_false, Nat.reduceAdd, Bool.false_eq_true, Bool.not_eq_true, Env.start, Env.ofList, fill_one, one1_int, fill_none, mem_eta, load_floor, load_ref1, k8, k9]))
      refine ih (i + 1) _ (by omega) ?_ ?_ ?_
      · intro t ht
        simp only [Env.get_set]
        repeat rw [if_neg (by omega)]
        rw [hE' t ht]
        simp only [Env.get_set]
        repeat rw [if_neg (by omega)]
        exact hE t ht
      · simp only [Env.get_set, ↓reduceIte, Nat.reduceEqDiff, k8]
      · simp only [Env.get_set, ↓reduceIte, Nat.reduceEqDiff]
        rw [succ_cast (by omega)]
    · simp only [Env.get_set, ↓reduceIte, Nat.reduceEqDiff]; rfl

theorem store_peer {s : Mem} {r k : Nat} {qs : List Peer} {q : Peer} {x : Int} (h : s.get r = some ⟨34, 3, peersC qs⟩) (hk : qs[k]? = some q) (hf : s.floor ≤ r) : storeA s 1 (.ptr r k 2) (.int .u64 x) = some (s.put r (some ⟨34, 3, peersC (qs.set k (q.1, q.2.1, x))⟩)) := by
  have h1 := peersC_get qs k q hk
  simp only [storeA, Option.bind_eq_bind, h, Option.bind_some, h1]
  rw [if_pos ⟨rfl, by simp [peerC], hf, rfl⟩]
  simp [putCells, cells, peersC, List.map_set, peerC]

theorem rise_l2 {ps : List Peer} {m : Int} {r n : Nat} {Q : Ex → Env → Mem → Prop} (hn : n = ps.length) (hlen : ps.length < 1000) (hm : 0 ≤ m ∧ m ≤ 255) (h0 : ∀ p ∈ ps, 0 ≤ p.2.2) {E : Env} (g2 : E.get 2 = .int .u8 m) (g11 : E.get 11 = .own r 0 n 3) {s0 : Mem} (hf : s0.floor ≤ r)
    (hQ : ∀ e' s' qs, (∀ t, t < 12 → e'.get t = E.get t) → Turn r s0 s' → s'.get r = some ⟨34, 3, peersC qs⟩ → Rise ps qs → Q (.exit 4) e' s') :
    ∀ (k i : Nat) (e : Env) (s : Mem) (qs : List Peer), i + k = n → Turn r s0 s → s.get r = some ⟨34, 3, peersC qs⟩ → Rise ps qs → (∀ t, t < 12 → e.get t = E.get t) → e.get 12 = .int .i64 i → W tab (.loop cf6l2) e s Q := by
  intro k
  induction k with
  | zero =>
    intro i e s qs hi hT hs hR hE h12
    have hlt := lt_false (show ¬ i < n by omega)
    have h11 : e.get 11 = .own r 0 n 3 := by rw [hE 11 (by omega), g11]
    refine W_loop' (by delta cf6l2; exact rfl) ?_
    (repeat' (with_reducible first | refine W_seq ?_ | refine W_region ?_ | refine W_block ?_ | refine W_if ?_ | refine W_skip ?_ | refine W_ret ?_ | refine W_exit ?_ | (refine Cs_intro (fun hb => ?_) (fun hb => ?_) <;> (try simp only [hb])) | refine Ws_if ?_ | simp only [Ws_op, Ws_up, Ws_nil, Wp_call, Wp_mv, Wp_pick, Wp_new, Wp_box, Wp_build, Wp_lit, Wp_load, Wp_store, Wp_nilCheck, Wp_ibin, Wp_sbin, Wp_beq, Wp_un, Wp_conv, Wp_toStr, Wp_same, Wp_ifc, Wp_fn, Wp_cutS, Wp_cutT, Wp_fieldAddr, Wp_field, Wp_at, Wp_atT, Wp_ext, Wp_len, P1_some, ibinA_int, sbinA_str, unA_not, unA_neg, convA_int, sameA_str, nilA_ptr, nilA_ref, nilA_fn, addrA_ptr, addrA_ref, lenA_nil, lenA_sl, lenA_own, lenA_str, bdA_none, ev, putO, K2_some, K2_none, Seq_normal, Seq_exit, Seq_ret, Blk_normal, Blk_exit, Blk_ret, RK_normal, RK_ret, P1_K2, resultsA, resA, List.mapM_cons, List.mapM_nil, Option.bind_eq_bind, Option.bind_some, Option.pure_def, Env.get_set, intOp, Option.map_some, Option.map_none, asB_bool, asG_bool, asG_und, Cs_true, Cs_false, List.map_cons, List.map_nil, List.append_nil, List.nil_append, List.cons_append, ↓reduceIte, Nat.reduceEqDiff, reduceCtorEq, ne_eq, not_true_eq_false, not_false_eq_true, beq_self_eq_true, beq_true, beq_false, Int.reduceEq, Int.reduceNeg, decide_true, decide_false, Bool.not_true, Bool.not_false, Nat.reduceAdd, Bool.false_eq_true, Bool.not_eq_true, Env.start, Env.ofList, fill_one, one1_int, fill_none, mem_eta, load_floor, load_ref1, h11, h12, hlt]))
    refine hQ _ s qs ?_ hT hs hR
    intro t ht
    simp only [Env.get_set]
    repeat rw [if_neg (by omega)]
    exact hE t ht
  | succ k ih =>
    intro i e s qs hi hT hs hR hE h12
    have hlt := lt_true (show i < n by omega)
    have h2 : e.get 2 = .int .u8 m := by rw [hE 2 (by omega), g2]
    have h11 : e.get 11 = .own r 0 n 3 := by rw [hE 11 (by omega), g11]
    have hql := hR.len
    obtain ⟨q, hq⟩ : ∃ a, qs[i]? = some a := ⟨qs[i]'(by omega), List.getElem?_eq_getElem _⟩
    have hat := at0 (k := .i64) (r := r) (z := 3) (show i < n by omega)
    have hld : loadA s false 1 (.ptr r i 2) = some (.int .u64 q.2.2) := by
      rw [load_ptr (row := ⟨34, 3, peersC qs⟩) (c := peerC q) false 1 hs (peersC_get qs i q hq) (by simp [peerC])]; rfl
    have hsh : (IntKind.u64.wrap (Int.tmod (i : Int) 8) < 0) = False := by
      rw [wrap_u64 (by rw [Int.tmod_eq_emod_of_nonneg (by omega)]; omega), Int.tmod_eq_emod_of_nonneg (by omega)]
      simp; omega
    have hsp := fun x => store_peer (x := x) hs hq (by rw [hT.floor]; exact hf)
    refine W_loop' (by delta cf6l2; exact rfl) ?_
    (repeat' (with_reducible first | refine W_seq ?_ | refine W_region ?_ | refine W_block ?_ | refine W_if ?_ | refine W_skip ?_ | refine W_ret ?_ | refine W_exit ?_ | (refine Cs_intro (fun hb => ?_) (fun hb => ?_) <;> (try simp only [hb])) | refine Ws_if ?_ | simp only [Ws_op, Ws_up, Ws_nil, Wp_call, Wp_mv, Wp_pick, Wp_new, Wp_box, Wp_build, Wp_lit, Wp_load, Wp_store, Wp_nilCheck, Wp_ibin, Wp_sbin, Wp_beq, Wp_un, Wp_conv, Wp_toStr, Wp_same, Wp_ifc, Wp_fn, Wp_cutS, Wp_cutT, Wp_fieldAddr, Wp_field, Wp_at, Wp_atT, Wp_ext, Wp_len, P1_some, ibinA_int, sbinA_str, unA_not, unA_neg, convA_int, sameA_str, nilA_ptr, nilA_ref, nilA_fn, addrA_ptr, addrA_ref, lenA_nil, lenA_sl, lenA_own, lenA_str, bdA_none, ev, putO, K2_some, K2_none, Seq_normal, Seq_exit, Seq_ret, Blk_normal, Blk_exit, Blk_ret, RK_normal, RK_ret, P1_K2, resultsA, resA, List.mapM_cons, List.mapM_nil, Option.bind_eq_bind, Option.bind_some, Option.pure_def, Env.get_set, intOp, Option.map_some, Option.map_none, asB_bool, asG_bool, asG_und, Cs_true, Cs_false, List.map_cons, List.map_nil, List.append_nil, List.nil_append, List.cons_append, ↓reduceIte, Nat.reduceEqDiff, reduceCtorEq, ne_eq, not_true_eq_false, not_false_eq_true, beq_self_eq_true, beq_true, beq_false, Int.reduceEq, Int.reduceNeg, decide_true, decide_false, Bool.not_true, Bool.not_false, Nat.reduceAdd, Bool.false_eq_true, Bool.not_eq_true, Env.start, Env.ofList, fill_one, one1_int, fill_none, mem_eta, load_floor, load_ref1, h2, h11, h12, hlt, hsh, hat, hld, Nat.zero_add, hsp]))
    · have hlt2 : q.2.2 < 4611686018427387904 := of_decide_eq_true hb
      have hq0 := hR.nonneg h0 q (List.mem_of_getElem? hq)
      have hx : IntKind.u64.wrap (q.2.2 + IntKind.u64.wrap m) = q.2.2 + m := by
        rw [wrap_u64 (x := m) (by omega), wrap_u64 (by omega)]
      rw [hx]
      refine ih (i + 1) _ _ (qs.set i (q.1, q.2.1, q.2.2 + m)) (by omega) (hT.trans (Turn.put r s _)) (by rw [Mem.get_put, if_pos rfl]) (hR.set hq (by omega)) ?_ ?_
      · intro t ht
        simp only [Env.get_set]
        repeat rw [if_neg (by omega)]
        exact hE t ht
      · simp only [Env.get_set, ↓reduceIte, Nat.reduceEqDiff]
        rw [succ_cast (by omega)]
    all_goals refine ih (i + 1) _ _ qs (by omega) hT hs hR ?_ ?_
    all_goals first
      | (intro t ht; simp only [Env.get_set]; repeat rw [if_neg (by omega)]
         exact hE t ht)
      | (simp only [Env.get_set, ↓reduceIte, Nat.reduceEqDiff]; rw [succ_cast (by omega)])

theorem rises_c {vs : List Int} {ps : List Peer} {m : Int} {v w : AV} (hv : isSl v (intsA .i64 vs)) (hw : isSl w (peersC ps)) (hm : (Lit.int .u8 m).wf = true) (hvl : vs.length < 1000000000000000000) (hwl : ps.length < 1000000000000000000) (h0 : ∀ p ∈ ps, 0 ≤ p.2.2) : C tab 6 [v, w, .int .u8 m] Mem.zero (fun r _ => r = .bool true) := by
  refine C_enter (cf := cf6) rfl (Nat.le_of_ble_eq_true rfl) ?_
  simp only [cf6]
  have hl := hw.len
  have hvl' := (hv.toInts Mem.zero).len
  rw [peersC_len] at hl
  have hm' : 0 ≤ m ∧ m ≤ 255 := by
    simp [Lit.wf, IntKind.min, IntKind.max, IntKind.signed, IntKind.bits] at hm
    omega
  have hwsl : ∀ s, Els s w 3 (peersC ps) := fun s => Els.of_sl hw (by intro c hc; simp only [peersC, List.mem_map] at hc; obtain ⟨p, _, rfl⟩ := hc; rfl)
  have hwn : ∀ s : Mem, ∀ r i n z, w = .own r i n z → r < s.next := by
    intro s r i n z h
    rcases hw with ⟨rfl, _⟩ | rfl <;> cases h
  (repeat' (with_reducible first | refine W_seq ?_ | refine W_region ?_ | refine W_block ?_ | refine W_if ?_ | refine W_skip ?_ | refine W_ret ?_ | refine W_exit ?_ | (refine Cs_intro (fun hb => ?_) (fun hb => ?_) <;> (try simp only [hb])) | refine Ws_if ?_ | simp only [Ws_op, Ws_up, Ws_nil, Wp_call, Wp_mv, Wp_pick, Wp_new, Wp_box, Wp_build, Wp_lit, Wp_load, Wp_store, Wp_nilCheck, Wp_ibin, Wp_sbin, Wp_beq, Wp_un, Wp_conv, Wp_toStr, Wp_same, Wp_ifc, Wp_fn, Wp_cutS, Wp_cutT, Wp_fieldAddr, Wp_field, Wp_at, Wp_atT, Wp_ext, Wp_len, P1_some, ibinA_int, sbinA_str, unA_not, unA_neg, convA_int, sameA_str, nilA_ptr, nilA_ref, nilA_fn, addrA_ptr, addrA_ref, lenA_nil, lenA_sl, lenA_own, lenA_str, bdA_none, ev, putO, K2_some, K2_none, Seq_normal, Seq_exit, Seq_ret, Blk_normal, Blk_exit, Blk_ret, RK_normal, RK_ret, P1_K2, resultsA, resA, List.mapM_cons, List.mapM_nil, Option.bind_eq_bind, Option.bind_some, Option.pure_def, Env.get_set, intOp, Option.map_some, Option.map_none, asB_bool, asG_bool, asG_und, Cs_true, Cs_false, List.map_cons, List.map_nil, List.append_nil, List.nil_append, List.cons_append, ↓reduceIte, Nat.reduceEqDiff, reduceCtorEq, ne_eq, not_true_eq_false, not_false_eq_true, beq_self_eq_true, beq_true, beq_false, Int.reduceEq, Int.reduceNeg, decide_true, decide_false, Bool.not_true, Bool.not_false, Nat.reduceAdd, Bool.false_eq_true, Bool.not_eq_true, Env.start, Env.ofList, fill_one, one1_int, fill_none, mem_eta, load_floor, load_ref1, hl]))
  · refine awake_c _ ?_
    (repeat' (with_reducible first | refine W_seq ?_ | refine W_region ?_ | refine W_block ?_ | refine W_if ?_ | refine W_skip ?_ | refine W_ret ?_ | refine W_exit ?_ | (refine Cs_intro (fun hb => ?_) (fun hb => ?_) <;> (try simp only [hb])) | refine Ws_if ?_ | simp only [Ws_op, Ws_up, Ws_nil, Wp_call, Wp_mv, Wp_pick, Wp_new, Wp_box, Wp_build, Wp_lit, Wp_load, Wp_store, Wp_nilCheck, Wp_ibin, Wp_sbin, Wp_beq, Wp_un, Wp_conv, Wp_toStr, Wp_same, Wp_ifc, Wp_fn, Wp_cutS, Wp_cutT, Wp_fieldAddr, Wp_field, Wp_at, Wp_atT, Wp_ext, Wp_len, P1_some, ibinA_int, sbinA_str, unA_not, unA_neg, convA_int, sameA_str, nilA_ptr, nilA_ref, nilA_fn, addrA_ptr, addrA_ref, lenA_nil, lenA_sl, lenA_own, lenA_str, bdA_none, ev, putO, K2_some, K2_none, Seq_normal, Seq_exit, Seq_ret, Blk_normal, Blk_exit, Blk_ret, RK_normal, RK_ret, P1_K2, resultsA, resA, List.mapM_cons, List.mapM_nil, Option.bind_eq_bind, Option.bind_some, Option.pure_def, Env.get_set, intOp, Option.map_some, Option.map_none, asB_bool, asG_bool, asG_und, Cs_true, Cs_false, List.map_cons, List.map_nil, List.append_nil, List.nil_append, List.cons_append, ↓reduceIte, Nat.reduceEqDiff, reduceCtorEq, ne_eq, not_true_eq_false, not_false_eq_true, beq_self_eq_true, beq_true, beq_false, Int.reduceEq, Int.reduceNeg, decide_true, decide_false, Bool.not_true, Bool.not_false, Nat.reduceAdd, Bool.false_eq_true, Bool.not_eq_true, Env.start, Env.ofList, fill_one, one1_int, fill_none, mem_eta, load_floor, load_ref1]))
  · have hp300 : ps.length ≤ 300 := by simp only [decide_eq_false_iff_not] at hb; omega
    refine voters_c (hv.toInts _) (by omega) fun b hb' => ?_
    cases b with
    | false =>
      (repeat' (with_reducible first | refine W_seq ?_ | refine W_region ?_ | refine W_block ?_ | refine W_if ?_ | refine W_skip ?_ | refine W_ret ?_ | refine W_exit ?_ | (refine Cs_intro (fun hb => ?_) (fun hb => ?_) <;> (try simp only [hb])) | refine Ws_if ?_ | simp only [Ws_op, Ws_up, Ws_nil, Wp_call, Wp_mv, Wp_pick, Wp_new, Wp_box, Wp_build, Wp_lit, Wp_load, Wp_store, Wp_nilCheck, Wp_ibin, Wp_sbin, Wp_beq, Wp_un, Wp_conv, Wp_toStr, Wp_same, Wp_ifc, Wp_fn, Wp_cutS, Wp_cutT, Wp_fieldAddr, Wp_field, Wp_at, Wp_atT, Wp_ext, Wp_len, P1_some, ibinA_int, sbinA_str, unA_not, unA_neg, convA_int, sameA_str, nilA_ptr, nilA_ref, nilA_fn, addrA_ptr, addrA_ref, lenA_nil, lenA_sl, lenA_own, lenA_str, bdA_none, ev, putO, K2_some, K2_none, Seq_normal, Seq_exit, Seq_ret, Blk_normal, Blk_exit, Blk_ret, RK_normal, RK_ret, P1_K2, resultsA, resA, List.mapM_cons, List.mapM_nil, Option.bind_eq_bind, Option.bind_some, Option.pure_def, Env.get_set, intOp, Option.map_some, Option.map_none, asB_bool, asG_bool, asG_und, Cs_true, Cs_false, List.map_cons, List.map_nil, List.append_nil, List.nil_append, List.cons_append, ↓reduceIte, Nat.reduceEqDiff, reduceCtorEq, ne_eq, not_true_eq_false, not_false_eq_true, beq_self_eq_true, beq_true, beq_false, Int.reduceEq, Int.reduceNeg, decide_true, decide_false, Bool.not_true, Bool.not_false, Nat.reduceAdd, Bool.false_eq_true, Bool.not_eq_true, Env.start, Env.ofList, fill_one, one1_int, fill_none, mem_eta, load_floor, load_ref1]))
      refine awake_c _ ?_
      (repeat' (with_reducible first | refine W_seq ?_ | refine W_region ?_ | refine W_block ?_ | refine W_if ?_ | refine W_skip ?_ | refine W_ret ?_ | refine W_exit ?_ | (refine Cs_intro (fun hb => ?_) (fun hb => ?_) <;> (try simp only [hb])) | refine Ws_if ?_ | simp only [Ws_op, Ws_up, Ws_nil, Wp_call, Wp_mv, Wp_pick, Wp_new, Wp_box, Wp_build, Wp_lit, Wp_load, Wp_store, Wp_nilCheck, Wp_ibin, Wp_sbin, Wp_beq, Wp_un, Wp_conv, Wp_toStr, Wp_same, Wp_ifc, Wp_fn, Wp_cutS, Wp_cutT, Wp_fieldAddr, Wp_field, Wp_at, Wp_atT, Wp_ext, Wp_len, P1_some, ibinA_int, sbinA_str, unA_not, unA_neg, convA_int, sameA_str, nilA_ptr, nilA_ref, nilA_fn, addrA_ptr, addrA_ref, lenA_nil, lenA_sl, lenA_own, lenA_str, bdA_none, ev, putO, K2_some, K2_none, Seq_normal, Seq_exit, Seq_ret, Blk_normal, Blk_exit, Blk_ret, RK_normal, RK_ret, P1_K2, resultsA, resA, List.mapM_cons, List.mapM_nil, Option.bind_eq_bind, Option.bind_some, Option.pure_def, Env.get_set, intOp, Option.map_some, Option.map_none, asB_bool, asG_bool, asG_und, Cs_true, Cs_false, List.map_cons, List.map_nil, List.append_nil, List.nil_append, List.cons_append, ↓reduceIte, Nat.reduceEqDiff, reduceCtorEq, ne_eq, not_true_eq_false, not_false_eq_true, beq_self_eq_true, beq_true, beq_false, Int.reduceEq, Int.reduceNeg, decide_true, decide_false, Bool.not_true, Bool.not_false, Nat.reduceAdd, Bool.false_eq_true, Bool.not_eq_true, Env.start, Env.ofList, fill_one, one1_int, fill_none, mem_eta, load_floor, load_ref1]))
    | true =>
      have hg := hb'.mp rfl
      have h7 := good_len hg.1
      (repeat' (with_reducible first | refine W_seq ?_ | refine W_region ?_ | refine W_block ?_ | refine W_if ?_ | refine W_skip ?_ | refine W_ret ?_ | refine W_exit ?_ | (refine Cs_intro (fun hb => ?_) (fun hb => ?_) <;> (try simp only [hb])) | refine Ws_if ?_ | simp only [Ws_op, Ws_up, Ws_nil, Wp_call, Wp_mv, Wp_pick, Wp_new, Wp_box, Wp_build, Wp_lit, Wp_load, Wp_store, Wp_nilCheck, Wp_ibin, Wp_sbin, Wp_beq, Wp_un, Wp_conv, Wp_toStr, Wp_same, Wp_ifc, Wp_fn, Wp_cutS, Wp_cutT, Wp_fieldAddr, Wp_field, Wp_at, Wp_atT, Wp_ext, Wp_len, P1_some, ibinA_int, sbinA_str, unA_not, unA_neg, convA_int, sameA_str, nilA_ptr, nilA_ref, nilA_fn, addrA_ptr, addrA_ref, lenA_nil, lenA_sl, lenA_own, lenA_str, bdA_none, ev, putO, K2_some, K2_none, Seq_normal, Seq_exit, Seq_ret, Blk_normal, Blk_exit, Blk_ret, RK_normal, RK_ret, P1_K2, resultsA, resA, List.mapM_cons, List.mapM_nil, Option.bind_eq_bind, Option.bind_some, Option.pure_def, Env.get_set, intOp, Option.map_some, Option.map_none, asB_bool, asG_bool, asG_und, Cs_true, Cs_false, List.map_cons, List.map_nil, List.append_nil, List.nil_append, List.cons_append, ↓reduceIte, Nat.reduceEqDiff, reduceCtorEq, ne_eq, not_true_eq_false, not_false_eq_true, beq_self_eq_true, beq_true, beq_false, Int.reduceEq, Int.reduceNeg, decide_true, decide_false, Bool.not_true, Bool.not_false, Nat.reduceAdd, Bool.false_eq_true, Bool.not_eq_true, Env.start, Env.ofList, fill_one, one1_int, fill_none, mem_eta, load_floor, load_ref1]))
      refine commit_c hv (by omega) (hwsl _) (hwn _) (by omega) (Nat.le_refl _) (fun h => absurd hg h) ?_
      intro _ _ s1 hk1
      (repeat' (with_reducible first | refine W_seq ?_ | refine W_region ?_ | refine W_block ?_ | refine W_if ?_ | refine W_skip ?_ | refine W_ret ?_ | refine W_exit ?_ | (refine Cs_intro (fun hb => ?_) (fun hb => ?_) <;> (try simp only [hb])) | refine Ws_if ?_ | simp only [Ws_op, Ws_up, Ws_nil, Wp_call, Wp_mv, Wp_pick, Wp_new, Wp_box, Wp_build, Wp_lit, Wp_load, Wp_store, Wp_nilCheck, Wp_ibin, Wp_sbin, Wp_beq, Wp_un, Wp_conv, Wp_toStr, Wp_same, Wp_ifc, Wp_fn, Wp_cutS, Wp_cutT, Wp_fieldAddr, Wp_field, Wp_at, Wp_atT, Wp_ext, Wp_len, P1_some, ibinA_int, sbinA_str, unA_not, unA_neg, convA_int, sameA_str, nilA_ptr, nilA_ref, nilA_fn, addrA_ptr, addrA_ref, lenA_nil, lenA_sl, lenA_own, lenA_str, bdA_none, ev, putO, K2_some, K2_none, Seq_normal, Seq_exit, Seq_ret, Blk_normal, Blk_exit, Blk_ret, RK_normal, RK_ret, P1_K2, resultsA, resA, List.mapM_cons, List.mapM_nil, Option.bind_eq_bind, Option.bind_some, Option.pure_def, Env.get_set, intOp, Option.map_some, Option.map_none, asB_bool, asG_bool, asG_und, Cs_true, Cs_false, List.map_cons, List.map_nil, List.append_nil, List.nil_append, List.cons_append, ↓reduceIte, Nat.reduceEqDiff, reduceCtorEq, ne_eq, not_true_eq_false, not_false_eq_true, beq_self_eq_true, beq_true, beq_false, Int.reduceEq, Int.reduceNeg, decide_true, decide_false, Bool.not_true, Bool.not_false, Nat.reduceAdd, Bool.false_eq_true, Bool.not_eq_true, Env.start, Env.ofList, fill_one, one1_int, fill_none, mem_eta, load_floor, load_ref1]))
      have hms := ms_len vs ps
      obtain ⟨m1, m2, m3⟩ := mid_spec (l := ms vs ps) (by omega)
      have hmn := ms_nonneg (vs := vs) h0 _ m1
      refine far_l0 (c := mid (ms vs ps)) hv h7 (hwsl s1) (by omega) ?_ ?_ ?_ ?_ vs.length 0 _ (by omega) (fun t _ => rfl) ?_ ?_
      · simp only [Env.get_set, ↓reduceIte, Nat.reduceEqDiff]
      · simp only [Env.get_set, ↓reduceIte, Nat.reduceEqDiff]
      · simp only [Env.get_set, ↓reduceIte, Nat.reduceEqDiff]
      · intro e' hE h8
        have g0 := hE 0 (by omega)
        have g1 := hE 1 (by omega)
        have g2 := hE 2 (by omega)
        have g7 := hE 7 (by omega)
        simp only [Env.get_set, ↓reduceIte, Nat.reduceEqDiff] at g0 g1 g2 g7
        have hfl := far_le vs ps (mid (ms vs ps))
        have hfw : IntKind.i64.wrap (2 * (far vs ps (mid (ms vs ps)) : Int)) = 2 * (far vs ps (mid (ms vs ps)) : Int) := wrap_i64 (by omega)
        have hno : mid (ms vs ps) > 0 → decide (2 * (far vs ps (mid (ms vs ps)) : Int) ≤ (vs.length : Int)) = false := by
          intro h
          rw [far_ge h]
          simp only [decide_eq_false_iff_not]
          omega
        have hvl1 := (hv.toInts s1).len
        have hlit : OwnL (s1.push ⟨34, 3, []⟩) s1.next (.own s1.next 0 0 3) 34 3 [] := OwnL.of_push (ty := 34) (sz := 3) (xs := []) (by rw [hk1.floor]; exact Nat.zero_le _) (Nat.le_refl _)
        have hread : ∀ s, readAll s w = some (peersC ps) := by
          intro s
          rcases hw with ⟨rfl, h⟩ | rfl
          · rw [h]; rfl
          · rfl
        obtain ⟨z1, hz1, hz2⟩ : ∃ z, decide (mid (ms vs ps) > 0) = z ∧ (z = true → decide (2 * (far vs ps (mid (ms vs ps)) : Int) ≤ (vs.length : Int)) = false) :=
          ⟨_, rfl, fun h => hno (of_decide_eq_true h)⟩
        cases z1
        all_goals (repeat' (with_reducible first | refine W_seq ?_ | refine W_region ?_ | refine W_block ?_ | refine W_if ?_ | refine W_skip ?_ | refine W_ret ?_ | refine W_exit ?_ | (refine Cs_intro (fun hb => ?_) (fun hb => ?_) <;> (try simp only [hb])) | refine Ws_if ?_ | simp only [Ws_op, Ws_up, Ws_nil, Wp_call, Wp_mv, Wp_pick, Wp_new, Wp_box, Wp_build, Wp_lit, Wp_load, Wp_store, Wp_nilCheck, Wp_ibin, Wp_sbin, Wp_beq, Wp_un, Wp_conv, Wp_toStr, Wp_same, Wp_ifc, Wp_fn, Wp_cutS, Wp_cutT, Wp_fieldAddr, Wp_field, Wp_at, Wp_atT, Wp_ext, Wp_len, P1_some, ibinA_int, sbinA_str, unA_not, unA_neg, convA_int, sameA_str, nilA_ptr, nilA_ref, nilA_fn, addrA_ptr, addrA_ref, lenA_nil, lenA_sl, lenA_own, lenA_str, bdA_none, ev, putO, K2_some, K2_none, Seq_normal, Seq_exit, Seq_ret, Blk_normal, Blk_exit, Blk_ret, RK_normal, RK_ret, P1_K2, resultsA, resA, List.mapM_cons, List.mapM_nil, Option.bind_eq_bind, Option.bind_some, Option.pure_def, Env.get_set, intOp, Option.map_some, Option.map_none, asB_bool, asG_bool, asG_und, Cs_true, Cs_false, List.map_cons, List.map_nil, List.append_nil, List.nil_append, List.cons_append, ↓reduceIte, Nat.reduceEqDiff, reduceCtorEq, ne_eq, not_true_eq_false, not_false_eq_true, beq_self_eq_true, beq_true, beq_false, Int.reduceEq, Int.reduceNeg, decide_true, decide_false, Bool.not_true, Bool.not_false, Nat.reduceAdd, Bool.false_eq_true, Bool.not_eq_true, Env.start, Env.ofList, fill_one, one1_int, fill_none, mem_eta, load_floor, load_ref1, g0, g1, g2, g7, h8, hz1, hz2, hfw, hvl1, forall_const]))
        all_goals refine app_ok' (b := s1.next) (xs := []) (ys := peersC ps) ?_ ?_ ?_ ?_ (uni_peers ps) ?_ ?_
        all_goals first
          | (rw [Mem.floor_push, hk1.floor]; exact Nat.zero_le _)
          | (rw [Mem.next_push]; omega)
          | (simp only [ev, Env.get_set, ↓reduceIte, Nat.reduceEqDiff]; exact hlit)
          | (simp only [ev, Env.get_set, ↓reduceIte, Nat.reduceEqDiff]; exact hread _)
          | (rw [peersC_len]; unfold roomOk; simp only [Bool.and_eq_true, Nat.ble_eq, List.length_nil]; omega)
          | skip
        all_goals
          intro v' s2 hown hk2 hnn
          have hnn' : v' ≠ .nilS := hnn (by simp only [ev, Env.get_set, ↓reduceIte, Nat.reduceEqDiff]; simp)
          rw [List.nil_append] at hown
          rcases hown with ⟨h, _⟩ | ⟨r, rfl, hr, hrf, hrb, hrn⟩
          · exact absurd h hnn'
          rw [peersC_len]
          (repeat' (with_reducible first | refine W_seq ?_ | refine W_region ?_ | refine W_block ?_ | refine W_if ?_ | refine W_skip ?_ | refine W_ret ?_ | refine W_exit ?_ | (refine Cs_intro (fun hb => ?_) (fun hb => ?_) <;> (try simp only [hb])) | refine Ws_if ?_ | simp only [Ws_op, Ws_up, Ws_nil, Wp_call, Wp_mv, Wp_pick, Wp_new, Wp_box, Wp_build, Wp_lit, Wp_load, Wp_store, Wp_nilCheck, Wp_ibin, Wp_sbin, Wp_beq, Wp_un, Wp_conv, Wp_toStr, Wp_same, Wp_ifc, Wp_fn, Wp_cutS, Wp_cutT, Wp_fieldAddr, Wp_field, Wp_at, Wp_atT, Wp_ext, Wp_len, P1_some, ibinA_int, sbinA_str, unA_not, unA_neg, convA_int, sameA_str, nilA_ptr, nilA_ref, nilA_fn, addrA_ptr, addrA_ref, lenA_nil, lenA_sl, lenA_own, lenA_str, bdA_none, ev, putO, K2_some, K2_none, Seq_normal, Seq_exit, Seq_ret, Blk_normal, Blk_exit, Blk_ret, RK_normal, RK_ret, P1_K2, resultsA, resA, List.mapM_cons, List.mapM_nil, Option.bind_eq_bind, Option.bind_some, Option.pure_def, Env.get_set, intOp, Option.map_some, Option.map_none, asB_bool, asG_bool, asG_und, Cs_true, Cs_false, List.map_cons, List.map_nil, List.append_nil, List.nil_append, List.cons_append, ↓reduceIte, Nat.reduceEqDiff, reduceCtorEq, ne_eq, not_true_eq_false, not_false_eq_true, beq_self_eq_true, beq_true, beq_false, Int.reduceEq, Int.reduceNeg, decide_true, decide_false, Bool.not_true, Bool.not_false, Nat.reduceAdd, Bool.false_eq_true, Bool.not_eq_true, Env.start, Env.ofList, fill_one, one1_int, fill_none, mem_eta, load_floor, load_ref1]))
          refine rise_l2 (m := m) (r := r) (s0 := s2) rfl (by omega) hm' h0 ?_ ?_ hrf ?_ ps.length 0 _ _ ps (by omega) (Turn.refl r s2) hr (Rise.refl ps) (fun t _ => rfl) ?_
          · simp only [Env.get_set, ↓reduceIte, Nat.reduceEqDiff, g2]
          · simp only [Env.get_set, ↓reduceIte, Nat.reduceEqDiff]
          · intro e3 s3 qs hE3 hT hs3 hR
            have k0 := hE3 0 (by omega)
            have k7 := hE3 7 (by omega)
            have k11 := hE3 11 (by omega)
            simp only [Env.get_set, ↓reduceIte, Nat.reduceEqDiff, g0, g7] at k0 k7 k11
            have hql := hR.len
            (repeat' (with_reducible first | refine W_seq ?_ | refine W_region ?_ | refine W_block ?_ | refine W_if ?_ | refine W_skip ?_ | refine W_ret ?_ | refine W_exit ?_ | (refine Cs_intro (fun hb => ?_) (fun hb => ?_) <;> (try simp only [hb])) | refine Ws_if ?_ | simp only [Ws_op, Ws_up, Ws_nil, Wp_call, Wp_mv, Wp_pick, Wp_new, Wp_box, Wp_build, Wp_lit, Wp_load, Wp_store, Wp_nilCheck, Wp_ibin, Wp_sbin, Wp_beq, Wp_un, Wp_conv, Wp_toStr, Wp_same, Wp_ifc, Wp_fn, Wp_cutS, Wp_cutT, Wp_fieldAddr, Wp_field, Wp_at, Wp_atT, Wp_ext, Wp_len, P1_some, ibinA_int, sbinA_str, unA_not, unA_neg, convA_int, sameA_str, nilA_ptr, nilA_ref, nilA_fn, addrA_ptr, addrA_ref, lenA_nil, lenA_sl, lenA_own, lenA_str, bdA_none, ev, putO, K2_some, K2_none, Seq_normal, Seq_exit, Seq_ret, Blk_normal, Blk_exit, Blk_ret, RK_normal, RK_ret, P1_K2, resultsA, resA, List.mapM_cons, List.mapM_nil, Option.bind_eq_bind, Option.bind_some, Option.pure_def, Env.get_set, intOp, Option.map_some, Option.map_none, asB_bool, asG_bool, asG_und, Cs_true, Cs_false, List.map_cons, List.map_nil, List.append_nil, List.nil_append, List.cons_append, ↓reduceIte, Nat.reduceEqDiff, reduceCtorEq, ne_eq, not_true_eq_false, not_false_eq_true, beq_self_eq_true, beq_true, beq_false, Int.reduceEq, Int.reduceNeg, decide_true, decide_false, Bool.not_true, Bool.not_false, Nat.reduceAdd, Bool.false_eq_true, Bool.not_eq_true, Env.start, Env.ofList, fill_one, one1_int, fill_none, mem_eta, load_floor, load_ref1, k0, k7, k11]))
            have hels : Els s3 (.own r 0 ps.length 3) 3 (peersC qs) := Els.of_own hs3 (by rw [peersC_len]; exact hql.symm)
            have hf3 : s3.floor ≤ s3.next := by rw [hT.floor, hT.next]; omega
            refine commit_c hv (by omega) hels (fun r' i n z h => by obtain ⟨rfl, _⟩ := AV.own.inj h; rw [hT.next]; exact hrn) (by omega) hf3 (fun h => absurd hg h) ?_
            intro _ _ s4 hk4
            have hms' := ms_len vs qs
            obtain ⟨q1, q2, q3⟩ := mid_spec (l := ms vs qs) (by omega)
            have hgr := ge_rise hR (mid (ms vs ps)) vs
            have hle : decide (mid (ms vs qs) ≥ mid (ms vs ps)) = true := by
              simp only [decide_eq_true_eq]
              exact q3 _ (by omega)
            (repeat' (with_reducible first | refine W_seq ?_ | refine W_region ?_ | refine W_block ?_ | refine W_if ?_ | refine W_skip ?_ | refine W_ret ?_ | refine W_exit ?_ | (refine Cs_intro (fun hb => ?_) (fun hb => ?_) <;> (try simp only [hb])) | refine Ws_if ?_ | simp only [Ws_op, Ws_up, Ws_nil, Wp_call, Wp_mv, Wp_pick, Wp_new, Wp_box, Wp_build, Wp_lit, Wp_load, Wp_store, Wp_nilCheck, Wp_ibin, Wp_sbin, Wp_beq, Wp_un, Wp_conv, Wp_toStr, Wp_same, Wp_ifc, Wp_fn, Wp_cutS, Wp_cutT, Wp_fieldAddr, Wp_field, Wp_at, Wp_atT, Wp_ext, Wp_len, P1_some, ibinA_int, sbinA_str, unA_not, unA_neg, convA_int, sameA_str, nilA_ptr, nilA_ref, nilA_fn, addrA_ptr, addrA_ref, lenA_nil, lenA_sl, lenA_own, lenA_str, bdA_none, ev, putO, K2_some, K2_none, Seq_normal, Seq_exit, Seq_ret, Blk_normal, Blk_exit, Blk_ret, RK_normal, RK_ret, P1_K2, resultsA, resA, List.mapM_cons, List.mapM_nil, Option.bind_eq_bind, Option.bind_some, Option.pure_def, Env.get_set, intOp, Option.map_some, Option.map_none, asB_bool, asG_bool, asG_und, Cs_true, Cs_false, List.map_cons, List.map_nil, List.append_nil, List.nil_append, List.cons_append, ↓reduceIte, Nat.reduceEqDiff, reduceCtorEq, ne_eq, not_true_eq_false, not_false_eq_true, beq_self_eq_true, beq_true, beq_false, Int.reduceEq, Int.reduceNeg, decide_true, decide_false, Bool.not_true, Bool.not_false, Nat.reduceAdd, Bool.false_eq_true, Bool.not_eq_true, Env.start, Env.ofList, fill_one, one1_int, fill_none, mem_eta, load_floor, load_ref1, k0, k7, k11, hle]))
            refine awake_c _ ?_
            (repeat' (with_reducible first | refine W_seq ?_ | refine W_region ?_ | refine W_block ?_ | refine W_if ?_ | refine W_skip ?_ | refine W_ret ?_ | refine W_exit ?_ | (refine Cs_intro (fun hb => ?_) (fun hb => ?_) <;> (try simp only [hb])) | refine Ws_if ?_ | simp only [Ws_op, Ws_up, Ws_nil, Wp_call, Wp_mv, Wp_pick, Wp_new, Wp_box, Wp_build, Wp_lit, Wp_load, Wp_store, Wp_nilCheck, Wp_ibin, Wp_sbin, Wp_beq, Wp_un, Wp_conv, Wp_toStr, Wp_same, Wp_ifc, Wp_fn, Wp_cutS, Wp_cutT, Wp_fieldAddr, Wp_field, Wp_at, Wp_atT, Wp_ext, Wp_len, P1_some, ibinA_int, sbinA_str, unA_not, unA_neg, convA_int, sameA_str, nilA_ptr, nilA_ref, nilA_fn, addrA_ptr, addrA_ref, lenA_nil, lenA_sl, lenA_own, lenA_str, bdA_none, ev, putO, K2_some, K2_none, Seq_normal, Seq_exit, Seq_ret, Blk_normal, Blk_exit, Blk_ret, RK_normal, RK_ret, P1_K2, resultsA, resA, List.mapM_cons, List.mapM_nil, Option.bind_eq_bind, Option.bind_some, Option.pure_def, Env.get_set, intOp, Option.map_some, Option.map_none, asB_bool, asG_bool, asG_und, Cs_true, Cs_false, List.map_cons, List.map_nil, List.append_nil, List.nil_append, List.cons_append, ↓reduceIte, Nat.reduceEqDiff, reduceCtorEq, ne_eq, not_true_eq_false, not_false_eq_true, beq_self_eq_true, beq_true, beq_false, Int.reduceEq, Int.reduceNeg, decide_true, decide_false, Bool.not_true, Bool.not_false, Nat.reduceAdd, Bool.false_eq_true, Bool.not_eq_true, Env.start, Env.ofList, fill_one, one1_int, fill_none, mem_eta, load_floor, load_ref1]))
          · simp only [Env.get_set, ↓reduceIte, Nat.reduceEqDiff]; rfl
      · simp only [Env.get_set, ↓reduceIte, Nat.reduceEqDiff]; rfl
      · simp only [Env.get_set, ↓reduceIte, Nat.reduceEqDiff]; rfl

theorem quorumRises_walk : ∀ avs, TyVs Try.prog 9 Try.f6.params.toList avs → ∃ k s', run (comp Try.prog) k 6 avs Mem.zero = some (.bool true, s') := by
  intro avs h
  obtain ⟨c, _, rfl, h1, d, _, rfl, h2, u, _, rfl, h3, rfl⟩ := h
  obtain ⟨vs, g1, g2, _⟩ := TyV.ints (k := .i64) (e := 3) (by kernel_rfl) (by kernel_rfl) h1
  obtain ⟨ps, k1, k2, k3⟩ := TyV.peers h2
  obtain ⟨m, rfl, hm⟩ := TyV.int (k := .u8) (by kernel_rfl) h3
  have e8 : Try.prog.bytesOf 3 = 8 := by kernel_rfl
  have e24 : Try.prog.bytesOf 34 = 24 := by kernel_rfl
  rw [e8] at g2
  rw [e24] at k2
  exact C_run (rises_c g1 k1 hm (by simp only [reachBytes] at g2; omega) (by simp only [reachBytes] at k2; omega) k3) tab_le
end Go.Proofs.Ytgedimcfeofjcaa
