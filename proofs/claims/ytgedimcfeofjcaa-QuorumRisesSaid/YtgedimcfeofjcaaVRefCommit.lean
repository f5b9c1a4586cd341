/- What a majority of voters has, as the document tells it. No statement of the seat is proved here. -/
import Derived.Test.YtgedimcfeofjcaaVCommit
namespace Go.Proofs.Ytgedimcfeofjcaa
open Go Go.VI
set_option linter.unusedSimpArgs false

def met (ps : List Peer) (n : Int) : Bool := ps.any fun p => p.1 == n
theorem firstM_snoc (ps : List Peer) (p : Peer) (n : Int) : firstM (ps ++ [p]) n = if met ps n = true then firstM ps n else if p.1 == n then p.2.2 else 0 := by
  have hs : (ps.find? fun p => p.1 == n).isSome = met ps n := by rw [Bool.eq_iff_iff, List.find?_isSome, met, List.any_eq_true]
  unfold firstM
  rw [List.find?_append]
  cases hf : ps.find? fun p => p.1 == n with
  | none =>
    rw [hf] at hs
    rw [← hs]
    simp only [Option.isSome_none, Bool.false_eq_true, if_false, Option.none_or, List.find?_cons, List.find?_nil]
    cases hp : p.1 == n <;> simp
  | some q =>
    rw [hf] at hs
    rw [← hs]
    simp
theorem met_snoc (ps : List Peer) (p : Peer) (n : Int) : met (ps ++ [p]) n = (met ps n || p.1 == n) := by simp [met]
theorem take_snoc {α : Type} {l : List α} {i : Nat} {a : α} (h : l[i]? = some a) : l.take (i + 1) = l.take i ++ [a] := by simp [List.take_add_one, h]
theorem firstM_unmet {ps : List Peer} {n : Int} (h : met ps n = false) : firstM ps n = 0 := by
  apply firstM_none
  intro q hq
  have := List.any_eq_false.mp h q hq
  simpa using this

theorem met_l1 {vs : List Int} {ps : List Peer} {a : Int} {iv : Nat} {s : Mem} {v w : AV} {Q : Ex → Env → Mem → Prop} (hv : isSl v (intsA .i64 vs)) (ha : vs[iv]? = some a) (hw : Els s w 3 (peersC ps)) (hlen : ps.length < 4611686018427387904) {E : Env} (g0 : E.get 0 = v) (g1 : E.get 1 = w) (g6 : E.get 6 = .int .i64 iv)
    (hQ : ∀ e', (∀ t, t < 7 → e'.get t = E.get t) → e'.get 7 = .int .u64 (firstM ps a) → Q (.exit 2) e' s) :
    ∀ (k i : Nat) (e : Env), i + k = ps.length → (∀ t, t < 7 → e.get t = E.get t) → e.get 7 = .int .u64 (firstM (ps.take i) a) → e.get 8 = .bool (met (ps.take i) a) → e.get 9 = .int .i64 i → W tab (.loop cf16l1) e s Q := by
  intro k
  induction k with
  | zero =>
    intro i e hi hE h7 h8 h9
    have hlt := lt_false (show ¬ i < ps.length by omega)
    have h1 : e.get 1 = w := by rw [hE 1 (by omega), g1]
    have hl := hw.len
    rw [peersC_len] at hl
    refine W_loop' (by delta cf16l1; exact rfl) ?_
    (repeat' (with_reducible first | refine W_seq ?_ | refine W_region ?_ | refine W_block ?_ | refine W_if ?_ | refine W_skip ?_ | refine W_ret ?_ | refine W_exit ?_ | (refine Cs_intro (fun hb => ?_) (fun hb => ?_) <;> (try simp only [hb])) | refine Ws_if ?_ | simp only [Ws_op, Ws_up, Ws_nil, Wp_call, Wp_mv, Wp_pick, Wp_new, Wp_box, Wp_build, Wp_lit, Wp_load, Wp_store, Wp_nilCheck, Wp_ibin, Wp_sbin, Wp_beq, Wp_un, Wp_conv, Wp_toStr, Wp_same, Wp_ifc, Wp_fn, Wp_cutS, Wp_cutT, Wp_fieldAddr, Wp_field, Wp_at, Wp_atT, Wp_ext, Wp_len, P1_some, ibinA_int, sbinA_str, unA_not, unA_neg, convA_int, sameA_str, nilA_ptr, nilA_ref, nilA_fn, addrA_ptr, addrA_ref, lenA_nil, lenA_sl, lenA_own, lenA_str, bdA_none, ev, putO, K2_some, K2_none, Seq_normal, Seq_exit, Seq_ret, Blk_normal, Blk_exit, Blk_ret, RK_normal, RK_ret, P1_K2, resultsA, resA, List.mapM_cons, List.mapM_nil, Option.bind_eq_bind, Option.bind_some, Option.pure_def, Env.get_set, intOp, Option.map_some, Option.map_none, asB_bool, asG_bool, asG_und, Cs_true, Cs_false, List.map_cons, List.map_nil, List.append_nil, List.nil_append, List.cons_append, ↓reduceIte, Nat.reduceEqDiff, reduceCtorEq, ne_eq, not_true_eq_false, not_false_eq_true, beq_self_eq_true, beq_true, beq_false, Int.reduceEq, Int.reduceNeg, decide_true, decide_false, Bool.not_true, Bool.not_false, Nat.reduceAdd, Bool.false_eq_true, Bool.not_eq_true, Env.start, Env.ofList, fill_one, one1_int, fill_none, mem_eta, load_floor, load_ref1, h1, h9, hl, hlt]))
    refine hQ _ ?_ ?_
    · intro t ht
      simp only [Env.get_set]
      rw [if_neg (by omega), if_neg (by omega), if_neg (by omega), if_neg (by omega)]
      exact hE t ht
    · simp only [Env.get_set, ↓reduceIte, Nat.reduceEqDiff, h7]
      rw [List.take_of_length_le (by omega)]
  | succ k ih =>
    intro i e hi hE h7 h8 h9
    have hlt := lt_true (show i < ps.length by omega)
    have h1 : e.get 1 = w := by rw [hE 1 (by omega), g1]
    have h0 : e.get 0 = v := by rw [hE 0 (by omega), g0]
    have h6 : e.get 6 = .int .i64 iv := by rw [hE 6 (by omega), g6]
    have hl := hw.len
    rw [peersC_len] at hl
    obtain ⟨p, hp⟩ : ∃ a, ps[i]? = some a := ⟨ps[i]'(by omega), List.getElem?_eq_getElem _⟩
    obtain ⟨b, hb1, _, hb3⟩ := hw.get .i64 i _ (peersC_get ps i p hp)
    obtain ⟨c, hc1, hc2⟩ := hb3 0
    have hc3 : loadA s false 1 c = some (.int .i64 p.1) := hc2 false 1 (by simp [peerC])
    obtain ⟨d, hd1, hd2⟩ := hb3 2
    have hd3 : loadA s false 1 d = some (.int .u64 p.2.2) := hd2 false 1 (by simp [peerC])
    obtain ⟨q, hq1, hq2⟩ := (hv.toInts s).get .i64 iv a ha
    have hsn := firstM_snoc (ps.take i) p a
    have hms := met_snoc (ps.take i) p a
    rw [← take_snoc hp] at hsn hms
    have hun := fun h => firstM_unmet (ps := ps.take i) (n := a) h
    generalize firstM (ps.take i) a = x at h7 hsn hun
    generalize met (ps.take i) a = m at h8 hsn hms hun
    refine W_loop' (by delta cf16l1; exact rfl) ?_
    cases m with
    | true =>
      have hsn' : firstM (ps.take (i + 1)) a = x := by rw [hsn, if_pos rfl]
      (repeat' (with_reducible first | refine W_seq ?_ | refine W_region ?_ | refine W_block ?_ | refine W_if ?_ | refine W_skip ?_ | refine W_ret ?_ | refine W_exit ?_ | (refine Cs_intro (fun hb => ?_) (fun hb => ?_) <;> (try simp only [hb])) | refine Ws_if ?_ | simp only [Ws_op, Ws_up, Ws_nil, Wp_call, Wp_mv, Wp_pick, Wp_new, Wp_box, Wp_build, Wp_lit, Wp_load, Wp_store, Wp_nilCheck, Wp_ibin, Wp_sbin, Wp_beq, Wp_un, Wp_conv, Wp_toStr, Wp_same, Wp_ifc, Wp_fn, Wp_cutS, Wp_cutT, Wp_fieldAddr, Wp_field, Wp_at, Wp_atT, Wp_ext, Wp_len, P1_some, ibinA_int, sbinA_str, unA_not, unA_neg, convA_int, sameA_str, nilA_ptr, nilA_ref, nilA_fn, addrA_ptr, addrA_ref, lenA_nil, lenA_sl, lenA_own, lenA_str, bdA_none, ev, putO, K2_some, K2_none, Seq_normal, Seq_exit, Seq_ret, Blk_normal, Blk_exit, Blk_ret, RK_normal, RK_ret, P1_K2, resultsA, resA, List.mapM_cons, List.mapM_nil, Option.bind_eq_bind, Option.bind_some, Option.pure_def, Env.get_set, intOp, Option.map_some, Option.map_none, asB_bool, asG_bool, asG_und, Cs_true, Cs_false, List.map_cons, List.map_nil, List.append_nil, List.nil_append, List.cons_append, ↓reduceIte, Nat.reduceEqDiff, reduceCtorEq, ne_eq, not_true_eq_false, not_false_eq_true, beq_self_eq_true, beq_true, beq_false, Int.reduceEq, Int.reduceNeg, decide_true, decide_false, Bool.not_true, Bool.not_false, Nat.reduceAdd, Bool.false_eq_true, Bool.not_eq_true, Env.start, Env.ofList, fill_one, one1_int, fill_none, mem_eta, load_floor, load_ref1, h0, h1, h6, h8, h9, hl, hlt, hb1, hc1, hc3, hq1, hq2]))
      all_goals refine ih (i + 1) _ (by omega) ?_ ?_ ?_ ?_
      all_goals first
        | (intro t ht; simp only [Env.get_set]; repeat rw [if_neg (by omega)]
           exact hE t ht)
        | skip
      all_goals simp only [Env.get_set, ↓reduceIte, Nat.reduceEqDiff, h7, h8]
      all_goals first | (rw [hsn']) | (rw [hms]; rfl) | (rw [succ_cast (by omega)])
    | false =>
      have hx := hun rfl
      subst hx
      have hsn' : firstM (ps.take (i + 1)) a = if p.1 == a then p.2.2 else 0 := by rw [hsn, if_neg (by simp)]
      (repeat' (with_reducible first | refine W_seq ?_ | refine W_region ?_ | refine W_block ?_ | refine W_if ?_ | refine W_skip ?_ | refine W_ret ?_ | refine W_exit ?_ | (refine Cs_intro (fun hb => ?_) (fun hb => ?_) <;> (try simp only [hb])) | refine Ws_if ?_ | simp only [Ws_op, Ws_up, Ws_nil, Wp_call, Wp_mv, Wp_pick, Wp_new, Wp_box, Wp_build, Wp_lit, Wp_load, Wp_store, Wp_nilCheck, Wp_ibin, Wp_sbin, Wp_beq, Wp_un, Wp_conv, Wp_toStr, Wp_same, Wp_ifc, Wp_fn, Wp_cutS, Wp_cutT, Wp_fieldAddr, Wp_field, Wp_at, Wp_atT, Wp_ext, Wp_len, P1_some, ibinA_int, sbinA_str, unA_not, unA_neg, convA_int, sameA_str, nilA_ptr, nilA_ref, nilA_fn, addrA_ptr, addrA_ref, lenA_nil, lenA_sl, lenA_own, lenA_str, bdA_none, ev, putO, K2_some, K2_none, Seq_normal, Seq_exit, Seq_ret, Blk_normal, Blk_exit, Blk_ret, RK_normal, RK_ret, P1_K2, resultsA, resA, List.mapM_cons, List.mapM_nil, Option.bind_eq_bind, Option.bind_some, Option.pure_def, Env.get_set, intOp, Option.map_some, Option.map_none, asB_bool, asG_bool, asG_und, Cs_true, Cs_false, List.map_cons, List.map_nil, List.append_nil, List.nil_append, List.cons_append, ↓reduceIte, Nat.reduceEqDiff, reduceCtorEq, ne_eq, not_true_eq_false, not_false_eq_true, beq_self_eq_true, beq_true, beq_false, Int.reduceEq, Int.reduceNeg, decide_true, decide_false, Bool.not_true, Bool.not_false, Nat.reduceAdd, Bool.false_eq_true, Bool.not_eq_true, Env.start, Env.ofList, fill_one, one1_int, fill_none, mem_eta, load_floor, load_ref1, h0, h1, h6, h8, h9, hl, hlt, hb1, hc1, hc3, hd1, hd3, hq1, hq2]))
      all_goals refine ih (i + 1) _ (by omega) ?_ ?_ ?_ ?_
      all_goals first
        | (intro t ht; simp only [Env.get_set]; repeat rw [if_neg (by omega)]
           exact hE t ht)
        | skip
      all_goals simp only [Env.get_set, ↓reduceIte, Nat.reduceEqDiff, h7, h8]
      all_goals first | (rw [hsn', hb]; rfl) | (rw [hms, hb]; rfl) | (rw [succ_cast (by omega)])

theorem match_l0 {vs : List Int} {ps : List Peer} {s0 : Mem} {v w : AV} {Q : Ex → Env → Mem → Prop} (hv : isSl v (intsA .i64 vs)) (hv7 : vs.length ≤ 7) (hw : Els s0 w 3 (peersC ps)) (hwk : ∀ r i n z, w = .own r i n z → r < s0.next) (hlen : ps.length < 4611686018427387904) (hf : s0.floor ≤ s0.next)
    (hQ : ∀ e' s' l, Keep s0.next s0 s' → e'.get 5 = l → OwnL s' s0.next l 30 1 (intsA .u64 (ms vs ps)) → Q (.exit 0) e' s') :
    ∀ (k i : Nat) (e : Env) (s : Mem) (l : AV), i + k = vs.length → Keep s0.next s0 s → e.get 5 = l → OwnL s s0.next l 30 1 (intsA .u64 (ms (vs.take i) ps)) → e.get 0 = v → e.get 1 = w → e.get 6 = .int .i64 i → W tab (.loop cf16l0) e s Q := by
  intro k
  induction k with
  | zero =>
    intro i e s l hi hk h5 hl h0 h1 h6
    have hlt := lt_false (show ¬ i < vs.length by omega)
    have hvl := (hv.toInts s).len
    refine W_loop' (by delta cf16l0; exact rfl) ?_
    (repeat' (with_reducible first | refine W_seq ?_ | refine W_region ?_ | refine W_block ?_ | refine W_if ?_ | refine W_skip ?_ | refine W_ret ?_ | refine W_exit ?_ | (refine Cs_intro (fun hb => ?_) (fun hb => ?_) <;> (try simp only [hb])) | refine Ws_if ?_ | simp only [Ws_op, Ws_up, Ws_nil, Wp_call, Wp_mv, Wp_pick, Wp_new, Wp_box, Wp_build, Wp_lit, Wp_load, Wp_store, Wp_nilCheck, Wp_ibin, Wp_sbin, Wp_beq, Wp_un, Wp_conv, Wp_toStr, Wp_same, Wp_ifc, Wp_fn, Wp_cutS, Wp_cutT, Wp_fieldAddr, Wp_field, Wp_at, Wp_atT, Wp_ext, Wp_len, P1_some, ibinA_int, sbinA_str, unA_not, unA_neg, convA_int, sameA_str, nilA_ptr, nilA_ref, nilA_fn, addrA_ptr, addrA_ref, lenA_nil, lenA_sl, lenA_own, lenA_str, bdA_none, ev, putO, K2_some, K2_none, Seq_normal, Seq_exit, Seq_ret, Blk_normal, Blk_exit, Blk_ret, RK_normal, RK_ret, P1_K2, resultsA, resA, List.mapM_cons, List.mapM_nil, Option.bind_eq_bind, Option.bind_some, Option.pure_def, Env.get_set, intOp, Option.map_some, Option.map_none, asB_bool, asG_bool, asG_und, Cs_true, Cs_false, List.map_cons, List.map_nil, List.append_nil, List.nil_append, List.cons_append, ↓reduceIte, Nat.reduceEqDiff, reduceCtorEq, ne_eq, not_true_eq_false, not_false_eq_true, beq_self_eq_true, beq_true, beq_false, Int.reduceEq, Int.reduceNeg, decide_true, decide_false, Bool.not_true, Bool.not_false, Nat.reduceAdd, Bool.false_eq_true, Bool.not_eq_true, Env.start, Env.ofList, fill_one, one1_int, fill_none, mem_eta, load_floor, load_ref1, h0, h1, h5, h6, hvl, hlt]))
    refine hQ _ s l hk ?_ (by rwa [List.take_of_length_le (by omega)] at hl)
    simp only [Env.get_set, ↓reduceIte, Nat.reduceEqDiff, h5]
  | succ k ih =>
    intro i e s l hi hk h5 hl h0 h1 h6
    have hlt := lt_true (show i < vs.length by omega)
    have hvl := (hv.toInts s).len
    obtain ⟨a, ha⟩ : ∃ a, vs[i]? = some a := ⟨vs[i]'(by omega), List.getElem?_eq_getElem _⟩
    have hnx := hk.next
    refine W_loop' (by delta cf16l0; exact rfl) ?_
    (repeat' (with_reducible first | refine W_seq ?_ | refine W_region ?_ | refine W_block ?_ | refine W_if ?_ | refine W_skip ?_ | refine W_ret ?_ | refine W_exit ?_ | (refine Cs_intro (fun hb => ?_) (fun hb => ?_) <;> (try simp only [hb])) | refine Ws_if ?_ | simp only [Ws_op, Ws_up, Ws_nil, Wp_call, Wp_mv, Wp_pick, Wp_new, Wp_box, Wp_build, Wp_lit, Wp_load, Wp_store, Wp_nilCheck, Wp_ibin, Wp_sbin, Wp_beq, Wp_un, Wp_conv, Wp_toStr, Wp_same, Wp_ifc, Wp_fn, Wp_cutS, Wp_cutT, Wp_fieldAddr, Wp_field, Wp_at, Wp_atT, Wp_ext, Wp_len, P1_some, ibinA_int, sbinA_str, unA_not, unA_neg, convA_int, sameA_str, nilA_ptr, nilA_ref, nilA_fn, addrA_ptr, addrA_ref, lenA_nil, lenA_sl, lenA_own, lenA_str, bdA_none, ev, putO, K2_some, K2_none, Seq_normal, Seq_exit, Seq_ret, Blk_normal, Blk_exit, Blk_ret, RK_normal, RK_ret, P1_K2, resultsA, resA, List.mapM_cons, List.mapM_nil, Option.bind_eq_bind, Option.bind_some, Option.pure_def, Env.get_set, intOp, Option.map_some, Option.map_none, asB_bool, asG_bool, asG_und, Cs_true, Cs_false, List.map_cons, List.map_nil, List.append_nil, List.nil_append, List.cons_append, ↓reduceIte, Nat.reduceEqDiff, reduceCtorEq, ne_eq, not_true_eq_false, not_false_eq_true, beq_self_eq_true, beq_true, beq_false, Int.reduceEq, Int.reduceNeg, decide_true, decide_false, Bool.not_true, Bool.not_false, Nat.reduceAdd, Bool.false_eq_true, Bool.not_eq_true, Env.start, Env.ofList, fill_one, one1_int, fill_none, mem_eta, load_floor, load_ref1, h0, h1, h5, h6, hvl, hlt]))
    refine met_l1 (a := a) (iv := i) hv ha (hw.keep (s' := s) (fun r i n z h => hk.get r (hwk r i n z h))) hlen ?_ ?_ ?_ ?_ ps.length 0 _ (by omega) (fun t _ => rfl) ?_ ?_ ?_
    · simp only [Env.get_set, ↓reduceIte, Nat.reduceEqDiff, h0]
    · simp only [Env.get_set, ↓reduceIte, Nat.reduceEqDiff, h1]
    · simp only [Env.get_set, ↓reduceIte, Nat.reduceEqDiff, h6]
    · intro e' hE g7
      have g0 := hE 0 (by omega)
      have g1 := hE 1 (by omega)
      have g5 := hE 5 (by omega)
      have g6 := hE 6 (by omega)
      simp only [Env.get_set, ↓reduceIte, Nat.reduceEqDiff, h0, h1, h5, h6] at g0 g1 g5 g6
      (repeat' (with_reducible first | refine W_seq ?_ | refine W_region ?_ | refine W_block ?_ | refine W_if ?_ | refine W_skip ?_ | refine W_ret ?_ | refine W_exit ?_ | (refine Cs_intro (fun hb => ?_) (fun hb => ?_) <;> (try simp only [hb])) | refine Ws_if ?_ | simp only [Ws_op, Ws_up, Ws_nil, Wp_call, Wp_mv, Wp_pick, Wp_new, Wp_box, Wp_build, Wp_lit, Wp_load, Wp_store, Wp_nilCheck, Wp_ibin, Wp_sbin, Wp_beq, Wp_un, Wp_conv, Wp_toStr, Wp_same, Wp_ifc, Wp_fn, Wp_cutS, Wp_cutT, Wp_fieldAddr, Wp_field, Wp_at, Wp_atT, Wp_ext, Wp_len, P1_some, ibinA_int, sbinA_str, unA_not, unA_neg, convA_int, sameA_str, nilA_ptr, nilA_ref, nilA_fn, addrA_ptr, addrA_ref, lenA_nil, lenA_sl, lenA_own, lenA_str, bdA_none, ev, putO, K2_some, K2_none, Seq_normal, Seq_exit, Seq_ret, Blk_normal, Blk_exit, Blk_ret, RK_normal, RK_ret, P1_K2, resultsA, resA, List.mapM_cons, List.mapM_nil, Option.bind_eq_bind, Option.bind_some, Option.pure_def, Env.get_set, intOp, Option.map_some, Option.map_none, asB_bool, asG_bool, asG_und, Cs_true, Cs_false, List.map_cons, List.map_nil, List.append_nil, List.nil_append, List.cons_append, ↓reduceIte, Nat.reduceEqDiff, reduceCtorEq, ne_eq, not_true_eq_false, not_false_eq_true, beq_self_eq_true, beq_true, beq_false, Int.reduceEq, Int.reduceNeg, decide_true, decide_false, Bool.not_true, Bool.not_false, Nat.reduceAdd, Bool.false_eq_true, Bool.not_eq_true, Env.start, Env.ofList, fill_one, one1_int, fill_none, mem_eta, load_floor, load_ref1, g0, g1, g5, g6, g7]))
      have hk3 : Keep s.next s (s.push ⟨30, 1, [[.int .u64 (firstM ps a)]]⟩) := Keep.push (Nat.le_refl _) _
      have hl3 : OwnL (s.push ⟨30, 1, [[.int .u64 (firstM ps a)]]⟩) s0.next l 30 1 (intsA .u64 (ms (vs.take i) ps)) := by
        refine hl.keep (c := s.next) hk3 ?_
        intro r hr
        rcases hl with ⟨rfl, _⟩ | ⟨r', rfl, _, _, _, h⟩
        · cases hr
        · obtain ⟨rfl, _⟩ := AV.own.inj hr; exact h
      refine app_ok (b := s0.next) (xs := intsA .u64 (ms (vs.take i) ps)) (ys := [[.int .u64 (firstM ps a)]]) ?_ ?_ ?_ ?_ rfl ?_ ?_
      · rw [Mem.floor_push, hk.floor]; exact hf
      · rw [Mem.next_push]; omega
      · simp only [ev, Env.get_set, ↓reduceIte, Nat.reduceEqDiff]; exact hl3
      · simp only [ev, Env.get_set, ↓reduceIte, Nat.reduceEqDiff, readAll, Mem.get_push]
        rfl
      · rw [intsA_len, ms_len]
        have h2 : (vs.take i).length + [[AV.int IntKind.u64 (firstM ps a)]].length ≤ 8 := by simp; omega
        generalize (vs.take i).length + [[AV.int IntKind.u64 (firstM ps a)]].length = z at h2
        unfold roomOk
        simp only [Bool.and_eq_true, Nat.ble_eq]
        omega
      · intro v' s4 hv' hk4
        (repeat' (with_reducible first | refine W_seq ?_ | refine W_region ?_ | refine W_block ?_ | refine W_if ?_ | refine W_skip ?_ | refine W_ret ?_ | refine W_exit ?_ | (refine Cs_intro (fun hb => ?_) (fun hb => ?_) <;> (try simp only [hb])) | refine Ws_if ?_ | simp only [Ws_op, Ws_up, Ws_nil, Wp_call, Wp_mv, Wp_pick, Wp_new, Wp_box, Wp_build, Wp_lit, Wp_load, Wp_store, Wp_nilCheck, Wp_ibin, Wp_sbin, Wp_beq, Wp_un, Wp_conv, Wp_toStr, Wp_same, Wp_ifc, Wp_fn, Wp_cutS, Wp_cutT, Wp_fieldAddr, Wp_field, Wp_at, Wp_atT, Wp_ext, Wp_len, P1_some, ibinA_int, sbinA_str, unA_not, unA_neg, convA_int, sameA_str, nilA_ptr, nilA_ref, nilA_fn, addrA_ptr, addrA_ref, lenA_nil, lenA_sl, lenA_own, lenA_str, bdA_none, ev, putO, K2_some, K2_none, Seq_normal, Seq_exit, Seq_ret, Blk_normal, Blk_exit, Blk_ret, RK_normal, RK_ret, P1_K2, resultsA, resA, List.mapM_cons, List.mapM_nil, Option.bind_eq_bind, Option.bind_some, Option.pure_def, Env.get_set, intOp, Option.map_some, Option.map_none, asB_bool, asG_bool, asG_und, Cs_true, Cs_false, List.map_cons, List.map_nil, List.append_nil, List.nil_append, List.cons_append, ↓reduceIte, Nat.reduceEqDiff, reduceCtorEq, ne_eq, not_true_eq_false, not_false_eq_true, beq_self_eq_true, beq_true, beq_false, Int.reduceEq, Int.reduceNeg, decide_true, decide_false, Bool.not_true, Bool.not_false, Nat.reduceAdd, Bool.false_eq_true, Bool.not_eq_true, Env.start, Env.ofList, fill_one, one1_int, fill_none, mem_eta, load_floor, load_ref1, g6]))
        rw [intsA_snoc, ← ms_take vs ps i a ha] at hv'
        refine ih (i + 1) _ s4 v' (by omega) ((hk.trans (hk3.le (by omega))).trans hk4) ?_ hv' ?_ ?_ ?_
        all_goals simp only [Env.get_set, ↓reduceIte, Nat.reduceEqDiff, g0, g1]
        rw [succ_cast (by omega)]
    all_goals simp only [Env.get_set, ↓reduceIte, Nat.reduceEqDiff]
    all_goals rfl

/-- How many are at least a number. -/
def ge (l : List Int) (x : Int) : Nat := (l.filter fun y => decide (x ≤ y)).length
theorem ge_le (l : List Int) (x : Int) : ge l x ≤ l.length := List.length_filter_le _ _
theorem ge_take (l : List Int) (x : Int) (i : Nat) (a : Int) (h : l[i]? = some a) : ge (l.take (i + 1)) x = ge (l.take i) x + if x ≤ a then 1 else 0 := by
  unfold ge
  rw [take_snoc h, List.filter_append, List.length_append]
  congr 1
  simp only [List.filter_cons, List.filter_nil, decide_eq_true_eq]
  split <;> rfl

theorem ge_l3 {l : List Int} {x : Int} {iv : Nat} {s : Mem} {v : AV} {Q : Ex → Env → Mem → Prop} (hv : Ints s v .u64 l) (hx : l[iv]? = some x) (hlen : l.length < 1000) {E : Env} (g5 : E.get 5 = v) (g11 : E.get 11 = .int .i64 iv)
    (hQ : ∀ e', (∀ t, t < 12 → e'.get t = E.get t) → e'.get 12 = .int .i64 (ge l x) → Q (.exit 6) e' s) :
    ∀ (k i : Nat) (e : Env), i + k = l.length → (∀ t, t < 12 → e.get t = E.get t) → e.get 12 = .int .i64 (ge (l.take i) x) → e.get 13 = .int .i64 i → W tab (.loop cf16l3) e s Q := by
  intro k
  induction k with
  | zero =>
    intro i e hi hE h12 h13
    have hlt := lt_false (show ¬ i < l.length by omega)
    have h5 : e.get 5 = v := by rw [hE 5 (by omega), g5]
    refine W_loop' (by delta cf16l3; exact rfl) ?_
    (repeat' (with_reducible first | refine W_seq ?_ | refine W_region ?_ | refine W_block ?_ | refine W_if ?_ | refine W_skip ?_ | refine W_ret ?_ | refine W_exit ?_ | (refine Cs_intro (fun hb => ?_) (fun hb => ?_) <;> (try simp only [hb])) | refine Ws_if ?_ | simp only [Ws_op, Ws_up, Ws_nil, Wp_call, Wp_mv, Wp_pick, Wp_new, Wp_box, Wp_build, Wp_lit, Wp_load, Wp_store, Wp_nilCheck, Wp_ibin, Wp_sbin, Wp_beq, Wp_un, Wp_conv, Wp_toStr, Wp_same, Wp_ifc, Wp_fn, Wp_cutS, Wp_cutT, Wp_fieldAddr, Wp_field, Wp_at, Wp_atT, Wp_ext, Wp_len, P1_some, ibinA_int, sbinA_str, unA_not, unA_neg, convA_int, sameA_str, nilA_ptr, nilA_ref, nilA_fn, addrA_ptr, addrA_ref, lenA_nil, lenA_sl, lenA_own, lenA_str, bdA_none, ev, putO, K2_some, K2_none, Seq_normal, Seq_exit, Seq_ret, Blk_normal, Blk_exit, Blk_ret, RK_normal, RK_ret, P1_K2, resultsA, resA, List.mapM_cons, List.mapM_nil, Option.bind_eq_bind, Option.bind_some, Option.pure_def, Env.get_set, intOp, Option.map_some, Option.map_none, asB_bool, asG_bool, asG_und, Cs_true, Cs_false, List.map_cons, List.map_nil, List.append_nil, List.nil_append, List.cons_append, ↓reduceIte, Nat.reduceEqDiff, reduceCtorEq, ne_eq, not_true_eq_false, not_false_eq_true, beq_self_eq_true, beq_true, beq_false, Int.reduceEq, Int.reduceNeg, decide_true, decide_false, Bool.not_true, Bool.not_false, Nat.reduceAdd, Bool.false_eq_true, Bool.not_eq_true, Env.start, Env.ofList, fill_one, one1_int, fill_none, mem_eta, load_floor, load_ref1, h5, h12, h13, hv.len, hlt]))
    refine hQ _ ?_ ?_
    · intro t ht
      simp only [Env.get_set]
      repeat rw [if_neg (by omega)]
      exact hE t ht
    · simp only [Env.get_set, ↓reduceIte, Nat.reduceEqDiff, h12]
      rw [List.take_of_length_le (by omega)]
  | succ k ih =>
    intro i e hi hE h12 h13
    have hlt := lt_true (show i < l.length by omega)
    have h5 : e.get 5 = v := by rw [hE 5 (by omega), g5]
    have h11 : e.get 11 = .int .i64 iv := by rw [hE 11 (by omega), g11]
    obtain ⟨a, ha⟩ : ∃ a, l[i]? = some a := ⟨l[i]'(by omega), List.getElem?_eq_getElem _⟩
    obtain ⟨p, hp1, hp2⟩ := hv.get .i64 i a ha
    obtain ⟨q, hq1, hq2⟩ := hv.get .i64 iv x hx
    have hc := ge_take l x i a ha
    have hcl := ge_le (l.take i) x
    have hcl2 : (l.take i).length ≤ l.length := by simp; omega
    refine W_loop' (by delta cf16l3; exact rfl) ?_
    (repeat' (with_reducible first | refine W_seq ?_ | refine W_region ?_ | refine W_block ?_ | refine W_if ?_ | refine W_skip ?_ | refine W_ret ?_ | refine W_exit ?_ | (refine Cs_intro (fun hb => ?_) (fun hb => ?_) <;> (try simp only [hb])) | refine Ws_if ?_ | simp only [Ws_op, Ws_up, Ws_nil, Wp_call, Wp_mv, Wp_pick, Wp_new, Wp_box, Wp_build, Wp_lit, Wp_load, Wp_store, Wp_nilCheck, Wp_ibin, Wp_sbin, Wp_beq, Wp_un, Wp_conv, Wp_toStr, Wp_same, Wp_ifc, Wp_fn, Wp_cutS, Wp_cutT, Wp_fieldAddr, Wp_field, Wp_at, Wp_atT, Wp_ext, Wp_len, P1_some, ibinA_int, sbinA_str, unA_not, unA_neg, convA_int, sameA_str, nilA_ptr, nilA_ref, nilA_fn, addrA_ptr, addrA_ref, lenA_nil, lenA_sl, lenA_own, lenA_str, bdA_none, ev, putO, K2_some, K2_none, Seq_normal, Seq_exit, Seq_ret, Blk_normal, Blk_exit, Blk_ret, RK_normal, RK_ret, P1_K2, resultsA, resA, List.mapM_cons, List.mapM_nil, Option.bind_eq_bind, Option.bind_some, Option.pure_def, Env.get_set, intOp, Option.map_some, Option.map_none, asB_bool, asG_bool, asG_und, Cs_true, Cs_false, List.map_cons, List.map_nil, List.append_nil, List.nil_append, List.cons_append, ↓reduceIte, Nat.reduceEqDiff, reduceCtorEq, ne_eq, not_true_eq_false, not_false_eq_true, beq_self_eq_true, beq_true, beq_false, Int.reduceEq, Int.reduceNeg, decide_true, decide_false, Bool.not_true, Bool.not_false, Nat.reduceAdd, Bool.false_eq_true, Bool.not_eq_true, Env.start, Env.ofList, fill_one, one1_int, fill_none, mem_eta, load_floor, load_ref1, h5, h11, h12, h13, hv.len, hlt, hp1, hp2, hq1, hq2]))
    all_goals refine ih (i + 1) _ (by omega) ?_ ?_ ?_
    all_goals first
      | (intro t ht; simp only [Env.get_set]; repeat rw [if_neg (by omega)]
         exact hE t ht)
      | skip
    all_goals simp only [Env.get_set, ↓reduceIte, Nat.reduceEqDiff, h12]
    · rw [hc, if_pos (of_decide_eq_true hb), succ_cast (by omega)]
    · rw [succ_cast (by omega)]
    · rw [hc, if_neg (of_decide_eq_false hb)]; rfl
    · rw [succ_cast (by omega)]

/-- The greatest of the first that a majority has. -/
def bst (l : List Int) : Nat → Int
  | 0 => 0
  | i + 1 => match l[i]? with
    | some x => if l.length < 2 * ge l x ∧ bst l i < x then x else bst l i
    | none => bst l i

theorem bst_l2 {l : List Int} {s : Mem} {v : AV} {Q : Ex → Env → Mem → Prop} (hv : Ints s v .u64 l) (hlen : l.length < 1000)
    (hQ : ∀ e', e'.get 10 = .int .u64 (bst l l.length) → Q (.exit 4) e' s) :
    ∀ (k i : Nat) (e : Env), i + k = l.length → e.get 5 = v → e.get 10 = .int .u64 (bst l i) → e.get 11 = .int .i64 i → W tab (.loop cf16l2) e s Q := by
  intro k
  induction k with
  | zero =>
    intro i e hi h5 h10 h11
    have hlt := lt_false (show ¬ i < l.length by omega)
    refine W_loop' (by delta cf16l2; exact rfl) ?_
    (repeat' (with_reducible first | refine W_seq ?_ | refine W_region ?_ | refine W_block ?_ | refine W_if ?_ | refine W_skip ?_ | refine W_ret ?_ | refine W_exit ?_ | (refine Cs_intro (fun hb => ?_) (fun hb => ?_) <;> (try simp only [hb])) | refine Ws_if ?_ | simp only [Ws_op, Ws_up, Ws_nil, Wp_call, Wp_mv, Wp_pick, Wp_new, Wp_box, Wp_build, Wp_lit, Wp_load, Wp_store, Wp_nilCheck, Wp_ibin, Wp_sbin, Wp_beq, Wp_un, Wp_conv, Wp_toStr, Wp_same, Wp_ifc, Wp_fn, Wp_cutS, Wp_cutT, Wp_fieldAddr, Wp_field, Wp_at, Wp_atT, Wp_ext, Wp_len, P1_some, ibinA_int, sbinA_str, unA_not, unA_neg, convA_int, sameA_str, nilA_ptr, nilA_ref, nilA_fn, addrA_ptr, addrA_ref, lenA_nil, lenA_sl, lenA_own, lenA_str, bdA_none, ev, putO, K2_some, K2_none, Seq_normal, Seq_exit, Seq_ret, Blk_normal, Blk_exit, Blk_ret, RK_normal, RK_ret, P1_K2, resultsA, resA, List.mapM_cons, List.mapM_nil, Option.bind_eq_bind, Option.bind_some, Option.pure_def, Env.get_set, intOp, Option.map_some, Option.map_none, asB_bool, asG_bool, asG_und, Cs_true, Cs_false, List.map_cons, List.map_nil, List.append_nil, List.nil_append, List.cons_append, ↓reduceIte, Nat.reduceEqDiff, reduceCtorEq, ne_eq, not_true_eq_false, not_false_eq_true, beq_self_eq_true, beq_true, beq_false, Int.reduceEq, Int.reduceNeg, decide_true, decide_false, Bool.not_true, Bool.not_false, Nat.reduceAdd, Bool.false_eq_true, Bool.not_eq_true, Env.start, Env.ofList, fill_one, one1_int, fill_none, mem_eta, load_floor, load_ref1, h5, h10, h11, hv.len, hlt]))
    refine hQ _ ?_
    simp only [Env.get_set, ↓reduceIte, Nat.reduceEqDiff, h10]
    rw [show i = l.length by omega]
  | succ k ih =>
    intro i e hi h5 h10 h11
    have hlt := lt_true (show i < l.length by omega)
    obtain ⟨x, hx⟩ : ∃ a, l[i]? = some a := ⟨l[i]'(by omega), List.getElem?_eq_getElem _⟩
    obtain ⟨p, hp1, hp2⟩ := hv.get .i64 i x hx
    refine W_loop' (by delta cf16l2; exact rfl) ?_
    (repeat' (with_reducible first | refine W_seq ?_ | refine W_region ?_ | refine W_block ?_ | refine W_if ?_ | refine W_skip ?_ | refine W_ret ?_ | refine W_exit ?_ | (refine Cs_intro (fun hb => ?_) (fun hb => ?_) <;> (try simp only [hb])) | refine Ws_if ?_ | simp only [Ws_op, Ws_up, Ws_nil, Wp_call, Wp_mv, Wp_pick, Wp_new, Wp_box, Wp_build, Wp_lit, Wp_load, Wp_store, Wp_nilCheck, Wp_ibin, Wp_sbin, Wp_beq, Wp_un, Wp_conv, Wp_toStr, Wp_same, Wp_ifc, Wp_fn, Wp_cutS, Wp_cutT, Wp_fieldAddr, Wp_field, Wp_at, Wp_atT, Wp_ext, Wp_len, P1_some, ibinA_int, sbinA_str, unA_not, unA_neg, convA_int, sameA_str, nilA_ptr, nilA_ref, nilA_fn, addrA_ptr, addrA_ref, lenA_nil, lenA_sl, lenA_own, lenA_str, bdA_none, ev, putO, K2_some, K2_none, Seq_normal, Seq_exit, Seq_ret, Blk_normal, Blk_exit, Blk_ret, RK_normal, RK_ret, P1_K2, resultsA, resA, List.mapM_cons, List.mapM_nil, Option.bind_eq_bind, Option.bind_some, Option.pure_def, Env.get_set, intOp, Option.map_some, Option.map_none, asB_bool, asG_bool, asG_und, Cs_true, Cs_false, List.map_cons, List.map_nil, List.append_nil, List.nil_append, List.cons_append, ↓reduceIte, Nat.reduceEqDiff, reduceCtorEq, ne_eq, not_true_eq_false, not_false_eq_true, beq_self_eq_true, beq_true, beq_false, Int.reduceEq, Int.reduceNeg, decide_true, decide_false, Bool.not_true, Bool.not_false, Nat.reduceAdd, Bool.false_eq_true, Bool.not_eq_true, Env.start, Env.ofList, fill_one, one1_int, fill_none, mem_eta, load_floor, load_ref1, h5, h10, h11, hv.len, hlt]))
    refine ge_l3 (x := x) (iv := i) hv hx hlen ?_ ?_ ?_ l.length 0 _ (by omega) (fun t _ => rfl) ?_ ?_
    · simp only [Env.get_set, ↓reduceIte, Nat.reduceEqDiff, h5]
    · simp only [Env.get_set, ↓reduceIte, Nat.reduceEqDiff, h11]
    · intro e' hE g12
      have g5 := hE 5 (by omega)
      have g10 := hE 10 (by omega)
      have g11 := hE 11 (by omega)
      simp only [Env.get_set, ↓reduceIte, Nat.reduceEqDiff, h5, h10, h11] at g5 g10 g11
      have hgl := ge_le l x
      have hw2 : IntKind.i64.wrap (2 * (ge l x : Int)) = 2 * (ge l x : Int) := wrap_i64 (by omega)
      have hbs : bst l (i + 1) = if l.length < 2 * ge l x ∧ bst l i < x then x else bst l i := by simp only [bst, hx]
      (repeat' (with_reducible first | refine W_seq ?_ | refine W_region ?_ | refine W_block ?_ | refine W_if ?_ | refine W_skip ?_ | refine W_ret ?_ | refine W_exit ?_ | (refine Cs_intro (fun hb => ?_) (fun hb => ?_) <;> (try simp only [hb])) | refine Ws_if ?_ | simp only [Ws_op, Ws_up, Ws_nil, Wp_call, Wp_mv, Wp_pick, Wp_new, Wp_box, Wp_build, Wp_lit, Wp_load, Wp_store, Wp_nilCheck, Wp_ibin, Wp_sbin, Wp_beq, Wp_un, Wp_conv, Wp_toStr, Wp_same, Wp_ifc, Wp_fn, Wp_cutS, Wp_cutT, Wp_fieldAddr, Wp_field, Wp_at, Wp_atT, Wp_ext, Wp_len, P1_some, ibinA_int, sbinA_str, unA_not, unA_neg, convA_int, sameA_str, nilA_ptr, nilA_ref, nilA_fn, addrA_ptr, addrA_ref, lenA_nil, lenA_sl, lenA_own, lenA_str, bdA_none, ev, putO, K2_some, K2_none, Seq_normal, Seq_exit, Seq_ret, Blk_normal, Blk_exit, Blk_ret, RK_normal, RK_ret, P1_K2, resultsA, resA, List.mapM_cons, List.mapM_nil, Option.bind_eq_bind, Option.bind_some, Option.pure_def, Env.get_set, intOp, Option.map_some, Option.map_none, asB_bool, asG_bool, asG_und, Cs_true, Cs_false, List.map_cons, List.map_nil, List.append_nil, List.nil_append, List.cons_append, ↓reduceIte, Nat.reduceEqDiff, reduceCtorEq, ne_eq, not_true_eq_false, not_false_eq_true, beq_self_eq_true, beq_true, beq_false, Int.reduceEq, Int.reduceNeg, decide_true, decide_false, Bool.not_true, Bool.not_false, Nat.reduceAdd, Bool.false_eq_true, Bool.not_eq_true, Env.start, Env.ofList, fill_one, one1_int, fill_none, mem_eta, load_floor, load_ref1, g5, g10, g11, g12, hw2, hp1, hp2, hv.len]))
      all_goals refine ih (i + 1) _ (by omega) ?_ ?_ ?_
      all_goals simp only [Env.get_set, ↓reduceIte, Nat.reduceEqDiff, g5, g10]
      all_goals try rw [succ_cast (by omega)]
      all_goals simp only [decide_eq_true_eq, decide_eq_false_iff_not] at *
      all_goals rw [hbs]
      · rw [if_pos (by omega)]
      · rw [if_neg (by omega)]
      · rw [if_neg (by omega)]
    all_goals simp only [Env.get_set, ↓reduceIte, Nat.reduceEqDiff]
    all_goals rfl

def rcommit (vs : List Int) (ps : List Peer) : Int := bst (ms vs ps) vs.length

theorem rcommit_c {vs : List Int} {ps : List Peer} {s : Mem} {v w : AV} {K : AV → Mem → Prop} (hv : isSl v (intsA .i64 vs)) (hvl : vs.length < 4611686018427387904) (hw : Els s w 3 (peersC ps)) (hwk : ∀ r i n z, w = .own r i n z → r < s.next) (hlen : ps.length < 4611686018427387904) (hf : s.floor ≤ s.next)
    (hbad : ¬ (good vs ∧ 0 < vs.length) → K (.int .u64 0) s) (hgood : good vs → 0 < vs.length → ∀ s', Keep s.next s s' → K (.int .u64 (rcommit vs ps)) s') : C tab 16 [v, w] s K := by
  refine C_enter (cf := cf16) rfl (Nat.le_of_ble_eq_true rfl) ?_
  simp only [cf16]
  (repeat' (with_reducible first | refine W_seq ?_ | refine W_region ?_ | refine W_block ?_ | refine W_if ?_ | refine W_skip ?_ | refine W_ret ?_ | refine W_exit ?_ | (refine Cs_intro (fun hb => ?_) (fun hb => ?_) <;> (try simp only [hb])) | refine Ws_if ?_ | simp only [Ws_op, Ws_up, Ws_nil, Wp_call, Wp_mv, Wp_pick, Wp_new, Wp_box, Wp_build, Wp_lit, Wp_load, Wp_store, Wp_nilCheck, Wp_ibin, Wp_sbin, Wp_beq, Wp_un, Wp_conv, Wp_toStr, Wp_same, Wp_ifc, Wp_fn, Wp_cutS, Wp_cutT, Wp_fieldAddr, Wp_field, Wp_at, Wp_atT, Wp_ext, Wp_len, P1_some, ibinA_int, sbinA_str, unA_not, unA_neg, convA_int, sameA_str, nilA_ptr, nilA_ref, nilA_fn, addrA_ptr, addrA_ref, lenA_nil, lenA_sl, lenA_own, lenA_str, bdA_none, ev, putO, K2_some, K2_none, Seq_normal, Seq_exit, Seq_ret, Blk_normal, Blk_exit, Blk_ret, RK_normal, RK_ret, P1_K2, resultsA, resA, List.mapM_cons, List.mapM_nil, Option.bind_eq_bind, Option.bind_some, Option.pure_def, Env.get_set, intOp, Option.map_some, Option.map_none, asB_bool, asG_bool, asG_und, Cs_true, Cs_false, List.map_cons, List.map_nil, List.append_nil, List.nil_append, List.cons_append, ↓reduceIte, Nat.reduceEqDiff, reduceCtorEq, ne_eq, not_true_eq_false, not_false_eq_true, beq_self_eq_true, beq_true, beq_false, Int.reduceEq, Int.reduceNeg, decide_true, decide_false, Bool.not_true, Bool.not_false, Nat.reduceAdd, Bool.false_eq_true, Bool.not_eq_true, Env.start, Env.ofList, fill_one, one1_int, fill_none, mem_eta, load_floor, load_ref1]))
  refine voters_c (hv.toInts s) hvl fun b hb' => ?_
  cases b with
  | false =>
    (repeat' (with_reducible first | refine W_seq ?_ | refine W_region ?_ | refine W_block ?_ | refine W_if ?_ | refine W_skip ?_ | refine W_ret ?_ | refine W_exit ?_ | (refine Cs_intro (fun hb => ?_) (fun hb => ?_) <;> (try simp only [hb])) | refine Ws_if ?_ | simp only [Ws_op, Ws_up, Ws_nil, Wp_call, Wp_mv, Wp_pick, Wp_new, Wp_box, Wp_build, Wp_lit, Wp_load, Wp_store, Wp_nilCheck, Wp_ibin, Wp_sbin, Wp_beq, Wp_un, Wp_conv, Wp_toStr, Wp_same, Wp_ifc, Wp_fn, Wp_cutS, Wp_cutT, Wp_fieldAddr, Wp_field, Wp_at, Wp_atT, Wp_ext, Wp_len, P1_some, ibinA_int, sbinA_str, unA_not, unA_neg, convA_int, sameA_str, nilA_ptr, nilA_ref, nilA_fn, addrA_ptr, addrA_ref, lenA_nil, lenA_sl, lenA_own, lenA_str, bdA_none, ev, putO, K2_some, K2_none, Seq_normal, Seq_exit, Seq_ret, Blk_normal, Blk_exit, Blk_ret, RK_normal, RK_ret, P1_K2, resultsA, resA, List.mapM_cons, List.mapM_nil, Option.bind_eq_bind, Option.bind_some, Option.pure_def, Env.get_set, intOp, Option.map_some, Option.map_none, asB_bool, asG_bool, asG_und, Cs_true, Cs_false, List.map_cons, List.map_nil, List.append_nil, List.nil_append, List.cons_append, ↓reduceIte, Nat.reduceEqDiff, reduceCtorEq, ne_eq, not_true_eq_false, not_false_eq_true, beq_self_eq_true, beq_true, beq_false, Int.reduceEq, Int.reduceNeg, decide_true, decide_false, Bool.not_true, Bool.not_false, Nat.reduceAdd, Bool.false_eq_true, Bool.not_eq_true, Env.start, Env.ofList, fill_one, one1_int, fill_none, mem_eta, load_floor, load_ref1]))
    exact hbad (fun h => by have := hb'.mpr h; cases this)
  | true =>
    have hg := hb'.mp rfl
    have h7 := good_len hg.1
    (repeat' (with_reducible first | refine W_seq ?_ | refine W_region ?_ | refine W_block ?_ | refine W_if ?_ | refine W_skip ?_ | refine W_ret ?_ | refine W_exit ?_ | (refine Cs_intro (fun hb => ?_) (fun hb => ?_) <;> (try simp only [hb])) | refine Ws_if ?_ | simp only [Ws_op, Ws_up, Ws_nil, Wp_call, Wp_mv, Wp_pick, Wp_new, Wp_box, Wp_build, Wp_lit, Wp_load, Wp_store, Wp_nilCheck, Wp_ibin, Wp_sbin, Wp_beq, Wp_un, Wp_conv, Wp_toStr, Wp_same, Wp_ifc, Wp_fn, Wp_cutS, Wp_cutT, Wp_fieldAddr, Wp_field, Wp_at, Wp_atT, Wp_ext, Wp_len, P1_some, ibinA_int, sbinA_str, unA_not, unA_neg, convA_int, sameA_str, nilA_ptr, nilA_ref, nilA_fn, addrA_ptr, addrA_ref, lenA_nil, lenA_sl, lenA_own, lenA_str, bdA_none, ev, putO, K2_some, K2_none, Seq_normal, Seq_exit, Seq_ret, Blk_normal, Blk_exit, Blk_ret, RK_normal, RK_ret, P1_K2, resultsA, resA, List.mapM_cons, List.mapM_nil, Option.bind_eq_bind, Option.bind_some, Option.pure_def, Env.get_set, intOp, Option.map_some, Option.map_none, asB_bool, asG_bool, asG_und, Cs_true, Cs_false, List.map_cons, List.map_nil, List.append_nil, List.nil_append, List.cons_append, ↓reduceIte, Nat.reduceEqDiff, reduceCtorEq, ne_eq, not_true_eq_false, not_false_eq_true, beq_self_eq_true, beq_true, beq_false, Int.reduceEq, Int.reduceNeg, decide_true, decide_false, Bool.not_true, Bool.not_false, Nat.reduceAdd, Bool.false_eq_true, Bool.not_eq_true, Env.start, Env.ofList, fill_one, one1_int, fill_none, mem_eta, load_floor, load_ref1]))
    have hk1 : Keep s.next s (s.push ⟨30, 1, []⟩) := Keep.push (Nat.le_refl _) _
    refine match_l0 (s0 := s) hv h7 hw hwk hlen hf ?_ vs.length 0 _ _ (.own s.next 0 0 1) (by omega) hk1 ?_ (OwnL.of_push (ty := 30) (sz := 1) (xs := []) hf (Nat.le_refl _)) ?_ ?_ ?_
    · intro e' s' l hk h5 hl
      have hml := ms_len vs ps
      (repeat' (with_reducible first | refine W_seq ?_ | refine W_region ?_ | refine W_block ?_ | refine W_if ?_ | refine W_skip ?_ | refine W_ret ?_ | refine W_exit ?_ | (refine Cs_intro (fun hb => ?_) (fun hb => ?_) <;> (try simp only [hb])) | refine Ws_if ?_ | simp only [Ws_op, Ws_up, Ws_nil, Wp_call, Wp_mv, Wp_pick, Wp_new, Wp_box, Wp_build, Wp_lit, Wp_load, Wp_store, Wp_nilCheck, Wp_ibin, Wp_sbin, Wp_beq, Wp_un, Wp_conv, Wp_toStr, Wp_same, Wp_ifc, Wp_fn, Wp_cutS, Wp_cutT, Wp_fieldAddr, Wp_field, Wp_at, Wp_atT, Wp_ext, Wp_len, P1_some, ibinA_int, sbinA_str, unA_not, unA_neg, convA_int, sameA_str, nilA_ptr, nilA_ref, nilA_fn, addrA_ptr, addrA_ref, lenA_nil, lenA_sl, lenA_own, lenA_str, bdA_none, ev, putO, K2_some, K2_none, Seq_normal, Seq_exit, Seq_ret, Blk_normal, Blk_exit, Blk_ret, RK_normal, RK_ret, P1_K2, resultsA, resA, List.mapM_cons, List.mapM_nil, Option.bind_eq_bind, Option.bind_some, Option.pure_def, Env.get_set, intOp, Option.map_some, Option.map_none, asB_bool, asG_bool, asG_und, Cs_true, Cs_false, List.map_cons, List.map_nil, List.append_nil, List.nil_append, List.cons_append, ↓reduceIte, Nat.reduceEqDiff, reduceCtorEq, ne_eq, not_true_eq_false, not_false_eq_true, beq_self_eq_true, beq_true, beq_false, Int.reduceEq, Int.reduceNeg, decide_true, decide_false, Bool.not_true, Bool.not_false, Nat.reduceAdd, Bool.false_eq_true, Bool.not_eq_true, Env.start, Env.ofList, fill_one, one1_int, fill_none, mem_eta, load_floor, load_ref1, h5]))
      refine bst_l2 (l := ms vs ps) hl.ints (by omega) ?_ vs.length 0 _ (by omega) ?_ ?_ ?_
      · intro e2 g10
        (repeat' (with_reducible first | refine W_seq ?_ | refine W_region ?_ | refine W_block ?_ | refine W_if ?_ | refine W_skip ?_ | refine W_ret ?_ | refine W_exit ?_ | (refine Cs_intro (fun hb => ?_) (fun hb => ?_) <;> (try simp only [hb])) | refine Ws_if ?_ | simp only [Ws_op, Ws_up, Ws_nil, Wp_call, Wp_mv, Wp_pick, Wp_new, Wp_box, Wp_build, Wp_lit, Wp_load, Wp_store, Wp_nilCheck, Wp_ibin, Wp_sbin, Wp_beq, Wp_un, Wp_conv, Wp_toStr, Wp_same, Wp_ifc, Wp_fn, Wp_cutS, Wp_cutT, Wp_fieldAddr, Wp_field, Wp_at, Wp_atT, Wp_ext, Wp_len, P1_some, ibinA_int, sbinA_str, unA_not, unA_neg, convA_int, sameA_str, nilA_ptr, nilA_ref, nilA_fn, addrA_ptr, addrA_ref, lenA_nil, lenA_sl, lenA_own, lenA_str, bdA_none, ev, putO, K2_some, K2_none, Seq_normal, Seq_exit, Seq_ret, Blk_normal, Blk_exit, Blk_ret, RK_normal, RK_ret, P1_K2, resultsA, resA, List.mapM_cons, List.mapM_nil, Option.bind_eq_bind, Option.bind_some, Option.pure_def, Env.get_set, intOp, Option.map_some, Option.map_none, asB_bool, asG_bool, asG_und, Cs_true, Cs_false, List.map_cons, List.map_nil, List.append_nil, List.nil_append, List.cons_append, ↓reduceIte, Nat.reduceEqDiff, reduceCtorEq, ne_eq, not_true_eq_false, not_false_eq_true, beq_self_eq_true, beq_true, beq_false, Int.reduceEq, Int.reduceNeg, decide_true, decide_false, Bool.not_true, Bool.not_false, Nat.reduceAdd, Bool.false_eq_true, Bool.not_eq_true, Env.start, Env.ofList, fill_one, one1_int, fill_none, mem_eta, load_floor, load_ref1, g10]))
        rw [hml]
        exact hgood hg.1 hg.2 _ hk
      all_goals simp only [Env.get_set, ↓reduceIte, Nat.reduceEqDiff, h5]
      all_goals rfl
    all_goals simp only [Env.get_set, ↓reduceIte, Nat.reduceEqDiff]
    rfl
end Go.Proofs.Ytgedimcfeofjcaa
