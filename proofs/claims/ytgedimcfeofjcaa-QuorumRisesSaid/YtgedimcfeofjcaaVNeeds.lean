/- How many are a majority. -/
import Derived.Test.YtgedimcfeofjcaaVTab
import Derived.Test.YtgedimcfeofjcaaVWords
namespace Go.Proofs.Ytgedimcfeofjcaa
open Go Go.VI
set_option linter.unusedSimpArgs false

def needF (n : Int) : Int := if n < 1 then 0 else n / 2 + 1

theorem need_c (n : Int) (hn : (Lit.int .i64 n).wf = true) (s : Mem) (K : AV → Mem → Prop) (h : K (.int .i64 (needF n)) s) : C tab 14 [.int .i64 n] s K := by
  have hb0 := wf_i64 hn
  have e1 : needF n = if n < 1 then 0 else IntKind.i64.wrap (IntKind.i64.wrap (n.tdiv 2) + 1) := by
    unfold needF
    split
    · rfl
    · rw [Int.tdiv_eq_ediv_of_nonneg (by omega), wrap_i64 (x := n / 2) (by omega), wrap_i64 (by omega)]
  rw [e1] at h
  refine C_enter (cf := cf14) rfl (Nat.le_of_ble_eq_true rfl) ?_
  simp only [cf14]
  (repeat' (with_reducible first | refine W_seq ?_ | refine W_region ?_ | refine W_block ?_ | refine W_if ?_ | refine W_skip ?_ | refine W_ret ?_ | refine W_exit ?_ | (refine Cs_intro (fun hb => ?_) (fun hb => ?_) <;> (try simp only [hb])) | refine Ws_if ?_ | simp only [Ws_op, Ws_up, Ws_nil, Wp_call, Wp_mv, Wp_pick, Wp_new, Wp_box, Wp_build, Wp_lit, Wp_load, Wp_store, Wp_nilCheck, Wp_ibin, Wp_sbin, Wp_beq, Wp_un, Wp_conv, Wp_toStr, Wp_same, Wp_ifc, Wp_fn, Wp_cutS, Wp_cutT, Wp_fieldAddr, Wp_field, Wp_at, Wp_atT, Wp_ext, Wp_len, P1_some, ibinA_int, sbinA_str, unA_not, unA_neg, convA_int, sameA_str, nilA_ptr, nilA_ref, nilA_fn, addrA_ptr, addrA_ref, lenA_nil, lenA_sl, lenA_own, lenA_str, bdA_none, ev, putO, K2_some, K2_none, Seq_normal, Seq_exit, Seq_ret, Blk_normal, Blk_exit, Blk_ret, RK_normal, RK_ret, P1_K2, resultsA, resA, List.mapM_cons, List.mapM_nil, Option.bind_eq_bind, Option.bind_some, Option.pure_def, Env.get_set, intOp, Option.map_some, Option.map_none, asB_bool, asG_bool, asG_und, Cs_true, Cs_false, List.map_cons, List.map_nil, List.append_nil, List.nil_append, List.cons_append, ↓reduceIte, Nat.reduceEqDiff, reduceCtorEq, ne_eq, not_true_eq_false, not_false_eq_true, beq_self_eq_true, beq_true, beq_false, Int.reduceEq, Int.reduceNeg, decide_true, decide_false, Bool.not_true, Bool.not_false, Nat.reduceAdd, Bool.false_eq_true, Bool.not_eq_true, Env.start, Env.ofList, fill_one, one1_int, fill_none, mem_eta, load_floor, load_ref1]))
  all_goals simp only [decide_eq_true_eq, decide_eq_false_iff_not] at hb
  · simpa only [if_pos hb] using h
  · simpa only [if_neg hb] using h

theorem awake_run : yes (run tab 1000 8 [] Mem.zero) = true := by kernel_rfl

theorem yes_C {n f : Nat} {a : List AV} (h : yes (run tab n f a Mem.zero) = true) : ∃ s', run tab n f a Mem.zero = some (.bool true, s') := by
  unfold yes at h
  split at h
  · rename_i s' hh; exact ⟨s', hh⟩
  · cases h

theorem awake_c {s : Mem} (K : AV → Mem → Prop) (h : K (.bool true) s) : C tab 8 [] s K := by
  obtain ⟨s', hs⟩ := yes_C awake_run
  exact C_iso (cf := cf8) rfl rfl hs h

theorem needs_c (n : Int) (hn : (Lit.int .i64 n).wf = true) : C tab 4 [.int .i64 n] Mem.zero (fun r _ => r = .bool true) := by
  have hb0 := wf_i64 hn
  refine C_enter (cf := cf4) rfl (Nat.le_of_ble_eq_true rfl) ?_
  simp only [cf4]
  (repeat' (with_reducible first | refine W_seq ?_ | refine W_region ?_ | refine W_block ?_ | refine W_if ?_ | refine W_skip ?_ | refine W_ret ?_ | refine W_exit ?_ | (refine Cs_intro (fun hb => ?_) (fun hb => ?_) <;> (try simp only [hb])) | refine Ws_if ?_ | simp only [Ws_op, Ws_up, Ws_nil, Wp_call, Wp_mv, Wp_pick, Wp_new, Wp_box, Wp_build, Wp_lit, Wp_load, Wp_store, Wp_nilCheck, Wp_ibin, Wp_sbin, Wp_beq, Wp_un, Wp_conv, Wp_toStr, Wp_same, Wp_ifc, Wp_fn, Wp_cutS, Wp_cutT, Wp_fieldAddr, Wp_field, Wp_at, Wp_atT, Wp_ext, Wp_len, P1_some, ibinA_int, sbinA_str, unA_not, unA_neg, convA_int, sameA_str, nilA_ptr, nilA_ref, nilA_fn, addrA_ptr, addrA_ref, lenA_nil, lenA_sl, lenA_own, lenA_str, bdA_none, ev, putO, K2_some, K2_none, Seq_normal, Seq_exit, Seq_ret, Blk_normal, Blk_exit, Blk_ret, RK_normal, RK_ret, P1_K2, resultsA, resA, List.mapM_cons, List.mapM_nil, Option.bind_eq_bind, Option.bind_some, Option.pure_def, Env.get_set, intOp, Option.map_some, Option.map_none, asB_bool, asG_bool, asG_und, Cs_true, Cs_false, List.map_cons, List.map_nil, List.append_nil, List.nil_append, List.cons_append, ↓reduceIte, Nat.reduceEqDiff, reduceCtorEq, ne_eq, not_true_eq_false, not_false_eq_true, beq_self_eq_true, beq_true, beq_false, Int.reduceEq, Int.reduceNeg, decide_true, decide_false, Bool.not_true, Bool.not_false, Nat.reduceAdd, Bool.false_eq_true, Bool.not_eq_true, Env.start, Env.ofList, fill_one, one1_int, fill_none, mem_eta, load_floor, load_ref1]))
  refine need_c _ hn _ _ ?_
  have hk : needF n = if n < 1 then 0 else n / 2 + 1 := rfl
  generalize needF n = k at hk ⊢
  (repeat' (with_reducible first | refine W_seq ?_ | refine W_region ?_ | refine W_block ?_ | refine W_if ?_ | refine W_skip ?_ | refine W_ret ?_ | refine W_exit ?_ | (refine Cs_intro (fun hb => ?_) (fun hb => ?_) <;> (try simp only [hb])) | refine Ws_if ?_ | simp only [Ws_op, Ws_up, Ws_nil, Wp_call, Wp_mv, Wp_pick, Wp_new, Wp_box, Wp_build, Wp_lit, Wp_load, Wp_store, Wp_nilCheck, Wp_ibin, Wp_sbin, Wp_beq, Wp_un, Wp_conv, Wp_toStr, Wp_same, Wp_ifc, Wp_fn, Wp_cutS, Wp_cutT, Wp_fieldAddr, Wp_field, Wp_at, Wp_atT, Wp_ext, Wp_len, P1_some, ibinA_int, sbinA_str, unA_not, unA_neg, convA_int, sameA_str, nilA_ptr, nilA_ref, nilA_fn, addrA_ptr, addrA_ref, lenA_nil, lenA_sl, lenA_own, lenA_str, bdA_none, ev, putO, K2_some, K2_none, Seq_normal, Seq_exit, Seq_ret, Blk_normal, Blk_exit, Blk_ret, RK_normal, RK_ret, P1_K2, resultsA, resA, List.mapM_cons, List.mapM_nil, Option.bind_eq_bind, Option.bind_some, Option.pure_def, Env.get_set, intOp, Option.map_some, Option.map_none, asB_bool, asG_bool, asG_und, Cs_true, Cs_false, List.map_cons, List.map_nil, List.append_nil, List.nil_append, List.cons_append, ↓reduceIte, Nat.reduceEqDiff, reduceCtorEq, ne_eq, not_true_eq_false, not_false_eq_true, beq_self_eq_true, beq_true, beq_false, Int.reduceEq, Int.reduceNeg, decide_true, decide_false, Bool.not_true, Bool.not_false, Nat.reduceAdd, Bool.false_eq_true, Bool.not_eq_true, Env.start, Env.ofList, fill_one, one1_int, fill_none, mem_eta, load_floor, load_ref1]))
  all_goals simp only [decide_eq_true_eq, decide_eq_false_iff_not, beq_iff_eq, beq_eq_false_iff_ne] at *
  · refine awake_c _ ?_
    (repeat' (with_reducible first | refine W_seq ?_ | refine W_region ?_ | refine W_block ?_ | refine W_if ?_ | refine W_skip ?_ | refine W_ret ?_ | refine W_exit ?_ | (refine Cs_intro (fun hb => ?_) (fun hb => ?_) <;> (try simp only [hb])) | refine Ws_if ?_ | simp only [Ws_op, Ws_up, Ws_nil, Wp_call, Wp_mv, Wp_pick, Wp_new, Wp_box, Wp_build, Wp_lit, Wp_load, Wp_store, Wp_nilCheck, Wp_ibin, Wp_sbin, Wp_beq, Wp_un, Wp_conv, Wp_toStr, Wp_same, Wp_ifc, Wp_fn, Wp_cutS, Wp_cutT, Wp_fieldAddr, Wp_field, Wp_at, Wp_atT, Wp_ext, Wp_len, P1_some, ibinA_int, sbinA_str, unA_not, unA_neg, convA_int, sameA_str, nilA_ptr, nilA_ref, nilA_fn, addrA_ptr, addrA_ref, lenA_nil, lenA_sl, lenA_own, lenA_str, bdA_none, ev, putO, K2_some, K2_none, Seq_normal, Seq_exit, Seq_ret, Blk_normal, Blk_exit, Blk_ret, RK_normal, RK_ret, P1_K2, resultsA, resA, List.mapM_cons, List.mapM_nil, Option.bind_eq_bind, Option.bind_some, Option.pure_def, Env.get_set, intOp, Option.map_some, Option.map_none, asB_bool, asG_bool, asG_und, Cs_true, Cs_false, List.map_cons, List.map_nil, List.append_nil, List.nil_append, List.cons_append, ↓reduceIte, Nat.reduceEqDiff, reduceCtorEq, ne_eq, not_true_eq_false, not_false_eq_true, beq_self_eq_true, beq_true, beq_false, Int.reduceEq, Int.reduceNeg, decide_true, decide_false, Bool.not_true, Bool.not_false, Nat.reduceAdd, Bool.false_eq_true, Bool.not_eq_true, Env.start, Env.ofList, fill_one, one1_int, fill_none, mem_eta, load_floor, load_ref1]))
  · simp_all
  · refine awake_c _ ?_
    (repeat' (with_reducible first | refine W_seq ?_ | refine W_region ?_ | refine W_block ?_ | refine W_if ?_ | refine W_skip ?_ | refine W_ret ?_ | refine W_exit ?_ | (refine Cs_intro (fun hb => ?_) (fun hb => ?_) <;> (try simp only [hb])) | refine Ws_if ?_ | simp only [Ws_op, Ws_up, Ws_nil, Wp_call, Wp_mv, Wp_pick, Wp_new, Wp_box, Wp_build, Wp_lit, Wp_load, Wp_store, Wp_nilCheck, Wp_ibin, Wp_sbin, Wp_beq, Wp_un, Wp_conv, Wp_toStr, Wp_same, Wp_ifc, Wp_fn, Wp_cutS, Wp_cutT, Wp_fieldAddr, Wp_field, Wp_at, Wp_atT, Wp_ext, Wp_len, P1_some, ibinA_int, sbinA_str, unA_not, unA_neg, convA_int, sameA_str, nilA_ptr, nilA_ref, nilA_fn, addrA_ptr, addrA_ref, lenA_nil, lenA_sl, lenA_own, lenA_str, bdA_none, ev, putO, K2_some, K2_none, Seq_normal, Seq_exit, Seq_ret, Blk_normal, Blk_exit, Blk_ret, RK_normal, RK_ret, P1_K2, resultsA, resA, List.mapM_cons, List.mapM_nil, Option.bind_eq_bind, Option.bind_some, Option.pure_def, Env.get_set, intOp, Option.map_some, Option.map_none, asB_bool, asG_bool, asG_und, Cs_true, Cs_false, List.map_cons, List.map_nil, List.append_nil, List.nil_append, List.cons_append, ↓reduceIte, Nat.reduceEqDiff, reduceCtorEq, ne_eq, not_true_eq_false, not_false_eq_true, beq_self_eq_true, beq_true, beq_false, Int.reduceEq, Int.reduceNeg, decide_true, decide_false, Bool.not_true, Bool.not_false, Nat.reduceAdd, Bool.false_eq_true, Bool.not_eq_true, Env.start, Env.ofList, fill_one, one1_int, fill_none, mem_eta, load_floor, load_ref1]))
  all_goals
    have hn1 : ¬ n < 1 := by assumption
    rw [if_neg hn1] at hk
    exfalso
    simp only [wrap_i64 (show -9223372036854775808 ≤ k - 1 ∧ k - 1 ≤ 9223372036854775807 by omega), wrap_i64 (show -9223372036854775808 ≤ n - (k - 1) ∧ n - (k - 1) ≤ 9223372036854775807 by omega), wrap_i64 (show -9223372036854775808 ≤ n - k ∧ n - k ≤ 9223372036854775807 by omega)] at *
    omega
end Go.Proofs.Ytgedimcfeofjcaa
