/- What is appended. No statement of the seat is proved here. -/
import Derived.Test.YtfghbndlpppkcaaVLog5
namespace Go.Proofs.Ytfghbndlpppkcaa
open Go Go.VI
set_option linter.unusedSimpArgs false
attribute [local irreducible] Ws Wp W C
set_option maxHeartbeats 4000000

def newE (l : Log) (tm k : Int) (bs : List UInt8) : Entry := ⟨IntKind.u64.wrap ((lastE l).index + 1), tm, k, bs⟩
def zeroL : Log := ⟨⟨0, 0, 0, []⟩, []⟩
def appOut (l : Log) (tm k : Int) (bs : List UInt8) : Log × Int :=
  if !logOk l || decide (tm < (lastE l).term) || !entOk (newE l tm k bs) then (zeroL, 1)
  else if decide (4096 ≤ l.l.length) || decide (4611686018427387904 ≤ (lastE l).index) then (zeroL, 2)
  else (⟨l.base, l.l ++ [newE l tm k bs]⟩, 0)

theorem lastE_wf {l : Log} (h : l.Wf) : (lastE l).Wf := by
  simp only [lastE]
  cases hl : l.l.getLast? with
  | none => exact h.base
  | some x => exact h.all x (List.mem_of_getLast? hl)

theorem zero_ent (s : Mem) (D : Nat → Prop) : LogV s D (.agg [.int .u64 0, .int .u64 0, .int .i64 0, .nilS, .nilS]) zeroL := ⟨.nilS, .nilS, rfl, Sl.nil _ _ _, [], Sl.nil _ _ _, EntsC.nil _ _⟩

structure AppIn (l : Log) (tm k : Int) (bs : List UInt8) : Prop where
  w : l.Wf
  tm : 0 ≤ tm ∧ tm ≤ 18446744073709551615
  k : -9223372036854775808 ≤ k ∧ k ≤ 9223372036854775807
  bs : Fit bs.length
theorem AppIn.e {l : Log} {tm k : Int} {bs : List UInt8} (h : AppIn l tm k bs) : (newE l tm k bs).Wf := by
  refine ⟨?_, h.tm, h.k, h.bs⟩
  have h1 := (lastE_wf h.w).index
  simp only [newE]
  rw [next_u64 h1]
  split <;> omega

theorem append_c {l : Log} {tm k : Int} {bs : List UInt8} {D : Nat → Prop} {s : Mem} {v dv : AV} {K : AV → Mem → Prop} (hf : s.floor ≤ s.next) (hI : In D s) (hv : LogV s D v l) (hb : Byt s D dv bs) (hA : AppIn l tm k bs)
    (hK : ∀ v' s', LogV s' (Lt s'.next) v' (appOut l tm k bs).1 → Keep s.next s s' → K (.tup [v', .int .i64 (appOut l tm k bs).2]) s') : C tab 10 [v, .int .u64 tm, .int .i64 k, dv] s K := by
  obtain ⟨d, w, rfl, hd, hes⟩ := hv
  have hw := hA.w
  refine C_enter (cf := cf10) rfl (Nat.le_of_ble_eq_true rfl) ?_
  simp only [cf10]
  (repeat' (with_reducible first | refine W_seq ?_ | refine W_region ?_ | refine W_block ?_ | refine W_if ?_ | refine W_skip ?_ | refine W_ret ?_ | refine W_exit ?_ | (refine Cs_intro (fun hb => ?_) (fun hb => ?_) <;> (try simp only [hb])) | refine Ws_if ?_ | simp (maxDischargeDepth := 12) only [Ws_op, Ws_up, Ws_nil, Wp_call, Wp_mv, Wp_pick, Wp_new, Wp_box, Wp_build, Wp_lit, litV_zero, litV_succ, Wp_load, Wp_store, Wp_nilCheck, Wp_ibin, Wp_sbin, Wp_beq, Wp_un, Wp_conv, Wp_toStr, Wp_same, Wp_ifc, Wp_fn, Wp_cutS, Wp_cutT, Wp_cut3, Wp_fieldAddr, Wp_field, Wp_at, Wp_atT, Wp_ixA, Wp_atP, Wp_ext, Wp_len, P1_some, ibinA_int, sbinA_str, unA_not, unA_neg, convA_int, sameA_str, nilA_ptr, nilA_ref, nilA_fn, addrA_ptr, addrA_ref, lenA_nil, lenA_emp, lenA_sl, lenA_own, lenA_str, bdA_none, ev, putO, K2_some, K2_none, Seq_normal, Seq_exit, Seq_ret, Blk_normal, Blk_exit, Blk_ret, RK_normal, RK_ret, NX_normal, NX_exit, NX_ret, P1_K2, resultsA, resA, List.mapM_cons, List.mapM_nil, Option.bind_eq_bind, Option.bind_some, Option.pure_def, Env.get_set, intOp, Option.map_some, Option.map_none, asB_bool, asG_bool, asG_und, Cs_true, Cs_false, List.map_cons, List.map_nil, List.append_nil, List.nil_append, List.cons_append, ↓reduceIte, Nat.reduceEqDiff, reduceCtorEq, ne_eq, not_true_eq_false, not_false_eq_true, beq_self_eq_true, beq_true, beq_false, Int.reduceEq, Int.reduceNeg, decide_true, decide_false, Bool.not_true, Bool.not_false, Nat.reduceAdd, Bool.false_eq_true, Bool.not_eq_true, Env.start, Env.ofList, fill_one, one1_int, fill_none, mem_eta, load_floor, loadA_ptr, storeA_ptr, load_refA, Mem.get_push, Mem.get_put, next_push', floor_push', next_put', floor_put', put_push', putC_nil, putC_zero, putC_succ, s_ne1, s_ne2, Nat.le_refl, and_self, ne_s1, ne_s2, ne_s3, ne_s4, ne_s5, lt_s1, lt_s2, lt_s3, lt_s4, lt_s5, le_s1, ext_tup, parts_nil, parts_cons, fill_all, nat_ne, nat_ne', lt_ss, lt_s, old_refl, old_push, old_at, mat_push, mat_put, mat_at, mat_self, mat_get, mat_next, mat_floor, mat_load, mat_read, mat_str, slice1_one, slice1_next, slice1_none, slice1_more, pick_one, pick_agg, fieldA_agg, cells_agg, cells_int, cells_bool, cells_str, cells_nil, cells_own, cell_int, cell_bool, cell_str, cell_nil, cell_emp, cell_sl, cell_own, cell_ptr, cell_nilP,  List.length_cons, List.length_nil, List.all_cons, List.all_nil, Bool.and_true, Bool.true_and, Bool.and_self, List.getElem?_cons_zero, List.getElem?_cons_succ, List.set_cons_zero, Nat.reduceLeDiff, true_and, and_true, hd.cell, hes.cell, hf]))
  have hk0 := (pushes s ⟨28, 5, [[.int .u64 l.base.index, .int .u64 l.base.term, .int .i64 l.base.kind, d, w]]⟩).then (pushes _ ⟨28, 5, [[.int .u64 0, .int .u64 0, .int .i64 0, .nilS, .nilS]]⟩)
  refine last_c (l := l) (D := D) (hk0.ok hf) (hI.keep hk0) ⟨d, w, rfl, hd.keep (keep_old hI hk0), hes.keep (keep_old hI hk0)⟩ hw fun s1 hk1 => ?_
  have hk01 := hk0.then hk1
  have a1 : s.next + 1 < s1.next := hk1.next
  (repeat' (with_reducible first | refine W_seq ?_ | refine W_region ?_ | refine W_block ?_ | refine W_if ?_ | refine W_skip ?_ | refine W_ret ?_ | refine W_exit ?_ | (refine Cs_intro (fun hb => ?_) (fun hb => ?_) <;> (try simp only [hb])) | refine Ws_if ?_ | simp (maxDischargeDepth := 12) only [Ws_op, Ws_up, Ws_nil, Wp_call, Wp_mv, Wp_pick, Wp_new, Wp_box, Wp_build, Wp_lit, litV_zero, litV_succ, Wp_load, Wp_store, Wp_nilCheck, Wp_ibin, Wp_sbin, Wp_beq, Wp_un, Wp_conv, Wp_toStr, Wp_same, Wp_ifc, Wp_fn, Wp_cutS, Wp_cutT, Wp_cut3, Wp_fieldAddr, Wp_field, Wp_at, Wp_atT, Wp_ixA, Wp_atP, Wp_ext, Wp_len, P1_some, ibinA_int, sbinA_str, unA_not, unA_neg, convA_int, sameA_str, nilA_ptr, nilA_ref, nilA_fn, addrA_ptr, addrA_ref, lenA_nil, lenA_emp, lenA_sl, lenA_own, lenA_str, bdA_none, ev, putO, K2_some, K2_none, Seq_normal, Seq_exit, Seq_ret, Blk_normal, Blk_exit, Blk_ret, RK_normal, RK_ret, NX_normal, NX_exit, NX_ret, P1_K2, resultsA, resA, List.mapM_cons, List.mapM_nil, Option.bind_eq_bind, Option.bind_some, Option.pure_def, Env.get_set, intOp, Option.map_some, Option.map_none, asB_bool, asG_bool, asG_und, Cs_true, Cs_false, List.map_cons, List.map_nil, List.append_nil, List.nil_append, List.cons_append, ↓reduceIte, Nat.reduceEqDiff, reduceCtorEq, ne_eq, not_true_eq_false, not_false_eq_true, beq_self_eq_true, beq_true, beq_false, Int.reduceEq, Int.reduceNeg, decide_true, decide_false, Bool.not_true, Bool.not_false, Nat.reduceAdd, Bool.false_eq_true, Bool.not_eq_true, Env.start, Env.ofList, fill_one, one1_int, fill_none, mem_eta, load_floor, loadA_ptr, storeA_ptr, load_refA, Mem.get_push, Mem.get_put, next_push', floor_push', next_put', floor_put', put_push', putC_nil, putC_zero, putC_succ, s_ne1, s_ne2, Nat.le_refl, and_self, ne_s1, ne_s2, ne_s3, ne_s4, ne_s5, lt_s1, lt_s2, lt_s3, lt_s4, lt_s5, le_s1, ext_tup, parts_nil, parts_cons, fill_all, nat_ne, nat_ne', lt_ss, lt_s, old_refl, old_push, old_at, mat_push, mat_put, mat_at, mat_self, mat_get, mat_next, mat_floor, mat_load, mat_read, mat_str, slice1_one, slice1_next, slice1_none, slice1_more, pick_one, pick_agg, fieldA_agg, cells_agg, cells_int, cells_bool, cells_str, cells_nil, cells_own, cell_int, cell_bool, cell_str, cell_nil, cell_emp, cell_sl, cell_own, cell_ptr, cell_nilP,  List.length_cons, List.length_nil, List.all_cons, List.all_nil, Bool.and_true, Bool.true_and, Bool.and_self, List.getElem?_cons_zero, List.getElem?_cons_succ, List.set_cons_zero, Nat.reduceLeDiff, true_and, and_true]))
  refine cloneB_c (D := D) (hk01.ok hf) (hI.keep hk01) (hb.keep (keep_old hI hk01)) hA.bs fun d2 s2 ho2 hk2 => ?_
  have hk02 := hk01.then hk2
  have hc2 : isCell d2 = true := (ho2.sl (byteC_len _) (D := fun _ => True) (fun _ _ _ => trivial)).cell
  have a2 : s1.next ≤ s2.next := hk2.next
  have b1 : s.next < s1.next := by omega
  have b2 : s.next < s2.next := by omega
  have b3 : s.next + 1 < s2.next := by omega
  have f2 : s2.floor ≤ s2.next := hk02.ok hf
  (repeat' (with_reducible first | refine W_seq ?_ | refine W_region ?_ | refine W_block ?_ | refine W_if ?_ | refine W_skip ?_ | refine W_ret ?_ | refine W_exit ?_ | (refine Cs_intro (fun hb => ?_) (fun hb => ?_) <;> (try simp only [hb])) | refine Ws_if ?_ | simp (maxDischargeDepth := 12) only [Ws_op, Ws_up, Ws_nil, Wp_call, Wp_mv, Wp_pick, Wp_new, Wp_box, Wp_build, Wp_lit, litV_zero, litV_succ, Wp_load, Wp_store, Wp_nilCheck, Wp_ibin, Wp_sbin, Wp_beq, Wp_un, Wp_conv, Wp_toStr, Wp_same, Wp_ifc, Wp_fn, Wp_cutS, Wp_cutT, Wp_cut3, Wp_fieldAddr, Wp_field, Wp_at, Wp_atT, Wp_ixA, Wp_atP, Wp_ext, Wp_len, P1_some, ibinA_int, sbinA_str, unA_not, unA_neg, convA_int, sameA_str, nilA_ptr, nilA_ref, nilA_fn, addrA_ptr, addrA_ref, lenA_nil, lenA_emp, lenA_sl, lenA_own, lenA_str, bdA_none, ev, putO, K2_some, K2_none, Seq_normal, Seq_exit, Seq_ret, Blk_normal, Blk_exit, Blk_ret, RK_normal, RK_ret, NX_normal, NX_exit, NX_ret, P1_K2, resultsA, resA, List.mapM_cons, List.mapM_nil, Option.bind_eq_bind, Option.bind_some, Option.pure_def, Env.get_set, intOp, Option.map_some, Option.map_none, asB_bool, asG_bool, asG_und, Cs_true, Cs_false, List.map_cons, List.map_nil, List.append_nil, List.nil_append, List.cons_append, ↓reduceIte, Nat.reduceEqDiff, reduceCtorEq, ne_eq, not_true_eq_false, not_false_eq_true, beq_self_eq_true, beq_true, beq_false, Int.reduceEq, Int.reduceNeg, decide_true, decide_false, Bool.not_true, Bool.not_false, Nat.reduceAdd, Bool.false_eq_true, Bool.not_eq_true, Env.start, Env.ofList, fill_one, one1_int, fill_none, mem_eta, load_floor, loadA_ptr, storeA_ptr, load_refA, Mem.get_push, Mem.get_put, next_push', floor_push', next_put', floor_put', put_push', putC_nil, putC_zero, putC_succ, s_ne1, s_ne2, Nat.le_refl, and_self, ne_s1, ne_s2, ne_s3, ne_s4, ne_s5, lt_s1, lt_s2, lt_s3, lt_s4, lt_s5, le_s1, ext_tup, parts_nil, parts_cons, fill_all, nat_ne, nat_ne', lt_ss, lt_s, old_refl, old_push, old_at, mat_push, mat_put, mat_at, mat_self, mat_get, mat_next, mat_floor, mat_load, mat_read, mat_str, slice1_one, slice1_next, slice1_none, slice1_more, pick_one, pick_agg, fieldA_agg, cells_agg, cells_int, cells_bool, cells_str, cells_nil, cells_own, cell_int, cell_bool, cell_str, cell_nil, cell_emp, cell_sl, cell_own, cell_ptr, cell_nilP,  List.length_cons, List.length_nil, List.all_cons, List.all_nil, Bool.and_true, Bool.true_and, Bool.and_self, List.getElem?_cons_zero, List.getElem?_cons_succ, List.set_cons_zero, Nat.reduceLeDiff, true_and, and_true, hk1.get, hk2.get, hc2, cells_cell hc2, b1, b2, b3, f2]))
  have hk23 := hk02.then (pushes s2 ⟨25, 4, [[.int .u64 (IntKind.u64.wrap ((lastE l).index + 1)), .int .u64 tm, .int .i64 k, d2]]⟩)
  refine rlogCheck_c (l := l) (D := D) (hk23.ok hf) (hI.keep hk23) ⟨d, w, rfl, hd.keep (keep_old hI hk23), hes.keep (keep_old hI hk23)⟩ hw fun s4 hk4 => ?_
  have hk04 := hk23.then hk4
  have a4 : s2.next < s4.next := hk4.next
  have b4 : s.next < s4.next := by omega
  have b5 : s.next + 1 < s4.next := by omega
  have f4 : s4.floor ≤ s4.next := hk04.ok hf
  have f0 : s4.floor ≤ s.next := by rw [hk04.floor]; exact hf
  have P0 : ∀ v' s', LogV s' (Lt s'.next) v' zeroL → Keep s.next s s' → ∀ c, appOut l tm k bs = (zeroL, c) → K (.tup [v', .int .i64 c]) s' := fun v' s' h1 h2 c h3 => by have := hK v' s'; rw [h3] at this; exact this h1 h2
  (repeat' (with_reducible first | refine W_seq ?_ | refine W_region ?_ | refine W_block ?_ | refine W_if ?_ | refine W_skip ?_ | refine W_ret ?_ | refine W_exit ?_ | (refine Cs_intro (fun hb => ?_) (fun hb => ?_) <;> (try simp only [hb])) | refine Ws_if ?_ | simp (maxDischargeDepth := 12) only [Ws_op, Ws_up, Ws_nil, Wp_call, Wp_mv, Wp_pick, Wp_new, Wp_box, Wp_build, Wp_lit, litV_zero, litV_succ, Wp_load, Wp_store, Wp_nilCheck, Wp_ibin, Wp_sbin, Wp_beq, Wp_un, Wp_conv, Wp_toStr, Wp_same, Wp_ifc, Wp_fn, Wp_cutS, Wp_cutT, Wp_cut3, Wp_fieldAddr, Wp_field, Wp_at, Wp_atT, Wp_ixA, Wp_atP, Wp_ext, Wp_len, P1_some, ibinA_int, sbinA_str, unA_not, unA_neg, convA_int, sameA_str, nilA_ptr, nilA_ref, nilA_fn, addrA_ptr, addrA_ref, lenA_nil, lenA_emp, lenA_sl, lenA_own, lenA_str, bdA_none, ev, putO, K2_some, K2_none, Seq_normal, Seq_exit, Seq_ret, Blk_normal, Blk_exit, Blk_ret, RK_normal, RK_ret, NX_normal, NX_exit, NX_ret, P1_K2, resultsA, resA, List.mapM_cons, List.mapM_nil, Option.bind_eq_bind, Option.bind_some, Option.pure_def, Env.get_set, intOp, Option.map_some, Option.map_none, asB_bool, asG_bool, asG_und, Cs_true, Cs_false, List.map_cons, List.map_nil, List.append_nil, List.nil_append, List.cons_append, ↓reduceIte, Nat.reduceEqDiff, reduceCtorEq, ne_eq, not_true_eq_false, not_false_eq_true, beq_self_eq_true, beq_true, beq_false, Int.reduceEq, Int.reduceNeg, decide_true, decide_false, Bool.not_true, Bool.not_false, Nat.reduceAdd, Bool.false_eq_true, Bool.not_eq_true, Env.start, Env.ofList, fill_one, one1_int, fill_none, mem_eta, load_floor, loadA_ptr, storeA_ptr, load_refA, Mem.get_push, Mem.get_put, next_push', floor_push', next_put', floor_put', put_push', putC_nil, putC_zero, putC_succ, s_ne1, s_ne2, Nat.le_refl, and_self, ne_s1, ne_s2, ne_s3, ne_s4, ne_s5, lt_s1, lt_s2, lt_s3, lt_s4, lt_s5, le_s1, ext_tup, parts_nil, parts_cons, fill_all, nat_ne, nat_ne', lt_ss, lt_s, old_refl, old_push, old_at, mat_push, mat_put, mat_at, mat_self, mat_get, mat_next, mat_floor, mat_load, mat_read, mat_str, slice1_one, slice1_next, slice1_none, slice1_more, pick_one, pick_agg, fieldA_agg, cells_agg, cells_int, cells_bool, cells_str, cells_nil, cells_own, cell_int, cell_bool, cell_str, cell_nil, cell_emp, cell_sl, cell_own, cell_ptr, cell_nilP,  List.length_cons, List.length_nil, List.all_cons, List.all_nil, Bool.and_true, Bool.true_and, Bool.and_self, List.getElem?_cons_zero, List.getElem?_cons_succ, List.set_cons_zero, Nat.reduceLeDiff, true_and, and_true, hk1.get, hk2.get, hk4.get, hc2, cells_cell hc2, a1, a4, b1, b2, b3, b4, b5, f4, f0, le_s1 f0]))
  · refine P0 _ _ (zero_ent _ _) (hk04.trans (Keep.put (Nat.le_succ _) _)) 1 ?_
    have h : logOk l = false := by
      cases h : logOk l with
      | false => rfl
      | true => rw [h] at hb; simp at hb
    simp [appOut, h]
  · refine P0 _ _ (zero_ent _ _) (hk04.trans (Keep.put (Nat.le_succ _) _)) 1 ?_
    have h : tm < (lastE l).term := by simpa using hb
    simp [appOut, h]
  · rename_i hb1
    have g1 : logOk l = true := by
      cases h : logOk l with
      | true => rfl
      | false => rw [h] at hb1; simp at hb1
    have g2 : decide (tm < (lastE l).term) = false := hb
    have hk41 : ∀ r, D r → s4.get r = s.get r := keep_old hI hk04
    refine entry_c (e := newE l tm k bs) (D := fun r => s1.next ≤ r ∧ r < s2.next) (hk04.ok hf) (fun r hr => by omega) ?_ hA.e fun s5 hk5 => ?_
    · exact (ho2.sl (D := fun r => s1.next ≤ r ∧ r < s2.next) (byteC_len _) fun q n h => ho2.row q 0 n 1 h).keep fun r hr => by rw [hk4.get r (by simp only [next_push']; omega), Mem.get_push, if_neg (by omega)]
    have hk05 := hk04.then hk5
    have a5 : s4.next ≤ s5.next := hk5.next
    have f5 : s5.floor ≤ s.next := by rw [hk05.floor]; exact hf
    (repeat' (with_reducible first | refine W_seq ?_ | refine W_region ?_ | refine W_block ?_ | refine W_if ?_ | refine W_skip ?_ | refine W_ret ?_ | refine W_exit ?_ | (refine Cs_intro (fun hb => ?_) (fun hb => ?_) <;> (try simp only [hb])) | refine Ws_if ?_ | simp (maxDischargeDepth := 12) only [Ws_op, Ws_up, Ws_nil, Wp_call, Wp_mv, Wp_pick, Wp_new, Wp_box, Wp_build, Wp_lit, litV_zero, litV_succ, Wp_load, Wp_store, Wp_nilCheck, Wp_ibin, Wp_sbin, Wp_beq, Wp_un, Wp_conv, Wp_toStr, Wp_same, Wp_ifc, Wp_fn, Wp_cutS, Wp_cutT, Wp_cut3, Wp_fieldAddr, Wp_field, Wp_at, Wp_atT, Wp_ixA, Wp_atP, Wp_ext, Wp_len, P1_some, ibinA_int, sbinA_str, unA_not, unA_neg, convA_int, sameA_str, nilA_ptr, nilA_ref, nilA_fn, addrA_ptr, addrA_ref, lenA_nil, lenA_emp, lenA_sl, lenA_own, lenA_str, bdA_none, ev, putO, K2_some, K2_none, Seq_normal, Seq_exit, Seq_ret, Blk_normal, Blk_exit, Blk_ret, RK_normal, RK_ret, NX_normal, NX_exit, NX_ret, P1_K2, resultsA, resA, List.mapM_cons, List.mapM_nil, Option.bind_eq_bind, Option.bind_some, Option.pure_def, Env.get_set, intOp, Option.map_some, Option.map_none, asB_bool, asG_bool, asG_und, Cs_true, Cs_false, List.map_cons, List.map_nil, List.append_nil, List.nil_append, List.cons_append, ↓reduceIte, Nat.reduceEqDiff, reduceCtorEq, ne_eq, not_true_eq_false, not_false_eq_true, beq_self_eq_true, beq_true, beq_false, Int.reduceEq, Int.reduceNeg, decide_true, decide_false, Bool.not_true, Bool.not_false, Nat.reduceAdd, Bool.false_eq_true, Bool.not_eq_true, Env.start, Env.ofList, fill_one, one1_int, fill_none, mem_eta, load_floor, loadA_ptr, storeA_ptr, load_refA, Mem.get_push, Mem.get_put, next_push', floor_push', next_put', floor_put', put_push', putC_nil, putC_zero, putC_succ, s_ne1, s_ne2, Nat.le_refl, and_self, ne_s1, ne_s2, ne_s3, ne_s4, ne_s5, lt_s1, lt_s2, lt_s3, lt_s4, lt_s5, le_s1, ext_tup, parts_nil, parts_cons, fill_all, nat_ne, nat_ne', lt_ss, lt_s, old_refl, old_push, old_at, mat_push, mat_put, mat_at, mat_self, mat_get, mat_next, mat_floor, mat_load, mat_read, mat_str, slice1_one, slice1_next, slice1_none, slice1_more, pick_one, pick_agg, fieldA_agg, cells_agg, cells_int, cells_bool, cells_str, cells_nil, cells_own, cell_int, cell_bool, cell_str, cell_nil, cell_emp, cell_sl, cell_own, cell_ptr, cell_nilP,  List.length_cons, List.length_nil, List.all_cons, List.all_nil, Bool.and_true, Bool.true_and, Bool.and_self, List.getElem?_cons_zero, List.getElem?_cons_succ, List.set_cons_zero, Nat.reduceLeDiff, true_and, and_true, hk1.get, hk2.get, hk4.get, hk5.get, hc2, cells_cell hc2, a1, a4, b1, b2, b3, b4, b5, f4, f5, le_s1 f5, hd.cell, hes.len]))
    · refine P0 _ _ (zero_ent _ _) (hk05.trans (Keep.put (Nat.le_succ _) _)) 1 ?_
      have h : entOk (newE l tm k bs) = false := by simpa using hb
      simp [appOut, h]
    · rename_i hb2
      have g3 : entOk (newE l tm k bs) = true := by simpa using hb2
      refine P0 _ _ (zero_ent _ _) (hk05.trans (Keep.put (Nat.le_succ _) _)) 2 ?_
      have h : 4096 ≤ l.l.length := by simp only [decide_eq_true_eq] at hb; omega
      simp [appOut, g1, g2, g3, h]
    · rename_i hb2 hb3
      have g3 : entOk (newE l tm k bs) = true := by simpa using hb2
      refine P0 _ _ (zero_ent _ _) (hk05.trans (Keep.put (Nat.le_succ _) _)) 2 ?_
      have h : 4611686018427387904 ≤ (lastE l).index := by simpa using hb
      simp [appOut, g1, g2, g3, h]
    · rename_i hb2 hb3
      have g3 : entOk (newE l tm k bs) = true := by simpa using hb2
      have g4 : ¬ 4096 ≤ l.l.length := by simp only [decide_eq_false_iff_not] at hb3; omega
      have g5 : ¬ 4611686018427387904 ≤ (lastE l).index := by simpa using hb
      have out : appOut l tm k bs = (⟨l.base, l.l ++ [newE l tm k bs]⟩, 0) := by simp [appOut, g1, g2, g3, g4, g5]
      rw [out] at hK
      refine copied_c (l := l) (D := D) (hk05.ok hf) (hI.keep hk05) ⟨d, w, rfl, hd.keep (keep_old hI hk05), hes.keep (keep_old hI hk05)⟩ hw fun v6 s6 ho6 hk6 => ?_
      obtain ⟨d6, w6, rfl, hd6, ho6⟩ := ho6
      have hk06 := hk05.then hk6
      have a6 : s5.next ≤ s6.next := hk6.next
      have f6 : s6.floor ≤ s.next := by rw [hk06.floor]; exact hf
      have f66 : s6.floor ≤ s6.next := hk06.ok hf
      have c1 : s.next < s5.next := by omega
      have c2 : s2.next < s5.next := by omega
      have c3 : s.next < s6.next := by omega
      have c4 : s2.next < s6.next := by omega
      have c5 : s.next + 1 < s6.next := by omega
      (repeat' (with_reducible first | refine W_seq ?_ | refine W_region ?_ | refine W_block ?_ | refine W_if ?_ | refine W_skip ?_ | refine W_ret ?_ | refine W_exit ?_ | (refine Cs_intro (fun hb => ?_) (fun hb => ?_) <;> (try simp only [hb])) | refine Ws_if ?_ | simp (maxDischargeDepth := 12) only [Ws_op, Ws_up, Ws_nil, Wp_call, Wp_mv, Wp_pick, Wp_new, Wp_box, Wp_build, Wp_lit, litV_zero, litV_succ, Wp_load, Wp_store, Wp_nilCheck, Wp_ibin, Wp_sbin, Wp_beq, Wp_un, Wp_conv, Wp_toStr, Wp_same, Wp_ifc, Wp_fn, Wp_cutS, Wp_cutT, Wp_cut3, Wp_fieldAddr, Wp_field, Wp_at, Wp_atT, Wp_ixA, Wp_atP, Wp_ext, Wp_len, P1_some, ibinA_int, sbinA_str, unA_not, unA_neg, convA_int, sameA_str, nilA_ptr, nilA_ref, nilA_fn, addrA_ptr, addrA_ref, lenA_nil, lenA_emp, lenA_sl, lenA_own, lenA_str, bdA_none, ev, putO, K2_some, K2_none, Seq_normal, Seq_exit, Seq_ret, Blk_normal, Blk_exit, Blk_ret, RK_normal, RK_ret, NX_normal, NX_exit, NX_ret, P1_K2, resultsA, resA, List.mapM_cons, List.mapM_nil, Option.bind_eq_bind, Option.bind_some, Option.pure_def, Env.get_set, intOp, Option.map_some, Option.map_none, asB_bool, asG_bool, asG_und, Cs_true, Cs_false, List.map_cons, List.map_nil, List.append_nil, List.nil_append, List.cons_append, ↓reduceIte, Nat.reduceEqDiff, reduceCtorEq, ne_eq, not_true_eq_false, not_false_eq_true, beq_self_eq_true, beq_true, beq_false, Int.reduceEq, Int.reduceNeg, decide_true, decide_false, Bool.not_true, Bool.not_false, Nat.reduceAdd, Bool.false_eq_true, Bool.not_eq_true, Env.start, Env.ofList, fill_one, one1_int, fill_none, mem_eta, load_floor, loadA_ptr, storeA_ptr, load_refA, Mem.get_push, Mem.get_put, next_push', floor_push', next_put', floor_put', put_push', putC_nil, putC_zero, putC_succ, s_ne1, s_ne2, Nat.le_refl, and_self, ne_s1, ne_s2, ne_s3, ne_s4, ne_s5, lt_s1, lt_s2, lt_s3, lt_s4, lt_s5, le_s1, ext_tup, parts_nil, parts_cons, fill_all, nat_ne, nat_ne', lt_ss, lt_s, old_refl, old_push, old_at, mat_push, mat_put, mat_at, mat_self, mat_get, mat_next, mat_floor, mat_load, mat_read, mat_str, slice1_one, slice1_next, slice1_none, slice1_more, pick_one, pick_agg, fieldA_agg, cells_agg, cells_int, cells_bool, cells_str, cells_nil, cells_own, cell_int, cell_bool, cell_str, cell_nil, cell_emp, cell_sl, cell_own, cell_ptr, cell_nilP,  List.length_cons, List.length_nil, List.all_cons, List.all_nil, Bool.and_true, Bool.true_and, Bool.and_self, List.getElem?_cons_zero, List.getElem?_cons_succ, List.set_cons_zero, Nat.reduceLeDiff, true_and, and_true, hk1.get, hk2.get, hk4.get, hk5.get, hk6.get, hc2, cells_cell hc2, a1, a4, b1, b2, b3, b4, b5, c1, c2, c3, c4, c5, f4, f6, f66, le_s1 f6, hd6.cell, ho6.cell]))
      have hp6 := ho6.to (s' := s6.put s.next (some ⟨28, 5, [[.int .u64 l.base.index, .int .u64 l.base.term, .int .i64 l.base.kind, d6, w6]]⟩)) (b' := s5.next) (fun q h1 h2 => by rw [Mem.get_put, if_neg (by omega)]) (Nat.le_refl _) (Nat.le_refl _) (Nat.le_refl _)
      obtain ⟨xs, hx, hxe⟩ := hp6
      have hxl := hxe.1
      have hn := hw.len
      refine app_lit (k := 1) (b := s5.next) (xs := xs) (show s6.floor ≤ s5.next by omega) a6 hx (by simp only [ev, Env.get_set, ↓reduceIte, Nat.reduceEqDiff]) (by simp only [ev, Env.get_set, ↓reduceIte, Nat.reduceEqDiff]; rfl) rfl rfl (room (by simp only [List.length_cons, List.length_nil]; omega) (by simp only [List.length_cons, List.length_nil]; omega)) ?_
      intro v7 s7 ho7 hx7 hr7 _
      have hk67 := hx7.keep (b := s5.next) a6 fun r i n z h => (hx.row r i n z h).1
      have hk07 : Keep s.next s s7 := (hk06.trans (Keep.put (Nat.le_refl _) _)).trans (hk67.le (by omega))
      have a7 : s6.next ≤ s7.next := hx7.next
      have f7 : s7.floor ≤ s.next := by rw [hk07.floor]; exact hf
      have d1 : s.next < s7.next := by omega
      have d2' : s.next + 1 < s7.next := by omega
      have d3 : s.next + 1 < s5.next := by omega
      have hc7 : isCell v7 = true := (ho7.sl (D := fun _ => True) (by
        intro c hc
        rcases List.mem_append.mp hc with hc | hc
        · exact hxe.sizes c hc
        · simp only [List.mem_singleton] at hc; subst hc; rfl) fun _ _ _ => trivial).cell
      (repeat' (with_reducible first | refine W_seq ?_ | refine W_region ?_ | refine W_block ?_ | refine W_if ?_ | refine W_skip ?_ | refine W_ret ?_ | refine W_exit ?_ | (refine Cs_intro (fun hb => ?_) (fun hb => ?_) <;> (try simp only [hb])) | refine Ws_if ?_ | simp (maxDischargeDepth := 12) only [Ws_op, Ws_up, Ws_nil, Wp_call, Wp_mv, Wp_pick, Wp_new, Wp_box, Wp_build, Wp_lit, litV_zero, litV_succ, Wp_load, Wp_store, Wp_nilCheck, Wp_ibin, Wp_sbin, Wp_beq, Wp_un, Wp_conv, Wp_toStr, Wp_same, Wp_ifc, Wp_fn, Wp_cutS, Wp_cutT, Wp_cut3, Wp_fieldAddr, Wp_field, Wp_at, Wp_atT, Wp_ixA, Wp_atP, Wp_ext, Wp_len, P1_some, ibinA_int, sbinA_str, unA_not, unA_neg, convA_int, sameA_str, nilA_ptr, nilA_ref, nilA_fn, addrA_ptr, addrA_ref, lenA_nil, lenA_emp, lenA_sl, lenA_own, lenA_str, bdA_none, ev, putO, K2_some, K2_none, Seq_normal, Seq_exit, Seq_ret, Blk_normal, Blk_exit, Blk_ret, RK_normal, RK_ret, NX_normal, NX_exit, NX_ret, P1_K2, resultsA, resA, List.mapM_cons, List.mapM_nil, Option.bind_eq_bind, Option.bind_some, Option.pure_def, Env.get_set, intOp, Option.map_some, Option.map_none, asB_bool, asG_bool, asG_und, Cs_true, Cs_false, List.map_cons, List.map_nil, List.append_nil, List.nil_append, List.cons_append, ↓reduceIte, Nat.reduceEqDiff, reduceCtorEq, ne_eq, not_true_eq_false, not_false_eq_true, beq_self_eq_true, beq_true, beq_false, Int.reduceEq, Int.reduceNeg, decide_true, decide_false, Bool.not_true, Bool.not_false, Nat.reduceAdd, Bool.false_eq_true, Bool.not_eq_true, Env.start, Env.ofList, fill_one, one1_int, fill_none, mem_eta, load_floor, loadA_ptr, storeA_ptr, load_refA, Mem.get_push, Mem.get_put, next_push', floor_push', next_put', floor_put', put_push', putC_nil, putC_zero, putC_succ, s_ne1, s_ne2, Nat.le_refl, and_self, ne_s1, ne_s2, ne_s3, ne_s4, ne_s5, lt_s1, lt_s2, lt_s3, lt_s4, lt_s5, le_s1, ext_tup, parts_nil, parts_cons, fill_all, nat_ne, nat_ne', lt_ss, lt_s, old_refl, old_push, old_at, mat_push, mat_put, mat_at, mat_self, mat_get, mat_next, mat_floor, mat_load, mat_read, mat_str, slice1_one, slice1_next, slice1_none, slice1_more, pick_one, pick_agg, fieldA_agg, cells_agg, cells_int, cells_bool, cells_str, cells_nil, cells_own, cell_int, cell_bool, cell_str, cell_nil, cell_emp, cell_sl, cell_own, cell_ptr, cell_nilP,  List.length_cons, List.length_nil, List.all_cons, List.all_nil, Bool.and_true, Bool.true_and, Bool.and_self, List.getElem?_cons_zero, List.getElem?_cons_succ, List.set_cons_zero, Nat.reduceLeDiff, true_and, and_true, hk1.get, hk2.get, hk4.get, hk5.get, hk6.get, hk67.get, hc2, cells_cell hc2, hc7, cells_cell hc7, hd6.cell, a1, a4, b1, b2, b3, b4, b5, c1, c2, c3, c4, c5, f4, f7, d1, d2', d3, le_s1 f7]))
      have e1 : ∀ q y z, s.next + 1 < q → (((s7.put s.next y).put (s.next + 1) z).get q) = s7.get q := fun q y z h => by rw [Mem.get_put, if_neg (by omega), Mem.get_put, if_neg (by omega)]
      have e2 : ∀ q, s5.next ≤ q → q < s6.next → (∀ i n z, w6 ≠ .own q i n z) → s7.get q = s6.get q := fun q h1 h2 h3 => by rw [hx7.get q h2 h3, Mem.get_put, if_neg (by omega)]
      refine hK _ _ ⟨d6, v7, rfl, ?_, xs ++ [[.int .u64 (IntKind.u64.wrap ((lastE l).index + 1)), .int .u64 tm, .int .i64 k, d2]], ?_, ?_⟩ ((hk07.trans (Keep.put (Nat.le_refl _) _)).trans (Keep.put (Nat.le_succ _) _))
      · refine (hd6.keep fun q hq => ?_).mono fun q hq => ?_
        · rw [e1 q _ _ (by omega), e2 q hq.1 hq.2.1 hq.2.2]
        · show q < s7.next; omega
      · refine ((ho7.sl (D := fun q => s5.next ≤ q ∧ q < s7.next) ?_ fun q n h => ho7.row q 0 n 4 h).keep fun q hq => ?_).mono fun q hq => ?_
        · intro c hc
          rcases List.mem_append.mp hc with hc | hc
          · exact hxe.sizes c hc
          · simp only [List.mem_singleton] at hc; subst hc; rfl
        · exact e1 q _ _ (by omega)
        · show q < s7.next; omega
      · refine EntsC.append ?_ (EntsC.one ⟨d2, rfl, ?_⟩)
        · refine (hxe.keep fun q hq => ?_).mono fun q hq => ?_
          · have h2 : q < s6.next := hq.2.1
            rw [e1 q _ _ (by omega), e2 q hq.1 h2 hq.2.2, Mem.get_put, if_neg (by omega)]
          · have h2 : q < s6.next := hq.2.1
            show q < s7.next; omega
        · refine ((ho2.sl (D := fun q => s1.next ≤ q ∧ q < s2.next) (byteC_len _) fun q n h => ho2.row q 0 n 1 h).keep fun q hq => ?_).mono fun q hq => ?_
          · rw [e1 q _ _ (by omega), hk67.get q (by omega), Mem.get_put, if_neg (by omega), hk6.get q (by omega), hk5.get q (by omega), hk4.get q (by simp only [next_push']; omega), Mem.get_push, if_neg (by omega)]
          · show q < s7.next; omega
end Go.Proofs.Ytfghbndlpppkcaa
