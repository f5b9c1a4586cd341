/- The term at an index. No statement of the seat is proved here. -/
import Derived.Test.YtfghbndlpppkcaaVLog7
namespace Go.Proofs.Ytfghbndlpppkcaa
open Go Go.VI
set_option linter.unusedSimpArgs false
attribute [local irreducible] Ws Wp W C
set_option maxHeartbeats 4000000

/-- Entries whose indexes follow on. -/
def Cons (b : Int) (es : List Entry) : Prop := ∀ (j : Nat) (e : Entry), es[j]? = some e → e.index = b + 1 + j
theorem beh_cons : ∀ (es : List Entry) (b t : Int), beh b t es = true → Cons b es := by
  intro es
  induction es with
  | nil => intro b t _ j e h; simp at h
  | cons x es ih =>
    intro b t h j e he
    simp only [beh, Bool.and_eq_true, decide_eq_true_eq] at h
    cases j with
    | zero => simp at he; subst he; rw [h.1.1.1]; simp
    | succ j =>
      have := ih _ _ h.2 j e (by simpa using he)
      rw [this, h.1.1.1]; push_cast; omega
theorem Cons.take {b : Int} {es : List Entry} (h : Cons b es) (k : Nat) : Cons b (es.take k) := by
  intro j e he
  rw [List.getElem?_take] at he
  split at he
  · exact h j e he
  · cases he
theorem Cons.snoc {b : Int} {es : List Entry} (h : Cons b es) {e : Entry} (he : e.index = b + 1 + es.length) : Cons b (es ++ [e]) := by
  intro j x hx
  by_cases hj : j < es.length
  · rw [List.getElem?_append_left hj] at hx; exact h j x hx
  · rw [List.getElem?_append_right (by omega)] at hx
    have : j - es.length = 0 := by
      cases hk : j - es.length with
      | zero => rfl
      | succ k => rw [hk] at hx; simp at hx
    rw [this] at hx
    obtain rfl := Option.some.inj (by simpa using hx)
    rw [he]; omega

def termO (b t : Int) (es : List Entry) (ix : Int) : Int × Bool :=
  if ix = b then (t, true) else match es.find? (fun e => decide (e.index = ix)) with
    | some e => (e.term, true)
    | none => (0, false)
theorem find_in {b : Int} : ∀ {es : List Entry} {j : Nat} {e : Entry}, Cons b es → es[j]? = some e → es.find? (fun x => decide (x.index = e.index)) = some e := by
  intro es j e hc hj
  have he := hc j e hj
  rw [List.find?_eq_some_iff_getElem]
  obtain ⟨hlt, hg⟩ := List.getElem?_eq_some_iff.mp hj
  refine ⟨by simp, j, hlt, hg, ?_⟩
  intro i hi
  have := hc i es[i] (List.getElem?_eq_getElem (by omega))
  simp; omega
theorem find_out {b ix : Int} {es : List Entry} (hc : Cons b es) (h : ix ≤ b ∨ b + es.length < ix) : es.find? (fun x => decide (x.index = ix)) = none := by
  rw [List.find?_eq_none]
  intro e he
  obtain ⟨j, hj⟩ := List.mem_iff_getElem?.mp he
  have := hc j e hj
  have hlt := (List.getElem?_eq_some_iff.mp hj).1
  simp; omega
theorem lastE_index {l : Log} (hc : Cons l.base.index l.l) : (lastE l).index = l.base.index + l.l.length := by
  rcases Nat.eq_zero_or_pos l.l.length with h0 | h0
  · rw [lastE_nil h0, h0]; simp
  · obtain ⟨x, hx⟩ := get_of (show l.l.length - 1 < l.l.length by omega)
    rw [lastE_of hx, hc _ x hx]; omega

theorem rterm_c {l : Log} {ix : Int} {D : Nat → Prop} {s : Mem} {v : AV} {K : AV → Mem → Prop} (_hf : s.floor ≤ s.next) (hI : In D s) (hv : LogV s D v l) (hn : Fit l.l.length)
    (hK : ∀ s', Keep s.next s s' → K (.tup [.int .u64 (termO l.base.index l.base.term l.l ix).1, .bool (termO l.base.index l.base.term l.l ix).2]) s') : C tab 23 [v, .int .u64 ix] s K := by
  obtain ⟨d, w, rfl, hd, hes⟩ := hv
  refine C_enter (cf := cf23) rfl (Nat.le_of_ble_eq_true rfl) ?_
  simp only [cf23]
  (repeat' (with_reducible first | refine W_seq ?_ | refine W_region ?_ | refine W_block ?_ | refine W_if ?_ | refine W_skip ?_ | refine W_ret ?_ | refine W_exit ?_ | (refine Cs_intro (fun hb => ?_) (fun hb => ?_) <;> (try simp only [hb])) | refine Ws_if ?_ | simp (maxDischargeDepth := 12) only [Ws_op, Ws_up, Ws_nil, Wp_call, Wp_mv, Wp_pick, Wp_new, Wp_box, Wp_build, Wp_lit, litV_zero, litV_succ, Wp_load, Wp_store, Wp_nilCheck, Wp_ibin, Wp_sbin, Wp_beq, Wp_un, Wp_conv, Wp_toStr, Wp_same, Wp_ifc, Wp_fn, Wp_cutS, Wp_cutT, Wp_cut3, Wp_fieldAddr, Wp_field, Wp_at, Wp_atT, Wp_ixA, Wp_atP, Wp_ext, Wp_len, P1_some, ibinA_int, sbinA_str, unA_not, unA_neg, convA_int, sameA_str, nilA_ptr, nilA_ref, nilA_fn, addrA_ptr, addrA_ref, lenA_nil, lenA_emp, lenA_sl, lenA_own, lenA_str, bdA_none, ev, putO, K2_some, K2_none, Seq_normal, Seq_exit, Seq_ret, Blk_normal, Blk_exit, Blk_ret, RK_normal, RK_ret, NX_normal, NX_exit, NX_ret, P1_K2, resultsA, resA, List.mapM_cons, List.mapM_nil, Option.bind_eq_bind, Option.bind_some, Option.pure_def, Env.get_set, intOp, Option.map_some, Option.map_none, asB_bool, asG_bool, asG_und, Cs_true, Cs_false, List.map_cons, List.map_nil, List.append_nil, List.nil_append, List.cons_append, ↓reduceIte, Nat.reduceEqDiff, reduceCtorEq, ne_eq, not_true_eq_false, not_false_eq_true, beq_self_eq_true, beq_true, beq_false, Int.reduceEq, Int.reduceNeg, decide_true, decide_false, Bool.not_true, Bool.not_false, Nat.reduceAdd, Bool.false_eq_true, Bool.not_eq_true, Env.start, Env.ofList, fill_one, one1_int, fill_none, mem_eta, load_floor, loadA_ptr, storeA_ptr, load_refA, Mem.get_push, Mem.get_put, next_push', floor_push', next_put', floor_put', put_push', putC_nil, putC_zero, putC_succ, s_ne1, s_ne2, Nat.le_refl, and_self, ne_s1, ne_s2, ne_s3, ne_s4, ne_s5, lt_s1, lt_s2, lt_s3, lt_s4, lt_s5, le_s1, ext_tup, parts_nil, parts_cons, fill_all, nat_ne, nat_ne', lt_ss, lt_s, old_refl, old_push, old_at, mat_push, mat_put, mat_at, mat_self, mat_get, mat_next, mat_floor, mat_load, mat_read, mat_str, slice1_one, slice1_next, slice1_none, slice1_more, pick_one, pick_agg, fieldA_agg, cells_agg, cells_int, cells_bool, cells_str, cells_nil, cells_own, cell_int, cell_bool, cell_str, cell_nil, cell_emp, cell_sl, cell_own, cell_ptr, cell_nilP,  List.length_cons, List.length_nil, List.all_cons, List.all_nil, Bool.and_true, Bool.true_and, Bool.and_self, List.getElem?_cons_zero, List.getElem?_cons_succ, List.set_cons_zero, Nat.reduceLeDiff, true_and, and_true, hd.cell, hes.cell]))
  · have h : ix = l.base.index := by simpa using hb
    simp only [termO, h, if_true] at hK
    exact hK _ (pushes _ _)
  · have h : ¬ ix = l.base.index := by simpa using hb
    simp only [termO, if_neg h] at hK
    refine W_inv l.l.length (fun i e s' => Keep s.next s s' ∧ s'.get s.next = some ⟨28, 5, [[.int .u64 l.base.index, .int .u64 l.base.term, .int .i64 l.base.kind, d, w]]⟩ ∧ e.get 1 = .int .u64 ix ∧ e.get 2 = .ptr s.next 0 0 ∧ e.get 6 = .int .i64 i ∧ l.l.find? (fun e => decide (e.index = ix)) = (l.l.drop i).find? (fun e => decide (e.index = ix))) (by delta cf23l0; exact rfl) ?_ ?_
    · (repeat' (with_reducible first | refine W_seq ?_ | refine W_region ?_ | refine W_block ?_ | refine W_if ?_ | refine W_skip ?_ | refine W_ret ?_ | refine W_exit ?_ | (refine Cs_intro (fun hb => ?_) (fun hb => ?_) <;> (try simp only [hb])) | refine Ws_if ?_ | simp (maxDischargeDepth := 12) only [Ws_op, Ws_up, Ws_nil, Wp_call, Wp_mv, Wp_pick, Wp_new, Wp_box, Wp_build, Wp_lit, litV_zero, litV_succ, Wp_load, Wp_store, Wp_nilCheck, Wp_ibin, Wp_sbin, Wp_beq, Wp_un, Wp_conv, Wp_toStr, Wp_same, Wp_ifc, Wp_fn, Wp_cutS, Wp_cutT, Wp_cut3, Wp_fieldAddr, Wp_field, Wp_at, Wp_atT, Wp_ixA, Wp_atP, Wp_ext, Wp_len, P1_some, ibinA_int, sbinA_str, unA_not, unA_neg, convA_int, sameA_str, nilA_ptr, nilA_ref, nilA_fn, addrA_ptr, addrA_ref, lenA_nil, lenA_emp, lenA_sl, lenA_own, lenA_str, bdA_none, ev, putO, K2_some, K2_none, Seq_normal, Seq_exit, Seq_ret, Blk_normal, Blk_exit, Blk_ret, RK_normal, RK_ret, NX_normal, NX_exit, NX_ret, P1_K2, resultsA, resA, List.mapM_cons, List.mapM_nil, Option.bind_eq_bind, Option.bind_some, Option.pure_def, Env.get_set, intOp, Option.map_some, Option.map_none, asB_bool, asG_bool, asG_und, Cs_true, Cs_false, List.map_cons, List.map_nil, List.append_nil, List.nil_append, List.cons_append, ↓reduceIte, Nat.reduceEqDiff, reduceCtorEq, ne_eq, not_true_eq_false, not_false_eq_true, beq_self_eq_true, beq_true, beq_false, Int.reduceEq, Int.reduceNeg, decide_true, decide_false, Bool.not_true, Bool.not_false, Nat.reduceAdd, Bool.false_eq_true, Bool.not_eq_true, Env.start, Env.ofList, fill_one, one1_int, fill_none, mem_eta, load_floor, loadA_ptr, storeA_ptr, load_refA, Mem.get_push, Mem.get_put, next_push', floor_push', next_put', floor_put', put_push', putC_nil, putC_zero, putC_succ, s_ne1, s_ne2, Nat.le_refl, and_self, ne_s1, ne_s2, ne_s3, ne_s4, ne_s5, lt_s1, lt_s2, lt_s3, lt_s4, lt_s5, le_s1, ext_tup, parts_nil, parts_cons, fill_all, nat_ne, nat_ne', lt_ss, lt_s, old_refl, old_push, old_at, mat_push, mat_put, mat_at, mat_self, mat_get, mat_next, mat_floor, mat_load, mat_read, mat_str, slice1_one, slice1_next, slice1_none, slice1_more, pick_one, pick_agg, fieldA_agg, cells_agg, cells_int, cells_bool, cells_str, cells_nil, cells_own, cell_int, cell_bool, cell_str, cell_nil, cell_emp, cell_sl, cell_own, cell_ptr, cell_nilP,  List.length_cons, List.length_nil, List.all_cons, List.all_nil, Bool.and_true, Bool.true_and, Bool.and_self, List.getElem?_cons_zero, List.getElem?_cons_succ, List.set_cons_zero, Nat.reduceLeDiff, true_and, and_true]))
      first | rfl | exact ⟨rfl, rfl⟩
    · rintro i e s' hi _ ⟨hk, hg, h1, h2, h6, hfd⟩
      have hes' := hes.keep (keep_old hI hk)
      by_cases hlt : i < l.l.length
      · obtain ⟨x, hx⟩ := get_of hlt
        obtain ⟨d', p, hp, P, hd'⟩ := hes'.atk (hI.keep hk) hx
        rw [drop_cons hx, List.find?_cons] at hfd
        (repeat' (with_reducible first | refine W_seq ?_ | refine W_region ?_ | refine W_block ?_ | refine W_if ?_ | refine W_skip ?_ | refine W_ret ?_ | refine W_exit ?_ | (refine Cs_intro (fun hb => ?_) (fun hb => ?_) <;> (try simp only [hb])) | refine Ws_if ?_ | simp (maxDischargeDepth := 12) only [Ws_op, Ws_up, Ws_nil, Wp_call, Wp_mv, Wp_pick, Wp_new, Wp_box, Wp_build, Wp_lit, litV_zero, litV_succ, Wp_load, Wp_store, Wp_nilCheck, Wp_ibin, Wp_sbin, Wp_beq, Wp_un, Wp_conv, Wp_toStr, Wp_same, Wp_ifc, Wp_fn, Wp_cutS, Wp_cutT, Wp_cut3, Wp_fieldAddr, Wp_field, Wp_at, Wp_atT, Wp_ixA, Wp_atP, Wp_ext, Wp_len, P1_some, ibinA_int, sbinA_str, unA_not, unA_neg, convA_int, sameA_str, nilA_ptr, nilA_ref, nilA_fn, addrA_ptr, addrA_ref, lenA_nil, lenA_emp, lenA_sl, lenA_own, lenA_str, bdA_none, ev, putO, K2_some, K2_none, Seq_normal, Seq_exit, Seq_ret, Blk_normal, Blk_exit, Blk_ret, RK_normal, RK_ret, NX_normal, NX_exit, NX_ret, P1_K2, resultsA, resA, List.mapM_cons, List.mapM_nil, Option.bind_eq_bind, Option.bind_some, Option.pure_def, Env.get_set, intOp, Option.map_some, Option.map_none, asB_bool, asG_bool, asG_und, Cs_true, Cs_false, List.map_cons, List.map_nil, List.append_nil, List.nil_append, List.cons_append, ↓reduceIte, Nat.reduceEqDiff, reduceCtorEq, ne_eq, not_true_eq_false, not_false_eq_true, beq_self_eq_true, beq_true, beq_false, Int.reduceEq, Int.reduceNeg, decide_true, decide_false, Bool.not_true, Bool.not_false, Nat.reduceAdd, Bool.false_eq_true, Bool.not_eq_true, Env.start, Env.ofList, fill_one, one1_int, fill_none, mem_eta, load_floor, loadA_ptr, storeA_ptr, load_refA, Mem.get_push, Mem.get_put, next_push', floor_push', next_put', floor_put', put_push', putC_nil, putC_zero, putC_succ, s_ne1, s_ne2, Nat.le_refl, and_self, ne_s1, ne_s2, ne_s3, ne_s4, ne_s5, lt_s1, lt_s2, lt_s3, lt_s4, lt_s5, le_s1, ext_tup, parts_nil, parts_cons, fill_all, nat_ne, nat_ne', lt_ss, lt_s, old_refl, old_push, old_at, mat_push, mat_put, mat_at, mat_self, mat_get, mat_next, mat_floor, mat_load, mat_read, mat_str, slice1_one, slice1_next, slice1_none, slice1_more, pick_one, pick_agg, fieldA_agg, cells_agg, cells_int, cells_bool, cells_str, cells_nil, cells_own, cell_int, cell_bool, cell_str, cell_nil, cell_emp, cell_sl, cell_own, cell_ptr, cell_nilP,  List.length_cons, List.length_nil, List.all_cons, List.all_nil, Bool.and_true, Bool.true_and, Bool.and_self, List.getElem?_cons_zero, List.getElem?_cons_succ, List.set_cons_zero, Nat.reduceLeDiff, true_and, and_true, h1, h2, h6, hg, hes.len, lt_true hlt, hp, P.adr, P.ldf, Nat.le_refl, Nat.zero_le]))
        · have h : x.index = ix := by simpa using hb
          simp only [h, decide_true] at hfd
          rw [hfd] at hK
          exact hK _ hk
        · have h : ¬ x.index = ix := by simpa using hb
          simp only [decide_eq_false h] at hfd
          exact ⟨hlt, hk, succ_av (by omega), hfd⟩
      · (repeat' (with_reducible first | refine W_seq ?_ | refine W_region ?_ | refine W_block ?_ | refine W_if ?_ | refine W_skip ?_ | refine W_ret ?_ | refine W_exit ?_ | (refine Cs_intro (fun hb => ?_) (fun hb => ?_) <;> (try simp only [hb])) | refine Ws_if ?_ | simp (maxDischargeDepth := 12) only [Ws_op, Ws_up, Ws_nil, Wp_call, Wp_mv, Wp_pick, Wp_new, Wp_box, Wp_build, Wp_lit, litV_zero, litV_succ, Wp_load, Wp_store, Wp_nilCheck, Wp_ibin, Wp_sbin, Wp_beq, Wp_un, Wp_conv, Wp_toStr, Wp_same, Wp_ifc, Wp_fn, Wp_cutS, Wp_cutT, Wp_cut3, Wp_fieldAddr, Wp_field, Wp_at, Wp_atT, Wp_ixA, Wp_atP, Wp_ext, Wp_len, P1_some, ibinA_int, sbinA_str, unA_not, unA_neg, convA_int, sameA_str, nilA_ptr, nilA_ref, nilA_fn, addrA_ptr, addrA_ref, lenA_nil, lenA_emp, lenA_sl, lenA_own, lenA_str, bdA_none, ev, putO, K2_some, K2_none, Seq_normal, Seq_exit, Seq_ret, Blk_normal, Blk_exit, Blk_ret, RK_normal, RK_ret, NX_normal, NX_exit, NX_ret, P1_K2, resultsA, resA, List.mapM_cons, List.mapM_nil, Option.bind_eq_bind, Option.bind_some, Option.pure_def, Env.get_set, intOp, Option.map_some, Option.map_none, asB_bool, asG_bool, asG_und, Cs_true, Cs_false, List.map_cons, List.map_nil, List.append_nil, List.nil_append, List.cons_append, ↓reduceIte, Nat.reduceEqDiff, reduceCtorEq, ne_eq, not_true_eq_false, not_false_eq_true, beq_self_eq_true, beq_true, beq_false, Int.reduceEq, Int.reduceNeg, decide_true, decide_false, Bool.not_true, Bool.not_false, Nat.reduceAdd, Bool.false_eq_true, Bool.not_eq_true, Env.start, Env.ofList, fill_one, one1_int, fill_none, mem_eta, load_floor, loadA_ptr, storeA_ptr, load_refA, Mem.get_push, Mem.get_put, next_push', floor_push', next_put', floor_put', put_push', putC_nil, putC_zero, putC_succ, s_ne1, s_ne2, Nat.le_refl, and_self, ne_s1, ne_s2, ne_s3, ne_s4, ne_s5, lt_s1, lt_s2, lt_s3, lt_s4, lt_s5, le_s1, ext_tup, parts_nil, parts_cons, fill_all, nat_ne, nat_ne', lt_ss, lt_s, old_refl, old_push, old_at, mat_push, mat_put, mat_at, mat_self, mat_get, mat_next, mat_floor, mat_load, mat_read, mat_str, slice1_one, slice1_next, slice1_none, slice1_more, pick_one, pick_agg, fieldA_agg, cells_agg, cells_int, cells_bool, cells_str, cells_nil, cells_own, cell_int, cell_bool, cell_str, cell_nil, cell_emp, cell_sl, cell_own, cell_ptr, cell_nilP,  List.length_cons, List.length_nil, List.all_cons, List.all_nil, Bool.and_true, Bool.true_and, Bool.and_self, List.getElem?_cons_zero, List.getElem?_cons_succ, List.set_cons_zero, Nat.reduceLeDiff, true_and, and_true, h1, h2, h6, hg, hes.len, lt_false hlt]))
        rw [drop_end hlt] at hfd
        simp only [List.find?_nil] at hfd
        rw [hfd] at hK
        exact hK _ hk

theorem term_c {l : Log} {ix : Int} {D : Nat → Prop} {s : Mem} {v : AV} {K : AV → Mem → Prop} (hf : s.floor ≤ s.next) (hI : In D s) (hv : LogV s D v l) (hw : l.Wf) (hc : Cons l.base.index l.l) (_hb : l.base.index ≤ 4611686018427387904) (hix : 0 ≤ ix ∧ ix ≤ 18446744073709551615)
    (hK : ∀ s', Keep s.next s s' → K (.tup [.int .u64 (termO l.base.index l.base.term l.l ix).1, .bool (termO l.base.index l.base.term l.l ix).2]) s') : C tab 19 [v, .int .u64 ix] s K := by
  obtain ⟨d, w, rfl, hd, hes⟩ := hv
  have hn := hw.len
  have hbi := hw.base.index
  have hl := lastE_index hc
  refine C_enter (cf := cf19) rfl (Nat.le_of_ble_eq_true rfl) ?_
  simp only [cf19]
  (repeat' (with_reducible first | refine W_seq ?_ | refine W_region ?_ | refine W_block ?_ | refine W_if ?_ | refine W_skip ?_ | refine W_ret ?_ | refine W_exit ?_ | (refine Cs_intro (fun hb => ?_) (fun hb => ?_) <;> (try simp only [hb])) | refine Ws_if ?_ | simp (maxDischargeDepth := 12) only [Ws_op, Ws_up, Ws_nil, Wp_call, Wp_mv, Wp_pick, Wp_new, Wp_box, Wp_build, Wp_lit, litV_zero, litV_succ, Wp_load, Wp_store, Wp_nilCheck, Wp_ibin, Wp_sbin, Wp_beq, Wp_un, Wp_conv, Wp_toStr, Wp_same, Wp_ifc, Wp_fn, Wp_cutS, Wp_cutT, Wp_cut3, Wp_fieldAddr, Wp_field, Wp_at, Wp_atT, Wp_ixA, Wp_atP, Wp_ext, Wp_len, P1_some, ibinA_int, sbinA_str, unA_not, unA_neg, convA_int, sameA_str, nilA_ptr, nilA_ref, nilA_fn, addrA_ptr, addrA_ref, lenA_nil, lenA_emp, lenA_sl, lenA_own, lenA_str, bdA_none, ev, putO, K2_some, K2_none, Seq_normal, Seq_exit, Seq_ret, Blk_normal, Blk_exit, Blk_ret, RK_normal, RK_ret, NX_normal, NX_exit, NX_ret, P1_K2, resultsA, resA, List.mapM_cons, List.mapM_nil, Option.bind_eq_bind, Option.bind_some, Option.pure_def, Env.get_set, intOp, Option.map_some, Option.map_none, asB_bool, asG_bool, asG_und, Cs_true, Cs_false, List.map_cons, List.map_nil, List.append_nil, List.nil_append, List.cons_append, ↓reduceIte, Nat.reduceEqDiff, reduceCtorEq, ne_eq, not_true_eq_false, not_false_eq_true, beq_self_eq_true, beq_true, beq_false, Int.reduceEq, Int.reduceNeg, decide_true, decide_false, Bool.not_true, Bool.not_false, Nat.reduceAdd, Bool.false_eq_true, Bool.not_eq_true, Env.start, Env.ofList, fill_one, one1_int, fill_none, mem_eta, load_floor, loadA_ptr, storeA_ptr, load_refA, Mem.get_push, Mem.get_put, next_push', floor_push', next_put', floor_put', put_push', putC_nil, putC_zero, putC_succ, s_ne1, s_ne2, Nat.le_refl, and_self, ne_s1, ne_s2, ne_s3, ne_s4, ne_s5, lt_s1, lt_s2, lt_s3, lt_s4, lt_s5, le_s1, ext_tup, parts_nil, parts_cons, fill_all, nat_ne, nat_ne', lt_ss, lt_s, old_refl, old_push, old_at, mat_push, mat_put, mat_at, mat_self, mat_get, mat_next, mat_floor, mat_load, mat_read, mat_str, slice1_one, slice1_next, slice1_none, slice1_more, pick_one, pick_agg, fieldA_agg, cells_agg, cells_int, cells_bool, cells_str, cells_nil, cells_own, cell_int, cell_bool, cell_str, cell_nil, cell_emp, cell_sl, cell_own, cell_ptr, cell_nilP,  List.length_cons, List.length_nil, List.all_cons, List.all_nil, Bool.and_true, Bool.true_and, Bool.and_self, List.getElem?_cons_zero, List.getElem?_cons_succ, List.set_cons_zero, Nat.reduceLeDiff, true_and, and_true, hd.cell, hes.cell, hf]))
  have hk0 := pushes s ⟨28, 5, [[.int .u64 l.base.index, .int .u64 l.base.term, .int .i64 l.base.kind, d, w]]⟩
  refine last_c (l := l) (D := D) (hk0.ok hf) (hI.keep hk0) ⟨d, w, rfl, hd.keep (keep_old hI hk0), hes.keep (keep_old hI hk0)⟩ hw fun s1 hk1 => ?_
  have hk01 := hk0.then hk1
  have a1 : s.next < s1.next := hk1.next
  have out : ix < l.base.index ∨ (lastE l).index < ix → termO l.base.index l.base.term l.l ix = (0, false) := by
    intro h
    rw [hl] at h
    simp only [termO]
    rw [if_neg (by omega), find_out hc (by omega)]
  have w0 : IntKind.u64.wrap (l.l.length : Int) = l.l.length := wrap_u64 (by omega)
  have hes1 := hes.keep (keep_old hI hk01)
  by_cases hin : l.base.index < ix ∧ ix ≤ l.base.index + l.l.length
  · obtain ⟨j, hj⟩ : ∃ j : Nat, ix = l.base.index + 1 + j := ⟨(ix - l.base.index - 1).toNat, by omega⟩
    obtain ⟨x, hx⟩ := get_of (l := l.l) (i := j) (by omega)
    obtain ⟨d', p, hp, P, hd'⟩ := hes1.atk (hI.keep hk01) hx
    have hxi := hc j x hx
    have w1 : IntKind.u64.wrap (ix - l.base.index) = ix - l.base.index := wrap_u64 (by omega)
    have w2 : IntKind.u64.wrap (ix - l.base.index - 1) = (j : Int) := by rw [wrap_u64 (by omega)]; omega
    have c1 : decide (ix < l.base.index) = false := by simp; omega
    have c2 : decide (ix > (lastE l).index) = false := by simp [hl]; omega
    have c3 : decide (ix - l.base.index > (l.l.length : Int)) = false := by simp; omega
    have c4 : (ix == l.base.index) = false := by simp; omega
    have ht : termO l.base.index l.base.term l.l ix = (x.term, true) := by
      simp only [termO]
      rw [if_neg (by omega), show ix = x.index by omega, find_in hc hx]
    rw [ht] at hK
    (repeat' (with_reducible first | refine W_seq ?_ | refine W_region ?_ | refine W_block ?_ | refine W_if ?_ | refine W_skip ?_ | refine W_ret ?_ | refine W_exit ?_ | (refine Cs_intro (fun hb => ?_) (fun hb => ?_) <;> (try simp only [hb])) | refine Ws_if ?_ | simp (maxDischargeDepth := 12) only [Ws_op, Ws_up, Ws_nil, Wp_call, Wp_mv, Wp_pick, Wp_new, Wp_box, Wp_build, Wp_lit, litV_zero, litV_succ, Wp_load, Wp_store, Wp_nilCheck, Wp_ibin, Wp_sbin, Wp_beq, Wp_un, Wp_conv, Wp_toStr, Wp_same, Wp_ifc, Wp_fn, Wp_cutS, Wp_cutT, Wp_cut3, Wp_fieldAddr, Wp_field, Wp_at, Wp_atT, Wp_ixA, Wp_atP, Wp_ext, Wp_len, P1_some, ibinA_int, sbinA_str, unA_not, unA_neg, convA_int, sameA_str, nilA_ptr, nilA_ref, nilA_fn, addrA_ptr, addrA_ref, lenA_nil, lenA_emp, lenA_sl, lenA_own, lenA_str, bdA_none, ev, putO, K2_some, K2_none, Seq_normal, Seq_exit, Seq_ret, Blk_normal, Blk_exit, Blk_ret, RK_normal, RK_ret, NX_normal, NX_exit, NX_ret, P1_K2, resultsA, resA, List.mapM_cons, List.mapM_nil, Option.bind_eq_bind, Option.bind_some, Option.pure_def, Env.get_set, intOp, Option.map_some, Option.map_none, asB_bool, asG_bool, asG_und, Cs_true, Cs_false, List.map_cons, List.map_nil, List.append_nil, List.nil_append, List.cons_append, ↓reduceIte, Nat.reduceEqDiff, reduceCtorEq, ne_eq, not_true_eq_false, not_false_eq_true, beq_self_eq_true, beq_true, beq_false, Int.reduceEq, Int.reduceNeg, decide_true, decide_false, Bool.not_true, Bool.not_false, Nat.reduceAdd, Bool.false_eq_true, Bool.not_eq_true, Env.start, Env.ofList, fill_one, one1_int, fill_none, mem_eta, load_floor, loadA_ptr, storeA_ptr, load_refA, Mem.get_push, Mem.get_put, next_push', floor_push', next_put', floor_put', put_push', putC_nil, putC_zero, putC_succ, s_ne1, s_ne2, Nat.le_refl, and_self, ne_s1, ne_s2, ne_s3, ne_s4, ne_s5, lt_s1, lt_s2, lt_s3, lt_s4, lt_s5, le_s1, ext_tup, parts_nil, parts_cons, fill_all, nat_ne, nat_ne', lt_ss, lt_s, old_refl, old_push, old_at, mat_push, mat_put, mat_at, mat_self, mat_get, mat_next, mat_floor, mat_load, mat_read, mat_str, slice1_one, slice1_next, slice1_none, slice1_more, pick_one, pick_agg, fieldA_agg, cells_agg, cells_int, cells_bool, cells_str, cells_nil, cells_own, cell_int, cell_bool, cell_str, cell_nil, cell_emp, cell_sl, cell_own, cell_ptr, cell_nilP,  List.length_cons, List.length_nil, List.all_cons, List.all_nil, Bool.and_true, Bool.true_and, Bool.and_self, List.getElem?_cons_zero, List.getElem?_cons_succ, List.set_cons_zero, Nat.reduceLeDiff, true_and, and_true, hk1.get, a1, hes1.len, w0, w1, w2, c1, c2, c3, c4, hp, P.adr, P.ldf, Nat.le_refl, Nat.zero_le]))
    exact hK _ hk01
  · by_cases heq : ix = l.base.index
    · subst heq
      have w1 : IntKind.u64.wrap (l.base.index - l.base.index) = 0 := by rw [wrap_u64 (by omega)]; omega
      have c1 : decide (l.base.index < l.base.index) = false := by simp
      have c2 : decide (l.base.index > (lastE l).index) = false := by simp [hl]; omega
      have c3 : decide ((0 : Int) > (l.l.length : Int)) = false := by simp
      simp only [termO, if_true] at hK
      (repeat' (with_reducible first | refine W_seq ?_ | refine W_region ?_ | refine W_block ?_ | refine W_if ?_ | refine W_skip ?_ | refine W_ret ?_ | refine W_exit ?_ | (refine Cs_intro (fun hb => ?_) (fun hb => ?_) <;> (try simp only [hb])) | refine Ws_if ?_ | simp (maxDischargeDepth := 12) only [Ws_op, Ws_up, Ws_nil, Wp_call, Wp_mv, Wp_pick, Wp_new, Wp_box, Wp_build, Wp_lit, litV_zero, litV_succ, Wp_load, Wp_store, Wp_nilCheck, Wp_ibin, Wp_sbin, Wp_beq, Wp_un, Wp_conv, Wp_toStr, Wp_same, Wp_ifc, Wp_fn, Wp_cutS, Wp_cutT, Wp_cut3, Wp_fieldAddr, Wp_field, Wp_at, Wp_atT, Wp_ixA, Wp_atP, Wp_ext, Wp_len, P1_some, ibinA_int, sbinA_str, unA_not, unA_neg, convA_int, sameA_str, nilA_ptr, nilA_ref, nilA_fn, addrA_ptr, addrA_ref, lenA_nil, lenA_emp, lenA_sl, lenA_own, lenA_str, bdA_none, ev, putO, K2_some, K2_none, Seq_normal, Seq_exit, Seq_ret, Blk_normal, Blk_exit, Blk_ret, RK_normal, RK_ret, NX_normal, NX_exit, NX_ret, P1_K2, resultsA, resA, List.mapM_cons, List.mapM_nil, Option.bind_eq_bind, Option.bind_some, Option.pure_def, Env.get_set, intOp, Option.map_some, Option.map_none, asB_bool, asG_bool, asG_und, Cs_true, Cs_false, List.map_cons, List.map_nil, List.append_nil, List.nil_append, List.cons_append, ↓reduceIte, Nat.reduceEqDiff, reduceCtorEq, ne_eq, not_true_eq_false, not_false_eq_true, beq_self_eq_true, beq_true, beq_false, Int.reduceEq, Int.reduceNeg, decide_true, decide_false, Bool.not_true, Bool.not_false, Nat.reduceAdd, Bool.false_eq_true, Bool.not_eq_true, Env.start, Env.ofList, fill_one, one1_int, fill_none, mem_eta, load_floor, loadA_ptr, storeA_ptr, load_refA, Mem.get_push, Mem.get_put, next_push', floor_push', next_put', floor_put', put_push', putC_nil, putC_zero, putC_succ, s_ne1, s_ne2, Nat.le_refl, and_self, ne_s1, ne_s2, ne_s3, ne_s4, ne_s5, lt_s1, lt_s2, lt_s3, lt_s4, lt_s5, le_s1, ext_tup, parts_nil, parts_cons, fill_all, nat_ne, nat_ne', lt_ss, lt_s, old_refl, old_push, old_at, mat_push, mat_put, mat_at, mat_self, mat_get, mat_next, mat_floor, mat_load, mat_read, mat_str, slice1_one, slice1_next, slice1_none, slice1_more, pick_one, pick_agg, fieldA_agg, cells_agg, cells_int, cells_bool, cells_str, cells_nil, cells_own, cell_int, cell_bool, cell_str, cell_nil, cell_emp, cell_sl, cell_own, cell_ptr, cell_nilP,  List.length_cons, List.length_nil, List.all_cons, List.all_nil, Bool.and_true, Bool.true_and, Bool.and_self, List.getElem?_cons_zero, List.getElem?_cons_succ, List.set_cons_zero, Nat.reduceLeDiff, true_and, and_true, hk1.get, a1, hes1.len, w0, w1, c1, c2, c3, beq_self_eq_true]))
      exact hK _ hk01
    · have ht := out (by omega)
      rw [ht] at hK
      by_cases hlow : ix < l.base.index
      · have c1 : decide (ix < l.base.index) = true := by simp [hlow]
        (repeat' (with_reducible first | refine W_seq ?_ | refine W_region ?_ | refine W_block ?_ | refine W_if ?_ | refine W_skip ?_ | refine W_ret ?_ | refine W_exit ?_ | (refine Cs_intro (fun hb => ?_) (fun hb => ?_) <;> (try simp only [hb])) | refine Ws_if ?_ | simp (maxDischargeDepth := 12) only [Ws_op, Ws_up, Ws_nil, Wp_call, Wp_mv, Wp_pick, Wp_new, Wp_box, Wp_build, Wp_lit, litV_zero, litV_succ, Wp_load, Wp_store, Wp_nilCheck, Wp_ibin, Wp_sbin, Wp_beq, Wp_un, Wp_conv, Wp_toStr, Wp_same, Wp_ifc, Wp_fn, Wp_cutS, Wp_cutT, Wp_cut3, Wp_fieldAddr, Wp_field, Wp_at, Wp_atT, Wp_ixA, Wp_atP, Wp_ext, Wp_len, P1_some, ibinA_int, sbinA_str, unA_not, unA_neg, convA_int, sameA_str, nilA_ptr, nilA_ref, nilA_fn, addrA_ptr, addrA_ref, lenA_nil, lenA_emp, lenA_sl, lenA_own, lenA_str, bdA_none, ev, putO, K2_some, K2_none, Seq_normal, Seq_exit, Seq_ret, Blk_normal, Blk_exit, Blk_ret, RK_normal, RK_ret, NX_normal, NX_exit, NX_ret, P1_K2, resultsA, resA, List.mapM_cons, List.mapM_nil, Option.bind_eq_bind, Option.bind_some, Option.pure_def, Env.get_set, intOp, Option.map_some, Option.map_none, asB_bool, asG_bool, asG_und, Cs_true, Cs_false, List.map_cons, List.map_nil, List.append_nil, List.nil_append, List.cons_append, ↓reduceIte, Nat.reduceEqDiff, reduceCtorEq, ne_eq, not_true_eq_false, not_false_eq_true, beq_self_eq_true, beq_true, beq_false, Int.reduceEq, Int.reduceNeg, decide_true, decide_false, Bool.not_true, Bool.not_false, Nat.reduceAdd, Bool.false_eq_true, Bool.not_eq_true, Env.start, Env.ofList, fill_one, one1_int, fill_none, mem_eta, load_floor, loadA_ptr, storeA_ptr, load_refA, Mem.get_push, Mem.get_put, next_push', floor_push', next_put', floor_put', put_push', putC_nil, putC_zero, putC_succ, s_ne1, s_ne2, Nat.le_refl, and_self, ne_s1, ne_s2, ne_s3, ne_s4, ne_s5, lt_s1, lt_s2, lt_s3, lt_s4, lt_s5, le_s1, ext_tup, parts_nil, parts_cons, fill_all, nat_ne, nat_ne', lt_ss, lt_s, old_refl, old_push, old_at, mat_push, mat_put, mat_at, mat_self, mat_get, mat_next, mat_floor, mat_load, mat_read, mat_str, slice1_one, slice1_next, slice1_none, slice1_more, pick_one, pick_agg, fieldA_agg, cells_agg, cells_int, cells_bool, cells_str, cells_nil, cells_own, cell_int, cell_bool, cell_str, cell_nil, cell_emp, cell_sl, cell_own, cell_ptr, cell_nilP,  List.length_cons, List.length_nil, List.all_cons, List.all_nil, Bool.and_true, Bool.true_and, Bool.and_self, List.getElem?_cons_zero, List.getElem?_cons_succ, List.set_cons_zero, Nat.reduceLeDiff, true_and, and_true, hk1.get, a1, hes1.len, w0, c1]))
        exact hK _ hk01
      · have c1 : decide (ix < l.base.index) = false := by simp [hlow]
        have c2 : decide (ix > (lastE l).index) = true := by simp [hl]; omega
        (repeat' (with_reducible first | refine W_seq ?_ | refine W_region ?_ | refine W_block ?_ | refine W_if ?_ | refine W_skip ?_ | refine W_ret ?_ | refine W_exit ?_ | (refine Cs_intro (fun hb => ?_) (fun hb => ?_) <;> (try simp only [hb])) | refine Ws_if ?_ | simp (maxDischargeDepth := 12) only [Ws_op, Ws_up, Ws_nil, Wp_call, Wp_mv, Wp_pick, Wp_new, Wp_box, Wp_build, Wp_lit, litV_zero, litV_succ, Wp_load, Wp_store, Wp_nilCheck, Wp_ibin, Wp_sbin, Wp_beq, Wp_un, Wp_conv, Wp_toStr, Wp_same, Wp_ifc, Wp_fn, Wp_cutS, Wp_cutT, Wp_cut3, Wp_fieldAddr, Wp_field, Wp_at, Wp_atT, Wp_ixA, Wp_atP, Wp_ext, Wp_len, P1_some, ibinA_int, sbinA_str, unA_not, unA_neg, convA_int, sameA_str, nilA_ptr, nilA_ref, nilA_fn, addrA_ptr, addrA_ref, lenA_nil, lenA_emp, lenA_sl, lenA_own, lenA_str, bdA_none, ev, putO, K2_some, K2_none, Seq_normal, Seq_exit, Seq_ret, Blk_normal, Blk_exit, Blk_ret, RK_normal, RK_ret, NX_normal, NX_exit, NX_ret, P1_K2, resultsA, resA, List.mapM_cons, List.mapM_nil, Option.bind_eq_bind, Option.bind_some, Option.pure_def, Env.get_set, intOp, Option.map_some, Option.map_none, asB_bool, asG_bool, asG_und, Cs_true, Cs_false, List.map_cons, List.map_nil, List.append_nil, List.nil_append, List.cons_append, ↓reduceIte, Nat.reduceEqDiff, reduceCtorEq, ne_eq, not_true_eq_false, not_false_eq_true, beq_self_eq_true, beq_true, beq_false, Int.reduceEq, Int.reduceNeg, decide_true, decide_false, Bool.not_true, Bool.not_false, Nat.reduceAdd, Bool.false_eq_true, Bool.not_eq_true, Env.start, Env.ofList, fill_one, one1_int, fill_none, mem_eta, load_floor, loadA_ptr, storeA_ptr, load_refA, Mem.get_push, Mem.get_put, next_push', floor_push', next_put', floor_put', put_push', putC_nil, putC_zero, putC_succ, s_ne1, s_ne2, Nat.le_refl, and_self, ne_s1, ne_s2, ne_s3, ne_s4, ne_s5, lt_s1, lt_s2, lt_s3, lt_s4, lt_s5, le_s1, ext_tup, parts_nil, parts_cons, fill_all, nat_ne, nat_ne', lt_ss, lt_s, old_refl, old_push, old_at, mat_push, mat_put, mat_at, mat_self, mat_get, mat_next, mat_floor, mat_load, mat_read, mat_str, slice1_one, slice1_next, slice1_none, slice1_more, pick_one, pick_agg, fieldA_agg, cells_agg, cells_int, cells_bool, cells_str, cells_nil, cells_own, cell_int, cell_bool, cell_str, cell_nil, cell_emp, cell_sl, cell_own, cell_ptr, cell_nilP,  List.length_cons, List.length_nil, List.all_cons, List.all_nil, Bool.and_true, Bool.true_and, Bool.and_self, List.getElem?_cons_zero, List.getElem?_cons_succ, List.set_cons_zero, Nat.reduceLeDiff, true_and, and_true, hk1.get, a1, hes1.len, w0, c1, c2]))
        exact hK _ hk01
end Go.Proofs.Ytfghbndlpppkcaa
