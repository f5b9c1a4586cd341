/- Which nodes are voters. No statement of the seat is proved here. -/
import Derived.Test.YtgedimcfeofjcaaVCounts
namespace Go.Proofs.Ytgedimcfeofjcaa
open Go Go.VI
set_option linter.unusedSimpArgs false

def goodAt (vs : List Int) (i : Nat) : Prop := ∀ a, vs[i]? = some a → 1 ≤ a ∧ a ≤ 7 ∧ ∀ b, 0 < i → vs[i - 1]? = some b → b < a
/-- Nodes 1 to 7, each greater than the one before. -/
def good (vs : List Int) : Prop := ∀ i, goodAt vs i

theorem good_ge {vs : List Int} (h : good vs) : ∀ (i : Nat) (a : Int), vs[i]? = some a → (i : Int) + 1 ≤ a := by
  intro i
  induction i with
  | zero => intro a ha; have := (h 0 a ha).1; omega
  | succ i ih =>
    intro a ha
    have hlt := (List.getElem?_eq_some_iff.mp ha).1
    have hb : vs[i]? = some (vs[i]'(by omega)) := List.getElem?_eq_getElem _
    have h1 := ih _ hb
    have h2 := (h (i + 1) a ha).2.2 _ (by omega) hb
    omega
theorem good_len {vs : List Int} (h : good vs) : vs.length ≤ 7 := by
  rcases Nat.eq_zero_or_pos vs.length with h0 | h0
  · omega
  · have hb : vs[vs.length - 1]? = some (vs[vs.length - 1]'(by omega)) := List.getElem?_eq_getElem _
    have h1 := good_ge h _ _ hb
    have h2 := (h _ _ hb).2.1
    omega

theorem node_c {n : Int} {s : Mem} {K : AV → Mem → Prop} (hK : ∀ b : Bool, (b = true ↔ 1 ≤ n ∧ n ≤ 7) → K (.bool b) s) : C tab 20 [.int .i64 n] s K := by
  refine C_enter (cf := cf20) rfl (Nat.le_of_ble_eq_true rfl) ?_
  simp only [cf20]
  (repeat' (with_reducible first | refine W_seq ?_ | refine W_region ?_ | refine W_block ?_ | refine W_if ?_ | refine W_skip ?_ | refine W_ret ?_ | refine W_exit ?_ | (refine Cs_intro (fun hb => ?_) (fun hb => ?_) <;> (try simp only [hb])) | refine Ws_if ?_ | simp (maxDischargeDepth := 12) only [Ws_op, Ws_up, Ws_nil, Wp_call, Wp_mv, Wp_pick, Wp_new, Wp_box, Wp_build, Wp_lit, litV_zero, litV_succ, Wp_load, Wp_store, Wp_nilCheck, Wp_ibin, Wp_sbin, Wp_beq, Wp_un, Wp_conv, Wp_toStr, Wp_same, Wp_ifc, Wp_fn, Wp_cutS, Wp_cutT, Wp_cut3, Wp_fieldAddr, Wp_field, Wp_at, Wp_atT, Wp_ixA, Wp_atP, Wp_ext, Wp_len, P1_some, ibinA_int, sbinA_str, unA_not, unA_neg, convA_int, sameA_str, nilA_ptr, nilA_ref, nilA_fn, addrA_ptr, addrA_ref, lenA_nil, lenA_emp, lenA_sl, lenA_own, lenA_str, bdA_none, ev, putO, K2_some, K2_none, Seq_normal, Seq_exit, Seq_ret, Blk_normal, Blk_exit, Blk_ret, RK_normal, RK_ret, NX_normal, NX_exit, NX_ret, P1_K2, resultsA, resA, List.mapM_cons, List.mapM_nil, Option.bind_eq_bind, Option.bind_some, Option.pure_def, Env.get_set, intOp, Option.map_some, Option.map_none, asB_bool, asG_bool, asG_und, Cs_true, Cs_false, List.map_cons, List.map_nil, List.append_nil, List.nil_append, List.cons_append, ↓reduceIte, Nat.reduceEqDiff, reduceCtorEq, ne_eq, not_true_eq_false, not_false_eq_true, beq_self_eq_true, beq_true, beq_false, Int.reduceEq, Int.reduceNeg, decide_true, decide_false, Bool.not_true, Bool.not_false, Nat.reduceAdd, Bool.false_eq_true, Bool.not_eq_true, Env.start, Env.ofList, fill_one, one1_int, fill_none, mem_eta, load_floor, loadA_ptr, storeA_ptr, load_refA, Mem.get_push, Mem.get_put, next_push', floor_push', next_put', floor_put', put_push', putC_nil, putC_zero, putC_succ, s_ne1, s_ne2, Nat.le_refl, and_self, ne_s1, ne_s2, ne_s3, ne_s4, ne_s5, lt_s1, lt_s2, lt_s3, lt_s4, lt_s5, le_s1, ext_tup, parts_nil, parts_cons, fill_all, nat_ne, nat_ne', lt_ss, lt_s, old_refl, old_push, old_at, mat_push, mat_put, mat_at, mat_self, mat_get, mat_next, mat_floor, mat_load, mat_read, mat_str, slice1_one, slice1_next, slice1_none, slice1_more, pick_one, pick_agg, fieldA_agg, cells_agg, cells_int, cells_bool, cells_str, cells_nil, cells_own, cell_int, cell_bool, cell_str, cell_nil, cell_emp, cell_sl, cell_own, cell_ptr, cell_nilP,  List.length_cons, List.length_nil, List.all_cons, List.all_nil, Bool.and_true, Bool.true_and, Bool.and_self, List.getElem?_cons_zero, List.getElem?_cons_succ, List.set_cons_zero, Nat.reduceLeDiff, true_and, and_true]))
  · exact hK _ (by simp only [decide_eq_true_eq] at *; omega)
  · exact hK _ (by simp only [decide_eq_false_iff_not] at *; simp; omega)

theorem goodAt_of {vs : List Int} {i : Nat} {a : Int} (ha : vs[i]? = some a) (h : 1 ≤ a ∧ a ≤ 7) (hp : ∀ b, 0 < i → vs[i - 1]? = some b → b < a) : goodAt vs i := by
  intro a' ha'
  rw [ha] at ha'
  obtain rfl := Option.some.inj ha'
  exact ⟨h.1, h.2, hp⟩

theorem check_l0 {vs : List Int} {s : Mem} {Q : Ex → Env → Mem → Prop} {v : AV} (hv : Ints s v .i64 vs) (hlen : vs.length < 4611686018427387904)
    (hbad : ¬ good vs → ∀ e', e'.get 2 = .bool false → Q .ret e' s) (hgood : good vs → ∀ e', e'.get 0 = v → Q (.exit 0) e' s) :
    ∀ (k i : Nat) (e : Env), i + k = vs.length → (∀ j, j < i → goodAt vs j) → e.get 0 = v → e.get 5 = v → e.get 6 = .int .i64 vs.length → e.get 7 = .int .i64 i → W tab (.loop cf11l0) e s Q := by
  intro k
  induction k with
  | zero =>
    intro i e hi hg h0 h5 h6 h7
    have hlt := lt_false (show ¬ i < vs.length by omega)
    refine W_loop' (by delta cf11l0; exact rfl) ?_
    (repeat' (with_reducible first | refine W_seq ?_ | refine W_region ?_ | refine W_block ?_ | refine W_if ?_ | refine W_skip ?_ | refine W_ret ?_ | refine W_exit ?_ | (refine Cs_intro (fun hb => ?_) (fun hb => ?_) <;> (try simp only [hb])) | refine Ws_if ?_ | simp (maxDischargeDepth := 12) only [Ws_op, Ws_up, Ws_nil, Wp_call, Wp_mv, Wp_pick, Wp_new, Wp_box, Wp_build, Wp_lit, litV_zero, litV_succ, Wp_load, Wp_store, Wp_nilCheck, Wp_ibin, Wp_sbin, Wp_beq, Wp_un, Wp_conv, Wp_toStr, Wp_same, Wp_ifc, Wp_fn, Wp_cutS, Wp_cutT, Wp_cut3, Wp_fieldAddr, Wp_field, Wp_at, Wp_atT, Wp_ixA, Wp_atP, Wp_ext, Wp_len, P1_some, ibinA_int, sbinA_str, unA_not, unA_neg, convA_int, sameA_str, nilA_ptr, nilA_ref, nilA_fn, addrA_ptr, addrA_ref, lenA_nil, lenA_emp, lenA_sl, lenA_own, lenA_str, bdA_none, ev, putO, K2_some, K2_none, Seq_normal, Seq_exit, Seq_ret, Blk_normal, Blk_exit, Blk_ret, RK_normal, RK_ret, NX_normal, NX_exit, NX_ret, P1_K2, resultsA, resA, List.mapM_cons, List.mapM_nil, Option.bind_eq_bind, Option.bind_some, Option.pure_def, Env.get_set, intOp, Option.map_some, Option.map_none, asB_bool, asG_bool, asG_und, Cs_true, Cs_false, List.map_cons, List.map_nil, List.append_nil, List.nil_append, List.cons_append, ↓reduceIte, Nat.reduceEqDiff, reduceCtorEq, ne_eq, not_true_eq_false, not_false_eq_true, beq_self_eq_true, beq_true, beq_false, Int.reduceEq, Int.reduceNeg, decide_true, decide_false, Bool.not_true, Bool.not_false, Nat.reduceAdd, Bool.false_eq_true, Bool.not_eq_true, Env.start, Env.ofList, fill_one, one1_int, fill_none, mem_eta, load_floor, loadA_ptr, storeA_ptr, load_refA, Mem.get_push, Mem.get_put, next_push', floor_push', next_put', floor_put', put_push', putC_nil, putC_zero, putC_succ, s_ne1, s_ne2, Nat.le_refl, and_self, ne_s1, ne_s2, ne_s3, ne_s4, ne_s5, lt_s1, lt_s2, lt_s3, lt_s4, lt_s5, le_s1, ext_tup, parts_nil, parts_cons, fill_all, nat_ne, nat_ne', lt_ss, lt_s, old_refl, old_push, old_at, mat_push, mat_put, mat_at, mat_self, mat_get, mat_next, mat_floor, mat_load, mat_read, mat_str, slice1_one, slice1_next, slice1_none, slice1_more, pick_one, pick_agg, fieldA_agg, cells_agg, cells_int, cells_bool, cells_str, cells_nil, cells_own, cell_int, cell_bool, cell_str, cell_nil, cell_emp, cell_sl, cell_own, cell_ptr, cell_nilP,  List.length_cons, List.length_nil, List.all_cons, List.all_nil, Bool.and_true, Bool.true_and, Bool.and_self, List.getElem?_cons_zero, List.getElem?_cons_succ, List.set_cons_zero, Nat.reduceLeDiff, true_and, and_true, h0, h5, h6, h7, hlt]))
    refine hgood ?_ _ (by simp only [Env.get_set, ↓reduceIte, Nat.reduceEqDiff, h0])
    intro j
    by_cases hj : j < i
    · exact hg j hj
    · intro a ha
      have := (List.getElem?_eq_some_iff.mp ha).1
      omega
  | succ k ih =>
    intro i e hi hg h0 h5 h6 h7
    have hlt := lt_true (show i < vs.length by omega)
    obtain ⟨a, ha⟩ : ∃ a, vs[i]? = some a := ⟨vs[i]'(by omega), List.getElem?_eq_getElem _⟩
    obtain ⟨p, hp, hld⟩ := hv.get .i64 i a ha
    refine W_loop' (by delta cf11l0; exact rfl) ?_
    (repeat' (with_reducible first | refine W_seq ?_ | refine W_region ?_ | refine W_block ?_ | refine W_if ?_ | refine W_skip ?_ | refine W_ret ?_ | refine W_exit ?_ | (refine Cs_intro (fun hb => ?_) (fun hb => ?_) <;> (try simp only [hb])) | refine Ws_if ?_ | simp (maxDischargeDepth := 12) only [Ws_op, Ws_up, Ws_nil, Wp_call, Wp_mv, Wp_pick, Wp_new, Wp_box, Wp_build, Wp_lit, litV_zero, litV_succ, Wp_load, Wp_store, Wp_nilCheck, Wp_ibin, Wp_sbin, Wp_beq, Wp_un, Wp_conv, Wp_toStr, Wp_same, Wp_ifc, Wp_fn, Wp_cutS, Wp_cutT, Wp_cut3, Wp_fieldAddr, Wp_field, Wp_at, Wp_atT, Wp_ixA, Wp_atP, Wp_ext, Wp_len, P1_some, ibinA_int, sbinA_str, unA_not, unA_neg, convA_int, sameA_str, nilA_ptr, nilA_ref, nilA_fn, addrA_ptr, addrA_ref, lenA_nil, lenA_emp, lenA_sl, lenA_own, lenA_str, bdA_none, ev, putO, K2_some, K2_none, Seq_normal, Seq_exit, Seq_ret, Blk_normal, Blk_exit, Blk_ret, RK_normal, RK_ret, NX_normal, NX_exit, NX_ret, P1_K2, resultsA, resA, List.mapM_cons, List.mapM_nil, Option.bind_eq_bind, Option.bind_some, Option.pure_def, Env.get_set, intOp, Option.map_some, Option.map_none, asB_bool, asG_bool, asG_und, Cs_true, Cs_false, List.map_cons, List.map_nil, List.append_nil, List.nil_append, List.cons_append, ↓reduceIte, Nat.reduceEqDiff, reduceCtorEq, ne_eq, not_true_eq_false, not_false_eq_true, beq_self_eq_true, beq_true, beq_false, Int.reduceEq, Int.reduceNeg, decide_true, decide_false, Bool.not_true, Bool.not_false, Nat.reduceAdd, Bool.false_eq_true, Bool.not_eq_true, Env.start, Env.ofList, fill_one, one1_int, fill_none, mem_eta, load_floor, loadA_ptr, storeA_ptr, load_refA, Mem.get_push, Mem.get_put, next_push', floor_push', next_put', floor_put', put_push', putC_nil, putC_zero, putC_succ, s_ne1, s_ne2, Nat.le_refl, and_self, ne_s1, ne_s2, ne_s3, ne_s4, ne_s5, lt_s1, lt_s2, lt_s3, lt_s4, lt_s5, le_s1, ext_tup, parts_nil, parts_cons, fill_all, nat_ne, nat_ne', lt_ss, lt_s, old_refl, old_push, old_at, mat_push, mat_put, mat_at, mat_self, mat_get, mat_next, mat_floor, mat_load, mat_read, mat_str, slice1_one, slice1_next, slice1_none, slice1_more, pick_one, pick_agg, fieldA_agg, cells_agg, cells_int, cells_bool, cells_str, cells_nil, cells_own, cell_int, cell_bool, cell_str, cell_nil, cell_emp, cell_sl, cell_own, cell_ptr, cell_nilP,  List.length_cons, List.length_nil, List.all_cons, List.all_nil, Bool.and_true, Bool.true_and, Bool.and_self, List.getElem?_cons_zero, List.getElem?_cons_succ, List.set_cons_zero, Nat.reduceLeDiff, true_and, and_true, h0, h5, h6, h7, hlt, hp, hld]))
    refine node_c ?_
    intro b hb'
    rcases Nat.eq_zero_or_pos i with hi0 | hi0
    · have hz : decide ((i : Int) > 0) = false := by simp; omega
      (repeat' (with_reducible first | refine W_seq ?_ | refine W_region ?_ | refine W_block ?_ | refine W_if ?_ | refine W_skip ?_ | refine W_ret ?_ | refine W_exit ?_ | (refine Cs_intro (fun hb => ?_) (fun hb => ?_) <;> (try simp only [hb])) | refine Ws_if ?_ | simp (maxDischargeDepth := 12) only [Ws_op, Ws_up, Ws_nil, Wp_call, Wp_mv, Wp_pick, Wp_new, Wp_box, Wp_build, Wp_lit, litV_zero, litV_succ, Wp_load, Wp_store, Wp_nilCheck, Wp_ibin, Wp_sbin, Wp_beq, Wp_un, Wp_conv, Wp_toStr, Wp_same, Wp_ifc, Wp_fn, Wp_cutS, Wp_cutT, Wp_cut3, Wp_fieldAddr, Wp_field, Wp_at, Wp_atT, Wp_ixA, Wp_atP, Wp_ext, Wp_len, P1_some, ibinA_int, sbinA_str, unA_not, unA_neg, convA_int, sameA_str, nilA_ptr, nilA_ref, nilA_fn, addrA_ptr, addrA_ref, lenA_nil, lenA_emp, lenA_sl, lenA_own, lenA_str, bdA_none, ev, putO, K2_some, K2_none, Seq_normal, Seq_exit, Seq_ret, Blk_normal, Blk_exit, Blk_ret, RK_normal, RK_ret, NX_normal, NX_exit, NX_ret, P1_K2, resultsA, resA, List.mapM_cons, List.mapM_nil, Option.bind_eq_bind, Option.bind_some, Option.pure_def, Env.get_set, intOp, Option.map_some, Option.map_none, asB_bool, asG_bool, asG_und, Cs_true, Cs_false, List.map_cons, List.map_nil, List.append_nil, List.nil_append, List.cons_append, ↓reduceIte, Nat.reduceEqDiff, reduceCtorEq, ne_eq, not_true_eq_false, not_false_eq_true, beq_self_eq_true, beq_true, beq_false, Int.reduceEq, Int.reduceNeg, decide_true, decide_false, Bool.not_true, Bool.not_false, Nat.reduceAdd, Bool.false_eq_true, Bool.not_eq_true, Env.start, Env.ofList, fill_one, one1_int, fill_none, mem_eta, load_floor, loadA_ptr, storeA_ptr, load_refA, Mem.get_push, Mem.get_put, next_push', floor_push', next_put', floor_put', put_push', putC_nil, putC_zero, putC_succ, s_ne1, s_ne2, Nat.le_refl, and_self, ne_s1, ne_s2, ne_s3, ne_s4, ne_s5, lt_s1, lt_s2, lt_s3, lt_s4, lt_s5, le_s1, ext_tup, parts_nil, parts_cons, fill_all, nat_ne, nat_ne', lt_ss, lt_s, old_refl, old_push, old_at, mat_push, mat_put, mat_at, mat_self, mat_get, mat_next, mat_floor, mat_load, mat_read, mat_str, slice1_one, slice1_next, slice1_none, slice1_more, pick_one, pick_agg, fieldA_agg, cells_agg, cells_int, cells_bool, cells_str, cells_nil, cells_own, cell_int, cell_bool, cell_str, cell_nil, cell_emp, cell_sl, cell_own, cell_ptr, cell_nilP,  List.length_cons, List.length_nil, List.all_cons, List.all_nil, Bool.and_true, Bool.true_and, Bool.and_self, List.getElem?_cons_zero, List.getElem?_cons_succ, List.set_cons_zero, Nat.reduceLeDiff, true_and, and_true, h0, h5, h6, h7, hz]))
      · refine hbad ?_ _ (by rw [Env.get_set, if_pos rfl])
        intro hgd
        have hbf : b = false := by simpa using hb
        have := hgd i a ha
        rw [hb'.mpr ⟨this.1, this.2.1⟩] at hbf; cases hbf
      · refine ih (i + 1) _ (by omega) ?_ ?_ ?_ ?_ ?_
        · intro j hj
          have : j = i := by omega
          subst this
          have hbt : b = true := by simpa using hb
          exact goodAt_of ha (hb'.mp hbt) (fun b hb => by omega)
        all_goals simp only [Env.get_set, ↓reduceIte, Nat.reduceEqDiff, h0, h5, h6]
        rw [succ_cast (by omega)]
    · have hz : decide ((i : Int) > 0) = true := by simp; omega
      have hi1 : IntKind.i64.wrap ((i : Int) - 1) = ((i - 1 : Nat) : Int) := by rw [wrap_i64 (by omega)]; omega
      obtain ⟨c, hc⟩ : ∃ a, vs[i - 1]? = some a := ⟨vs[i - 1]'(by omega), List.getElem?_eq_getElem _⟩
      obtain ⟨p', hp', hld'⟩ := hv.get .i64 (i - 1) c hc
      (repeat' (with_reducible first | refine W_seq ?_ | refine W_region ?_ | refine W_block ?_ | refine W_if ?_ | refine W_skip ?_ | refine W_ret ?_ | refine W_exit ?_ | (refine Cs_intro (fun hb => ?_) (fun hb => ?_) <;> (try simp only [hb])) | refine Ws_if ?_ | simp (maxDischargeDepth := 12) only [Ws_op, Ws_up, Ws_nil, Wp_call, Wp_mv, Wp_pick, Wp_new, Wp_box, Wp_build, Wp_lit, litV_zero, litV_succ, Wp_load, Wp_store, Wp_nilCheck, Wp_ibin, Wp_sbin, Wp_beq, Wp_un, Wp_conv, Wp_toStr, Wp_same, Wp_ifc, Wp_fn, Wp_cutS, Wp_cutT, Wp_cut3, Wp_fieldAddr, Wp_field, Wp_at, Wp_atT, Wp_ixA, Wp_atP, Wp_ext, Wp_len, P1_some, ibinA_int, sbinA_str, unA_not, unA_neg, convA_int, sameA_str, nilA_ptr, nilA_ref, nilA_fn, addrA_ptr, addrA_ref, lenA_nil, lenA_emp, lenA_sl, lenA_own, lenA_str, bdA_none, ev, putO, K2_some, K2_none, Seq_normal, Seq_exit, Seq_ret, Blk_normal, Blk_exit, Blk_ret, RK_normal, RK_ret, NX_normal, NX_exit, NX_ret, P1_K2, resultsA, resA, List.mapM_cons, List.mapM_nil, Option.bind_eq_bind, Option.bind_some, Option.pure_def, Env.get_set, intOp, Option.map_some, Option.map_none, asB_bool, asG_bool, asG_und, Cs_true, Cs_false, List.map_cons, List.map_nil, List.append_nil, List.nil_append, List.cons_append, ↓reduceIte, Nat.reduceEqDiff, reduceCtorEq, ne_eq, not_true_eq_false, not_false_eq_true, beq_self_eq_true, beq_true, beq_false, Int.reduceEq, Int.reduceNeg, decide_true, decide_false, Bool.not_true, Bool.not_false, Nat.reduceAdd, Bool.false_eq_true, Bool.not_eq_true, Env.start, Env.ofList, fill_one, one1_int, fill_none, mem_eta, load_floor, loadA_ptr, storeA_ptr, load_refA, Mem.get_push, Mem.get_put, next_push', floor_push', next_put', floor_put', put_push', putC_nil, putC_zero, putC_succ, s_ne1, s_ne2, Nat.le_refl, and_self, ne_s1, ne_s2, ne_s3, ne_s4, ne_s5, lt_s1, lt_s2, lt_s3, lt_s4, lt_s5, le_s1, ext_tup, parts_nil, parts_cons, fill_all, nat_ne, nat_ne', lt_ss, lt_s, old_refl, old_push, old_at, mat_push, mat_put, mat_at, mat_self, mat_get, mat_next, mat_floor, mat_load, mat_read, mat_str, slice1_one, slice1_next, slice1_none, slice1_more, pick_one, pick_agg, fieldA_agg, cells_agg, cells_int, cells_bool, cells_str, cells_nil, cells_own, cell_int, cell_bool, cell_str, cell_nil, cell_emp, cell_sl, cell_own, cell_ptr, cell_nilP,  List.length_cons, List.length_nil, List.all_cons, List.all_nil, Bool.and_true, Bool.true_and, Bool.and_self, List.getElem?_cons_zero, List.getElem?_cons_succ, List.set_cons_zero, Nat.reduceLeDiff, true_and, and_true, h0, h5, h6, h7, hz, hi1, hp', hld']))
      · refine hbad ?_ _ (by rw [Env.get_set, if_pos rfl])
        intro hgd
        have hbf : b = false := by simpa using hb
        have := hgd i a ha
        rw [hb'.mpr ⟨this.1, this.2.1⟩] at hbf; cases hbf
      · refine hbad ?_ _ (by rw [Env.get_set, if_pos rfl])
        intro hgd
        have := (hgd i a ha).2.2 c hi0 hc
        simp only [decide_eq_true_eq] at hb
        omega
      · refine ih (i + 1) _ (by omega) ?_ ?_ ?_ ?_ ?_
        · intro j hj
          by_cases hji : j = i
          · subst hji
            have hbt : b = true := by simp_all
            refine goodAt_of ha (hb'.mp hbt) ?_
            intro d _ hd
            rw [hc] at hd
            obtain rfl := Option.some.inj hd
            simp only [decide_eq_false_iff_not] at hb
            omega
          · exact hg j (by omega)
        all_goals simp only [Env.get_set, ↓reduceIte, Nat.reduceEqDiff, h0, h5, h6]
        rw [succ_cast (by omega)]

theorem check_c {vs : List Int} {s : Mem} {v : AV} {K : AV → Mem → Prop} (hv : Ints s v .i64 vs) (hlen : vs.length < 4611686018427387904) (hK : ∀ b : Bool, (b = true ↔ good vs ∧ 0 < vs.length) → K (.bool b) s) : C tab 11 [v] s K := by
  refine C_enter (cf := cf11) rfl (Nat.le_of_ble_eq_true rfl) ?_
  simp only [cf11]
  (repeat' (with_reducible first | refine W_seq ?_ | refine W_region ?_ | refine W_block ?_ | refine W_if ?_ | refine W_skip ?_ | refine W_ret ?_ | refine W_exit ?_ | (refine Cs_intro (fun hb => ?_) (fun hb => ?_) <;> (try simp only [hb])) | refine Ws_if ?_ | simp (maxDischargeDepth := 12) only [Ws_op, Ws_up, Ws_nil, Wp_call, Wp_mv, Wp_pick, Wp_new, Wp_box, Wp_build, Wp_lit, litV_zero, litV_succ, Wp_load, Wp_store, Wp_nilCheck, Wp_ibin, Wp_sbin, Wp_beq, Wp_un, Wp_conv, Wp_toStr, Wp_same, Wp_ifc, Wp_fn, Wp_cutS, Wp_cutT, Wp_cut3, Wp_fieldAddr, Wp_field, Wp_at, Wp_atT, Wp_ixA, Wp_atP, Wp_ext, Wp_len, P1_some, ibinA_int, sbinA_str, unA_not, unA_neg, convA_int, sameA_str, nilA_ptr, nilA_ref, nilA_fn, addrA_ptr, addrA_ref, lenA_nil, lenA_emp, lenA_sl, lenA_own, lenA_str, bdA_none, ev, putO, K2_some, K2_none, Seq_normal, Seq_exit, Seq_ret, Blk_normal, Blk_exit, Blk_ret, RK_normal, RK_ret, NX_normal, NX_exit, NX_ret, P1_K2, resultsA, resA, List.mapM_cons, List.mapM_nil, Option.bind_eq_bind, Option.bind_some, Option.pure_def, Env.get_set, intOp, Option.map_some, Option.map_none, asB_bool, asG_bool, asG_und, Cs_true, Cs_false, List.map_cons, List.map_nil, List.append_nil, List.nil_append, List.cons_append, ↓reduceIte, Nat.reduceEqDiff, reduceCtorEq, ne_eq, not_true_eq_false, not_false_eq_true, beq_self_eq_true, beq_true, beq_false, Int.reduceEq, Int.reduceNeg, decide_true, decide_false, Bool.not_true, Bool.not_false, Nat.reduceAdd, Bool.false_eq_true, Bool.not_eq_true, Env.start, Env.ofList, fill_one, one1_int, fill_none, mem_eta, load_floor, loadA_ptr, storeA_ptr, load_refA, Mem.get_push, Mem.get_put, next_push', floor_push', next_put', floor_put', put_push', putC_nil, putC_zero, putC_succ, s_ne1, s_ne2, Nat.le_refl, and_self, ne_s1, ne_s2, ne_s3, ne_s4, ne_s5, lt_s1, lt_s2, lt_s3, lt_s4, lt_s5, le_s1, ext_tup, parts_nil, parts_cons, fill_all, nat_ne, nat_ne', lt_ss, lt_s, old_refl, old_push, old_at, mat_push, mat_put, mat_at, mat_self, mat_get, mat_next, mat_floor, mat_load, mat_read, mat_str, slice1_one, slice1_next, slice1_none, slice1_more, pick_one, pick_agg, fieldA_agg, cells_agg, cells_int, cells_bool, cells_str, cells_nil, cells_own, cell_int, cell_bool, cell_str, cell_nil, cell_emp, cell_sl, cell_own, cell_ptr, cell_nilP,  List.length_cons, List.length_nil, List.all_cons, List.all_nil, Bool.and_true, Bool.true_and, Bool.and_self, List.getElem?_cons_zero, List.getElem?_cons_succ, List.set_cons_zero, Nat.reduceLeDiff, true_and, and_true, hv.len]))
  refine check_l0 hv hlen ?_ ?_ vs.length 0 _ (by omega) (by intro j hj; omega) ?_ ?_ ?_ ?_
  · intro hm e' h2
    (repeat' (with_reducible first | refine W_seq ?_ | refine W_region ?_ | refine W_block ?_ | refine W_if ?_ | refine W_skip ?_ | refine W_ret ?_ | refine W_exit ?_ | (refine Cs_intro (fun hb => ?_) (fun hb => ?_) <;> (try simp only [hb])) | refine Ws_if ?_ | simp (maxDischargeDepth := 12) only [Ws_op, Ws_up, Ws_nil, Wp_call, Wp_mv, Wp_pick, Wp_new, Wp_box, Wp_build, Wp_lit, litV_zero, litV_succ, Wp_load, Wp_store, Wp_nilCheck, Wp_ibin, Wp_sbin, Wp_beq, Wp_un, Wp_conv, Wp_toStr, Wp_same, Wp_ifc, Wp_fn, Wp_cutS, Wp_cutT, Wp_cut3, Wp_fieldAddr, Wp_field, Wp_at, Wp_atT, Wp_ixA, Wp_atP, Wp_ext, Wp_len, P1_some, ibinA_int, sbinA_str, unA_not, unA_neg, convA_int, sameA_str, nilA_ptr, nilA_ref, nilA_fn, addrA_ptr, addrA_ref, lenA_nil, lenA_emp, lenA_sl, lenA_own, lenA_str, bdA_none, ev, putO, K2_some, K2_none, Seq_normal, Seq_exit, Seq_ret, Blk_normal, Blk_exit, Blk_ret, RK_normal, RK_ret, NX_normal, NX_exit, NX_ret, P1_K2, resultsA, resA, List.mapM_cons, List.mapM_nil, Option.bind_eq_bind, Option.bind_some, Option.pure_def, Env.get_set, intOp, Option.map_some, Option.map_none, asB_bool, asG_bool, asG_und, Cs_true, Cs_false, List.map_cons, List.map_nil, List.append_nil, List.nil_append, List.cons_append, ↓reduceIte, Nat.reduceEqDiff, reduceCtorEq, ne_eq, not_true_eq_false, not_false_eq_true, beq_self_eq_true, beq_true, beq_false, Int.reduceEq, Int.reduceNeg, decide_true, decide_false, Bool.not_true, Bool.not_false, Nat.reduceAdd, Bool.false_eq_true, Bool.not_eq_true, Env.start, Env.ofList, fill_one, one1_int, fill_none, mem_eta, load_floor, loadA_ptr, storeA_ptr, load_refA, Mem.get_push, Mem.get_put, next_push', floor_push', next_put', floor_put', put_push', putC_nil, putC_zero, putC_succ, s_ne1, s_ne2, Nat.le_refl, and_self, ne_s1, ne_s2, ne_s3, ne_s4, ne_s5, lt_s1, lt_s2, lt_s3, lt_s4, lt_s5, le_s1, ext_tup, parts_nil, parts_cons, fill_all, nat_ne, nat_ne', lt_ss, lt_s, old_refl, old_push, old_at, mat_push, mat_put, mat_at, mat_self, mat_get, mat_next, mat_floor, mat_load, mat_read, mat_str, slice1_one, slice1_next, slice1_none, slice1_more, pick_one, pick_agg, fieldA_agg, cells_agg, cells_int, cells_bool, cells_str, cells_nil, cells_own, cell_int, cell_bool, cell_str, cell_nil, cell_emp, cell_sl, cell_own, cell_ptr, cell_nilP,  List.length_cons, List.length_nil, List.all_cons, List.all_nil, Bool.and_true, Bool.true_and, Bool.and_self, List.getElem?_cons_zero, List.getElem?_cons_succ, List.set_cons_zero, Nat.reduceLeDiff, true_and, and_true, h2]))
    exact hK false (by simp [hm])
  · intro hm e' h0
    (repeat' (with_reducible first | refine W_seq ?_ | refine W_region ?_ | refine W_block ?_ | refine W_if ?_ | refine W_skip ?_ | refine W_ret ?_ | refine W_exit ?_ | (refine Cs_intro (fun hb => ?_) (fun hb => ?_) <;> (try simp only [hb])) | refine Ws_if ?_ | simp (maxDischargeDepth := 12) only [Ws_op, Ws_up, Ws_nil, Wp_call, Wp_mv, Wp_pick, Wp_new, Wp_box, Wp_build, Wp_lit, litV_zero, litV_succ, Wp_load, Wp_store, Wp_nilCheck, Wp_ibin, Wp_sbin, Wp_beq, Wp_un, Wp_conv, Wp_toStr, Wp_same, Wp_ifc, Wp_fn, Wp_cutS, Wp_cutT, Wp_cut3, Wp_fieldAddr, Wp_field, Wp_at, Wp_atT, Wp_ixA, Wp_atP, Wp_ext, Wp_len, P1_some, ibinA_int, sbinA_str, unA_not, unA_neg, convA_int, sameA_str, nilA_ptr, nilA_ref, nilA_fn, addrA_ptr, addrA_ref, lenA_nil, lenA_emp, lenA_sl, lenA_own, lenA_str, bdA_none, ev, putO, K2_some, K2_none, Seq_normal, Seq_exit, Seq_ret, Blk_normal, Blk_exit, Blk_ret, RK_normal, RK_ret, NX_normal, NX_exit, NX_ret, P1_K2, resultsA, resA, List.mapM_cons, List.mapM_nil, Option.bind_eq_bind, Option.bind_some, Option.pure_def, Env.get_set, intOp, Option.map_some, Option.map_none, asB_bool, asG_bool, asG_und, Cs_true, Cs_false, List.map_cons, List.map_nil, List.append_nil, List.nil_append, List.cons_append, ↓reduceIte, Nat.reduceEqDiff, reduceCtorEq, ne_eq, not_true_eq_false, not_false_eq_true, beq_self_eq_true, beq_true, beq_false, Int.reduceEq, Int.reduceNeg, decide_true, decide_false, Bool.not_true, Bool.not_false, Nat.reduceAdd, Bool.false_eq_true, Bool.not_eq_true, Env.start, Env.ofList, fill_one, one1_int, fill_none, mem_eta, load_floor, loadA_ptr, storeA_ptr, load_refA, Mem.get_push, Mem.get_put, next_push', floor_push', next_put', floor_put', put_push', putC_nil, putC_zero, putC_succ, s_ne1, s_ne2, Nat.le_refl, and_self, ne_s1, ne_s2, ne_s3, ne_s4, ne_s5, lt_s1, lt_s2, lt_s3, lt_s4, lt_s5, le_s1, ext_tup, parts_nil, parts_cons, fill_all, nat_ne, nat_ne', lt_ss, lt_s, old_refl, old_push, old_at, mat_push, mat_put, mat_at, mat_self, mat_get, mat_next, mat_floor, mat_load, mat_read, mat_str, slice1_one, slice1_next, slice1_none, slice1_more, pick_one, pick_agg, fieldA_agg, cells_agg, cells_int, cells_bool, cells_str, cells_nil, cells_own, cell_int, cell_bool, cell_str, cell_nil, cell_emp, cell_sl, cell_own, cell_ptr, cell_nilP,  List.length_cons, List.length_nil, List.all_cons, List.all_nil, Bool.and_true, Bool.true_and, Bool.and_self, List.getElem?_cons_zero, List.getElem?_cons_succ, List.set_cons_zero, Nat.reduceLeDiff, true_and, and_true, h0, hv.len]))
    exact hK _ (by simp [hm])
  all_goals simp only [Env.get_set, ↓reduceIte, Nat.reduceEqDiff]
  rfl
end Go.Proofs.Ytgedimcfeofjcaa
