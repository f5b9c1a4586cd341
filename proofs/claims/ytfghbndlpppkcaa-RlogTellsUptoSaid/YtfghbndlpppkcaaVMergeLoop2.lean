/- The loops of the other merging. No statement of the seat is proved here. -/
import Derived.Test.YtfghbndlpppkcaaVMergeLoop
namespace Go.Proofs.Ytfghbndlpppkcaa
open Go Go.VI
set_option linter.unusedSimpArgs false
attribute [local irreducible] Ws Wp W C
set_option maxHeartbeats 4000000

theorem Cons.tail {b : Int} {e : Entry} {es : List Entry} (h : Cons b (e :: es)) : e.index = b + 1 ∧ Cons (b + 1) es := by
  refine ⟨by simpa using h 0 e rfl, fun j x hx => ?_⟩
  have := h (j + 1) x (by simpa using hx)
  rw [this]; push_cast; omega
theorem filter_take : ∀ (es : List Entry) (b : Int) (k : Nat), Cons b es → es.filter (fun e => decide (e.index < b + 1 + k)) = es.take k := by
  intro es
  induction es with
  | nil => intro b k _; simp
  | cons e es ih =>
    intro b k h
    obtain ⟨h1, h2⟩ := h.tail
    cases k with
    | zero =>
      rw [List.take_zero, List.filter_eq_nil_iff]
      intro x hx
      obtain ⟨j, hj⟩ := List.mem_iff_getElem?.mp hx
      have := h j x hj
      simp; omega
    | succ k =>
      have e1 : decide (e.index < b + 1 + ((k + 1 : Nat) : Int)) = true := by simp; omega
      simp only [List.filter_cons, e1, if_true]
      rw [List.take_succ_cons, ← ih (b + 1) k h2]
      congr 1
      have : b + 1 + ((k + 1 : Nat) : Int) = b + 1 + 1 + (k : Int) := by push_cast; omega
      rw [this]
theorem filter_snoc {α : Type} {p : α → Bool} {l : List α} {i : Nat} {a : α} (h : l[i]? = some a) : (l.take (i + 1)).filter p = (l.take i).filter p ++ if p a then [a] else [] := by
  rw [take_snoc h, List.filter_append]
  congr 1
  cases hp : p a <;> simp [hp]

/-- The inner loop: the entries ahead of one. -/
theorem rkept_loop {l : Log} {out : List Entry} {x : Entry} {es : List Entry} {i : Nat} {F : Nat → Prop} {S : Mem} {E : Env} {wv d w : AV} {r : Nat}
    (hg : S.get r = some (logRow l d w)) (hr : r < S.next) (hf : S.floor ≤ S.next) (hI : ∀ q, F q → q < S.next) (ho : Ents S F w out) (hon : Fit out.length) (hes : Ents S F wv es) (hx : es[i]? = some x)
    (h3 : E.get 3 = wv) (h13 : E.get 13 = .ptr r 0 0) (h14 : E.get 14 = .int .i64 i) (h17 : E.get 17 = .emp) (h18 : E.get 18 = .int .i64 0) :
    W tab (.loop cf14l1) E S (fun y e' s' => y = .exit 2 ∧ Keep S.next S s' ∧ ∃ xs, OwnL s' S.next (e'.get 17) 25 4 xs ∧ EntsC s' F xs (out.filter fun e => decide (e.index < x.index))) := by
  refine W_inv out.length (fun j e s' => Keep S.next S s' ∧ e.get 18 = .int .i64 j ∧ ∃ xs, OwnL s' S.next (e.get 17) 25 4 xs ∧ EntsC s' F xs ((out.take j).filter fun e => decide (e.index < x.index))) (by delta cf14l1; exact rfl) ?_ ?_
  · refine ⟨Keep.refl _ _, h18, [], by rw [h17]; exact OwnL.emp _ _ _ _, by simpa using EntsC.nil _ _⟩
  · rintro j e s' hj hfm ⟨hk, g18, xs, hxs, hxe⟩
    have g3 : e.get 3 = wv := (hfm 3 rfl).trans h3
    have g13 : e.get 13 = .ptr r 0 0 := (hfm 13 rfl).trans h13
    have g14 : e.get 14 = .int .i64 i := (hfm 14 rfl).trans h14
    have hg' : s'.get r = some (logRow l d w) := (hk.get r hr).trans hg
    have hI' : In F s' := fun q hq => by have := hI q hq; have := hk.next; omega
    have hf' : s'.floor ≤ s'.next := hk.ok hf
    have ho' := ho.keep fun q hq => hk.get q (hI q hq)
    have hes' := hes.keep fun q hq => hk.get q (hI q hq)
    obtain ⟨dx, p, hp, P, hdx⟩ := hes'.atk hI' hx
    by_cases hlt : j < out.length
    · obtain ⟨y, hy⟩ := get_of hlt
      obtain ⟨dy, p2, hp2, P2, hdy⟩ := ho'.atk hI' hy
      have hfs := filter_snoc (p := fun e => decide (e.index < x.index)) hy
      (repeat' (with_reducible first | refine W_seq ?_ | refine W_region ?_ | refine W_block ?_ | refine W_if ?_ | refine W_skip ?_ | refine W_ret ?_ | refine W_exit ?_ | (refine Cs_intro (fun hb => ?_) (fun hb => ?_) <;> (try simp only [hb])) | refine Ws_if ?_ | simp (maxDischargeDepth := 12) only [Ws_op, Ws_up, Ws_nil, Wp_call, Wp_mv, Wp_pick, Wp_new, Wp_box, Wp_build, Wp_lit, litV_zero, litV_succ, Wp_load, Wp_store, Wp_nilCheck, Wp_ibin, Wp_sbin, Wp_beq, Wp_un, Wp_conv, Wp_toStr, Wp_same, Wp_ifc, Wp_fn, Wp_cutS, Wp_cutT, Wp_cut3, Wp_fieldAddr, Wp_field, Wp_at, Wp_atT, Wp_ixA, Wp_atP, Wp_ext, Wp_len, P1_some, ibinA_int, sbinA_str, unA_not, unA_neg, convA_int, sameA_str, nilA_ptr, nilA_ref, nilA_fn, addrA_ptr, addrA_ref, lenA_nil, lenA_emp, lenA_sl, lenA_own, lenA_str, bdA_none, ev, putO, K2_some, K2_none, Seq_normal, Seq_exit, Seq_ret, Blk_normal, Blk_exit, Blk_ret, RK_normal, RK_ret, NX_normal, NX_exit, NX_ret, P1_K2, resultsA, resA, List.mapM_cons, List.mapM_nil, Option.bind_eq_bind, Option.bind_some, Option.pure_def, Env.get_set, intOp, Option.map_some, Option.map_none, asB_bool, asG_bool, asG_und, Cs_true, Cs_false, List.map_cons, List.map_nil, List.append_nil, List.nil_append, List.cons_append, ↓reduceIte, Nat.reduceEqDiff, reduceCtorEq, ne_eq, not_true_eq_false, not_false_eq_true, beq_self_eq_true, beq_true, beq_false, Int.reduceEq, Int.reduceNeg, decide_true, decide_false, Bool.not_true, Bool.not_false, Nat.reduceAdd, Bool.false_eq_true, Bool.not_eq_true, Env.start, Env.ofList, fill_one, one1_int, fill_none, mem_eta, load_floor, loadA_ptr, storeA_ptr, load_refA, Mem.get_push, Mem.get_put, next_push', floor_push', next_put', floor_put', put_push', putC_nil, putC_zero, putC_succ, s_ne1, s_ne2, Nat.le_refl, and_self, ne_s1, ne_s2, ne_s3, ne_s4, ne_s5, lt_s1, lt_s2, lt_s3, lt_s4, lt_s5, le_s1, ext_tup, parts_nil, parts_cons, fill_all, nat_ne, nat_ne', lt_ss, lt_s, old_refl, old_push, old_at, mat_push, mat_put, mat_at, mat_self, mat_get, mat_next, mat_floor, mat_load, mat_read, mat_str, slice1_one, slice1_next, slice1_none, slice1_more, pick_one, pick_agg, fieldA_agg, cells_agg, cells_int, cells_bool, cells_str, cells_nil, cells_own, cell_int, cell_bool, cell_str, cell_nil, cell_emp, cell_sl, cell_own, cell_ptr, cell_nilP,  List.length_cons, List.length_nil, List.all_cons, List.all_nil, Bool.and_true, Bool.true_and, Bool.and_self, List.getElem?_cons_zero, List.getElem?_cons_succ, List.set_cons_zero, Nat.reduceLeDiff, true_and, and_true, g3, g13, g14, g18, hg', ho'.len, lt_true hlt, hp, P.adr, P.ldf, P.ld, hp2, P2.adr, P2.ldf, P2.ld, Nat.zero_le, hdy.cell]))
      · have hn : xs.length ≤ out.length := by
          have h1 := hxe.1
          have h2 := List.length_filter_le (fun e => decide (e.index < x.index)) (out.take j)
          rw [List.length_take] at h2
          omega
        refine app_lit (k := 1) (b := S.next) (xs := xs) (by rw [hk.floor]; exact hf) hk.next hxs (by simp only [ev, Env.get_set, ↓reduceIte, Nat.reduceEqDiff]) (by simp only [ev, Env.get_set, ↓reduceIte, Nat.reduceEqDiff]) rfl rfl (room (by simp only [List.length_cons, List.length_nil]; omega) (by simp only [List.length_cons, List.length_nil]; omega)) ?_
        intro v2 s2 ho2 hx2 _ _
        have hk2 : Keep S.next s' s2 := hx2.keep hk.next fun r i n z h => (hxs.row r i n z h).1
        simp only [hb, if_true] at hfs
        (repeat' (with_reducible first | refine W_seq ?_ | refine W_region ?_ | refine W_block ?_ | refine W_if ?_ | refine W_skip ?_ | refine W_ret ?_ | refine W_exit ?_ | (refine Cs_intro (fun hb => ?_) (fun hb => ?_) <;> (try simp only [hb])) | refine Ws_if ?_ | simp (maxDischargeDepth := 12) only [Ws_op, Ws_up, Ws_nil, Wp_call, Wp_mv, Wp_pick, Wp_new, Wp_box, Wp_build, Wp_lit, litV_zero, litV_succ, Wp_load, Wp_store, Wp_nilCheck, Wp_ibin, Wp_sbin, Wp_beq, Wp_un, Wp_conv, Wp_toStr, Wp_same, Wp_ifc, Wp_fn, Wp_cutS, Wp_cutT, Wp_cut3, Wp_fieldAddr, Wp_field, Wp_at, Wp_atT, Wp_ixA, Wp_atP, Wp_ext, Wp_len, P1_some, ibinA_int, sbinA_str, unA_not, unA_neg, convA_int, sameA_str, nilA_ptr, nilA_ref, nilA_fn, addrA_ptr, addrA_ref, lenA_nil, lenA_emp, lenA_sl, lenA_own, lenA_str, bdA_none, ev, putO, K2_some, K2_none, Seq_normal, Seq_exit, Seq_ret, Blk_normal, Blk_exit, Blk_ret, RK_normal, RK_ret, NX_normal, NX_exit, NX_ret, P1_K2, resultsA, resA, List.mapM_cons, List.mapM_nil, Option.bind_eq_bind, Option.bind_some, Option.pure_def, Env.get_set, intOp, Option.map_some, Option.map_none, asB_bool, asG_bool, asG_und, Cs_true, Cs_false, List.map_cons, List.map_nil, List.append_nil, List.nil_append, List.cons_append, ↓reduceIte, Nat.reduceEqDiff, reduceCtorEq, ne_eq, not_true_eq_false, not_false_eq_true, beq_self_eq_true, beq_true, beq_false, Int.reduceEq, Int.reduceNeg, decide_true, decide_false, Bool.not_true, Bool.not_false, Nat.reduceAdd, Bool.false_eq_true, Bool.not_eq_true, Env.start, Env.ofList, fill_one, one1_int, fill_none, mem_eta, load_floor, loadA_ptr, storeA_ptr, load_refA, Mem.get_push, Mem.get_put, next_push', floor_push', next_put', floor_put', put_push', putC_nil, putC_zero, putC_succ, s_ne1, s_ne2, Nat.le_refl, and_self, ne_s1, ne_s2, ne_s3, ne_s4, ne_s5, lt_s1, lt_s2, lt_s3, lt_s4, lt_s5, le_s1, ext_tup, parts_nil, parts_cons, fill_all, nat_ne, nat_ne', lt_ss, lt_s, old_refl, old_push, old_at, mat_push, mat_put, mat_at, mat_self, mat_get, mat_next, mat_floor, mat_load, mat_read, mat_str, slice1_one, slice1_next, slice1_none, slice1_more, pick_one, pick_agg, fieldA_agg, cells_agg, cells_int, cells_bool, cells_str, cells_nil, cells_own, cell_int, cell_bool, cell_str, cell_nil, cell_emp, cell_sl, cell_own, cell_ptr, cell_nilP,  List.length_cons, List.length_nil, List.all_cons, List.all_nil, Bool.and_true, Bool.true_and, Bool.and_self, List.getElem?_cons_zero, List.getElem?_cons_succ, List.set_cons_zero, Nat.reduceLeDiff, true_and, and_true, g3, g13, g14, g18, succ_av (i := j) (by omega)]))
        rw [hfs]
        exact ⟨hlt, hk.trans hk2, _, ho2, EntsC.append (hxe.keep fun q hq => hk2.get q (hI q hq)) (EntsC.one ⟨dy, rfl, hdy.keep fun q hq => hk2.get q (hI q hq)⟩)⟩
      · simp only [hb, Bool.false_eq_true, if_false, List.append_nil] at hfs
        rw [hfs]
        exact ⟨hlt, hk, succ_av (by omega), xs, hxs, hxe⟩
    · (repeat' (with_reducible first | refine W_seq ?_ | refine W_region ?_ | refine W_block ?_ | refine W_if ?_ | refine W_skip ?_ | refine W_ret ?_ | refine W_exit ?_ | (refine Cs_intro (fun hb => ?_) (fun hb => ?_) <;> (try simp only [hb])) | refine Ws_if ?_ | simp (maxDischargeDepth := 12) only [Ws_op, Ws_up, Ws_nil, Wp_call, Wp_mv, Wp_pick, Wp_new, Wp_box, Wp_build, Wp_lit, litV_zero, litV_succ, Wp_load, Wp_store, Wp_nilCheck, Wp_ibin, Wp_sbin, Wp_beq, Wp_un, Wp_conv, Wp_toStr, Wp_same, Wp_ifc, Wp_fn, Wp_cutS, Wp_cutT, Wp_cut3, Wp_fieldAddr, Wp_field, Wp_at, Wp_atT, Wp_ixA, Wp_atP, Wp_ext, Wp_len, P1_some, ibinA_int, sbinA_str, unA_not, unA_neg, convA_int, sameA_str, nilA_ptr, nilA_ref, nilA_fn, addrA_ptr, addrA_ref, lenA_nil, lenA_emp, lenA_sl, lenA_own, lenA_str, bdA_none, ev, putO, K2_some, K2_none, Seq_normal, Seq_exit, Seq_ret, Blk_normal, Blk_exit, Blk_ret, RK_normal, RK_ret, NX_normal, NX_exit, NX_ret, P1_K2, resultsA, resA, List.mapM_cons, List.mapM_nil, Option.bind_eq_bind, Option.bind_some, Option.pure_def, Env.get_set, intOp, Option.map_some, Option.map_none, asB_bool, asG_bool, asG_und, Cs_true, Cs_false, List.map_cons, List.map_nil, List.append_nil, List.nil_append, List.cons_append, ↓reduceIte, Nat.reduceEqDiff, reduceCtorEq, ne_eq, not_true_eq_false, not_false_eq_true, beq_self_eq_true, beq_true, beq_false, Int.reduceEq, Int.reduceNeg, decide_true, decide_false, Bool.not_true, Bool.not_false, Nat.reduceAdd, Bool.false_eq_true, Bool.not_eq_true, Env.start, Env.ofList, fill_one, one1_int, fill_none, mem_eta, load_floor, loadA_ptr, storeA_ptr, load_refA, Mem.get_push, Mem.get_put, next_push', floor_push', next_put', floor_put', put_push', putC_nil, putC_zero, putC_succ, s_ne1, s_ne2, Nat.le_refl, and_self, ne_s1, ne_s2, ne_s3, ne_s4, ne_s5, lt_s1, lt_s2, lt_s3, lt_s4, lt_s5, le_s1, ext_tup, parts_nil, parts_cons, fill_all, nat_ne, nat_ne', lt_ss, lt_s, old_refl, old_push, old_at, mat_push, mat_put, mat_at, mat_self, mat_get, mat_next, mat_floor, mat_load, mat_read, mat_str, slice1_one, slice1_next, slice1_none, slice1_more, pick_one, pick_agg, fieldA_agg, cells_agg, cells_int, cells_bool, cells_str, cells_nil, cells_own, cell_int, cell_bool, cell_str, cell_nil, cell_emp, cell_sl, cell_own, cell_ptr, cell_nilP,  List.length_cons, List.length_nil, List.all_cons, List.all_nil, Bool.and_true, Bool.true_and, Bool.and_self, List.getElem?_cons_zero, List.getElem?_cons_succ, List.set_cons_zero, Nat.reduceLeDiff, true_and, and_true, g3, g13, g14, g18, hg', ho'.len, lt_false hlt]))
      rw [List.take_of_length_le (by omega)] at hxe
      exact ⟨hk, xs, hxs, hxe⟩
end Go.Proofs.Ytfghbndlpppkcaa
