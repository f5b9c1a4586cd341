/- The loop of merging. No statement of the seat is proved here. -/
import Derived.Test.YtfghbndlpppkcaaVMergeL
import Derived.Test.YtfghbndlpppkcaaVCuts
namespace Go.Proofs.Ytfghbndlpppkcaa
open Go Go.VI
set_option linter.unusedSimpArgs false
attribute [local irreducible] Ws Wp W C
set_option maxHeartbeats 4000000

theorem OwnE.ents {s : Mem} {b : Nat} {v : AV} {es : List Entry} (h : OwnE s b v es) : Ents s (fun q => b ≤ q ∧ q < s.next) v es := by
  obtain ⟨xs, h1, h2⟩ := h
  exact ⟨xs, h1.sl h2.sizes fun r n h => h1.row r 0 n 4 h, h2.mono fun r hr => ⟨hr.1, hr.2.1⟩⟩

/-- What a log's variable holds. -/
abbrev logRow (l : Log) (d w : AV) : Row := ⟨28, 5, [[.int .u64 l.base.index, .int .u64 l.base.term, .int .i64 l.base.kind, d, w]]⟩

/-- How the loop leaves memory. -/
def MergeR (l : Log) (m : List Entry) (d6 : AV) (S : Mem) (r b : Nat) (s' : Mem) : Prop :=
  ∃ w', s'.get r = some (logRow l d6 w') ∧ Ents s' (fun q => b ≤ q ∧ q < s'.next) w' m ∧ Byt s' (fun q => b ≤ q ∧ q < s'.next) d6 l.base.data ∧ S.next ≤ s'.next ∧ s'.floor = S.floor ∧ ∀ q, q < b → q ≠ r → s'.get q = S.get q

theorem merge_loop {l : Log} {ix tm : Int} {es : List Entry} {D : Nat → Prop} {S : Mem} {E : Env} {wv d6 w6 : AV} {r b : Nat}
    (hg : S.get r = some (logRow l d6 w6)) (hrb : r < b) (hfr : S.floor ≤ r) (hbS : b ≤ S.next) (hI : ∀ q, D q → q < r)
    (hd6 : Byt S (fun q => b ≤ q ∧ q < S.next ∧ ∀ i n z, w6 ≠ .own q i n z) d6 l.base.data) (ho6 : OwnE S b w6 l.l) (hes : Ents S D wv es) (hew : ∀ e ∈ es, e.Wf) (hw : l.Wf)
    (hc : Cons l.base.index l.l) (hbl : l.base.index ≤ 4611686018427387904) (hbe : beh ix tm es = true) (hen : Fit es.length) (hlo : l.base.index ≤ ix) (hhi : ix ≤ l.base.index + l.l.length)
    (h3 : E.get 3 = wv) (h4 : E.get 4 = .ptr r 0 0) (h50 : E.get 50 = wv) (h51 : E.get 51 = .int .i64 es.length) (h52 : E.get 52 = .int .i64 0) :
    W tab (.loop cf13l0) E S (fun x _ s' => x = .exit 0 ∧ MergeR l (mrg l.base.index l.base.term l.l es) d6 S r b s') := by
  have hcE := beh_cons _ _ _ hbe
  have hn := hw.len
  have hbi := hw.base.index
  refine W_inv es.length (fun i e s' => Keep S.next S s' ∧ e.get 52 = .int .i64 i ∧ ix + i ≤ l.base.index + l.l.length ∧ mrg l.base.index l.base.term l.l es = mrg l.base.index l.base.term l.l (es.drop i)) (by delta cf13l0; exact rfl) ?_ ?_
  · exact ⟨Keep.refl _ _, h52, by simpa using hhi, rfl⟩
  · rintro i e s' hi hfm ⟨hk, g52, hix, hm⟩
    have g3 : e.get 3 = wv := (hfm 3 rfl).trans h3
    have g4 : e.get 4 = .ptr r 0 0 := (hfm 4 rfl).trans h4
    have g50 : e.get 50 = wv := (hfm 50 rfl).trans h50
    have g51 : e.get 51 = .int .i64 es.length := (hfm 51 rfl).trans h51
    have hrS : r < S.next := by omega
    have hg' : s'.get r = some (logRow l d6 w6) := (hk.get r hrS).trans hg
    have hf' : s'.floor ≤ r := by rw [hk.floor]; exact hfr
    have hnx : S.next ≤ s'.next := hk.next
    have hID : ∀ q, D q → q < s'.next := fun q hq => by have := hI q hq; omega
    have hes' := hes.keep fun q hq => hk.get q (by have := hI q hq; omega)
    by_cases hlt : i < es.length
    · obtain ⟨x, hx⟩ := get_of hlt
      obtain ⟨dx, p, hp, P, hdx⟩ := hes'.atk hID hx
      have hxi := hcE i x hx
      have hxw := hew x (List.mem_of_getElem? hx)
      have hf'' : s'.floor ≤ s'.next := by omega
      have hr' : r < s'.next := by omega
      (repeat' (with_reducible first | refine W_seq ?_ | refine W_region ?_ | refine W_block ?_ | refine W_if ?_ | refine W_skip ?_ | refine W_ret ?_ | refine W_exit ?_ | (refine Cs_intro (fun hb => ?_) (fun hb => ?_) <;> (try simp only [hb])) | refine Ws_if ?_ | simp (maxDischargeDepth := 12) only [Ws_op, Ws_up, Ws_nil, Wp_call, Wp_mv, Wp_pick, Wp_new, Wp_box, Wp_build, Wp_lit, litV_zero, litV_succ, Wp_load, Wp_store, Wp_nilCheck, Wp_ibin, Wp_sbin, Wp_beq, Wp_un, Wp_conv, Wp_toStr, Wp_same, Wp_ifc, Wp_fn, Wp_cutS, Wp_cutT, Wp_cut3, Wp_fieldAddr, Wp_field, Wp_at, Wp_atT, Wp_ixA, Wp_atP, Wp_ext, Wp_len, P1_some, ibinA_int, sbinA_str, unA_not, unA_neg, convA_int, sameA_str, nilA_ptr, nilA_ref, nilA_fn, addrA_ptr, addrA_ref, lenA_nil, lenA_emp, lenA_sl, lenA_own, lenA_str, bdA_none, ev, putO, K2_some, K2_none, Seq_normal, Seq_exit, Seq_ret, Blk_normal, Blk_exit, Blk_ret, RK_normal, RK_ret, NX_normal, NX_exit, NX_ret, P1_K2, resultsA, resA, List.mapM_cons, List.mapM_nil, Option.bind_eq_bind, Option.bind_some, Option.pure_def, Env.get_set, intOp, Option.map_some, Option.map_none, asB_bool, asG_bool, asG_und, Cs_true, Cs_false, List.map_cons, List.map_nil, List.append_nil, List.nil_append, List.cons_append, ↓reduceIte, Nat.reduceEqDiff, reduceCtorEq, ne_eq, not_true_eq_false, not_false_eq_true, beq_self_eq_true, beq_true, beq_false, Int.reduceEq, Int.reduceNeg, decide_true, decide_false, Bool.not_true, Bool.not_false, Nat.reduceAdd, Bool.false_eq_true, Bool.not_eq_true, Env.start, Env.ofList, fill_one, one1_int, fill_none, mem_eta, load_floor, loadA_ptr, storeA_ptr, load_refA, Mem.get_push, Mem.get_put, next_push', floor_push', next_put', floor_put', put_push', putC_nil, putC_zero, putC_succ, s_ne1, s_ne2, Nat.le_refl, and_self, ne_s1, ne_s2, ne_s3, ne_s4, ne_s5, lt_s1, lt_s2, lt_s3, lt_s4, lt_s5, le_s1, ext_tup, parts_nil, parts_cons, fill_all, nat_ne, nat_ne', lt_ss, lt_s, old_refl, old_push, old_at, mat_push, mat_put, mat_at, mat_self, mat_get, mat_next, mat_floor, mat_load, mat_read, mat_str, slice1_one, slice1_next, slice1_none, slice1_more, pick_one, pick_agg, fieldA_agg, cells_agg, cells_int, cells_bool, cells_str, cells_nil, cells_own, cell_int, cell_bool, cell_str, cell_nil, cell_emp, cell_sl, cell_own, cell_ptr, cell_nilP,  List.length_cons, List.length_nil, List.all_cons, List.all_nil, Bool.and_true, Bool.true_and, Bool.and_self, List.getElem?_cons_zero, List.getElem?_cons_succ, List.set_cons_zero, Nat.reduceLeDiff, true_and, and_true, g3, g4, g50, g51, g52, lt_true hlt, hp, P.ld, hdx.cell, hg', hf'', hr']))
      have hkx := pushes s' ⟨25, 4, [[.int .u64 x.index, .int .u64 x.term, .int .i64 x.kind, dx]]⟩
      have hlog : ∀ M, (∀ q, b ≤ q → q < S.next → M.get q = S.get q) → LogV M (fun q => b ≤ q ∧ q < S.next) (.agg [.int .u64 l.base.index, .int .u64 l.base.term, .int .i64 l.base.kind, d6, w6]) l := fun M hM =>
        ⟨d6, w6, rfl, (hd6.keep fun q hq => hM q hq.1 hq.2.1).mono fun q hq => ⟨hq.1, hq.2.1⟩, ho6.ents.keep fun q hq => hM q hq.1 hq.2⟩
      refine term_c (l := l) (D := fun q => b ≤ q ∧ q < S.next) (hkx.ok hf'') (fun q hq => by rw [Mem.next_push]; omega) (hlog _ fun q h1 h2 => by rw [Mem.get_push, if_neg (by omega)]; exact hk.get q h2) hw hc hbl hxw.index fun s7 hk7 => ?_
      have hk07 := hkx.then hk7
      have hkS := hk.trans (hk07.le hnx)
      have a7 : s'.next < s7.next := hk7.next
      have b7 : r < s7.next := by omega
      have f7 : s7.floor ≤ r := by rw [hk07.floor]; exact hf'
      obtain ⟨c1, c2⟩ := mrg_cut (b := l.base.index) (t := l.base.term) (ls := l.l) hx hm
      generalize hto : termO l.base.index l.base.term l.l x.index = to at c1 c2
      obtain ⟨tt, tb⟩ := to
      by_cases hok : (tt, tb) = (x.term, true)
      · obtain ⟨rfl, rfl⟩ := Prod.mk.inj hok
        have b8 : s'.next < s7.next := a7
        (repeat' (with_reducible first | refine W_seq ?_ | refine W_region ?_ | refine W_block ?_ | refine W_if ?_ | refine W_skip ?_ | refine W_ret ?_ | refine W_exit ?_ | (refine Cs_intro (fun hb => ?_) (fun hb => ?_) <;> (try simp only [hb])) | refine Ws_if ?_ | simp (maxDischargeDepth := 12) only [Ws_op, Ws_up, Ws_nil, Wp_call, Wp_mv, Wp_pick, Wp_new, Wp_box, Wp_build, Wp_lit, litV_zero, litV_succ, Wp_load, Wp_store, Wp_nilCheck, Wp_ibin, Wp_sbin, Wp_beq, Wp_un, Wp_conv, Wp_toStr, Wp_same, Wp_ifc, Wp_fn, Wp_cutS, Wp_cutT, Wp_cut3, Wp_fieldAddr, Wp_field, Wp_at, Wp_atT, Wp_ixA, Wp_atP, Wp_ext, Wp_len, P1_some, ibinA_int, sbinA_str, unA_not, unA_neg, convA_int, sameA_str, nilA_ptr, nilA_ref, nilA_fn, addrA_ptr, addrA_ref, lenA_nil, lenA_emp, lenA_sl, lenA_own, lenA_str, bdA_none, ev, putO, K2_some, K2_none, Seq_normal, Seq_exit, Seq_ret, Blk_normal, Blk_exit, Blk_ret, RK_normal, RK_ret, NX_normal, NX_exit, NX_ret, P1_K2, resultsA, resA, List.mapM_cons, List.mapM_nil, Option.bind_eq_bind, Option.bind_some, Option.pure_def, Env.get_set, intOp, Option.map_some, Option.map_none, asB_bool, asG_bool, asG_und, Cs_true, Cs_false, List.map_cons, List.map_nil, List.append_nil, List.nil_append, List.cons_append, ↓reduceIte, Nat.reduceEqDiff, reduceCtorEq, ne_eq, not_true_eq_false, not_false_eq_true, beq_self_eq_true, beq_true, beq_false, Int.reduceEq, Int.reduceNeg, decide_true, decide_false, Bool.not_true, Bool.not_false, Nat.reduceAdd, Bool.false_eq_true, Bool.not_eq_true, Env.start, Env.ofList, fill_one, one1_int, fill_none, mem_eta, load_floor, loadA_ptr, storeA_ptr, load_refA, Mem.get_push, Mem.get_put, next_push', floor_push', next_put', floor_put', put_push', putC_nil, putC_zero, putC_succ, s_ne1, s_ne2, Nat.le_refl, and_self, ne_s1, ne_s2, ne_s3, ne_s4, ne_s5, lt_s1, lt_s2, lt_s3, lt_s4, lt_s5, le_s1, ext_tup, parts_nil, parts_cons, fill_all, nat_ne, nat_ne', lt_ss, lt_s, old_refl, old_push, old_at, mat_push, mat_put, mat_at, mat_self, mat_get, mat_next, mat_floor, mat_load, mat_read, mat_str, slice1_one, slice1_next, slice1_none, slice1_more, pick_one, pick_agg, fieldA_agg, cells_agg, cells_int, cells_bool, cells_str, cells_nil, cells_own, cell_int, cell_bool, cell_str, cell_nil, cell_emp, cell_sl, cell_own, cell_ptr, cell_nilP,  List.length_cons, List.length_nil, List.all_cons, List.all_nil, Bool.and_true, Bool.true_and, Bool.and_self, List.getElem?_cons_zero, List.getElem?_cons_succ, List.set_cons_zero, Nat.reduceLeDiff, true_and, and_true, g3, g4, g50, g51, g52, hk7.get, b7, b8, bne_self_eq_false, succ_av (i := i) (by omega)]))
        refine ⟨hlt, hkS, ?_, c1 rfl⟩
        have := (termO_in hc hto).2
        push_cast
        omega
      · have c2' := c2 hok
        obtain ⟨k, hk1⟩ : ∃ k : Nat, x.index - l.base.index - 1 = (k : Int) := ⟨(x.index - l.base.index - 1).toNat, by omega⟩
        have hkl : k ≤ l.l.length := by omega
        have hmk : mrg l.base.index l.base.term l.l es = l.l.take k ++ es.drop i := by rw [c2', hk1]; rfl
        have w1 : IntKind.u64.wrap (x.index - l.base.index) = x.index - l.base.index := wrap_u64 (by omega)
        have w2 : IntKind.u64.wrap (x.index - l.base.index - 1) = (k : Int) := by rw [wrap_u64 (by omega)]; omega
        have hg7 : s7.get r = some (logRow l d6 w6) := (hkS.get r hrS).trans hg
        have hg7' : s7.get s'.next = some ⟨25, 4, [[.int .u64 x.index, .int .u64 x.term, .int .i64 x.kind, dx]]⟩ := (hk7.get s'.next (by rw [Mem.next_push]; omega)).trans (by rw [Mem.get_push, if_pos rfl])
        obtain ⟨xs6, hx6, hxe6⟩ := ho6
        have hcut := hx6.cutK (k := k) (by rw [hxe6.1]; exact hkl)
        have hes7 := hes.keep fun q hq => hkS.get q (by have := hI q hq; omega)
        obtain ⟨ys, hys, hyse⟩ := hes7
        obtain ⟨v8, hcut2, hv8⟩ := hys.cut (lo := some i) (hi := none) (by simp only [Option.getD_some, Option.getD_none, hyse.1]; omega) (by simp)
        have hv8' : Ents s7 D v8 (es.drop i) := ⟨ys.drop i, by simpa using hv8, hyse.drop i⟩
        have split : tb = false ∧ (tt != tt) = false ∨ tb = true ∧ (tt != x.term) = true := by
          cases tb with
          | false => exact .inl ⟨rfl, bne_self_eq_false tt⟩
          | true => exact .inr ⟨rfl, by simp only [bne_iff_ne, ne_eq]; intro h; exact hok (by rw [h])⟩
        rcases split with ⟨rfl, htt⟩ | ⟨rfl, htt⟩
        all_goals (repeat' (with_reducible first | refine W_seq ?_ | refine W_region ?_ | refine W_block ?_ | refine W_if ?_ | refine W_skip ?_ | refine W_ret ?_ | refine W_exit ?_ | (refine Cs_intro (fun hb => ?_) (fun hb => ?_) <;> (try simp only [hb])) | refine Ws_if ?_ | simp (maxDischargeDepth := 12) only [Ws_op, Ws_up, Ws_nil, Wp_call, Wp_mv, Wp_pick, Wp_new, Wp_box, Wp_build, Wp_lit, litV_zero, litV_succ, Wp_load, Wp_store, Wp_nilCheck, Wp_ibin, Wp_sbin, Wp_beq, Wp_un, Wp_conv, Wp_toStr, Wp_same, Wp_ifc, Wp_fn, Wp_cutS, Wp_cutT, Wp_cut3, Wp_fieldAddr, Wp_field, Wp_at, Wp_atT, Wp_ixA, Wp_atP, Wp_ext, Wp_len, P1_some, ibinA_int, sbinA_str, unA_not, unA_neg, convA_int, sameA_str, nilA_ptr, nilA_ref, nilA_fn, addrA_ptr, addrA_ref, lenA_nil, lenA_emp, lenA_sl, lenA_own, lenA_str, bdA_none, ev, putO, K2_some, K2_none, Seq_normal, Seq_exit, Seq_ret, Blk_normal, Blk_exit, Blk_ret, RK_normal, RK_ret, NX_normal, NX_exit, NX_ret, P1_K2, resultsA, resA, List.mapM_cons, List.mapM_nil, Option.bind_eq_bind, Option.bind_some, Option.pure_def, Env.get_set, intOp, Option.map_some, Option.map_none, asB_bool, asG_bool, asG_und, Cs_true, Cs_false, List.map_cons, List.map_nil, List.append_nil, List.nil_append, List.cons_append, ↓reduceIte, Nat.reduceEqDiff, reduceCtorEq, ne_eq, not_true_eq_false, not_false_eq_true, beq_self_eq_true, beq_true, beq_false, Int.reduceEq, Int.reduceNeg, decide_true, decide_false, Bool.not_true, Bool.not_false, Nat.reduceAdd, Bool.false_eq_true, Bool.not_eq_true, Env.start, Env.ofList, fill_one, one1_int, fill_none, mem_eta, load_floor, loadA_ptr, storeA_ptr, load_refA, Mem.get_push, Mem.get_put, next_push', floor_push', next_put', floor_put', put_push', putC_nil, putC_zero, putC_succ, s_ne1, s_ne2, Nat.le_refl, and_self, ne_s1, ne_s2, ne_s3, ne_s4, ne_s5, lt_s1, lt_s2, lt_s3, lt_s4, lt_s5, le_s1, ext_tup, parts_nil, parts_cons, fill_all, nat_ne, nat_ne', lt_ss, lt_s, old_refl, old_push, old_at, mat_push, mat_put, mat_at, mat_self, mat_get, mat_next, mat_floor, mat_load, mat_read, mat_str, slice1_one, slice1_next, slice1_none, slice1_more, pick_one, pick_agg, fieldA_agg, cells_agg, cells_int, cells_bool, cells_str, cells_nil, cells_own, cell_int, cell_bool, cell_str, cell_nil, cell_emp, cell_sl, cell_own, cell_ptr, cell_nilP,  List.length_cons, List.length_nil, List.all_cons, List.all_nil, Bool.and_true, Bool.true_and, Bool.and_self, List.getElem?_cons_zero, List.getElem?_cons_succ, List.set_cons_zero, Nat.reduceLeDiff, true_and, and_true, g3, g4, g50, g51, g52, hg7, hg7', b7, htt, w1, w2, bdA_some, bdV_nat, hcut, hcut2]))
        all_goals
          refine own_c (D := D) (Nat.le_refl _) (fun q hq => by have := hI q hq; show q < s7.next; omega) (hv8'.keep fun q _ => rfl) (fun e he => hew e (List.mem_of_mem_drop he)) (by show (es.drop i).length < 1000000000000; rw [List.length_drop]; omega) fun w8 s8 ho8 hk8 => ?_
          have hk8' : Keep s7.next s7 (s8.at s7.floor) := Keep.of_at hk8
          have a8 : s7.next ≤ s8.next := hk8.next
          have hkS8 : Keep S.next S (s8.at s7.floor) := hkS.trans (hk8'.le (by omega))
          obtain ⟨ys8, hx8, hxe8⟩ := ho8
          have hl8 := hxe8.1
          rw [List.length_drop] at hl8
          have hx6' : OwnL (s8.at s7.floor) b w6 25 4 xs6 := hx6.keep hkS8 fun q h => (hx6.row q 0 _ 4 h).2
          refine app_cut (k := k) (b := b) (v := w6) (xs := xs6) (ys := ys8) (show s7.floor ≤ b by omega) (show b ≤ s8.next by omega) hx6' (by simp only [ev, Env.get_set, ↓reduceIte, Nat.reduceEqDiff]) (by rw [hxe6.1]; exact hkl) (by simp only [ev, Env.get_set, ↓reduceIte, Nat.reduceEqDiff]; exact (mat_read s8 _ _).trans hx8.read) (hx8.sl (D := fun _ => True) hxe8.sizes fun _ _ _ => trivial).uni (room (by omega) (by omega)) ?_
          intro v9 s9 ho9 hx9 hr9
          have a9 : s8.next ≤ s9.next := hx9.next
          have hne : ∀ q, q < b → ∀ i n z, w6 ≠ .own q i n z := fun q hq i n z h => by have := (hx6.row q i n z h).1; omega
          have hg9 : s9.get r = some (logRow l d6 w6) := (hx9.get r (show r < s8.next by omega) (hne r hrb)).trans ((hk8'.get r b7).trans hg7)
          have f9 : s9.floor ≤ r := by rw [hx9.floor]; exact f7
          have hz9 : ∀ c ∈ xs6.take k ++ ys8, c.length = 4 := by
            intro c hc
            rcases List.mem_append.mp hc with hc | hc
            · exact hxe6.sizes c (List.mem_of_mem_take hc)
            · exact hxe8.sizes c hc
          have hc9 : isCell v9 = true := (ho9.sl (D := fun _ => True) hz9 fun _ _ _ => trivial).cell
          (repeat' (with_reducible first | refine W_seq ?_ | refine W_region ?_ | refine W_block ?_ | refine W_if ?_ | refine W_skip ?_ | refine W_ret ?_ | refine W_exit ?_ | (refine Cs_intro (fun hb => ?_) (fun hb => ?_) <;> (try simp only [hb])) | refine Ws_if ?_ | simp (maxDischargeDepth := 12) only [Ws_op, Ws_up, Ws_nil, Wp_call, Wp_mv, Wp_pick, Wp_new, Wp_box, Wp_build, Wp_lit, litV_zero, litV_succ, Wp_load, Wp_store, Wp_nilCheck, Wp_ibin, Wp_sbin, Wp_beq, Wp_un, Wp_conv, Wp_toStr, Wp_same, Wp_ifc, Wp_fn, Wp_cutS, Wp_cutT, Wp_cut3, Wp_fieldAddr, Wp_field, Wp_at, Wp_atT, Wp_ixA, Wp_atP, Wp_ext, Wp_len, P1_some, ibinA_int, sbinA_str, unA_not, unA_neg, convA_int, sameA_str, nilA_ptr, nilA_ref, nilA_fn, addrA_ptr, addrA_ref, lenA_nil, lenA_emp, lenA_sl, lenA_own, lenA_str, bdA_none, ev, putO, K2_some, K2_none, Seq_normal, Seq_exit, Seq_ret, Blk_normal, Blk_exit, Blk_ret, RK_normal, RK_ret, NX_normal, NX_exit, NX_ret, P1_K2, resultsA, resA, List.mapM_cons, List.mapM_nil, Option.bind_eq_bind, Option.bind_some, Option.pure_def, Env.get_set, intOp, Option.map_some, Option.map_none, asB_bool, asG_bool, asG_und, Cs_true, Cs_false, List.map_cons, List.map_nil, List.append_nil, List.nil_append, List.cons_append, ↓reduceIte, Nat.reduceEqDiff, reduceCtorEq, ne_eq, not_true_eq_false, not_false_eq_true, beq_self_eq_true, beq_true, beq_false, Int.reduceEq, Int.reduceNeg, decide_true, decide_false, Bool.not_true, Bool.not_false, Nat.reduceAdd, Bool.false_eq_true, Bool.not_eq_true, Env.start, Env.ofList, fill_one, one1_int, fill_none, mem_eta, load_floor, loadA_ptr, storeA_ptr, load_refA, Mem.get_push, Mem.get_put, next_push', floor_push', next_put', floor_put', put_push', putC_nil, putC_zero, putC_succ, s_ne1, s_ne2, Nat.le_refl, and_self, ne_s1, ne_s2, ne_s3, ne_s4, ne_s5, lt_s1, lt_s2, lt_s3, lt_s4, lt_s5, le_s1, ext_tup, parts_nil, parts_cons, fill_all, nat_ne, nat_ne', lt_ss, lt_s, old_refl, old_push, old_at, mat_push, mat_put, mat_at, mat_self, mat_get, mat_next, mat_floor, mat_load, mat_read, mat_str, slice1_one, slice1_next, slice1_none, slice1_more, pick_one, pick_agg, fieldA_agg, cells_agg, cells_int, cells_bool, cells_str, cells_nil, cells_own, cell_int, cell_bool, cell_str, cell_nil, cell_emp, cell_sl, cell_own, cell_ptr, cell_nilP,  List.length_cons, List.length_nil, List.all_cons, List.all_nil, Bool.and_true, Bool.true_and, Bool.and_self, List.getElem?_cons_zero, List.getElem?_cons_succ, List.set_cons_zero, Nat.reduceLeDiff, true_and, and_true, g3, g4, g50, g51, g52, hg9, b7, f9, hc9, cells_cell hc9]))
          have e6 : ∀ q, b ≤ q → q < S.next → (∀ i n z, w6 ≠ .own q i n z) → (s9.put r (some (logRow l d6 v9))).get q = S.get q := fun q h1 h2 h3 => by
            rw [Mem.get_put, if_neg (by omega), hx9.get q (show q < s8.next by omega) h3]
            exact hkS8.get q h2
          have e8 : ∀ q, s7.next ≤ q → q < s8.next → (s9.put r (some (logRow l d6 v9))).get q = s8.get q := fun q h1 h2 => by
            rw [Mem.get_put, if_neg (by omega), hx9.get q h2 fun i n z h => by have := (hx6.row q i n z h).2; omega]
            rfl
          refine ⟨v9, by rw [Mem.get_put, if_pos rfl], ?_, ?_, by show S.next ≤ s9.next; omega, by show s9.floor = S.floor; rw [hx9.floor, ← hkS.floor]; rfl, ?_⟩
          · rw [hmk]
            refine ⟨_, (ho9.sl (D := fun q => b ≤ q ∧ q < s9.next) hz9 fun q n h => ho9.row q 0 n 4 h).keep fun q hq => ?_, EntsC.append ((hxe6.take k).keep ?_ |>.mono ?_) (hxe8.keep ?_ |>.mono ?_)⟩
            · rw [Mem.get_put, if_neg (by omega)]
            · exact fun q hq => e6 q hq.1 hq.2.1 hq.2.2
            · exact fun q hq => ⟨hq.1, by show q < s9.next; have := hq.2.1; omega⟩
            · exact fun q hq => e8 q hq.1 hq.2.1
            · exact fun q hq => ⟨by have : s7.next ≤ q := hq.1; omega, by show q < s9.next; have := hq.2.1; omega⟩
          · exact (hd6.keep fun q hq => e6 q hq.1 hq.2.1 hq.2.2).mono fun q hq => ⟨hq.1, by show q < s9.next; have := hq.2.1; omega⟩
          · intro q h1 h2
            rw [Mem.get_put, if_neg h2, hx9.get q (show q < s8.next by omega) (hne q h1)]
            exact hkS8.get q (by omega)
    · (repeat' (with_reducible first | refine W_seq ?_ | refine W_region ?_ | refine W_block ?_ | refine W_if ?_ | refine W_skip ?_ | refine W_ret ?_ | refine W_exit ?_ | (refine Cs_intro (fun hb => ?_) (fun hb => ?_) <;> (try simp only [hb])) | refine Ws_if ?_ | simp (maxDischargeDepth := 12) only [Ws_op, Ws_up, Ws_nil, Wp_call, Wp_mv, Wp_pick, Wp_new, Wp_box, Wp_build, Wp_lit, litV_zero, litV_succ, Wp_load, Wp_store, Wp_nilCheck, Wp_ibin, Wp_sbin, Wp_beq, Wp_un, Wp_conv, Wp_toStr, Wp_same, Wp_ifc, Wp_fn, Wp_cutS, Wp_cutT, Wp_cut3, Wp_fieldAddr, Wp_field, Wp_at, Wp_atT, Wp_ixA, Wp_atP, Wp_ext, Wp_len, P1_some, ibinA_int, sbinA_str, unA_not, unA_neg, convA_int, sameA_str, nilA_ptr, nilA_ref, nilA_fn, addrA_ptr, addrA_ref, lenA_nil, lenA_emp, lenA_sl, lenA_own, lenA_str, bdA_none, ev, putO, K2_some, K2_none, Seq_normal, Seq_exit, Seq_ret, Blk_normal, Blk_exit, Blk_ret, RK_normal, RK_ret, NX_normal, NX_exit, NX_ret, P1_K2, resultsA, resA, List.mapM_cons, List.mapM_nil, Option.bind_eq_bind, Option.bind_some, Option.pure_def, Env.get_set, intOp, Option.map_some, Option.map_none, asB_bool, asG_bool, asG_und, Cs_true, Cs_false, List.map_cons, List.map_nil, List.append_nil, List.nil_append, List.cons_append, ↓reduceIte, Nat.reduceEqDiff, reduceCtorEq, ne_eq, not_true_eq_false, not_false_eq_true, beq_self_eq_true, beq_true, beq_false, Int.reduceEq, Int.reduceNeg, decide_true, decide_false, Bool.not_true, Bool.not_false, Nat.reduceAdd, Bool.false_eq_true, Bool.not_eq_true, Env.start, Env.ofList, fill_one, one1_int, fill_none, mem_eta, load_floor, loadA_ptr, storeA_ptr, load_refA, Mem.get_push, Mem.get_put, next_push', floor_push', next_put', floor_put', put_push', putC_nil, putC_zero, putC_succ, s_ne1, s_ne2, Nat.le_refl, and_self, ne_s1, ne_s2, ne_s3, ne_s4, ne_s5, lt_s1, lt_s2, lt_s3, lt_s4, lt_s5, le_s1, ext_tup, parts_nil, parts_cons, fill_all, nat_ne, nat_ne', lt_ss, lt_s, old_refl, old_push, old_at, mat_push, mat_put, mat_at, mat_self, mat_get, mat_next, mat_floor, mat_load, mat_read, mat_str, slice1_one, slice1_next, slice1_none, slice1_more, pick_one, pick_agg, fieldA_agg, cells_agg, cells_int, cells_bool, cells_str, cells_nil, cells_own, cell_int, cell_bool, cell_str, cell_nil, cell_emp, cell_sl, cell_own, cell_ptr, cell_nilP,  List.length_cons, List.length_nil, List.all_cons, List.all_nil, Bool.and_true, Bool.true_and, Bool.and_self, List.getElem?_cons_zero, List.getElem?_cons_succ, List.set_cons_zero, Nat.reduceLeDiff, true_and, and_true, g3, g4, g50, g51, g52, lt_false hlt]))
      rw [drop_end hlt, mrg] at hm
      rw [hm]
      refine ⟨w6, hg', (ho6.ents.keep fun q hq => hk.get q hq.2).mono fun q hq => ⟨hq.1, by omega⟩, (hd6.keep fun q hq => hk.get q hq.2.1).mono fun q hq => ⟨hq.1, by omega⟩, hnx, hk.floor, fun q h1 _ => hk.get q (by omega)⟩
end Go.Proofs.Ytfghbndlpppkcaa
