/- The outer loop of the other merging. No statement of the seat is proved here. -/
import Derived.Test.YtfghbndlpppkcaaVMergeLoop2
namespace Go.Proofs.Ytfghbndlpppkcaa
open Go Go.VI
set_option linter.unusedSimpArgs false
attribute [local irreducible] Ws Wp W C
set_option maxHeartbeats 4000000

/-- Rows that the merged list may lie in. -/
abbrev MR (D : Nat → Prop) (b r : Nat) (s : Mem) : Nat → Prop := fun q => D q ∨ (b ≤ q ∧ q < s.next ∧ q ≠ r)

structure MInv (l : Log) (ix : Int) (es : List Entry) (D : Nat → Prop) (S : Mem) (d : AV) (b r i : Nat) (out : List Entry) (w : AV) (s : Mem) : Prop where
  row : s.get r = some (logRow l d w)
  ents : Ents s (MR D b r s) w out
  cons : Cons l.base.index out
  len : out.length ≤ l.l.length + i
  next : S.next ≤ s.next
  floor : s.floor = S.floor
  old : ∀ q, q < b → s.get q = S.get q
  phase : (out = l.l ∧ mrg l.base.index l.base.term l.l es = mrg l.base.index l.base.term l.l (es.drop i) ∧ ix + i ≤ l.base.index + l.l.length) ∨ (mrg l.base.index l.base.term l.l es = out ++ es.drop i ∧ l.base.index + out.length = ix + i)

/-- What one more entry gives. -/
theorem mstep {l : Log} {ix : Int} {es out : List Entry} {i : Nat} {x : Entry} (hx : es[i]? = some x) (hxi : x.index = ix + 1 + i) (hlo : l.base.index ≤ ix) (hc : Cons l.base.index out)
    (hp : (out = l.l ∧ mrg l.base.index l.base.term l.l es = mrg l.base.index l.base.term l.l (es.drop i) ∧ ix + i ≤ l.base.index + l.l.length) ∨ (mrg l.base.index l.base.term l.l es = out ++ es.drop i ∧ l.base.index + out.length = ix + i)) :
    (termO l.base.index l.base.term out x.index = (x.term, true) → out = l.l ∧ mrg l.base.index l.base.term l.l es = mrg l.base.index l.base.term l.l (es.drop (i + 1)) ∧ ix + (i + 1) ≤ l.base.index + l.l.length) ∧
    (termO l.base.index l.base.term out x.index ≠ (x.term, true) → Cons l.base.index (out.filter (fun e => decide (e.index < x.index)) ++ [x]) ∧ mrg l.base.index l.base.term l.l es = (out.filter (fun e => decide (e.index < x.index)) ++ [x]) ++ es.drop (i + 1) ∧ l.base.index + ((out.filter (fun e => decide (e.index < x.index)) ++ [x]).length : Nat) = ix + (i + 1) ∧ (out.filter (fun e => decide (e.index < x.index)) ++ [x]).length ≤ out.length + 1) := by
  obtain ⟨k, hk⟩ : ∃ k : Nat, x.index = l.base.index + 1 + k := ⟨(x.index - l.base.index - 1).toNat, by omega⟩
  have hf : out.filter (fun e => decide (e.index < x.index)) = out.take k := by rw [hk]; exact filter_take _ _ _ hc
  have hd := drop_cons hx
  rcases hp with ⟨rfl, hm, hle⟩ | ⟨hm, hl⟩
  · obtain ⟨c1, c2⟩ := mrg_cut hx hm
    have hkl : k ≤ l.l.length := by omega
    refine ⟨fun h => ⟨rfl, c1 h, by have := (termO_in hc h).2; omega⟩, fun h => ?_⟩
    rw [hf]
    have htl : (l.l.take k).length = k := by rw [List.length_take]; omega
    refine ⟨(hc.take k).snoc (by rw [htl, hk]), ?_, ?_, ?_⟩
    · rw [c2 h, hd, show x.index - l.base.index - 1 = (k : Int) by omega, Int.toNat_natCast, List.append_assoc]; rfl
    · rw [List.length_append, htl, List.length_singleton]; push_cast; omega
    · rw [List.length_append, htl, List.length_singleton]; omega
  · have hkl : k = out.length := by omega
    have ht : out.take k = out := by rw [hkl]; exact List.take_length
    refine ⟨fun h => ?_, fun h => ?_⟩
    · simp only [termO] at h
      rw [if_neg (by omega), find_out hc (by omega)] at h
      simp at h
    · rw [hf, ht]
      refine ⟨hc.snoc (by rw [hk, hkl]), ?_, ?_, ?_⟩
      · rw [hm, hd, List.append_assoc]; rfl
      · rw [List.length_append, List.length_singleton]; push_cast; omega
      · rw [List.length_append, List.length_singleton]; omega

theorem rmerge_loop {l : Log} {ix tm : Int} {es : List Entry} {D : Nat → Prop} {S : Mem} {E : Env} {wv d w6 : AV} {r b : Nat}
    (h0 : MInv l ix es D S d b r 0 l.l w6 S) (hbr : b ≤ r) (hrS : r < S.next) (hfr : S.floor ≤ b) (hI : ∀ q, D q → q < b)
    (hd : Byt S D d l.base.data) (hes : Ents S D wv es) (hw : l.Wf)
    (hbe : beh ix tm es = true) (hen : es.length ≤ 4294967296) (hln : l.l.length ≤ 4096) (hlo : l.base.index ≤ ix)
    (h3 : E.get 3 = wv) (h13 : E.get 13 = .ptr r 0 0) (h14 : E.get 14 = .int .i64 0) :
    W tab (.loop cf14l0) E S (fun x _ s' => x = .exit 0 ∧ ∃ w, MInv l ix es D S d b r es.length (mrg l.base.index l.base.term l.l es) w s') := by
  have hcE := beh_cons _ _ _ hbe
  have hbi := hw.base.index
  refine W_inv es.length (fun i e s' => e.get 14 = .int .i64 i ∧ ∃ out w, MInv l ix es D S d b r i out w s') (by delta cf14l0; exact rfl) ?_ ?_
  · exact ⟨h14, _, _, h0⟩
  · rintro i e s' hi hfm ⟨g14, out, w, hM⟩
    have g3 : e.get 3 = wv := (hfm 3 rfl).trans h3
    have g13 : e.get 13 = .ptr r 0 0 := (hfm 13 rfl).trans h13
    have hg := hM.row
    have hnx := hM.next
    have hol := hM.len
    have hf' : s'.floor ≤ s'.next := by rw [hM.floor]; omega
    have hf'' : s'.floor ≤ r := by rw [hM.floor]; omega
    have hr' : r < s'.next := by omega
    have hID : ∀ q, D q → q < s'.next := fun q hq => by have := hI q hq; omega
    have hIM : ∀ q, MR D b r s' q → q < s'.next := fun q hq => by exact hq.elim (hID q) fun h => h.2.1
    have hes' := hes.keep fun q hq => hM.old q (hI q hq)
    have hd' := hd.keep fun q hq => hM.old q (hI q hq)
    by_cases hlt : i < es.length
    · obtain ⟨x, hx⟩ := get_of hlt
      obtain ⟨dx, p, hp, P, hdx⟩ := hes'.atk hID hx
      have hxi := hcE i x hx
      obtain ⟨m1, m2⟩ := mstep (l := l) hx hxi hlo hM.cons hM.phase
      (repeat' (with_reducible first | refine W_seq ?_ | refine W_region ?_ | refine W_block ?_ | refine W_if ?_ | refine W_skip ?_ | refine W_ret ?_ | refine W_exit ?_ | (refine Cs_intro (fun hb => ?_) (fun hb => ?_) <;> (try simp only [hb])) | refine Ws_if ?_ | simp (maxDischargeDepth := 12) only [Ws_op, Ws_up, Ws_nil, Wp_call, Wp_mv, Wp_pick, Wp_new, Wp_box, Wp_build, Wp_lit, litV_zero, litV_succ, Wp_load, Wp_store, Wp_nilCheck, Wp_ibin, Wp_sbin, Wp_beq, Wp_un, Wp_conv, Wp_toStr, Wp_same, Wp_ifc, Wp_fn, Wp_cutS, Wp_cutT, Wp_cut3, Wp_fieldAddr, Wp_field, Wp_at, Wp_atT, Wp_ixA, Wp_atP, Wp_ext, Wp_len, P1_some, ibinA_int, sbinA_str, unA_not, unA_neg, convA_int, sameA_str, nilA_ptr, nilA_ref, nilA_fn, addrA_ptr, addrA_ref, lenA_nil, lenA_emp, lenA_sl, lenA_own, lenA_str, bdA_none, ev, putO, K2_some, K2_none, Seq_normal, Seq_exit, Seq_ret, Blk_normal, Blk_exit, Blk_ret, RK_normal, RK_ret, NX_normal, NX_exit, NX_ret, P1_K2, resultsA, resA, List.mapM_cons, List.mapM_nil, Option.bind_eq_bind, Option.bind_some, Option.pure_def, Env.get_set, intOp, Option.map_some, Option.map_none, asB_bool, asG_bool, asG_und, Cs_true, Cs_false, List.map_cons, List.map_nil, List.append_nil, List.nil_append, List.cons_append, ↓reduceIte, Nat.reduceEqDiff, reduceCtorEq, ne_eq, not_true_eq_false, not_false_eq_true, beq_self_eq_true, beq_true, beq_false, Int.reduceEq, Int.reduceNeg, decide_true, decide_false, Bool.not_true, Bool.not_false, Nat.reduceAdd, Bool.false_eq_true, Bool.not_eq_true, Env.start, Env.ofList, fill_one, one1_int, fill_none, mem_eta, load_floor, loadA_ptr, storeA_ptr, load_refA, Mem.get_push, Mem.get_put, next_push', floor_push', next_put', floor_put', put_push', putC_nil, putC_zero, putC_succ, s_ne1, s_ne2, Nat.le_refl, and_self, ne_s1, ne_s2, ne_s3, ne_s4, ne_s5, lt_s1, lt_s2, lt_s3, lt_s4, lt_s5, le_s1, ext_tup, parts_nil, parts_cons, fill_all, nat_ne, nat_ne', lt_ss, lt_s, old_refl, old_push, old_at, mat_push, mat_put, mat_at, mat_self, mat_get, mat_next, mat_floor, mat_load, mat_read, mat_str, slice1_one, slice1_next, slice1_none, slice1_more, pick_one, pick_agg, fieldA_agg, cells_agg, cells_int, cells_bool, cells_str, cells_nil, cells_own, cell_int, cell_bool, cell_str, cell_nil, cell_emp, cell_sl, cell_own, cell_ptr, cell_nilP,  List.length_cons, List.length_nil, List.all_cons, List.all_nil, Bool.and_true, Bool.true_and, Bool.and_self, List.getElem?_cons_zero, List.getElem?_cons_succ, List.set_cons_zero, Nat.reduceLeDiff, true_and, and_true, g3, g13, g14, hes'.len, lt_true hlt, hp, P.ld, P.ldf, P.adr, Nat.zero_le, hdx.cell, hg, hf', hr']))
      refine rterm_c (l := ⟨l.base, out⟩) (D := MR D b r s') hf' hIM ⟨d, w, rfl, hd'.mono fun q hq => .inl hq, hM.ents⟩ (show out.length < 1000000000000 by omega) fun s7 hk7 => ?_
      have a7 : s'.next ≤ s7.next := hk7.next
      have hg7 : s7.get r = some (logRow l d w) := (hk7.get r hr').trans hg
      generalize hto : termO l.base.index l.base.term out x.index = to at m1 m2
      obtain ⟨tt, tb⟩ := to
      have hes7 := hes'.keep fun q hq => hk7.get q (hID q hq)
      have hID7 : In D s7 := fun q hq => by have := hID q hq; omega
      obtain ⟨dx2, p2, hp2, P2, hdx2⟩ := hes7.atk hID7 hx
      have f7 : s7.floor ≤ s7.next := by rw [hk7.floor]; omega
      by_cases hok : (tt, tb) = (x.term, true)
      · obtain ⟨rfl, rfl⟩ := Prod.mk.inj hok
        obtain ⟨o1, o2, o3⟩ := m1 rfl
        (repeat' (with_reducible first | refine W_seq ?_ | refine W_region ?_ | refine W_block ?_ | refine W_if ?_ | refine W_skip ?_ | refine W_ret ?_ | refine W_exit ?_ | (refine Cs_intro (fun hb => ?_) (fun hb => ?_) <;> (try simp only [hb])) | refine Ws_if ?_ | simp (maxDischargeDepth := 12) only [Ws_op, Ws_up, Ws_nil, Wp_call, Wp_mv, Wp_pick, Wp_new, Wp_box, Wp_build, Wp_lit, litV_zero, litV_succ, Wp_load, Wp_store, Wp_nilCheck, Wp_ibin, Wp_sbin, Wp_beq, Wp_un, Wp_conv, Wp_toStr, Wp_same, Wp_ifc, Wp_fn, Wp_cutS, Wp_cutT, Wp_cut3, Wp_fieldAddr, Wp_field, Wp_at, Wp_atT, Wp_ixA, Wp_atP, Wp_ext, Wp_len, P1_some, ibinA_int, sbinA_str, unA_not, unA_neg, convA_int, sameA_str, nilA_ptr, nilA_ref, nilA_fn, addrA_ptr, addrA_ref, lenA_nil, lenA_emp, lenA_sl, lenA_own, lenA_str, bdA_none, ev, putO, K2_some, K2_none, Seq_normal, Seq_exit, Seq_ret, Blk_normal, Blk_exit, Blk_ret, RK_normal, RK_ret, NX_normal, NX_exit, NX_ret, P1_K2, resultsA, resA, List.mapM_cons, List.mapM_nil, Option.bind_eq_bind, Option.bind_some, Option.pure_def, Env.get_set, intOp, Option.map_some, Option.map_none, asB_bool, asG_bool, asG_und, Cs_true, Cs_false, List.map_cons, List.map_nil, List.append_nil, List.nil_append, List.cons_append, ↓reduceIte, Nat.reduceEqDiff, reduceCtorEq, ne_eq, not_true_eq_false, not_false_eq_true, beq_self_eq_true, beq_true, beq_false, Int.reduceEq, Int.reduceNeg, decide_true, decide_false, Bool.not_true, Bool.not_false, Nat.reduceAdd, Bool.false_eq_true, Bool.not_eq_true, Env.start, Env.ofList, fill_one, one1_int, fill_none, mem_eta, load_floor, loadA_ptr, storeA_ptr, load_refA, Mem.get_push, Mem.get_put, next_push', floor_push', next_put', floor_put', put_push', putC_nil, putC_zero, putC_succ, s_ne1, s_ne2, Nat.le_refl, and_self, ne_s1, ne_s2, ne_s3, ne_s4, ne_s5, lt_s1, lt_s2, lt_s3, lt_s4, lt_s5, le_s1, ext_tup, parts_nil, parts_cons, fill_all, nat_ne, nat_ne', lt_ss, lt_s, old_refl, old_push, old_at, mat_push, mat_put, mat_at, mat_self, mat_get, mat_next, mat_floor, mat_load, mat_read, mat_str, slice1_one, slice1_next, slice1_none, slice1_more, pick_one, pick_agg, fieldA_agg, cells_agg, cells_int, cells_bool, cells_str, cells_nil, cells_own, cell_int, cell_bool, cell_str, cell_nil, cell_emp, cell_sl, cell_own, cell_ptr, cell_nilP,  List.length_cons, List.length_nil, List.all_cons, List.all_nil, Bool.and_true, Bool.true_and, Bool.and_self, List.getElem?_cons_zero, List.getElem?_cons_succ, List.set_cons_zero, Nat.reduceLeDiff, true_and, and_true, g3, g13, g14, hp2, P2.ld, P2.ldf, P2.adr, Nat.le_refl, beq_self_eq_true, succ_av (i := i) (by omega)]))
        refine ⟨hlt, out, w, hg7, (hM.ents.keep fun q hq => hk7.get q (hIM q hq)).mono fun q hq => hq.imp id fun h => ⟨h.1, by omega, h.2.2⟩, hM.cons, by omega, by omega, hk7.floor.trans hM.floor, fun q hq => (hk7.get q (by omega)).trans (hM.old q hq), .inl ⟨o1, o2, by push_cast; omega⟩⟩
      · obtain ⟨o1, o2, o3, o4⟩ := m2 hok
        have split : tb = false ∧ (tt == tt) = true ∨ tb = true ∧ (tt == x.term) = false := by
          cases tb with
          | false => exact .inl ⟨rfl, beq_self_eq_true tt⟩
          | true => exact .inr ⟨rfl, by simp only [beq_eq_false_iff_ne]; intro h; exact hok (by rw [h])⟩
        rcases split with ⟨rfl, htt⟩ | ⟨rfl, htt⟩
        all_goals (repeat' (with_reducible first | refine W_seq ?_ | refine W_region ?_ | refine W_block ?_ | refine W_if ?_ | refine W_skip ?_ | refine W_ret ?_ | refine W_exit ?_ | (refine Cs_intro (fun hb => ?_) (fun hb => ?_) <;> (try simp only [hb])) | refine Ws_if ?_ | simp (maxDischargeDepth := 12) only [Ws_op, Ws_up, Ws_nil, Wp_call, Wp_mv, Wp_pick, Wp_new, Wp_box, Wp_build, Wp_lit, litV_zero, litV_succ, Wp_load, Wp_store, Wp_nilCheck, Wp_ibin, Wp_sbin, Wp_beq, Wp_un, Wp_conv, Wp_toStr, Wp_same, Wp_ifc, Wp_fn, Wp_cutS, Wp_cutT, Wp_cut3, Wp_fieldAddr, Wp_field, Wp_at, Wp_atT, Wp_ixA, Wp_atP, Wp_ext, Wp_len, P1_some, ibinA_int, sbinA_str, unA_not, unA_neg, convA_int, sameA_str, nilA_ptr, nilA_ref, nilA_fn, addrA_ptr, addrA_ref, lenA_nil, lenA_emp, lenA_sl, lenA_own, lenA_str, bdA_none, ev, putO, K2_some, K2_none, Seq_normal, Seq_exit, Seq_ret, Blk_normal, Blk_exit, Blk_ret, RK_normal, RK_ret, NX_normal, NX_exit, NX_ret, P1_K2, resultsA, resA, List.mapM_cons, List.mapM_nil, Option.bind_eq_bind, Option.bind_some, Option.pure_def, Env.get_set, intOp, Option.map_some, Option.map_none, asB_bool, asG_bool, asG_und, Cs_true, Cs_false, List.map_cons, List.map_nil, List.append_nil, List.nil_append, List.cons_append, ↓reduceIte, Nat.reduceEqDiff, reduceCtorEq, ne_eq, not_true_eq_false, not_false_eq_true, beq_self_eq_true, beq_true, beq_false, Int.reduceEq, Int.reduceNeg, decide_true, decide_false, Bool.not_true, Bool.not_false, Nat.reduceAdd, Bool.false_eq_true, Bool.not_eq_true, Env.start, Env.ofList, fill_one, one1_int, fill_none, mem_eta, load_floor, loadA_ptr, storeA_ptr, load_refA, Mem.get_push, Mem.get_put, next_push', floor_push', next_put', floor_put', put_push', putC_nil, putC_zero, putC_succ, s_ne1, s_ne2, Nat.le_refl, and_self, ne_s1, ne_s2, ne_s3, ne_s4, ne_s5, lt_s1, lt_s2, lt_s3, lt_s4, lt_s5, le_s1, ext_tup, parts_nil, parts_cons, fill_all, nat_ne, nat_ne', lt_ss, lt_s, old_refl, old_push, old_at, mat_push, mat_put, mat_at, mat_self, mat_get, mat_next, mat_floor, mat_load, mat_read, mat_str, slice1_one, slice1_next, slice1_none, slice1_more, pick_one, pick_agg, fieldA_agg, cells_agg, cells_int, cells_bool, cells_str, cells_nil, cells_own, cell_int, cell_bool, cell_str, cell_nil, cell_emp, cell_sl, cell_own, cell_ptr, cell_nilP,  List.length_cons, List.length_nil, List.all_cons, List.all_nil, Bool.and_true, Bool.true_and, Bool.and_self, List.getElem?_cons_zero, List.getElem?_cons_succ, List.set_cons_zero, Nat.reduceLeDiff, true_and, and_true, g3, g13, g14, hp2, P2.ld, P2.ldf, P2.adr, Nat.le_refl, htt]))
        all_goals
          have hkp := pushes s7 ⟨25, 4, []⟩
          have hID8 : ∀ q, D q → q < s7.next + 1 := fun q hq => by have := hID7 q hq; omega
          refine W_mono (W_keep (rkept_loop (l := l) (out := out) (x := x) (es := es) (i := i) (F := MR D b r s') (S := s7.push ⟨25, 4, []⟩) (wv := wv) (d := d) (w := w) (r := r)
            (by rw [Mem.get_push, if_neg (by omega)]; exact hg7) (by rw [Mem.next_push]; omega) (by rw [Mem.floor_push, Mem.next_push]; omega) (fun q hq => by have := hIM q hq; rw [Mem.next_push]; omega)
            (hM.ents.keep fun q hq => by have := hIM q hq; rw [Mem.get_push, if_neg (by omega)]; exact hk7.get q this) (show out.length < 1000000000000 by omega)
            ((hes7.keep fun q hq => by have := hID7 q hq; rw [Mem.get_push, if_neg (by omega)]).mono fun q hq => .inl hq) hx (by simp only [Env.get_set, ↓reduceIte, Nat.reduceEqDiff]; exact g3) (by simp only [Env.get_set, ↓reduceIte, Nat.reduceEqDiff]; exact g13) (by simp only [Env.get_set, ↓reduceIte, Nat.reduceEqDiff]; exact g14) (by simp only [ev, Env.get_set, ↓reduceIte, Nat.reduceEqDiff]) (by simp only [ev, Env.get_set, ↓reduceIte, Nat.reduceEqDiff]))) ?_
          rintro y e9 s9 ⟨hfm9, rfl, hk9, xs9, hxs9, hxe9⟩
          have q3 : e9.get 3 = wv := (hfm9 3 rfl).trans (by simp only [Env.get_set, ↓reduceIte, Nat.reduceEqDiff]; exact g3)
          have q13 : e9.get 13 = .ptr r 0 0 := (hfm9 13 rfl).trans (by simp only [Env.get_set, ↓reduceIte, Nat.reduceEqDiff]; exact g13)
          have q14 : e9.get 14 = .int .i64 i := (hfm9 14 rfl).trans (by simp only [Env.get_set, ↓reduceIte, Nat.reduceEqDiff]; exact g14)
          have a9 : s7.next + 1 ≤ s9.next := hk9.next
          have hk79 : Keep s7.next s7 s9 := hkp.trans (hk9.le (by rw [Mem.next_push]; omega))
          have hes9 := hes7.keep fun q hq => hk79.get q (hID7 q hq)
          obtain ⟨dx3, p3, hp3, P3, hdx3⟩ := hes9.atk (fun q hq => by have := hID7 q hq; omega) hx
          (repeat' (with_reducible first | refine W_seq ?_ | refine W_region ?_ | refine W_block ?_ | refine W_if ?_ | refine W_skip ?_ | refine W_ret ?_ | refine W_exit ?_ | (refine Cs_intro (fun hb => ?_) (fun hb => ?_) <;> (try simp only [hb])) | refine Ws_if ?_ | simp (maxDischargeDepth := 12) only [Ws_op, Ws_up, Ws_nil, Wp_call, Wp_mv, Wp_pick, Wp_new, Wp_box, Wp_build, Wp_lit, litV_zero, litV_succ, Wp_load, Wp_store, Wp_nilCheck, Wp_ibin, Wp_sbin, Wp_beq, Wp_un, Wp_conv, Wp_toStr, Wp_same, Wp_ifc, Wp_fn, Wp_cutS, Wp_cutT, Wp_cut3, Wp_fieldAddr, Wp_field, Wp_at, Wp_atT, Wp_ixA, Wp_atP, Wp_ext, Wp_len, P1_some, ibinA_int, sbinA_str, unA_not, unA_neg, convA_int, sameA_str, nilA_ptr, nilA_ref, nilA_fn, addrA_ptr, addrA_ref, lenA_nil, lenA_emp, lenA_sl, lenA_own, lenA_str, bdA_none, ev, putO, K2_some, K2_none, Seq_normal, Seq_exit, Seq_ret, Blk_normal, Blk_exit, Blk_ret, RK_normal, RK_ret, NX_normal, NX_exit, NX_ret, P1_K2, resultsA, resA, List.mapM_cons, List.mapM_nil, Option.bind_eq_bind, Option.bind_some, Option.pure_def, Env.get_set, intOp, Option.map_some, Option.map_none, asB_bool, asG_bool, asG_und, Cs_true, Cs_false, List.map_cons, List.map_nil, List.append_nil, List.nil_append, List.cons_append, ↓reduceIte, Nat.reduceEqDiff, reduceCtorEq, ne_eq, not_true_eq_false, not_false_eq_true, beq_self_eq_true, beq_true, beq_false, Int.reduceEq, Int.reduceNeg, decide_true, decide_false, Bool.not_true, Bool.not_false, Nat.reduceAdd, Bool.false_eq_true, Bool.not_eq_true, Env.start, Env.ofList, fill_one, one1_int, fill_none, mem_eta, load_floor, loadA_ptr, storeA_ptr, load_refA, Mem.get_push, Mem.get_put, next_push', floor_push', next_put', floor_put', put_push', putC_nil, putC_zero, putC_succ, s_ne1, s_ne2, Nat.le_refl, and_self, ne_s1, ne_s2, ne_s3, ne_s4, ne_s5, lt_s1, lt_s2, lt_s3, lt_s4, lt_s5, le_s1, ext_tup, parts_nil, parts_cons, fill_all, nat_ne, nat_ne', lt_ss, lt_s, old_refl, old_push, old_at, mat_push, mat_put, mat_at, mat_self, mat_get, mat_next, mat_floor, mat_load, mat_read, mat_str, slice1_one, slice1_next, slice1_none, slice1_more, pick_one, pick_agg, fieldA_agg, cells_agg, cells_int, cells_bool, cells_str, cells_nil, cells_own, cell_int, cell_bool, cell_str, cell_nil, cell_emp, cell_sl, cell_own, cell_ptr, cell_nilP,  List.length_cons, List.length_nil, List.all_cons, List.all_nil, Bool.and_true, Bool.true_and, Bool.and_self, List.getElem?_cons_zero, List.getElem?_cons_succ, List.set_cons_zero, Nat.reduceLeDiff, true_and, and_true, q3, q13, q14, hp3, P3.ld, hdx3.cell]))
          have hl9 : xs9.length ≤ out.length := by rw [hxe9.1]; exact List.length_filter_le _ _
          refine app_lit (k := 1) (b := s7.next + 1) (xs := xs9) (by rw [hk79.floor]; omega) a9 hxs9 (by simp only [ev, Env.get_set, ↓reduceIte, Nat.reduceEqDiff]) (by simp only [ev, Env.get_set, ↓reduceIte, Nat.reduceEqDiff]) rfl rfl (room (by simp only [List.length_cons, List.length_nil]; omega) (by simp only [List.length_cons, List.length_nil]; omega)) ?_
          intro v2 s2 ho2 hx2 hr2 _
          have hk92 : Keep (s7.next + 1) s9 s2 := hx2.keep a9 fun r i n z h => (hxs9.row r i n z h).1
          have hk72 : Keep s7.next s7 s2 := hk79.trans (hk92.le (Nat.le_succ _))
          have a2 : s9.next ≤ s2.next := hx2.next
          have hg2 : s2.get r = some (logRow l d w) := (hk72.get r (by omega)).trans hg7
          have f2 : s2.floor ≤ r := by rw [hk72.floor, hk7.floor]; exact hf''
          have hz2 : ∀ c ∈ xs9 ++ [[.int .u64 x.index, .int .u64 x.term, .int .i64 x.kind, dx3]], c.length = 4 := by
            intro c hc
            rcases List.mem_append.mp hc with hc | hc
            · exact hxe9.sizes c hc
            · simp only [List.mem_singleton] at hc; subst hc; rfl
          have hc2 : isCell v2 = true := (ho2.sl (D := fun _ => True) hz2 fun _ _ _ => trivial).cell
          (repeat' (with_reducible first | refine W_seq ?_ | refine W_region ?_ | refine W_block ?_ | refine W_if ?_ | refine W_skip ?_ | refine W_ret ?_ | refine W_exit ?_ | (refine Cs_intro (fun hb => ?_) (fun hb => ?_) <;> (try simp only [hb])) | refine Ws_if ?_ | simp (maxDischargeDepth := 12) only [Ws_op, Ws_up, Ws_nil, Wp_call, Wp_mv, Wp_pick, Wp_new, Wp_box, Wp_build, Wp_lit, litV_zero, litV_succ, Wp_load, Wp_store, Wp_nilCheck, Wp_ibin, Wp_sbin, Wp_beq, Wp_un, Wp_conv, Wp_toStr, Wp_same, Wp_ifc, Wp_fn, Wp_cutS, Wp_cutT, Wp_cut3, Wp_fieldAddr, Wp_field, Wp_at, Wp_atT, Wp_ixA, Wp_atP, Wp_ext, Wp_len, P1_some, ibinA_int, sbinA_str, unA_not, unA_neg, convA_int, sameA_str, nilA_ptr, nilA_ref, nilA_fn, addrA_ptr, addrA_ref, lenA_nil, lenA_emp, lenA_sl, lenA_own, lenA_str, bdA_none, ev, putO, K2_some, K2_none, Seq_normal, Seq_exit, Seq_ret, Blk_normal, Blk_exit, Blk_ret, RK_normal, RK_ret, NX_normal, NX_exit, NX_ret, P1_K2, resultsA, resA, List.mapM_cons, List.mapM_nil, Option.bind_eq_bind, Option.bind_some, Option.pure_def, Env.get_set, intOp, Option.map_some, Option.map_none, asB_bool, asG_bool, asG_und, Cs_true, Cs_false, List.map_cons, List.map_nil, List.append_nil, List.nil_append, List.cons_append, ↓reduceIte, Nat.reduceEqDiff, reduceCtorEq, ne_eq, not_true_eq_false, not_false_eq_true, beq_self_eq_true, beq_true, beq_false, Int.reduceEq, Int.reduceNeg, decide_true, decide_false, Bool.not_true, Bool.not_false, Nat.reduceAdd, Bool.false_eq_true, Bool.not_eq_true, Env.start, Env.ofList, fill_one, one1_int, fill_none, mem_eta, load_floor, loadA_ptr, storeA_ptr, load_refA, Mem.get_push, Mem.get_put, next_push', floor_push', next_put', floor_put', put_push', putC_nil, putC_zero, putC_succ, s_ne1, s_ne2, Nat.le_refl, and_self, ne_s1, ne_s2, ne_s3, ne_s4, ne_s5, lt_s1, lt_s2, lt_s3, lt_s4, lt_s5, le_s1, ext_tup, parts_nil, parts_cons, fill_all, nat_ne, nat_ne', lt_ss, lt_s, old_refl, old_push, old_at, mat_push, mat_put, mat_at, mat_self, mat_get, mat_next, mat_floor, mat_load, mat_read, mat_str, slice1_one, slice1_next, slice1_none, slice1_more, pick_one, pick_agg, fieldA_agg, cells_agg, cells_int, cells_bool, cells_str, cells_nil, cells_own, cell_int, cell_bool, cell_str, cell_nil, cell_emp, cell_sl, cell_own, cell_ptr, cell_nilP,  List.length_cons, List.length_nil, List.all_cons, List.all_nil, Bool.and_true, Bool.true_and, Bool.and_self, List.getElem?_cons_zero, List.getElem?_cons_succ, List.set_cons_zero, Nat.reduceLeDiff, true_and, and_true, q3, q13, q14, hg2, f2, hc2, cells_cell hc2, succ_av (i := i) (by omega)]))
          have hput : ∀ q, q ≠ r → (s2.put r (some (logRow l d v2))).get q = s2.get q := fun q hq => by rw [Mem.get_put, if_neg hq]
          have hold : ∀ q, MR D b r s' q → (s2.put r (some (logRow l d v2))).get q = s9.get q := fun q hq => by
            have h1 := hIM q hq
            have h2 : q ≠ r := hq.elim (fun h => by have := hI q h; omega) fun h => h.2.2
            rw [hput q h2]
            exact hk92.get q (by omega)
          have hmr : ∀ q, MR D b r s' q → MR D b r (s2.put r (some (logRow l d v2))) q := fun q hq => hq.imp id fun h => ⟨h.1, by show q < s2.next; have := h.2.1; omega, h.2.2⟩
          refine ⟨hlt, _, v2, by rw [Mem.get_put, if_pos rfl], ⟨_, (ho2.sl (D := fun q => s7.next + 1 ≤ q ∧ q < s2.next) hz2 fun q n h => ho2.row q 0 n 4 h).keep (fun q hq => hput q (by omega)) |>.mono fun q hq => .inr ⟨by omega, hq.2, by omega⟩, EntsC.append ((hxe9.keep hold).mono hmr) (EntsC.one ⟨dx3, rfl, (hdx3.keep fun q hq => hold q (.inl hq)).mono fun q hq => .inl hq⟩)⟩, o1, by omega, by show S.next ≤ s2.next; omega, ?_, ?_, .inr ⟨o2, by push_cast at o3 ⊢; omega⟩⟩
          · show s2.floor = S.floor
            rw [hk72.floor, hk7.floor, hM.floor]
          · intro q hq
            rw [hput q (by omega), hk72.get q (by omega), hk7.get q (by omega)]
            exact hM.old q hq
    · (repeat' (with_reducible first | refine W_seq ?_ | refine W_region ?_ | refine W_block ?_ | refine W_if ?_ | refine W_skip ?_ | refine W_ret ?_ | refine W_exit ?_ | (refine Cs_intro (fun hb => ?_) (fun hb => ?_) <;> (try simp only [hb])) | refine Ws_if ?_ | simp (maxDischargeDepth := 12) only [Ws_op, Ws_up, Ws_nil, Wp_call, Wp_mv, Wp_pick, Wp_new, Wp_box, Wp_build, Wp_lit, litV_zero, litV_succ, Wp_load, Wp_store, Wp_nilCheck, Wp_ibin, Wp_sbin, Wp_beq, Wp_un, Wp_conv, Wp_toStr, Wp_same, Wp_ifc, Wp_fn, Wp_cutS, Wp_cutT, Wp_cut3, Wp_fieldAddr, Wp_field, Wp_at, Wp_atT, Wp_ixA, Wp_atP, Wp_ext, Wp_len, P1_some, ibinA_int, sbinA_str, unA_not, unA_neg, convA_int, sameA_str, nilA_ptr, nilA_ref, nilA_fn, addrA_ptr, addrA_ref, lenA_nil, lenA_emp, lenA_sl, lenA_own, lenA_str, bdA_none, ev, putO, K2_some, K2_none, Seq_normal, Seq_exit, Seq_ret, Blk_normal, Blk_exit, Blk_ret, RK_normal, RK_ret, NX_normal, NX_exit, NX_ret, P1_K2, resultsA, resA, List.mapM_cons, List.mapM_nil, Option.bind_eq_bind, Option.bind_some, Option.pure_def, Env.get_set, intOp, Option.map_some, Option.map_none, asB_bool, asG_bool, asG_und, Cs_true, Cs_false, List.map_cons, List.map_nil, List.append_nil, List.nil_append, List.cons_append, ↓reduceIte, Nat.reduceEqDiff, reduceCtorEq, ne_eq, not_true_eq_false, not_false_eq_true, beq_self_eq_true, beq_true, beq_false, Int.reduceEq, Int.reduceNeg, decide_true, decide_false, Bool.not_true, Bool.not_false, Nat.reduceAdd, Bool.false_eq_true, Bool.not_eq_true, Env.start, Env.ofList, fill_one, one1_int, fill_none, mem_eta, load_floor, loadA_ptr, storeA_ptr, load_refA, Mem.get_push, Mem.get_put, next_push', floor_push', next_put', floor_put', put_push', putC_nil, putC_zero, putC_succ, s_ne1, s_ne2, Nat.le_refl, and_self, ne_s1, ne_s2, ne_s3, ne_s4, ne_s5, lt_s1, lt_s2, lt_s3, lt_s4, lt_s5, le_s1, ext_tup, parts_nil, parts_cons, fill_all, nat_ne, nat_ne', lt_ss, lt_s, old_refl, old_push, old_at, mat_push, mat_put, mat_at, mat_self, mat_get, mat_next, mat_floor, mat_load, mat_read, mat_str, slice1_one, slice1_next, slice1_none, slice1_more, pick_one, pick_agg, fieldA_agg, cells_agg, cells_int, cells_bool, cells_str, cells_nil, cells_own, cell_int, cell_bool, cell_str, cell_nil, cell_emp, cell_sl, cell_own, cell_ptr, cell_nilP,  List.length_cons, List.length_nil, List.all_cons, List.all_nil, Bool.and_true, Bool.true_and, Bool.and_self, List.getElem?_cons_zero, List.getElem?_cons_succ, List.set_cons_zero, Nat.reduceLeDiff, true_and, and_true, g3, g13, g14, hes'.len, lt_false hlt]))
      have hie : i = es.length := by omega
      subst hie
      have e0 : es.drop es.length = [] := List.drop_length
      have ho : out = mrg l.base.index l.base.term l.l es := by
        rcases hM.phase with ⟨h1, h2, _⟩ | ⟨h1, _⟩
        · rw [e0, mrg] at h2; rw [h1, h2]
        · rw [e0, List.append_nil] at h1; rw [h1]
      rw [← ho]
      exact ⟨w, hM⟩
end Go.Proofs.Ytfghbndlpppkcaa
