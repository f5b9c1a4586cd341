/- What a majority of voters has, as the program tells it. No statement of the seat is proved here. -/
import Derived.Test.YtgedimcfeofjcaaVSort
namespace Go.Proofs.Ytgedimcfeofjcaa
open Go Go.VI
set_option linter.unusedSimpArgs false

abbrev Peer := Int × Int × Int
def peerC (p : Peer) : List AV := [.int .i64 p.1, .int .u64 p.2.1, .int .u64 p.2.2]
def peersC (ps : List Peer) : List (List AV) := ps.map peerC
theorem peersC_get (ps : List Peer) (i : Nat) (p : Peer) (h : ps[i]? = some p) : (peersC ps)[i]? = some (peerC p) := by simp [peersC, h]
theorem peersC_len (ps : List Peer) : (peersC ps).length = ps.length := by simp [peersC]

/-- The first peer of a node: its number. -/
def firstM (ps : List Peer) (n : Int) : Int := match ps.find? (fun p => p.1 == n) with
  | some p => p.2.2
  | none => 0
theorem firstM_none {ps : List Peer} {n : Int} (h : ∀ q ∈ ps, q.1 ≠ n) : firstM ps n = 0 := by
  have : ps.find? (fun p => p.1 == n) = none := List.find?_eq_none.mpr (by intro x hx; simpa using h x hx)
  simp [firstM, this]
theorem firstM_at {ps : List Peer} {n : Int} {i : Nat} {p : Peer} (hi : ps[i]? = some p) (hp : p.1 = n) (hj : ∀ q ∈ ps.take i, q.1 ≠ n) : firstM ps n = p.2.2 := by
  have hlt := (List.getElem?_eq_some_iff.mp hi).1
  have hs : ps = ps.take i ++ p :: ps.drop (i + 1) := by
    have hg : ps[i] = p := (List.getElem?_eq_some_iff.mp hi).2
    rw [← hg, ← List.drop_eq_getElem_cons hlt, List.take_append_drop]
  have h1 : (ps.take i).find? (fun p => p.1 == n) = none := List.find?_eq_none.mpr (by intro x hx; simpa using hj x hx)
  have : ps.find? (fun p => p.1 == n) = some p := by
    rw [hs, List.find?_append, h1]
    simp [hp]
  simp [firstM, this]

theorem is_c {p : Peer} {n : Int} {r : Nat} {s : Mem} {K : AV → Mem → Prop} (hr : s.get r = some ⟨3, 1, intsA .i64 [n]⟩) (hlt : r < s.next) (hK : K (.bool (p.1 == n)) (s.push ⟨34, 3, [peerC p]⟩)) : C tab 23 [.agg (peerC p), .ptr r 0 0] s K := by
  refine C_enter (cf := cf23) rfl (Nat.le_of_ble_eq_true rfl) ?_
  simp only [cf23]
  have hc : (peerC p).all isCell = true := rfl
  have h1 : loadA (s.push ⟨34, 3, [peerC p]⟩) false 1 (.ptr s.next 0 0) = some (.int .i64 p.1) := by
    rw [load_ptr (row := ⟨34, 3, [peerC p]⟩) (c := peerC p) false 1 (by rw [Mem.get_push, if_pos rfl]) rfl (by simp [peerC])]; rfl
  have h2 : loadA (s.push ⟨34, 3, [peerC p]⟩) false 1 (.ptr r 0 0) = some (.int .i64 n) :=
    load_ptr1 (row := ⟨3, 1, intsA .i64 [n]⟩) (by rw [Mem.get_push, if_neg (by omega)]; exact hr) rfl
  have hl : (peerC p).length = 3 := rfl
  have hcl : cells (.agg (peerC p)) = peerC p := rfl
  (repeat' (with_reducible first | refine W_seq ?_ | refine W_region ?_ | refine W_block ?_ | refine W_if ?_ | refine W_skip ?_ | refine W_ret ?_ | refine W_exit ?_ | (refine Cs_intro (fun hb => ?_) (fun hb => ?_) <;> (try simp only [hb])) | refine Ws_if ?_ | simp only [Ws_op, Ws_up, Ws_nil, Wp_call, Wp_mv, Wp_pick, Wp_new, Wp_box, Wp_build, Wp_lit, Wp_load, Wp_store, Wp_nilCheck, Wp_ibin, Wp_sbin, Wp_beq, Wp_un, Wp_conv, Wp_toStr, Wp_same, Wp_ifc, Wp_fn, Wp_cutS, Wp_cutT, Wp_fieldAddr, Wp_field, Wp_at, Wp_atT, Wp_ext, Wp_len, P1_some, ibinA_int, sbinA_str, unA_not, unA_neg, convA_int, sameA_str, nilA_ptr, nilA_ref, nilA_fn, addrA_ptr, addrA_ref, lenA_nil, lenA_sl, lenA_own, lenA_str, bdA_none, ev, putO, K2_some, K2_none, Seq_normal, Seq_exit, Seq_ret, Blk_normal, Blk_exit, Blk_ret, RK_normal, RK_ret, P1_K2, resultsA, resA, List.mapM_cons, List.mapM_nil, Option.bind_eq_bind, Option.bind_some, Option.pure_def, Env.get_set, intOp, Option.map_some, Option.map_none, asB_bool, asG_bool, asG_und, Cs_true, Cs_false, List.map_cons, List.map_nil, List.append_nil, List.nil_append, List.cons_append, ↓reduceIte, Nat.reduceEqDiff, reduceCtorEq, ne_eq, not_true_eq_false, not_false_eq_true, beq_self_eq_true, beq_true, beq_false, Int.reduceEq, Int.reduceNeg, decide_true, decide_false, Bool.not_true, Bool.not_false, Nat.reduceAdd, Bool.false_eq_true, Bool.not_eq_true, Env.start, Env.ofList, fill_one, one1_int, fill_none, mem_eta, load_floor, load_ref1, hc, hl, hcl, h1, h2, true_and, Nat.add_zero]))
  exact hK

theorem find_l0 {ps : List Peer} {n : Int} {s0 : Mem} {w : AV} {r : Nat} {Q : Ex → Env → Mem → Prop} (hw : Els s0 w 3 (peersC ps)) (hwk : ∀ r i n z, w = .own r i n z → r < s0.next) (hr : s0.get r = some ⟨3, 1, intsA .i64 [n]⟩) (hrn : r < s0.next) (hlen : ps.length < 4611686018427387904)
    (hyes : ∀ i p e' s', Keep s0.next s0 s' → ps[i]? = some p → p.1 = n → (∀ q ∈ ps.take i, q.1 ≠ n) → e'.get 4 = .int .i64 (i : Nat) → Q .ret e' s') (hno : (∀ q ∈ ps, q.1 ≠ n) → ∀ e' s', Keep s0.next s0 s' → Q (.exit 0) e' s') :
    ∀ (k i : Nat) (e : Env) (s : Mem), i + k = ps.length → Keep s0.next s0 s → (∀ q ∈ ps.take i, q.1 ≠ n) → e.get 0 = w → e.get 1 = .fn 23 [.ptr r 0 0] → e.get 7 = .int .i64 ps.length → e.get 8 = .int .i64 i → W tab (.loop cf22l0) e s Q := by
  intro k
  induction k with
  | zero =>
    intro i e s hi hk hnt h0 h1 h7 h8
    have hlt := lt_false (show ¬ i < ps.length by omega)
    refine W_loop' (by delta cf22l0; exact rfl) ?_
    (repeat' (with_reducible first | refine W_seq ?_ | refine W_region ?_ | refine W_block ?_ | refine W_if ?_ | refine W_skip ?_ | refine W_ret ?_ | refine W_exit ?_ | (refine Cs_intro (fun hb => ?_) (fun hb => ?_) <;> (try simp only [hb])) | refine Ws_if ?_ | simp only [Ws_op, Ws_up, Ws_nil, Wp_call, Wp_mv, Wp_pick, Wp_new, Wp_box, Wp_build, Wp_lit, Wp_load, Wp_store, Wp_nilCheck, Wp_ibin, Wp_sbin, Wp_beq, Wp_un, Wp_conv, Wp_toStr, Wp_same, Wp_ifc, Wp_fn, Wp_cutS, Wp_cutT, Wp_fieldAddr, Wp_field, Wp_at, Wp_atT, Wp_ext, Wp_len, P1_some, ibinA_int, sbinA_str, unA_not, unA_neg, convA_int, sameA_str, nilA_ptr, nilA_ref, nilA_fn, addrA_ptr, addrA_ref, lenA_nil, lenA_sl, lenA_own, lenA_str, bdA_none, ev, putO, K2_some, K2_none, Seq_normal, Seq_exit, Seq_ret, Blk_normal, Blk_exit, Blk_ret, RK_normal, RK_ret, P1_K2, resultsA, resA, List.mapM_cons, List.mapM_nil, Option.bind_eq_bind, Option.bind_some, Option.pure_def, Env.get_set, intOp, Option.map_some, Option.map_none, asB_bool, asG_bool, asG_und, Cs_true, Cs_false, List.map_cons, List.map_nil, List.append_nil, List.nil_append, List.cons_append, ↓reduceIte, Nat.reduceEqDiff, reduceCtorEq, ne_eq, not_true_eq_false, not_false_eq_true, beq_self_eq_true, beq_true, beq_false, Int.reduceEq, Int.reduceNeg, decide_true, decide_false, Bool.not_true, Bool.not_false, Nat.reduceAdd, Bool.false_eq_true, Bool.not_eq_true, Env.start, Env.ofList, fill_one, one1_int, fill_none, mem_eta, load_floor, load_ref1, h0, h1, h7, h8, hlt]))
    exact hno (by rwa [List.take_of_length_le (by omega)] at hnt) _ _ hk
  | succ k ih =>
    intro i e s hi hk hnt h0 h1 h7 h8
    have hlt := lt_true (show i < ps.length by omega)
    obtain ⟨p, hp⟩ : ∃ a, ps[i]? = some a := ⟨ps[i]'(by omega), List.getElem?_eq_getElem _⟩
    have hws := hw.keep (s' := s) (fun r i n z h => hk.get r (hwk r i n z h))
    obtain ⟨a, ha, hld, _⟩ := hws.get .i64 i _ (peersC_get ps i p hp)
    have hld3 : loadA s true 3 a = some (.agg (peerC p)) := hld true 3 (by simp [peerC])
    refine W_loop' (by delta cf22l0; exact rfl) ?_
    (repeat' (with_reducible first | refine W_seq ?_ | refine W_region ?_ | refine W_block ?_ | refine W_if ?_ | refine W_skip ?_ | refine W_ret ?_ | refine W_exit ?_ | (refine Cs_intro (fun hb => ?_) (fun hb => ?_) <;> (try simp only [hb])) | refine Ws_if ?_ | simp only [Ws_op, Ws_up, Ws_nil, Wp_call, Wp_mv, Wp_pick, Wp_new, Wp_box, Wp_build, Wp_lit, Wp_load, Wp_store, Wp_nilCheck, Wp_ibin, Wp_sbin, Wp_beq, Wp_un, Wp_conv, Wp_toStr, Wp_same, Wp_ifc, Wp_fn, Wp_cutS, Wp_cutT, Wp_fieldAddr, Wp_field, Wp_at, Wp_atT, Wp_ext, Wp_len, P1_some, ibinA_int, sbinA_str, unA_not, unA_neg, convA_int, sameA_str, nilA_ptr, nilA_ref, nilA_fn, addrA_ptr, addrA_ref, lenA_nil, lenA_sl, lenA_own, lenA_str, bdA_none, ev, putO, K2_some, K2_none, Seq_normal, Seq_exit, Seq_ret, Blk_normal, Blk_exit, Blk_ret, RK_normal, RK_ret, P1_K2, resultsA, resA, List.mapM_cons, List.mapM_nil, Option.bind_eq_bind, Option.bind_some, Option.pure_def, Env.get_set, intOp, Option.map_some, Option.map_none, asB_bool, asG_bool, asG_und, Cs_true, Cs_false, List.map_cons, List.map_nil, List.append_nil, List.nil_append, List.cons_append, ↓reduceIte, Nat.reduceEqDiff, reduceCtorEq, ne_eq, not_true_eq_false, not_false_eq_true, beq_self_eq_true, beq_true, beq_false, Int.reduceEq, Int.reduceNeg, decide_true, decide_false, Bool.not_true, Bool.not_false, Nat.reduceAdd, Bool.false_eq_true, Bool.not_eq_true, Env.start, Env.ofList, fill_one, one1_int, fill_none, mem_eta, load_floor, load_ref1, h0, h1, h7, h8, hlt, ha, hld3]))
    have hnx := hk.next
    refine is_c (p := p) (n := n) (by rw [hk.get r hrn]; exact hr) (by omega) ?_
    have hk2 : Keep s0.next s0 (s.push ⟨34, 3, [peerC p]⟩) := hk.trans (Keep.push hnx _)
    (repeat' (with_reducible first | refine W_seq ?_ | refine W_region ?_ | refine W_block ?_ | refine W_if ?_ | refine W_skip ?_ | refine W_ret ?_ | refine W_exit ?_ | (refine Cs_intro (fun hb => ?_) (fun hb => ?_) <;> (try simp only [hb])) | refine Ws_if ?_ | simp only [Ws_op, Ws_up, Ws_nil, Wp_call, Wp_mv, Wp_pick, Wp_new, Wp_box, Wp_build, Wp_lit, Wp_load, Wp_store, Wp_nilCheck, Wp_ibin, Wp_sbin, Wp_beq, Wp_un, Wp_conv, Wp_toStr, Wp_same, Wp_ifc, Wp_fn, Wp_cutS, Wp_cutT, Wp_fieldAddr, Wp_field, Wp_at, Wp_atT, Wp_ext, Wp_len, P1_some, ibinA_int, sbinA_str, unA_not, unA_neg, convA_int, sameA_str, nilA_ptr, nilA_ref, nilA_fn, addrA_ptr, addrA_ref, lenA_nil, lenA_sl, lenA_own, lenA_str, bdA_none, ev, putO, K2_some, K2_none, Seq_normal, Seq_exit, Seq_ret, Blk_normal, Blk_exit, Blk_ret, RK_normal, RK_ret, P1_K2, resultsA, resA, List.mapM_cons, List.mapM_nil, Option.bind_eq_bind, Option.bind_some, Option.pure_def, Env.get_set, intOp, Option.map_some, Option.map_none, asB_bool, asG_bool, asG_und, Cs_true, Cs_false, List.map_cons, List.map_nil, List.append_nil, List.nil_append, List.cons_append, ↓reduceIte, Nat.reduceEqDiff, reduceCtorEq, ne_eq, not_true_eq_false, not_false_eq_true, beq_self_eq_true, beq_true, beq_false, Int.reduceEq, Int.reduceNeg, decide_true, decide_false, Bool.not_true, Bool.not_false, Nat.reduceAdd, Bool.false_eq_true, Bool.not_eq_true, Env.start, Env.ofList, fill_one, one1_int, fill_none, mem_eta, load_floor, load_ref1, h0, h1, h7, h8]))
    · exact hyes i p _ _ hk2 hp (by simpa using hb) hnt (by rw [Env.get_set, if_pos rfl])
    · refine ih (i + 1) _ _ (by omega) hk2 ?_ ?_ ?_ ?_ ?_
      · rw [List.take_add_one, hp]
        intro q hq
        simp only [Option.toList_some, List.mem_append, List.mem_singleton] at hq
        rcases hq with hq | rfl
        · exact hnt q hq
        · simpa using hb
      all_goals simp only [Env.get_set, ↓reduceIte, Nat.reduceEqDiff, h0, h1, h7]
      rw [succ_cast (by omega)]

theorem find_c {ps : List Peer} {n : Int} {s : Mem} {w : AV} {r : Nat} {K : AV → Mem → Prop} (hw : Els s w 3 (peersC ps)) (hwk : ∀ r i n z, w = .own r i n z → r < s.next) (hr : s.get r = some ⟨3, 1, intsA .i64 [n]⟩) (hrn : r < s.next) (hlen : ps.length < 4611686018427387904)
    (hyes : ∀ (i : Nat) p s', Keep s.next s s' → ps[i]? = some p → firstM ps n = p.2.2 → K (.int .i64 i) s') (hno : firstM ps n = 0 → ∀ s', Keep s.next s s' → K (.int .i64 (-1)) s') : C tab 22 [w, .fn 23 [.ptr r 0 0]] s K := by
  refine C_enter (cf := cf22) rfl (Nat.le_of_ble_eq_true rfl) ?_
  simp only [cf22]
  have hl := hw.len
  rw [peersC_len] at hl
  (repeat' (with_reducible first | refine W_seq ?_ | refine W_region ?_ | refine W_block ?_ | refine W_if ?_ | refine W_skip ?_ | refine W_ret ?_ | refine W_exit ?_ | (refine Cs_intro (fun hb => ?_) (fun hb => ?_) <;> (try simp only [hb])) | refine Ws_if ?_ | simp only [Ws_op, Ws_up, Ws_nil, Wp_call, Wp_mv, Wp_pick, Wp_new, Wp_box, Wp_build, Wp_lit, Wp_load, Wp_store, Wp_nilCheck, Wp_ibin, Wp_sbin, Wp_beq, Wp_un, Wp_conv, Wp_toStr, Wp_same, Wp_ifc, Wp_fn, Wp_cutS, Wp_cutT, Wp_fieldAddr, Wp_field, Wp_at, Wp_atT, Wp_ext, Wp_len, P1_some, ibinA_int, sbinA_str, unA_not, unA_neg, convA_int, sameA_str, nilA_ptr, nilA_ref, nilA_fn, addrA_ptr, addrA_ref, lenA_nil, lenA_sl, lenA_own, lenA_str, bdA_none, ev, putO, K2_some, K2_none, Seq_normal, Seq_exit, Seq_ret, Blk_normal, Blk_exit, Blk_ret, RK_normal, RK_ret, P1_K2, resultsA, resA, List.mapM_cons, List.mapM_nil, Option.bind_eq_bind, Option.bind_some, Option.pure_def, Env.get_set, intOp, Option.map_some, Option.map_none, asB_bool, asG_bool, asG_und, Cs_true, Cs_false, List.map_cons, List.map_nil, List.append_nil, List.nil_append, List.cons_append, ↓reduceIte, Nat.reduceEqDiff, reduceCtorEq, ne_eq, not_true_eq_false, not_false_eq_true, beq_self_eq_true, beq_true, beq_false, Int.reduceEq, Int.reduceNeg, decide_true, decide_false, Bool.not_true, Bool.not_false, Nat.reduceAdd, Bool.false_eq_true, Bool.not_eq_true, Env.start, Env.ofList, fill_one, one1_int, fill_none, mem_eta, load_floor, load_ref1, hl]))
  refine find_l0 (n := n) hw hwk hr hrn hlen ?_ ?_ ps.length 0 _ _ (by omega) (Keep.refl _ _) (by simp) ?_ ?_ ?_ ?_
  · intro i p e' s' hk hp h1 h2 h4
    (repeat' (with_reducible first | refine W_seq ?_ | refine W_region ?_ | refine W_block ?_ | refine W_if ?_ | refine W_skip ?_ | refine W_ret ?_ | refine W_exit ?_ | (refine Cs_intro (fun hb => ?_) (fun hb => ?_) <;> (try simp only [hb])) | refine Ws_if ?_ | simp only [Ws_op, Ws_up, Ws_nil, Wp_call, Wp_mv, Wp_pick, Wp_new, Wp_box, Wp_build, Wp_lit, Wp_load, Wp_store, Wp_nilCheck, Wp_ibin, Wp_sbin, Wp_beq, Wp_un, Wp_conv, Wp_toStr, Wp_same, Wp_ifc, Wp_fn, Wp_cutS, Wp_cutT, Wp_fieldAddr, Wp_field, Wp_at, Wp_atT, Wp_ext, Wp_len, P1_some, ibinA_int, sbinA_str, unA_not, unA_neg, convA_int, sameA_str, nilA_ptr, nilA_ref, nilA_fn, addrA_ptr, addrA_ref, lenA_nil, lenA_sl, lenA_own, lenA_str, bdA_none, ev, putO, K2_some, K2_none, Seq_normal, Seq_exit, Seq_ret, Blk_normal, Blk_exit, Blk_ret, RK_normal, RK_ret, P1_K2, resultsA, resA, List.mapM_cons, List.mapM_nil, Option.bind_eq_bind, Option.bind_some, Option.pure_def, Env.get_set, intOp, Option.map_some, Option.map_none, asB_bool, asG_bool, asG_und, Cs_true, Cs_false, List.map_cons, List.map_nil, List.append_nil, List.nil_append, List.cons_append, ↓reduceIte, Nat.reduceEqDiff, reduceCtorEq, ne_eq, not_true_eq_false, not_false_eq_true, beq_self_eq_true, beq_true, beq_false, Int.reduceEq, Int.reduceNeg, decide_true, decide_false, Bool.not_true, Bool.not_false, Nat.reduceAdd, Bool.false_eq_true, Bool.not_eq_true, Env.start, Env.ofList, fill_one, one1_int, fill_none, mem_eta, load_floor, load_ref1, h4]))
    exact hyes i p s' hk hp (firstM_at hp h1 h2)
  · intro hn e' s' hk
    (repeat' (with_reducible first | refine W_seq ?_ | refine W_region ?_ | refine W_block ?_ | refine W_if ?_ | refine W_skip ?_ | refine W_ret ?_ | refine W_exit ?_ | (refine Cs_intro (fun hb => ?_) (fun hb => ?_) <;> (try simp only [hb])) | refine Ws_if ?_ | simp only [Ws_op, Ws_up, Ws_nil, Wp_call, Wp_mv, Wp_pick, Wp_new, Wp_box, Wp_build, Wp_lit, Wp_load, Wp_store, Wp_nilCheck, Wp_ibin, Wp_sbin, Wp_beq, Wp_un, Wp_conv, Wp_toStr, Wp_same, Wp_ifc, Wp_fn, Wp_cutS, Wp_cutT, Wp_fieldAddr, Wp_field, Wp_at, Wp_atT, Wp_ext, Wp_len, P1_some, ibinA_int, sbinA_str, unA_not, unA_neg, convA_int, sameA_str, nilA_ptr, nilA_ref, nilA_fn, addrA_ptr, addrA_ref, lenA_nil, lenA_sl, lenA_own, lenA_str, bdA_none, ev, putO, K2_some, K2_none, Seq_normal, Seq_exit, Seq_ret, Blk_normal, Blk_exit, Blk_ret, RK_normal, RK_ret, P1_K2, resultsA, resA, List.mapM_cons, List.mapM_nil, Option.bind_eq_bind, Option.bind_some, Option.pure_def, Env.get_set, intOp, Option.map_some, Option.map_none, asB_bool, asG_bool, asG_und, Cs_true, Cs_false, List.map_cons, List.map_nil, List.append_nil, List.nil_append, List.cons_append, ↓reduceIte, Nat.reduceEqDiff, reduceCtorEq, ne_eq, not_true_eq_false, not_false_eq_true, beq_self_eq_true, beq_true, beq_false, Int.reduceEq, Int.reduceNeg, decide_true, decide_false, Bool.not_true, Bool.not_false, Nat.reduceAdd, Bool.false_eq_true, Bool.not_eq_true, Env.start, Env.ofList, fill_one, one1_int, fill_none, mem_eta, load_floor, load_ref1]))
    exact hno (firstM_none hn) s' hk
  all_goals simp only [Env.get_set, ↓reduceIte, Nat.reduceEqDiff]
  rfl

def ms (vs : List Int) (ps : List Peer) : List Int := vs.map (firstM ps)
theorem ms_len (vs : List Int) (ps : List Peer) : (ms vs ps).length = vs.length := by simp [ms]
theorem ms_take (vs : List Int) (ps : List Peer) (i : Nat) (a : Int) (h : vs[i]? = some a) : ms (vs.take (i + 1)) ps = ms (vs.take i) ps ++ [firstM ps a] := by
  simp [ms, List.take_add_one, h]
theorem intsA_snoc (k : IntKind) (l : List Int) (a : Int) : intsA k l ++ [[.int k a]] = intsA k (l ++ [a]) := by simp [intsA]

set_option maxHeartbeats 1000000 in
theorem commit_l0 {vs : List Int} {ps : List Peer} {s0 : Mem} {v w : AV} {Q : Ex → Env → Mem → Prop} (hv : isSl v (intsA .i64 vs)) (hv7 : vs.length ≤ 7) (hw : Els s0 w 3 (peersC ps)) (hwk : ∀ r i n z, w = .own r i n z → r < s0.next) (hlen : ps.length < 4611686018427387904) (hf : s0.floor ≤ s0.next)
    (hQ : ∀ e' s' l, Keep s0.next s0 s' → e'.get 5 = l → OwnL s' s0.next l 30 1 (intsA .u64 (ms vs ps)) → Q (.exit 0) e' s') :
    ∀ (k i : Nat) (e : Env) (s : Mem) (l : AV), i + k = vs.length → Keep s0.next s0 s → e.get 5 = l → OwnL s s0.next l 30 1 (intsA .u64 (ms (vs.take i) ps)) → e.get 1 = w → e.get 13 = v → e.get 14 = .int .i64 vs.length → e.get 15 = .int .i64 i → W tab (.loop cf15l0) e s Q := by
  intro k
  induction k with
  | zero =>
    intro i e s l hi hk h5 hl h1 h13 h14 h15
    have hlt := lt_false (show ¬ i < vs.length by omega)
    refine W_loop' (by delta cf15l0; exact rfl) ?_
    (repeat' (with_reducible first | refine W_seq ?_ | refine W_region ?_ | refine W_block ?_ | refine W_if ?_ | refine W_skip ?_ | refine W_ret ?_ | refine W_exit ?_ | (refine Cs_intro (fun hb => ?_) (fun hb => ?_) <;> (try simp only [hb])) | refine Ws_if ?_ | simp only [Ws_op, Ws_up, Ws_nil, Wp_call, Wp_mv, Wp_pick, Wp_new, Wp_box, Wp_build, Wp_lit, Wp_load, Wp_store, Wp_nilCheck, Wp_ibin, Wp_sbin, Wp_beq, Wp_un, Wp_conv, Wp_toStr, Wp_same, Wp_ifc, Wp_fn, Wp_cutS, Wp_cutT, Wp_fieldAddr, Wp_field, Wp_at, Wp_atT, Wp_ext, Wp_len, P1_some, ibinA_int, sbinA_str, unA_not, unA_neg, convA_int, sameA_str, nilA_ptr, nilA_ref, nilA_fn, addrA_ptr, addrA_ref, lenA_nil, lenA_sl, lenA_own, lenA_str, bdA_none, ev, putO, K2_some, K2_none, Seq_normal, Seq_exit, Seq_ret, Blk_normal, Blk_exit, Blk_ret, RK_normal, RK_ret, P1_K2, resultsA, resA, List.mapM_cons, List.mapM_nil, Option.bind_eq_bind, Option.bind_some, Option.pure_def, Env.get_set, intOp, Option.map_some, Option.map_none, asB_bool, asG_bool, asG_und, Cs_true, Cs_false, List.map_cons, List.map_nil, List.append_nil, List.nil_append, List.cons_append, ↓reduceIte, Nat.reduceEqDiff, reduceCtorEq, ne_eq, not_true_eq_false, not_false_eq_true, beq_self_eq_true, beq_true, beq_false, Int.reduceEq, Int.reduceNeg, decide_true, decide_false, Bool.not_true, Bool.not_false, Nat.reduceAdd, Bool.false_eq_true, Bool.not_eq_true, Env.start, Env.ofList, fill_one, one1_int, fill_none, mem_eta, load_floor, load_ref1, h1, h5, h13, h14, h15, hlt]))
    refine hQ _ s l hk ?_ (by rwa [List.take_of_length_le (by omega)] at hl)
    simp only [Env.get_set, ↓reduceIte, Nat.reduceEqDiff, h5]
  | succ k ih =>
    intro i e s l hi hk h5 hl h1 h13 h14 h15
    have hlt := lt_true (show i < vs.length by omega)
    obtain ⟨a, ha⟩ : ∃ a, vs[i]? = some a := ⟨vs[i]'(by omega), List.getElem?_eq_getElem _⟩
    obtain ⟨p, hp, hld⟩ := (hv.toInts s).get .i64 i a ha
    have hnx := hk.next
    have hfl := hk.floor
    have e0 : intsA .i64 [0] = [[AV.int .i64 0]] := rfl
    have hg1 : (s.push ⟨3, 1, intsA .i64 [0]⟩).get s.next = some ⟨3, 1, intsA .i64 [0]⟩ := by rw [Mem.get_push, if_pos rfl]
    have hst := store1 (i := 0) (a := a) hg1 (by simp) (by rw [Mem.floor_push]; omega)
    have hl1 : [AV.int IntKind.i64 0].length = 1 := rfl
    refine W_loop' (by delta cf15l0; exact rfl) ?_
    (repeat' (with_reducible first | refine W_seq ?_ | refine W_region ?_ | refine W_block ?_ | refine W_if ?_ | refine W_skip ?_ | refine W_ret ?_ | refine W_exit ?_ | (refine Cs_intro (fun hb => ?_) (fun hb => ?_) <;> (try simp only [hb])) | refine Ws_if ?_ | simp only [Ws_op, Ws_up, Ws_nil, Wp_call, Wp_mv, Wp_pick, Wp_new, Wp_box, Wp_build, Wp_lit, Wp_load, Wp_store, Wp_nilCheck, Wp_ibin, Wp_sbin, Wp_beq, Wp_un, Wp_conv, Wp_toStr, Wp_same, Wp_ifc, Wp_fn, Wp_cutS, Wp_cutT, Wp_fieldAddr, Wp_field, Wp_at, Wp_atT, Wp_ext, Wp_len, P1_some, ibinA_int, sbinA_str, unA_not, unA_neg, convA_int, sameA_str, nilA_ptr, nilA_ref, nilA_fn, addrA_ptr, addrA_ref, lenA_nil, lenA_sl, lenA_own, lenA_str, bdA_none, ev, putO, K2_some, K2_none, Seq_normal, Seq_exit, Seq_ret, Blk_normal, Blk_exit, Blk_ret, RK_normal, RK_ret, P1_K2, resultsA, resA, List.mapM_cons, List.mapM_nil, Option.bind_eq_bind, Option.bind_some, Option.pure_def, Env.get_set, intOp, Option.map_some, Option.map_none, asB_bool, asG_bool, asG_und, Cs_true, Cs_false, List.map_cons, List.map_nil, List.append_nil, List.nil_append, List.cons_append, ↓reduceIte, Nat.reduceEqDiff, reduceCtorEq, ne_eq, not_true_eq_false, not_false_eq_true, beq_self_eq_true, beq_true, beq_false, Int.reduceEq, Int.reduceNeg, decide_true, decide_false, Bool.not_true, Bool.not_false, Nat.reduceAdd, Bool.false_eq_true, Bool.not_eq_true, Env.start, Env.ofList, fill_one, one1_int, fill_none, mem_eta, load_floor, load_ref1, h1, h5, h13, h14, h15, hlt, hp, hld, hl1, ← e0, hst]))
    -- the memory with the variable
    have hs1 : ((s.push ⟨3, 1, intsA .i64 [0]⟩).put s.next (some ⟨3, 1, intsA .i64 ([0].set 0 a)⟩)).get s.next = some ⟨3, 1, intsA .i64 [a]⟩ := by rw [Mem.get_put, if_pos rfl]; rfl
    have hk1 : Keep s.next s ((s.push ⟨3, 1, intsA .i64 [0]⟩).put s.next (some ⟨3, 1, intsA .i64 ([0].set 0 a)⟩)) := (Keep.push (Nat.le_refl _) _).trans (Keep.put (Nat.le_refl _) _)
    have hn1 : ((s.push ⟨3, 1, intsA .i64 [0]⟩).put s.next (some ⟨3, 1, intsA .i64 ([0].set 0 a)⟩)).next = s.next + 1 := rfl
    generalize ((s.push ⟨3, 1, intsA .i64 [0]⟩).put s.next (some ⟨3, 1, intsA .i64 ([0].set 0 a)⟩)) = s1 at hs1 hk1 hn1 ⊢
    have hk01 : Keep s0.next s0 s1 := hk.trans (hk1.le hnx)
    -- what follows, whatever was found
    have rest : ∀ (x : Int) (s2 : Mem) (e2 : Env), Keep s1.next s1 s2 → x = firstM ps a → e2.get 29 = l → e2.get 31 = .own s2.next 0 1 1 → e2.get 1 = w → e2.get 13 = v → e2.get 14 = .int .i64 vs.length → e2.get 15 = .int .i64 i →
        Wp tab (.app 30 1 8 (.t 29) (.t 31)) e2 (s2.push ⟨30, 1, [[.int .u64 x]]⟩) fun v' s' =>
          W tab (.region false [⟨some 33, .ibin .add (.t 15) (.c (.int .i64 1)), none, false⟩, ⟨some 15, .mv (.t 33), none, false⟩]) ((e2.set 32 v').set 5 v') s' (VI.Seq tab (.loop cf15l0) Q) := by
      intro x s2 e2 hk2 hx g29 g31 g1 g13 g14 g15
      have hk02 : Keep s0.next s0 s2 := hk01.trans (hk2.le (by omega))
      have hnx2 := hk2.next
      have hk3 : Keep s2.next s2 (s2.push ⟨30, 1, [[.int .u64 x]]⟩) := Keep.push (Nat.le_refl _) _
      have hl3 : OwnL (s2.push ⟨30, 1, [[.int .u64 x]]⟩) s0.next l 30 1 (intsA .u64 (ms (vs.take i) ps)) := by
        refine hl.keep (c := s.next) ((hk1.trans (hk2.le (by omega))).trans (hk3.le (by omega))) ?_
        intro r hr
        rcases hl with ⟨rfl, _⟩ | ⟨r', rfl, _, _, _, h⟩
        · cases hr
        · obtain ⟨rfl, _⟩ := AV.own.inj hr; exact h
      refine app_ok (b := s0.next) (xs := intsA .u64 (ms (vs.take i) ps)) (ys := [[.int .u64 x]]) ?_ ?_ ?_ ?_ rfl ?_ ?_
      · rw [Mem.floor_push, hk02.floor]; exact hf
      · rw [Mem.next_push]; have := hk02.next; omega
      · simp only [ev, g29]; exact hl3
      · simp only [ev, g31, readAll, Mem.get_push, if_true]
        rfl
      · rw [intsA_len, ms_len]
        have h2 : (vs.take i).length + [[AV.int IntKind.u64 x]].length ≤ 8 := by simp; omega
        generalize (vs.take i).length + [[AV.int IntKind.u64 x]].length = z at h2
        unfold roomOk
        simp only [Bool.and_eq_true, Nat.ble_eq]
        omega
      · intro v' s4 hv' hk4
        (repeat' (with_reducible first | refine W_seq ?_ | refine W_region ?_ | refine W_block ?_ | refine W_if ?_ | refine W_skip ?_ | refine W_ret ?_ | refine W_exit ?_ | (refine Cs_intro (fun hb => ?_) (fun hb => ?_) <;> (try simp only [hb])) | refine Ws_if ?_ | simp only [Ws_op, Ws_up, Ws_nil, Wp_call, Wp_mv, Wp_pick, Wp_new, Wp_box, Wp_build, Wp_lit, Wp_load, Wp_store, Wp_nilCheck, Wp_ibin, Wp_sbin, Wp_beq, Wp_un, Wp_conv, Wp_toStr, Wp_same, Wp_ifc, Wp_fn, Wp_cutS, Wp_cutT, Wp_fieldAddr, Wp_field, Wp_at, Wp_atT, Wp_ext, Wp_len, P1_some, ibinA_int, sbinA_str, unA_not, unA_neg, convA_int, sameA_str, nilA_ptr, nilA_ref, nilA_fn, addrA_ptr, addrA_ref, lenA_nil, lenA_sl, lenA_own, lenA_str, bdA_none, ev, putO, K2_some, K2_none, Seq_normal, Seq_exit, Seq_ret, Blk_normal, Blk_exit, Blk_ret, RK_normal, RK_ret, P1_K2, resultsA, resA, List.mapM_cons, List.mapM_nil, Option.bind_eq_bind, Option.bind_some, Option.pure_def, Env.get_set, intOp, Option.map_some, Option.map_none, asB_bool, asG_bool, asG_und, Cs_true, Cs_false, List.map_cons, List.map_nil, List.append_nil, List.nil_append, List.cons_append, ↓reduceIte, Nat.reduceEqDiff, reduceCtorEq, ne_eq, not_true_eq_false, not_false_eq_true, beq_self_eq_true, beq_true, beq_false, Int.reduceEq, Int.reduceNeg, decide_true, decide_false, Bool.not_true, Bool.not_false, Nat.reduceAdd, Bool.false_eq_true, Bool.not_eq_true, Env.start, Env.ofList, fill_one, one1_int, fill_none, mem_eta, load_floor, load_ref1, g15]))
        rw [intsA_snoc, hx, ← ms_take vs ps i a ha] at hv'
        refine ih (i + 1) _ s4 v' (by omega) ((hk02.trans (hk3.le (by omega))).trans hk4) ?_ hv' ?_ ?_ ?_ ?_
        all_goals simp only [Env.get_set, ↓reduceIte, Nat.reduceEqDiff, g1, g13, g14]
        rw [succ_cast (by omega)]
    refine find_c (n := a) (hw.keep (fun r i n z h => hk01.get r (hwk r i n z h))) (fun r i n z h => by have := hwk r i n z h; omega) hs1 (by omega) hlen ?_ ?_
    · intro j q s2 hk2 hq hm
      have hz : decide ((j : Int) ≥ 0) = true := by simp
      have hws := hw.keep (s' := s2) (fun r i n z h => by rw [hk2.get r (by have := hwk r i n z h; omega)]; exact hk01.get r (hwk r i n z h))
      obtain ⟨b, hb1, _, hb3⟩ := hws.get .i64 j _ (peersC_get ps j q hq)
      obtain ⟨c, hc1, hc2⟩ := hb3 2
      have hc3 : loadA s2 false 1 c = some (.int .u64 q.2.2) := hc2 false 1 (by simp [peerC])
      (repeat' (with_reducible first | refine W_seq ?_ | refine W_region ?_ | refine W_block ?_ | refine W_if ?_ | refine W_skip ?_ | refine W_ret ?_ | refine W_exit ?_ | (refine Cs_intro (fun hb => ?_) (fun hb => ?_) <;> (try simp only [hb])) | refine Ws_if ?_ | simp only [Ws_op, Ws_up, Ws_nil, Wp_call, Wp_mv, Wp_pick, Wp_new, Wp_box, Wp_build, Wp_lit, Wp_load, Wp_store, Wp_nilCheck, Wp_ibin, Wp_sbin, Wp_beq, Wp_un, Wp_conv, Wp_toStr, Wp_same, Wp_ifc, Wp_fn, Wp_cutS, Wp_cutT, Wp_fieldAddr, Wp_field, Wp_at, Wp_atT, Wp_ext, Wp_len, P1_some, ibinA_int, sbinA_str, unA_not, unA_neg, convA_int, sameA_str, nilA_ptr, nilA_ref, nilA_fn, addrA_ptr, addrA_ref, lenA_nil, lenA_sl, lenA_own, lenA_str, bdA_none, ev, putO, K2_some, K2_none, Seq_normal, Seq_exit, Seq_ret, Blk_normal, Blk_exit, Blk_ret, RK_normal, RK_ret, P1_K2, resultsA, resA, List.mapM_cons, List.mapM_nil, Option.bind_eq_bind, Option.bind_some, Option.pure_def, Env.get_set, intOp, Option.map_some, Option.map_none, asB_bool, asG_bool, asG_und, Cs_true, Cs_false, List.map_cons, List.map_nil, List.append_nil, List.nil_append, List.cons_append, ↓reduceIte, Nat.reduceEqDiff, reduceCtorEq, ne_eq, not_true_eq_false, not_false_eq_true, beq_self_eq_true, beq_true, beq_false, Int.reduceEq, Int.reduceNeg, decide_true, decide_false, Bool.not_true, Bool.not_false, Nat.reduceAdd, Bool.false_eq_true, Bool.not_eq_true, Env.start, Env.ofList, fill_one, one1_int, fill_none, mem_eta, load_floor, load_ref1, h1, h5, h13, h14, h15, hz, hb1, hc1, hc3]))
      refine rest q.2.2 s2 _ hk2 hm.symm ?_ ?_ ?_ ?_ ?_ ?_
      all_goals simp only [Env.get_set, ↓reduceIte, Nat.reduceEqDiff, h1, h5, h13, h14, h15]
    · intro hm s2 hk2
      have hz : decide ((-1 : Int) ≥ 0) = false := rfl
      (repeat' (with_reducible first | refine W_seq ?_ | refine W_region ?_ | refine W_block ?_ | refine W_if ?_ | refine W_skip ?_ | refine W_ret ?_ | refine W_exit ?_ | (refine Cs_intro (fun hb => ?_) (fun hb => ?_) <;> (try simp only [hb])) | refine Ws_if ?_ | simp only [Ws_op, Ws_up, Ws_nil, Wp_call, Wp_mv, Wp_pick, Wp_new, Wp_box, Wp_build, Wp_lit, Wp_load, Wp_store, Wp_nilCheck, Wp_ibin, Wp_sbin, Wp_beq, Wp_un, Wp_conv, Wp_toStr, Wp_same, Wp_ifc, Wp_fn, Wp_cutS, Wp_cutT, Wp_fieldAddr, Wp_field, Wp_at, Wp_atT, Wp_ext, Wp_len, P1_some, ibinA_int, sbinA_str, unA_not, unA_neg, convA_int, sameA_str, nilA_ptr, nilA_ref, nilA_fn, addrA_ptr, addrA_ref, lenA_nil, lenA_sl, lenA_own, lenA_str, bdA_none, ev, putO, K2_some, K2_none, Seq_normal, Seq_exit, Seq_ret, Blk_normal, Blk_exit, Blk_ret, RK_normal, RK_ret, P1_K2, resultsA, resA, List.mapM_cons, List.mapM_nil, Option.bind_eq_bind, Option.bind_some, Option.pure_def, Env.get_set, intOp, Option.map_some, Option.map_none, asB_bool, asG_bool, asG_und, Cs_true, Cs_false, List.map_cons, List.map_nil, List.append_nil, List.nil_append, List.cons_append, ↓reduceIte, Nat.reduceEqDiff, reduceCtorEq, ne_eq, not_true_eq_false, not_false_eq_true, beq_self_eq_true, beq_true, beq_false, Int.reduceEq, Int.reduceNeg, decide_true, decide_false, Bool.not_true, Bool.not_false, Nat.reduceAdd, Bool.false_eq_true, Bool.not_eq_true, Env.start, Env.ofList, fill_one, one1_int, fill_none, mem_eta, load_floor, load_ref1, h1, h5, h13, h14, h15, hz]))
      refine rest 0 s2 _ hk2 hm.symm ?_ ?_ ?_ ?_ ?_ ?_
      all_goals simp only [Env.get_set, ↓reduceIte, Nat.reduceEqDiff, h1, h5, h13, h14, h15]

/-- What a majority has: the number at the middle of the sorted ones. -/
def mid (l : List Int) : Int := (isrt l (l.length - 1)).getD (l.length - (l.length / 2 + 1)) 0

theorem commit_c {vs : List Int} {ps : List Peer} {s : Mem} {v w : AV} {K : AV → Mem → Prop} (hv : isSl v (intsA .i64 vs)) (hvl : vs.length < 4611686018427387904) (hw : Els s w 3 (peersC ps)) (hwk : ∀ r i n z, w = .own r i n z → r < s.next) (hlen : ps.length < 4611686018427387904) (hf : s.floor ≤ s.next)
    (hbad : ¬ (good vs ∧ 0 < vs.length) → K (.int .u64 0) s) (hgood : good vs → 0 < vs.length → ∀ s', Keep s.next s s' → K (.int .u64 (mid (ms vs ps))) s') : C tab 15 [v, w] s K := by
  refine C_enter (cf := cf15) rfl (Nat.le_of_ble_eq_true rfl) ?_
  simp only [cf15]
  (repeat' (with_reducible first | refine W_seq ?_ | refine W_region ?_ | refine W_block ?_ | refine W_if ?_ | refine W_skip ?_ | refine W_ret ?_ | refine W_exit ?_ | (refine Cs_intro (fun hb => ?_) (fun hb => ?_) <;> (try simp only [hb])) | refine Ws_if ?_ | simp only [Ws_op, Ws_up, Ws_nil, Wp_call, Wp_mv, Wp_pick, Wp_new, Wp_box, Wp_build, Wp_lit, Wp_load, Wp_store, Wp_nilCheck, Wp_ibin, Wp_sbin, Wp_beq, Wp_un, Wp_conv, Wp_toStr, Wp_same, Wp_ifc, Wp_fn, Wp_cutS, Wp_cutT, Wp_fieldAddr, Wp_field, Wp_at, Wp_atT, Wp_ext, Wp_len, P1_some, ibinA_int, sbinA_str, unA_not, unA_neg, convA_int, sameA_str, nilA_ptr, nilA_ref, nilA_fn, addrA_ptr, addrA_ref, lenA_nil, lenA_sl, lenA_own, lenA_str, bdA_none, ev, putO, K2_some, K2_none, Seq_normal, Seq_exit, Seq_ret, Blk_normal, Blk_exit, Blk_ret, RK_normal, RK_ret, P1_K2, resultsA, resA, List.mapM_cons, List.mapM_nil, Option.bind_eq_bind, Option.bind_some, Option.pure_def, Env.get_set, intOp, Option.map_some, Option.map_none, asB_bool, asG_bool, asG_und, Cs_true, Cs_false, List.map_cons, List.map_nil, List.append_nil, List.nil_append, List.cons_append, ↓reduceIte, Nat.reduceEqDiff, reduceCtorEq, ne_eq, not_true_eq_false, not_false_eq_true, beq_self_eq_true, beq_true, beq_false, Int.reduceEq, Int.reduceNeg, decide_true, decide_false, Bool.not_true, Bool.not_false, Nat.reduceAdd, Bool.false_eq_true, Bool.not_eq_true, Env.start, Env.ofList, fill_one, one1_int, fill_none, mem_eta, load_floor, load_ref1]))
  refine check_c (hv.toInts s) hvl fun b hb' => ?_
  cases b with
  | false =>
    (repeat' (with_reducible first | refine W_seq ?_ | refine W_region ?_ | refine W_block ?_ | refine W_if ?_ | refine W_skip ?_ | refine W_ret ?_ | refine W_exit ?_ | (refine Cs_intro (fun hb => ?_) (fun hb => ?_) <;> (try simp only [hb])) | refine Ws_if ?_ | simp only [Ws_op, Ws_up, Ws_nil, Wp_call, Wp_mv, Wp_pick, Wp_new, Wp_box, Wp_build, Wp_lit, Wp_load, Wp_store, Wp_nilCheck, Wp_ibin, Wp_sbin, Wp_beq, Wp_un, Wp_conv, Wp_toStr, Wp_same, Wp_ifc, Wp_fn, Wp_cutS, Wp_cutT, Wp_fieldAddr, Wp_field, Wp_at, Wp_atT, Wp_ext, Wp_len, P1_some, ibinA_int, sbinA_str, unA_not, unA_neg, convA_int, sameA_str, nilA_ptr, nilA_ref, nilA_fn, addrA_ptr, addrA_ref, lenA_nil, lenA_sl, lenA_own, lenA_str, bdA_none, ev, putO, K2_some, K2_none, Seq_normal, Seq_exit, Seq_ret, Blk_normal, Blk_exit, Blk_ret, RK_normal, RK_ret, P1_K2, resultsA, resA, List.mapM_cons, List.mapM_nil, Option.bind_eq_bind, Option.bind_some, Option.pure_def, Env.get_set, intOp, Option.map_some, Option.map_none, asB_bool, asG_bool, asG_und, Cs_true, Cs_false, List.map_cons, List.map_nil, List.append_nil, List.nil_append, List.cons_append, ↓reduceIte, Nat.reduceEqDiff, reduceCtorEq, ne_eq, not_true_eq_false, not_false_eq_true, beq_self_eq_true, beq_true, beq_false, Int.reduceEq, Int.reduceNeg, decide_true, decide_false, Bool.not_true, Bool.not_false, Nat.reduceAdd, Bool.false_eq_true, Bool.not_eq_true, Env.start, Env.ofList, fill_one, one1_int, fill_none, mem_eta, load_floor, load_ref1]))
    exact hbad (fun h => by have := hb'.mpr h; cases this)
  | true =>
    have hg := hb'.mp rfl
    have h7 := good_len hg.1
    have hl := (hv.toInts s).len
    (repeat' (with_reducible first | refine W_seq ?_ | refine W_region ?_ | refine W_block ?_ | refine W_if ?_ | refine W_skip ?_ | refine W_ret ?_ | refine W_exit ?_ | (refine Cs_intro (fun hb => ?_) (fun hb => ?_) <;> (try simp only [hb])) | refine Ws_if ?_ | simp only [Ws_op, Ws_up, Ws_nil, Wp_call, Wp_mv, Wp_pick, Wp_new, Wp_box, Wp_build, Wp_lit, Wp_load, Wp_store, Wp_nilCheck, Wp_ibin, Wp_sbin, Wp_beq, Wp_un, Wp_conv, Wp_toStr, Wp_same, Wp_ifc, Wp_fn, Wp_cutS, Wp_cutT, Wp_fieldAddr, Wp_field, Wp_at, Wp_atT, Wp_ext, Wp_len, P1_some, ibinA_int, sbinA_str, unA_not, unA_neg, convA_int, sameA_str, nilA_ptr, nilA_ref, nilA_fn, addrA_ptr, addrA_ref, lenA_nil, lenA_sl, lenA_own, lenA_str, bdA_none, ev, putO, K2_some, K2_none, Seq_normal, Seq_exit, Seq_ret, Blk_normal, Blk_exit, Blk_ret, RK_normal, RK_ret, P1_K2, resultsA, resA, List.mapM_cons, List.mapM_nil, Option.bind_eq_bind, Option.bind_some, Option.pure_def, Env.get_set, intOp, Option.map_some, Option.map_none, asB_bool, asG_bool, asG_und, Cs_true, Cs_false, List.map_cons, List.map_nil, List.append_nil, List.nil_append, List.cons_append, ↓reduceIte, Nat.reduceEqDiff, reduceCtorEq, ne_eq, not_true_eq_false, not_false_eq_true, beq_self_eq_true, beq_true, beq_false, Int.reduceEq, Int.reduceNeg, decide_true, decide_false, Bool.not_true, Bool.not_false, Nat.reduceAdd, Bool.false_eq_true, Bool.not_eq_true, Env.start, Env.ofList, fill_one, one1_int, fill_none, mem_eta, load_floor, load_ref1, hl]))
    refine commit_l0 hv h7 hw hwk hlen hf ?_ vs.length 0 _ _ .nilS (by omega) (Keep.refl _ _) ?_ (.inl ⟨rfl, rfl⟩) ?_ ?_ ?_ ?_
    · intro e' s' l hk h5 hl
      rcases hl with ⟨_, h⟩ | ⟨r, rfl, hr, hfr, hbr, hrn⟩
      · have : (intsA .u64 (ms vs ps)).length = vs.length := by rw [intsA_len, ms_len]
        rw [h] at this; simp at this; omega
      · have hml := ms_len vs ps
        rw [intsA_len] at h5
        (repeat' (with_reducible first | refine W_seq ?_ | refine W_region ?_ | refine W_block ?_ | refine W_if ?_ | refine W_skip ?_ | refine W_ret ?_ | refine W_exit ?_ | (refine Cs_intro (fun hb => ?_) (fun hb => ?_) <;> (try simp only [hb])) | refine Ws_if ?_ | simp only [Ws_op, Ws_up, Ws_nil, Wp_call, Wp_mv, Wp_pick, Wp_new, Wp_box, Wp_build, Wp_lit, Wp_load, Wp_store, Wp_nilCheck, Wp_ibin, Wp_sbin, Wp_beq, Wp_un, Wp_conv, Wp_toStr, Wp_same, Wp_ifc, Wp_fn, Wp_cutS, Wp_cutT, Wp_fieldAddr, Wp_field, Wp_at, Wp_atT, Wp_ext, Wp_len, P1_some, ibinA_int, sbinA_str, unA_not, unA_neg, convA_int, sameA_str, nilA_ptr, nilA_ref, nilA_fn, addrA_ptr, addrA_ref, lenA_nil, lenA_sl, lenA_own, lenA_str, bdA_none, ev, putO, K2_some, K2_none, Seq_normal, Seq_exit, Seq_ret, Blk_normal, Blk_exit, Blk_ret, RK_normal, RK_ret, P1_K2, resultsA, resA, List.mapM_cons, List.mapM_nil, Option.bind_eq_bind, Option.bind_some, Option.pure_def, Env.get_set, intOp, Option.map_some, Option.map_none, asB_bool, asG_bool, asG_und, Cs_true, Cs_false, List.map_cons, List.map_nil, List.append_nil, List.nil_append, List.cons_append, ↓reduceIte, Nat.reduceEqDiff, reduceCtorEq, ne_eq, not_true_eq_false, not_false_eq_true, beq_self_eq_true, beq_true, beq_false, Int.reduceEq, Int.reduceNeg, decide_true, decide_false, Bool.not_true, Bool.not_false, Nat.reduceAdd, Bool.false_eq_true, Bool.not_eq_true, Env.start, Env.ofList, fill_one, one1_int, fill_none, mem_eta, load_floor, load_ref1, h5]))
        refine sort_c (xs := ms vs ps) rfl (by omega) (by omega) hr hfr ?_
        intro v' s2 hT hs2
        (repeat' (with_reducible first | refine W_seq ?_ | refine W_region ?_ | refine W_block ?_ | refine W_if ?_ | refine W_skip ?_ | refine W_ret ?_ | refine W_exit ?_ | (refine Cs_intro (fun hb => ?_) (fun hb => ?_) <;> (try simp only [hb])) | refine Ws_if ?_ | simp only [Ws_op, Ws_up, Ws_nil, Wp_call, Wp_mv, Wp_pick, Wp_new, Wp_box, Wp_build, Wp_lit, Wp_load, Wp_store, Wp_nilCheck, Wp_ibin, Wp_sbin, Wp_beq, Wp_un, Wp_conv, Wp_toStr, Wp_same, Wp_ifc, Wp_fn, Wp_cutS, Wp_cutT, Wp_fieldAddr, Wp_field, Wp_at, Wp_atT, Wp_ext, Wp_len, P1_some, ibinA_int, sbinA_str, unA_not, unA_neg, convA_int, sameA_str, nilA_ptr, nilA_ref, nilA_fn, addrA_ptr, addrA_ref, lenA_nil, lenA_sl, lenA_own, lenA_str, bdA_none, ev, putO, K2_some, K2_none, Seq_normal, Seq_exit, Seq_ret, Blk_normal, Blk_exit, Blk_ret, RK_normal, RK_ret, P1_K2, resultsA, resA, List.mapM_cons, List.mapM_nil, Option.bind_eq_bind, Option.bind_some, Option.pure_def, Env.get_set, intOp, Option.map_some, Option.map_none, asB_bool, asG_bool, asG_und, Cs_true, Cs_false, List.map_cons, List.map_nil, List.append_nil, List.nil_append, List.cons_append, ↓reduceIte, Nat.reduceEqDiff, reduceCtorEq, ne_eq, not_true_eq_false, not_false_eq_true, beq_self_eq_true, beq_true, beq_false, Int.reduceEq, Int.reduceNeg, decide_true, decide_false, Bool.not_true, Bool.not_false, Nat.reduceAdd, Bool.false_eq_true, Bool.not_eq_true, Env.start, Env.ofList, fill_one, one1_int, fill_none, mem_eta, load_floor, load_ref1, h5]))
        refine need_c _ (wf_nat (by omega)) _ _ ?_
        have hk' : needF ((ms vs ps).length : Int) = ((ms vs ps).length / 2 + 1 : Nat) := by
          rw [needF, if_neg (by omega)]; omega
        have hw2 : IntKind.i64.wrap (((ms vs ps).length : Int) - (((ms vs ps).length / 2 + 1 : Nat) : Int)) = (((ms vs ps).length - ((ms vs ps).length / 2 + 1) : Nat) : Int) := by rw [wrap_i64 (by omega)]; omega
        have ha := at0 (k := .i64) (r := r) (z := 1) (show (ms vs ps).length - ((ms vs ps).length / 2 + 1) < (ms vs ps).length by omega)
        have hld := load0 hs2 (show (ms vs ps).length - ((ms vs ps).length / 2 + 1) < (isrt (ms vs ps) ((ms vs ps).length - 1)).length by rw [isrt_len]; omega)
        (repeat' (with_reducible first | refine W_seq ?_ | refine W_region ?_ | refine W_block ?_ | refine W_if ?_ | refine W_skip ?_ | refine W_ret ?_ | refine W_exit ?_ | (refine Cs_intro (fun hb => ?_) (fun hb => ?_) <;> (try simp only [hb])) | refine Ws_if ?_ | simp only [Ws_op, Ws_up, Ws_nil, Wp_call, Wp_mv, Wp_pick, Wp_new, Wp_box, Wp_build, Wp_lit, Wp_load, Wp_store, Wp_nilCheck, Wp_ibin, Wp_sbin, Wp_beq, Wp_un, Wp_conv, Wp_toStr, Wp_same, Wp_ifc, Wp_fn, Wp_cutS, Wp_cutT, Wp_fieldAddr, Wp_field, Wp_at, Wp_atT, Wp_ext, Wp_len, P1_some, ibinA_int, sbinA_str, unA_not, unA_neg, convA_int, sameA_str, nilA_ptr, nilA_ref, nilA_fn, addrA_ptr, addrA_ref, lenA_nil, lenA_sl, lenA_own, lenA_str, bdA_none, ev, putO, K2_some, K2_none, Seq_normal, Seq_exit, Seq_ret, Blk_normal, Blk_exit, Blk_ret, RK_normal, RK_ret, P1_K2, resultsA, resA, List.mapM_cons, List.mapM_nil, Option.bind_eq_bind, Option.bind_some, Option.pure_def, Env.get_set, intOp, Option.map_some, Option.map_none, asB_bool, asG_bool, asG_und, Cs_true, Cs_false, List.map_cons, List.map_nil, List.append_nil, List.nil_append, List.cons_append, ↓reduceIte, Nat.reduceEqDiff, reduceCtorEq, ne_eq, not_true_eq_false, not_false_eq_true, beq_self_eq_true, beq_true, beq_false, Int.reduceEq, Int.reduceNeg, decide_true, decide_false, Bool.not_true, Bool.not_false, Nat.reduceAdd, Bool.false_eq_true, Bool.not_eq_true, Env.start, Env.ofList, fill_one, one1_int, fill_none, mem_eta, load_floor, load_ref1, h5, hk', hw2, ha, hld]))
        exact hgood hg.1 hg.2 _ (hk.trans (hT.keep hbr))
    all_goals simp only [Env.get_set, ↓reduceIte, Nat.reduceEqDiff]
    rfl
end Go.Proofs.Ytgedimcfeofjcaa
