/- The law QuorumCommits over the compact program. -/
import Derived.Test.YtgedimcfeofjcaaVMajority
namespace Go.Proofs.Ytgedimcfeofjcaa
open Go Go.VI
set_option linter.unusedSimpArgs false

theorem yes_any {n f : Nat} {a : List AV} {s : Mem} (h : ∀ s : Mem, yes (run tab n f a s) = true) : ∃ s', run tab n f a s = some (.bool true, s') := by
  have h := h s
  unfold yes at h
  split at h
  · rename_i s' hh; exact ⟨s', hh⟩
  · cases h

theorem uni_peers (ps : List Peer) : uni 3 (peersC ps) = true := by
  simp [uni, peersC, peerC]

theorem ms_nonneg {vs : List Int} {ps : List Peer} (h : ∀ p ∈ ps, 0 ≤ p.2.2) : ∀ x ∈ ms vs ps, 0 ≤ x := by
  intro x hx
  simp only [ms, List.mem_map] at hx
  obtain ⟨v, _, rfl⟩ := hx
  unfold firstM
  split
  · rename_i p hp
    exact h p (List.mem_of_find?_eq_some hp)
  · exact Int.le_refl _

theorem tyPeer {c : List AV} (h : Ty Try.prog 8 34 c) : ∃ p : Peer, c = peerC p ∧ 0 ≤ p.2.2 := by
  obtain ⟨a, _, rfl, h1, b, _, rfl, h2, c, _, rfl, h3, rfl⟩ := Ty.fields (ts := [3, 30, 30]) (by kernel_rfl) h
  obtain ⟨x, rfl, _⟩ := Ty.int (k := .i64) (by kernel_rfl) h1
  obtain ⟨y, rfl, _⟩ := Ty.int (k := .u64) (by kernel_rfl) h2
  obtain ⟨z, rfl, hz⟩ := Ty.int (k := .u64) (by kernel_rfl) h3
  exact ⟨(x, y, z), rfl, (wf_u64 hz).1⟩

theorem TyV.peers {c : AV} (h : TyV Try.prog 9 29 c) : ∃ ps, isSl c (peersC ps) ∧ ps.length * Try.prog.bytesOf 34 ≤ reachBytes ∧ ∀ p ∈ ps, 0 ≤ p.2.2 := by
  rcases TyV.slice (d := 8) (e := 34) (by kernel_rfl) h with rfl | ⟨xs, rfl, h1, h2⟩
  · exact ⟨[], .inl ⟨rfl, rfl⟩, by simp, by simp⟩
  · have : ∃ ps, xs = peersC ps ∧ ∀ p ∈ ps, 0 ≤ p.2.2 := by
      clear h1 h
      induction xs with
      | nil => exact ⟨[], rfl, by simp⟩
      | cons x xs ih =>
        obtain ⟨l, g1, g2⟩ := ih (fun y hy => h2 y (List.mem_cons_of_mem _ hy))
        obtain ⟨p, g3, g4⟩ := tyPeer (h2 x (List.mem_cons_self ..))
        refine ⟨p :: l, by rw [g1, g3]; rfl, ?_⟩
        intro m hm
        rcases List.mem_cons.mp hm with rfl | hm
        · exact g4
        · exact g2 m hm
    obtain ⟨l, rfl, g⟩ := this
    exact ⟨l, .inr rfl, by simpa [peersC] using h1, g⟩

theorem commits_c {vs : List Int} {ps : List Peer} {v w : AV} (hv : isSl v (intsA .i64 vs)) (hw : isSl w (peersC ps)) (hvl : vs.length < 1000000000000000000) (hwl : ps.length < 1000000000000000000) (h0 : ∀ p ∈ ps, 0 ≤ p.2.2) : C tab 5 [v, w] Mem.zero (fun r _ => r = .bool true) := by
  refine C_enter (cf := cf5) rfl (Nat.le_of_ble_eq_true rfl) ?_
  simp only [cf5]
  have hl := hw.len
  rw [peersC_len] at hl
  (repeat' (with_reducible first | refine W_seq ?_ | refine W_region ?_ | refine W_block ?_ | refine W_if ?_ | refine W_skip ?_ | refine W_ret ?_ | refine W_exit ?_ | (refine Cs_intro (fun hb => ?_) (fun hb => ?_) <;> (try simp only [hb])) | refine Ws_if ?_ | simp only [Ws_op, Ws_up, Ws_nil, Wp_call, Wp_mv, Wp_pick, Wp_new, Wp_box, Wp_build, Wp_lit, Wp_load, Wp_store, Wp_nilCheck, Wp_ibin, Wp_sbin, Wp_beq, Wp_un, Wp_conv, Wp_toStr, Wp_same, Wp_ifc, Wp_fn, Wp_cutS, Wp_cutT, Wp_fieldAddr, Wp_field, Wp_at, Wp_atT, Wp_ext, Wp_len, P1_some, ibinA_int, sbinA_str, unA_not, unA_neg, convA_int, sameA_str, nilA_ptr, nilA_ref, nilA_fn, addrA_ptr, addrA_ref, lenA_nil, lenA_sl, lenA_own, lenA_str, bdA_none, ev, putO, K2_some, K2_none, Seq_normal, Seq_exit, Seq_ret, Blk_normal, Blk_exit, Blk_ret, RK_normal, RK_ret, P1_K2, resultsA, resA, List.mapM_cons, List.mapM_nil, Option.bind_eq_bind, Option.bind_some, Option.pure_def, Env.get_set, intOp, Option.map_some, Option.map_none, asB_bool, asG_bool, asG_und, Cs_true, Cs_false, List.map_cons, List.map_nil, List.append_nil, List.nil_append, List.cons_append, ↓reduceIte, Nat.reduceEqDiff, reduceCtorEq, ne_eq, not_true_eq_false, not_false_eq_true, beq_self_eq_true, beq_true, beq_false, Int.reduceEq, Int.reduceNeg, decide_true, decide_false, Bool.not_true, Bool.not_false, Nat.reduceAdd, Bool.false_eq_true, Bool.not_eq_true, Env.start, Env.ofList, fill_one, one1_int, fill_none, mem_eta, load_floor, load_ref1, hl]))
  · refine awake_c _ ?_
    (repeat' (with_reducible first | refine W_seq ?_ | refine W_region ?_ | refine W_block ?_ | refine W_if ?_ | refine W_skip ?_ | refine W_ret ?_ | refine W_exit ?_ | (refine Cs_intro (fun hb => ?_) (fun hb => ?_) <;> (try simp only [hb])) | refine Ws_if ?_ | simp only [Ws_op, Ws_up, Ws_nil, Wp_call, Wp_mv, Wp_pick, Wp_new, Wp_box, Wp_build, Wp_lit, Wp_load, Wp_store, Wp_nilCheck, Wp_ibin, Wp_sbin, Wp_beq, Wp_un, Wp_conv, Wp_toStr, Wp_same, Wp_ifc, Wp_fn, Wp_cutS, Wp_cutT, Wp_fieldAddr, Wp_field, Wp_at, Wp_atT, Wp_ext, Wp_len, P1_some, ibinA_int, sbinA_str, unA_not, unA_neg, convA_int, sameA_str, nilA_ptr, nilA_ref, nilA_fn, addrA_ptr, addrA_ref, lenA_nil, lenA_sl, lenA_own, lenA_str, bdA_none, ev, putO, K2_some, K2_none, Seq_normal, Seq_exit, Seq_ret, Blk_normal, Blk_exit, Blk_ret, RK_normal, RK_ret, P1_K2, resultsA, resA, List.mapM_cons, List.mapM_nil, Option.bind_eq_bind, Option.bind_some, Option.pure_def, Env.get_set, intOp, Option.map_some, Option.map_none, asB_bool, asG_bool, asG_und, Cs_true, Cs_false, List.map_cons, List.map_nil, List.append_nil, List.nil_append, List.cons_append, ↓reduceIte, Nat.reduceEqDiff, reduceCtorEq, ne_eq, not_true_eq_false, not_false_eq_true, beq_self_eq_true, beq_true, beq_false, Int.reduceEq, Int.reduceNeg, decide_true, decide_false, Bool.not_true, Bool.not_false, Nat.reduceAdd, Bool.false_eq_true, Bool.not_eq_true, Env.start, Env.ofList, fill_one, one1_int, fill_none, mem_eta, load_floor, load_ref1]))
  · have hp300 : ps.length ≤ 300 := by simp only [decide_eq_false_iff_not] at hb; omega
    have hread : ∀ s, readAll s w = some (peersC ps) := by
      intro s
      rcases hw with ⟨rfl, h⟩ | rfl
      · rw [h]; rfl
      · rfl
    have hown0 : OwnL (Mem.zero.push ⟨34, 3, []⟩) 0 (.own Mem.zero.next 0 0 3) 34 3 [] := OwnL.of_push (ty := 34) (sz := 3) (xs := []) (Nat.le_refl _) (Nat.le_refl _)
    refine app_ok (b := 0) (xs := []) (ys := peersC ps) (Nat.le_refl _) (Nat.zero_le _) ?_ ?_ (uni_peers ps) ?_ ?_
    · simp only [ev, Env.get_set, ↓reduceIte, Nat.reduceEqDiff]; exact hown0
    · simp only [ev, Env.get_set, ↓reduceIte, Nat.reduceEqDiff]; exact hread _
    · rw [peersC_len]
      unfold roomOk
      simp only [Bool.and_eq_true, Nat.ble_eq, List.length_nil]
      omega
    intro v' s1 hown hk
    have hf1 : s1.floor ≤ s1.next := by rw [hk.floor]; exact Nat.zero_le _
    have hels := hown.els
    rw [List.nil_append] at hels
    have hwk : ∀ r i n z, v' = .own r i n z → r < s1.next := by
      intro r i n z hv'
      rcases hown with ⟨rfl, _⟩ | ⟨r', rfl, _, _, _, h⟩
      · cases hv'
      · obtain ⟨rfl, _⟩ := AV.own.inj hv'; exact h
    have hwsl : ∀ s, Els s w 3 (peersC ps) := fun s => Els.of_sl hw (by intro c hc; simp only [peersC, List.mem_map] at hc; obtain ⟨p, _, rfl⟩ := hc; rfl)
    have hwn : ∀ s : Mem, ∀ r i n z, w = .own r i n z → r < s.next := by
      intro s r i n z h
      rcases hw with ⟨rfl, _⟩ | rfl <;> cases h
    have fin : ∀ (x : Int) (s2 s3 : Mem) (e : Env), e.get 4 = .bool true → True := fun _ _ _ _ _ => trivial
    clear fin
    refine commit_c hv (by omega) hels hwk (by omega) hf1 ?_ ?_
    · intro hbad
      refine rcommit_c hv (by omega) (hwsl s1) (hwn s1) (by omega) hf1 ?_ ?_
      · intro _
        (repeat' (with_reducible first | refine W_seq ?_ | refine W_region ?_ | refine W_block ?_ | refine W_if ?_ | refine W_skip ?_ | refine W_ret ?_ | refine W_exit ?_ | (refine Cs_intro (fun hb => ?_) (fun hb => ?_) <;> (try simp only [hb])) | refine Ws_if ?_ | simp only [Ws_op, Ws_up, Ws_nil, Wp_call, Wp_mv, Wp_pick, Wp_new, Wp_box, Wp_build, Wp_lit, Wp_load, Wp_store, Wp_nilCheck, Wp_ibin, Wp_sbin, Wp_beq, Wp_un, Wp_conv, Wp_toStr, Wp_same, Wp_ifc, Wp_fn, Wp_cutS, Wp_cutT, Wp_fieldAddr, Wp_field, Wp_at, Wp_atT, Wp_ext, Wp_len, P1_some, ibinA_int, sbinA_str, unA_not, unA_neg, convA_int, sameA_str, nilA_ptr, nilA_ref, nilA_fn, addrA_ptr, addrA_ref, lenA_nil, lenA_sl, lenA_own, lenA_str, bdA_none, ev, putO, K2_some, K2_none, Seq_normal, Seq_exit, Seq_ret, Blk_normal, Blk_exit, Blk_ret, RK_normal, RK_ret, P1_K2, resultsA, resA, List.mapM_cons, List.mapM_nil, Option.bind_eq_bind, Option.bind_some, Option.pure_def, Env.get_set, intOp, Option.map_some, Option.map_none, asB_bool, asG_bool, asG_und, Cs_true, Cs_false, List.map_cons, List.map_nil, List.append_nil, List.nil_append, List.cons_append, ↓reduceIte, Nat.reduceEqDiff, reduceCtorEq, ne_eq, not_true_eq_false, not_false_eq_true, beq_self_eq_true, beq_true, beq_false, Int.reduceEq, Int.reduceNeg, decide_true, decide_false, Bool.not_true, Bool.not_false, Nat.reduceAdd, Bool.false_eq_true, Bool.not_eq_true, Env.start, Env.ofList, fill_one, one1_int, fill_none, mem_eta, load_floor, load_ref1]))
        refine awake_c _ ?_
        (repeat' (with_reducible first | refine W_seq ?_ | refine W_region ?_ | refine W_block ?_ | refine W_if ?_ | refine W_skip ?_ | refine W_ret ?_ | refine W_exit ?_ | (refine Cs_intro (fun hb => ?_) (fun hb => ?_) <;> (try simp only [hb])) | refine Ws_if ?_ | simp only [Ws_op, Ws_up, Ws_nil, Wp_call, Wp_mv, Wp_pick, Wp_new, Wp_box, Wp_build, Wp_lit, Wp_load, Wp_store, Wp_nilCheck, Wp_ibin, Wp_sbin, Wp_beq, Wp_un, Wp_conv, Wp_toStr, Wp_same, Wp_ifc, Wp_fn, Wp_cutS, Wp_cutT, Wp_fieldAddr, Wp_field, Wp_at, Wp_atT, Wp_ext, Wp_len, P1_some, ibinA_int, sbinA_str, unA_not, unA_neg, convA_int, sameA_str, nilA_ptr, nilA_ref, nilA_fn, addrA_ptr, addrA_ref, lenA_nil, lenA_sl, lenA_own, lenA_str, bdA_none, ev, putO, K2_some, K2_none, Seq_normal, Seq_exit, Seq_ret, Blk_normal, Blk_exit, Blk_ret, RK_normal, RK_ret, P1_K2, resultsA, resA, List.mapM_cons, List.mapM_nil, Option.bind_eq_bind, Option.bind_some, Option.pure_def, Env.get_set, intOp, Option.map_some, Option.map_none, asB_bool, asG_bool, asG_und, Cs_true, Cs_false, List.map_cons, List.map_nil, List.append_nil, List.nil_append, List.cons_append, ↓reduceIte, Nat.reduceEqDiff, reduceCtorEq, ne_eq, not_true_eq_false, not_false_eq_true, beq_self_eq_true, beq_true, beq_false, Int.reduceEq, Int.reduceNeg, decide_true, decide_false, Bool.not_true, Bool.not_false, Nat.reduceAdd, Bool.false_eq_true, Bool.not_eq_true, Env.start, Env.ofList, fill_one, one1_int, fill_none, mem_eta, load_floor, load_ref1]))
      · intro h1 h2; exact absurd ⟨h1, h2⟩ hbad
    · intro hg hpos s2 hk2
      have hf2 : s2.floor ≤ s2.next := by rw [hk2.floor]; have := hk2.next; omega
      refine rcommit_c hv (by omega) (hwsl s2) (hwn s2) (by omega) hf2 ?_ ?_
      · intro h; exact absurd ⟨hg, hpos⟩ h
      · intro _ _ s3 hk3
        have hml := ms_len vs ps
        have hm : mid (ms vs ps) = rcommit vs ps := by
          rw [mid_bst (by omega) (ms_nonneg h0), hml]; rfl
        rw [hm]
        (repeat' (with_reducible first | refine W_seq ?_ | refine W_region ?_ | refine W_block ?_ | refine W_if ?_ | refine W_skip ?_ | refine W_ret ?_ | refine W_exit ?_ | (refine Cs_intro (fun hb => ?_) (fun hb => ?_) <;> (try simp only [hb])) | refine Ws_if ?_ | simp only [Ws_op, Ws_up, Ws_nil, Wp_call, Wp_mv, Wp_pick, Wp_new, Wp_box, Wp_build, Wp_lit, Wp_load, Wp_store, Wp_nilCheck, Wp_ibin, Wp_sbin, Wp_beq, Wp_un, Wp_conv, Wp_toStr, Wp_same, Wp_ifc, Wp_fn, Wp_cutS, Wp_cutT, Wp_fieldAddr, Wp_field, Wp_at, Wp_atT, Wp_ext, Wp_len, P1_some, ibinA_int, sbinA_str, unA_not, unA_neg, convA_int, sameA_str, nilA_ptr, nilA_ref, nilA_fn, addrA_ptr, addrA_ref, lenA_nil, lenA_sl, lenA_own, lenA_str, bdA_none, ev, putO, K2_some, K2_none, Seq_normal, Seq_exit, Seq_ret, Blk_normal, Blk_exit, Blk_ret, RK_normal, RK_ret, P1_K2, resultsA, resA, List.mapM_cons, List.mapM_nil, Option.bind_eq_bind, Option.bind_some, Option.pure_def, Env.get_set, intOp, Option.map_some, Option.map_none, asB_bool, asG_bool, asG_und, Cs_true, Cs_false, List.map_cons, List.map_nil, List.append_nil, List.nil_append, List.cons_append, ↓reduceIte, Nat.reduceEqDiff, reduceCtorEq, ne_eq, not_true_eq_false, not_false_eq_true, beq_self_eq_true, beq_true, beq_false, Int.reduceEq, Int.reduceNeg, decide_true, decide_false, Bool.not_true, Bool.not_false, Nat.reduceAdd, Bool.false_eq_true, Bool.not_eq_true, Env.start, Env.ofList, fill_one, one1_int, fill_none, mem_eta, load_floor, load_ref1]))
        refine awake_c _ ?_
        (repeat' (with_reducible first | refine W_seq ?_ | refine W_region ?_ | refine W_block ?_ | refine W_if ?_ | refine W_skip ?_ | refine W_ret ?_ | refine W_exit ?_ | (refine Cs_intro (fun hb => ?_) (fun hb => ?_) <;> (try simp only [hb])) | refine Ws_if ?_ | simp only [Ws_op, Ws_up, Ws_nil, Wp_call, Wp_mv, Wp_pick, Wp_new, Wp_box, Wp_build, Wp_lit, Wp_load, Wp_store, Wp_nilCheck, Wp_ibin, Wp_sbin, Wp_beq, Wp_un, Wp_conv, Wp_toStr, Wp_same, Wp_ifc, Wp_fn, Wp_cutS, Wp_cutT, Wp_fieldAddr, Wp_field, Wp_at, Wp_atT, Wp_ext, Wp_len, P1_some, ibinA_int, sbinA_str, unA_not, unA_neg, convA_int, sameA_str, nilA_ptr, nilA_ref, nilA_fn, addrA_ptr, addrA_ref, lenA_nil, lenA_sl, lenA_own, lenA_str, bdA_none, ev, putO, K2_some, K2_none, Seq_normal, Seq_exit, Seq_ret, Blk_normal, Blk_exit, Blk_ret, RK_normal, RK_ret, P1_K2, resultsA, resA, List.mapM_cons, List.mapM_nil, Option.bind_eq_bind, Option.bind_some, Option.pure_def, Env.get_set, intOp, Option.map_some, Option.map_none, asB_bool, asG_bool, asG_und, Cs_true, Cs_false, List.map_cons, List.map_nil, List.append_nil, List.nil_append, List.cons_append, ↓reduceIte, Nat.reduceEqDiff, reduceCtorEq, ne_eq, not_true_eq_false, not_false_eq_true, beq_self_eq_true, beq_true, beq_false, Int.reduceEq, Int.reduceNeg, decide_true, decide_false, Bool.not_true, Bool.not_false, Nat.reduceAdd, Bool.false_eq_true, Bool.not_eq_true, Env.start, Env.ofList, fill_one, one1_int, fill_none, mem_eta, load_floor, load_ref1]))

theorem quorumCommits_walk : ∀ avs, TyVs Try.prog 9 Try.f5.params.toList avs → ∃ k s', run (comp Try.prog) k 5 avs Mem.zero = some (.bool true, s') := by
  intro avs h
  obtain ⟨c, _, rfl, h1, d, _, rfl, h2, rfl⟩ := h
  obtain ⟨vs, g1, g2, _⟩ := TyV.ints (k := .i64) (e := 3) (by kernel_rfl) (by kernel_rfl) h1
  obtain ⟨ps, k1, k2, k3⟩ := TyV.peers h2
  have e8 : Try.prog.bytesOf 3 = 8 := by kernel_rfl
  have e24 : Try.prog.bytesOf 34 = 24 := by kernel_rfl
  rw [e8] at g2
  rw [e24] at k2
  exact C_run (commits_c g1 k1 (by simp only [reachBytes] at g2; omega) (by simp only [reachBytes] at k2; omega) k3) tab_le
end Go.Proofs.Ytgedimcfeofjcaa
