/- Small words of logs. No statement of the seat is proved here. -/
import Derived.Test.YtfllmhjjfapnmaaGreatVZMergeL
import Derived.Test.YtfllmhjjfapnmaaGreatVZCuts
import Derived.Test.YtfllmhjjfapnmaaGreatVZVE
import Derived.Test.YtfllmhjjfapnmaaGreatVZLB
namespace Go.Proofs.YtfllmhjjfapnmaaGreat
open Go Go.VI
set_option linter.unusedSimpArgs false

theorem Cons.tail {b : Int} {e : Entry} {es : List Entry} (h : Cons b (e :: es)) : e.index = b + 1 ∧ Cons (b + 1) es := by
  refine ⟨by simpa using h 0 e rfl, fun j x hx => ?_⟩
  have := h (j + 1) x (by simpa using hx)
  rw [this]; push_cast; omega
theorem OwnE.ents {s : Mem} {b : Nat} {v : AV} {es : List Entry} (h : OwnE s b v es) : Ents s (fun q => b ≤ q ∧ q < s.next) v es := by
  obtain ⟨xs, h1, h2⟩ := h
  exact ⟨xs, h1.sl h2.sizes fun r n h => h1.row r 0 n 4 h, h2.mono fun r hr => ⟨hr.1, hr.2.1⟩⟩

/-- What a log's variable holds. -/
abbrev logRow (l : Log) (d w : AV) : Row := ⟨28, 5, [[.int .u64 l.base.index, .int .u64 l.base.term, .int .i64 l.base.kind, d, w]]⟩

theorem filter_snoc {α : Type} {p : α → Bool} {l : List α} {i : Nat} {a : α} (h : l[i]? = some a) : (l.take (i + 1)).filter p = (l.take i).filter p ++ if p a then [a] else [] := by
  rw [take_snoc h, List.filter_append]
  congr 1
  cases hp : p a <;> simp [hp]

end Go.Proofs.YtfllmhjjfapnmaaGreat

/- Logs compared by the program's own functions. No statement of the seat is proved here. -/
namespace Go.Proofs.YtfllmhjjfapnmaaGreat
open Go Go.VI
set_option linter.unusedSimpArgs false
attribute [local irreducible] Ws Wp W C
set_option maxHeartbeats 4000000

theorem equalB_c {bs : List UInt8} {D : Nat → Prop} {s : Mem} {v1 v2 : AV} {K : AV → Mem → Prop} (hI : In D s) (h1 : Byt s D v1 bs) (h2 : Byt s D v2 bs) (hn : Fit bs.length)
    (hK : ∀ s', Keep s.next s s' → K (.bool true) s') : C tab 133 [v1, v2] s K := by
  refine C_enter (cf := cf133) rfl (Nat.le_of_ble_eq_true rfl) ?_
  simp only [cf133, oo, on, om, og, oc, ou]
  (repeat' (with_reducible first|refine w_1 ?_|refine w_2 ?_|refine w_3 ?_|refine w_4 ?_|refine w_5 ?_|refine w_6 ?_|refine w_7 ?_|(refine w_8 (fun hb=>?_) (fun hb=>?_) <;> (try simp only [hb]))|refine w_9 ?_|simp (maxDischargeDepth:=12) only [vis, ↓reduceIte, Nat.reduceEqDiff, reduceCtorEq, Int.reduceEq, Int.reduceNeg, Nat.reduceAdd, Nat.reduceLeDiff, ev, putO, intOp, resultsA, resA, Env.start, Env.ofList, loadA_ptr, storeA_ptr, h1.lenB, h2.lenB, bne_self_eq_false]))
  refine W_inv bs.length (fun i e s' => s' = s ∧ e.get 0 = v1 ∧ e.get 1 = v2 ∧ e.get 12 = .int .i64 bs.length ∧ e.get 13 = .int .i64 i) (by delta cf133l0 oo on om og oc ou; exact rfl) ?_ ?_
  · (repeat' (with_reducible first|refine w_1 ?_|refine w_2 ?_|refine w_3 ?_|refine w_4 ?_|refine w_5 ?_|refine w_6 ?_|refine w_7 ?_|(refine w_8 (fun hb=>?_) (fun hb=>?_) <;> (try simp only [hb]))|refine w_9 ?_|simp (maxDischargeDepth:=12) only [vis, ↓reduceIte, Nat.reduceEqDiff, reduceCtorEq, Int.reduceEq, Int.reduceNeg, Nat.reduceAdd, Nat.reduceLeDiff, ev, putO, intOp, resultsA, resA, Env.start, Env.ofList, loadA_ptr, storeA_ptr]))
    all_goals first | rfl | exact ⟨rfl, rfl⟩
  · rintro i e s' hi _ ⟨rfl, g0, g1, g12, g13⟩
    by_cases hlt : i < bs.length
    · obtain ⟨b, hb⟩ := get_of hlt
      obtain ⟨p, hp, P⟩ := h1.atkB hI hb
      obtain ⟨p2, hp2, P2⟩ := h2.atkB hI hb
      (repeat' (with_reducible first|refine w_1 ?_|refine w_2 ?_|refine w_3 ?_|refine w_4 ?_|refine w_5 ?_|refine w_6 ?_|refine w_7 ?_|(refine w_8 (fun hb=>?_) (fun hb=>?_) <;> (try simp only [hb]))|refine w_9 ?_|simp (maxDischargeDepth:=12) only [vis, ↓reduceIte, Nat.reduceEqDiff, reduceCtorEq, Int.reduceEq, Int.reduceNeg, Nat.reduceAdd, Nat.reduceLeDiff, ev, putO, intOp, resultsA, resA, Env.start, Env.ofList, loadA_ptr, storeA_ptr, g0, g1, g12, g13, lt_true hlt, hp, P.ld, hp2, P2.ld, byteC, bne_self_eq_false]))
      exact ⟨hlt, succ_av (by omega)⟩
    · (repeat' (with_reducible first|refine w_1 ?_|refine w_2 ?_|refine w_3 ?_|refine w_4 ?_|refine w_5 ?_|refine w_6 ?_|refine w_7 ?_|(refine w_8 (fun hb=>?_) (fun hb=>?_) <;> (try simp only [hb]))|refine w_9 ?_|simp (maxDischargeDepth:=12) only [vis, ↓reduceIte, Nat.reduceEqDiff, reduceCtorEq, Int.reduceEq, Int.reduceNeg, Nat.reduceAdd, Nat.reduceLeDiff, ev, putO, intOp, resultsA, resA, Env.start, Env.ofList, loadA_ptr, storeA_ptr, g0, g1, g12, g13, lt_false hlt]))
      exact hK _ (Keep.refl _ _)

theorem sameE2_c {e : Entry} {D : Nat → Prop} {s : Mem} {d1 d2 : AV} {K : AV → Mem → Prop} (hI : In D s) (h1 : Byt s D d1 e.data) (h2 : Byt s D d2 e.data) (hn : Fit e.data.length)
    (hK : ∀ s', Keep s.next s s' → K (.bool true) s') : C tab 109 [.agg [.int .u64 e.index, .int .u64 e.term, .int .i64 e.kind, d1], .agg [.int .u64 e.index, .int .u64 e.term, .int .i64 e.kind, d2]] s K := by
  refine C_enter (cf := cf109) rfl (Nat.le_of_ble_eq_true rfl) ?_
  simp only [cf109, oo, on, om, og, oc, ou]
  have hk0 := (pushes s ⟨25, 4, [[.int .u64 e.index, .int .u64 e.term, .int .i64 e.kind, d1]]⟩).then (pushes _ ⟨25, 4, [[.int .u64 e.index, .int .u64 e.term, .int .i64 e.kind, d2]]⟩)
  (repeat' (with_reducible first|refine w_1 ?_|refine w_2 ?_|refine w_3 ?_|refine w_4 ?_|refine w_5 ?_|refine w_6 ?_|refine w_7 ?_|(refine w_8 (fun hb=>?_) (fun hb=>?_) <;> (try simp only [hb]))|refine w_9 ?_|simp (maxDischargeDepth:=12) only [vis, ↓reduceIte, Nat.reduceEqDiff, reduceCtorEq, Int.reduceEq, Int.reduceNeg, Nat.reduceAdd, Nat.reduceLeDiff, ev, putO, intOp, resultsA, resA, Env.start, Env.ofList, loadA_ptr, storeA_ptr, h1.cell, h2.cell, beq_self_eq_true]))
  refine equalB_c (hI.keep hk0) (h1.keep (keep_old hI hk0)) (h2.keep (keep_old hI hk0)) hn fun s2 hk2 => ?_
  (repeat' (with_reducible first|refine w_1 ?_|refine w_2 ?_|refine w_3 ?_|refine w_4 ?_|refine w_5 ?_|refine w_6 ?_|refine w_7 ?_|(refine w_8 (fun hb=>?_) (fun hb=>?_) <;> (try simp only [hb]))|refine w_9 ?_|simp (maxDischargeDepth:=12) only [vis, ↓reduceIte, Nat.reduceEqDiff, reduceCtorEq, Int.reduceEq, Int.reduceNeg, Nat.reduceAdd, Nat.reduceLeDiff, ev, putO, intOp, resultsA, resA, Env.start, Env.ofList, loadA_ptr, storeA_ptr]))
  exact hK _ (hk0.then hk2)

theorem equalF_c {es : List Entry} {D : Nat → Prop} {s : Mem} {v1 v2 : AV} {K : AV → Mem → Prop} (hf : s.floor ≤ s.next) (hI : In D s) (h1 : Ents s D v1 es) (h2 : Ents s D v2 es) (hw : ∀ e ∈ es, e.Wf) (hn : Fit es.length)
    (hK : ∀ s', Keep s.next s s' → K (.bool true) s') : C tab 110 [v1, v2, .fn 109 []] s K := by
  refine C_enter (cf := cf110) rfl (Nat.le_of_ble_eq_true rfl) ?_
  simp only [cf110, oo, on, om, og, oc, ou]
  (repeat' (with_reducible first|refine w_1 ?_|refine w_2 ?_|refine w_3 ?_|refine w_4 ?_|refine w_5 ?_|refine w_6 ?_|refine w_7 ?_|(refine w_8 (fun hb=>?_) (fun hb=>?_) <;> (try simp only [hb]))|refine w_9 ?_|simp (maxDischargeDepth:=12) only [vis, ↓reduceIte, Nat.reduceEqDiff, reduceCtorEq, Int.reduceEq, Int.reduceNeg, Nat.reduceAdd, Nat.reduceLeDiff, ev, putO, intOp, resultsA, resA, Env.start, Env.ofList, loadA_ptr, storeA_ptr, h1.len, h2.len, bne_self_eq_false]))
  refine W_inv es.length (fun i e s' => Keep s.next s s' ∧ e.get 1 = v2 ∧ e.get 2 = .fn 109 [] ∧ e.get 15 = v1 ∧ e.get 16 = .int .i64 es.length ∧ e.get 17 = .int .i64 i) (by delta cf110l0 oo on om og oc ou; exact rfl) ?_ ?_
  · (repeat' (with_reducible first|refine w_1 ?_|refine w_2 ?_|refine w_3 ?_|refine w_4 ?_|refine w_5 ?_|refine w_6 ?_|refine w_7 ?_|(refine w_8 (fun hb=>?_) (fun hb=>?_) <;> (try simp only [hb]))|refine w_9 ?_|simp (maxDischargeDepth:=12) only [vis, ↓reduceIte, Nat.reduceEqDiff, reduceCtorEq, Int.reduceEq, Int.reduceNeg, Nat.reduceAdd, Nat.reduceLeDiff, ev, putO, intOp, resultsA, resA, Env.start, Env.ofList, loadA_ptr, storeA_ptr]))
    all_goals first | rfl | exact ⟨rfl, rfl⟩
  · rintro i e s' hi _ ⟨hk, g1, g2, g15, g16, g17⟩
    have h1' := h1.keep (keep_old hI hk)
    have h2' := h2.keep (keep_old hI hk)
    have hI' := hI.keep hk
    have f' := hk.ok hf
    by_cases hlt : i < es.length
    · obtain ⟨x, hx⟩ := get_of hlt
      obtain ⟨d, p, hp, P, hd⟩ := h1'.atk hI' hx
      obtain ⟨d2, p2, hp2, P2, hd2⟩ := h2'.atk hI' hx
      (repeat' (with_reducible first|refine w_1 ?_|refine w_2 ?_|refine w_3 ?_|refine w_4 ?_|refine w_5 ?_|refine w_6 ?_|refine w_7 ?_|(refine w_8 (fun hb=>?_) (fun hb=>?_) <;> (try simp only [hb]))|refine w_9 ?_|simp (maxDischargeDepth:=12) only [vis, ↓reduceIte, Nat.reduceEqDiff, reduceCtorEq, Int.reduceEq, Int.reduceNeg, Nat.reduceAdd, Nat.reduceLeDiff, ev, putO, intOp, resultsA, resA, Env.start, Env.ofList, loadA_ptr, storeA_ptr, g1, g2, g15, g16, g17, lt_true hlt, hp, P.ld, hp2, P2.ld, hd.cell, hd2.cell, f', le_s1 f']))
      have hk0 := (pushes s' ⟨25, 4, [[.int .u64 x.index, .int .u64 x.term, .int .i64 x.kind, d]]⟩).then (pushes _ ⟨25, 4, [[.int .u64 x.index, .int .u64 x.term, .int .i64 x.kind, d2]]⟩)
      refine sameE2_c (hI'.keep hk0) (hd.keep (keep_old hI' hk0)) (hd2.keep (keep_old hI' hk0)) (hw x (List.mem_of_getElem? hx)).data fun s2 hk2 => ?_
      (repeat' (with_reducible first|refine w_1 ?_|refine w_2 ?_|refine w_3 ?_|refine w_4 ?_|refine w_5 ?_|refine w_6 ?_|refine w_7 ?_|(refine w_8 (fun hb=>?_) (fun hb=>?_) <;> (try simp only [hb]))|refine w_9 ?_|simp (maxDischargeDepth:=12) only [vis, ↓reduceIte, Nat.reduceEqDiff, reduceCtorEq, Int.reduceEq, Int.reduceNeg, Nat.reduceAdd, Nat.reduceLeDiff, ev, putO, intOp, resultsA, resA, Env.start, Env.ofList, loadA_ptr, storeA_ptr, g1, g2, g15, g16, g17]))
      exact ⟨hlt, hk.then (hk0.then hk2), succ_av (by omega)⟩
    · (repeat' (with_reducible first|refine w_1 ?_|refine w_2 ?_|refine w_3 ?_|refine w_4 ?_|refine w_5 ?_|refine w_6 ?_|refine w_7 ?_|(refine w_8 (fun hb=>?_) (fun hb=>?_) <;> (try simp only [hb]))|refine w_9 ?_|simp (maxDischargeDepth:=12) only [vis, ↓reduceIte, Nat.reduceEqDiff, reduceCtorEq, Int.reduceEq, Int.reduceNeg, Nat.reduceAdd, Nat.reduceLeDiff, ev, putO, intOp, resultsA, resA, Env.start, Env.ofList, loadA_ptr, storeA_ptr, g1, g2, g15, g16, g17, lt_false hlt]))
      exact hK _ hk

theorem sameL_c {l : Log} {D : Nat → Prop} {s : Mem} {v1 v2 : AV} {K : AV → Mem → Prop} (hf : s.floor ≤ s.next) (hI : In D s) (h1 : LogV s D v1 l) (h2 : LogV s D v2 l) (hw : l.Wf)
    (hK : ∀ s', Keep s.next s s' → K (.bool true) s') : C tab 63 [v1, v2] s K := by
  obtain ⟨d1, w1, rfl, hd1, he1⟩ := h1
  obtain ⟨d2, w2, rfl, hd2, he2⟩ := h2
  refine C_enter (cf := cf63) rfl (Nat.le_of_ble_eq_true rfl) ?_
  simp only [cf63, oo, on, om, og, oc, ou]
  (repeat' (with_reducible first|refine w_1 ?_|refine w_2 ?_|refine w_3 ?_|refine w_4 ?_|refine w_5 ?_|refine w_6 ?_|refine w_7 ?_|(refine w_8 (fun hb=>?_) (fun hb=>?_) <;> (try simp only [hb]))|refine w_9 ?_|simp (maxDischargeDepth:=12) only [vis, ↓reduceIte, Nat.reduceEqDiff, reduceCtorEq, Int.reduceEq, Int.reduceNeg, Nat.reduceAdd, Nat.reduceLeDiff, ev, putO, intOp, resultsA, resA, Env.start, Env.ofList, loadA_ptr, storeA_ptr, hd1.cell, hd2.cell, he1.cell, he2.cell]))
  have hk0 := (pushes s ⟨28, 5, [[.int .u64 l.base.index, .int .u64 l.base.term, .int .i64 l.base.kind, d1, w1]]⟩).then (pushes _ ⟨28, 5, [[.int .u64 l.base.index, .int .u64 l.base.term, .int .i64 l.base.kind, d2, w2]]⟩)
  refine sameE2_c (e := l.base) (hI.keep hk0) (hd1.keep (keep_old hI hk0)) (hd2.keep (keep_old hI hk0)) hw.base.data fun s2 hk2 => ?_
  have hk02 := hk0.then hk2
  have a1 : s.next < s2.next := by have := hk2.next; simp only [next_push'] at this; omega
  (repeat' (with_reducible first|refine w_1 ?_|refine w_2 ?_|refine w_3 ?_|refine w_4 ?_|refine w_5 ?_|refine w_6 ?_|refine w_7 ?_|(refine w_8 (fun hb=>?_) (fun hb=>?_) <;> (try simp only [hb]))|refine w_9 ?_|simp (maxDischargeDepth:=12) only [vis, ↓reduceIte, Nat.reduceEqDiff, reduceCtorEq, Int.reduceEq, Int.reduceNeg, Nat.reduceAdd, Nat.reduceLeDiff, ev, putO, intOp, resultsA, resA, Env.start, Env.ofList, loadA_ptr, storeA_ptr, hk2.get, a1]))
  refine equalF_c (hk02.ok hf) (hI.keep hk02) (he1.keep (keep_old hI hk02)) (he2.keep (keep_old hI hk02)) hw.all hw.len fun s3 hk3 => ?_
  (repeat' (with_reducible first|refine w_1 ?_|refine w_2 ?_|refine w_3 ?_|refine w_4 ?_|refine w_5 ?_|refine w_6 ?_|refine w_7 ?_|(refine w_8 (fun hb=>?_) (fun hb=>?_) <;> (try simp only [hb]))|refine w_9 ?_|simp (maxDischargeDepth:=12) only [vis, ↓reduceIte, Nat.reduceEqDiff, reduceCtorEq, Int.reduceEq, Int.reduceNeg, Nat.reduceAdd, Nat.reduceLeDiff, ev, putO, intOp, resultsA, resA, Env.start, Env.ofList, loadA_ptr, storeA_ptr]))
  exact hK _ (hk02.then hk3)
end Go.Proofs.YtfllmhjjfapnmaaGreat
