/- Which messages may be, walked. No statement of the seat is proved here. -/
import Derived.Test.YtfllmhjjfapnmaaGreatVZRaftMay
import Derived.Test.YtfllmhjjfapnmaaGreatVZLB
import Derived.Test.YtfllmhjjfapnmaaGreatVZVE
namespace Go.Proofs.YtfllmhjjfapnmaaGreat
open Go Go.VI
set_option linter.unusedSimpArgs false
attribute [local irreducible] Ws Wp W C
set_option maxHeartbeats 4000000

def zeroE (e : Entry) : Bool := decide (e.index = 0) && decide (e.term = 0) && decide (e.kind = 0) && decide (e.data.length = 0)
def termsOk (t : Int) (es : List Entry) : Bool := es.all fun e => decide (e.term ≤ t)
def msgOk (m : Msg) : Bool :=
  decide (1 ≤ m.kind) && decide (m.kind < 6) && nodeOk m.frm && nodeOk m.to && !decide (m.frm = m.to) && decide (1 ≤ m.term) && decide (m.term ≤ 4611686018427387904) &&
  decide (m.entries.length ≤ 16) && decide (m.index ≤ 4611686018427387904) && decide (m.mtch ≤ 4611686018427387904) && decide (m.commit ≤ 4611686018427387904) && beh m.index m.prev m.entries &&
  termsOk m.term m.entries && (decide (m.kind = 1) || decide (m.prev ≤ m.term)) && decide (m.snap.term ≤ m.term) &&
  (if m.kind = 5 then logOk ⟨m.snap, []⟩ else zeroE m.snap)

structure MsgIn (m : Msg) : Prop where
  wf : m.Wf
  index : InU m.index
  prev : InU m.prev
  term : InU m.term
  commit : InU m.commit
  mtch : InU m.mtch

def msgA (m : Msg) (ew sd : AV) : List AV := [.int .i64 m.kind, .int .i64 m.frm, .int .i64 m.to, .int .u64 m.term, .int .u64 m.index, .int .u64 m.prev, ew, .int .u64 m.commit, .bool m.ok, .int .u64 m.mtch, .int .u64 m.snap.index, .int .u64 m.snap.term, .int .i64 m.snap.kind, sd]
def msgRow (m : Msg) (ew sd : AV) : Row := ⟨45, 14, [msgA m ew sd]⟩

theorem termsOk_last {t b u : Int} : ∀ {es : List Entry}, beh b u es = true → termsOk t es = (match es.getLast? with | some e => decide (e.term ≤ t) | none => true) := by
  intro es
  induction es generalizing b u with
  | nil => intro _; rfl
  | cons e es ih =>
    intro h
    simp only [beh, Bool.and_eq_true, decide_eq_true_eq] at h
    have h2 := ih h.2
    cases es with
    | nil => simp [termsOk]
    | cons e2 es =>
      have h3 := h.2
      simp only [beh, Bool.and_eq_true, decide_eq_true_eq] at h3
      have e4 : (e :: e2 :: es).getLast? = (e2 :: es).getLast? := by simp [List.getLast?_cons_cons]
      rw [e4, ← h2]
      have : termsOk t (e :: e2 :: es) = (decide (e.term ≤ t) && termsOk t (e2 :: es)) := rfl
      rw [this]
      have : termsOk t (e2 :: es) = (decide (e2.term ≤ t) && termsOk t es) := rfl
      rw [this]
      by_cases c : e2.term ≤ t
      · have : e.term ≤ t := by omega
        simp [this]
      · simp [c]

theorem raftBase_c {e : Entry} {D : Nat → Prop} {s : Mem} {d : AV} {K : AV → Mem → Prop} (hf : s.floor ≤ s.next) (hI : In D s) (hd : Byt s D d e.data) (hw : e.Wf)
    (hK : ∀ s', Keep s.next s s' → K (.bool (logOk ⟨e, []⟩)) s') : C tab 57 [.agg [.int .u64 e.index, .int .u64 e.term, .int .i64 e.kind, d]] s K := by
  refine C_enter (cf := cf57) rfl (Nat.le_of_ble_eq_true rfl) ?_
  simp only [cf57, oo, on, om, og, oc, ou]
  (repeat' (with_reducible first|refine w_1 ?_|refine w_2 ?_|refine w_3 ?_|refine w_4 ?_|refine w_5 ?_|refine w_6 ?_|refine w_7 ?_|(refine w_8 (fun hb=>?_) (fun hb=>?_) <;> (try simp only [hb]))|refine w_9 ?_|simp (maxDischargeDepth:=12) only [vis, ↓reduceIte, Nat.reduceEqDiff, reduceCtorEq, Int.reduceEq, Int.reduceNeg, Nat.reduceAdd, Nat.reduceLeDiff, ev, putO, intOp, resultsA, resA, Env.start, Env.ofList, loadA_ptr, storeA_ptr, hd.cell]))
  have hk0 := pushes s ⟨25, 4, [[.int .u64 e.index, .int .u64 e.term, .int .i64 e.kind, d]]⟩
  refine rlogCheck_c (l := ⟨e, []⟩) (hk0.ok hf) (hI.keep hk0) ⟨d, .nilS, rfl, hd.keep (keep_old hI hk0), ⟨[], Sl.nil _ _ _, EntsC.nil _ _⟩⟩ ⟨hw, fun _ h => (by cases h), (by show 0 < _; omega)⟩ fun s1 hk1 => ?_
  have := hK _ (hk0.then hk1)
  cases h : logOk ⟨e, []⟩
  · rw [h] at this
    (repeat' (with_reducible first|refine w_1 ?_|refine w_2 ?_|refine w_3 ?_|refine w_4 ?_|refine w_5 ?_|refine w_6 ?_|refine w_7 ?_|(refine w_8 (fun hb=>?_) (fun hb=>?_) <;> (try simp only [hb]))|refine w_9 ?_|simp (maxDischargeDepth:=12) only [vis, ↓reduceIte, Nat.reduceEqDiff, reduceCtorEq, Int.reduceEq, Int.reduceNeg, Nat.reduceAdd, Nat.reduceLeDiff, ev, putO, intOp, resultsA, resA, Env.start, Env.ofList, loadA_ptr, storeA_ptr, bne_self_eq_false, Int.reduceBEq, Int.reduceBNe, Int.reduceLT, Int.reduceLE, Int.reduceGT, Int.reduceGE]))
    exact this
  · rw [h] at this
    (repeat' (with_reducible first|refine w_1 ?_|refine w_2 ?_|refine w_3 ?_|refine w_4 ?_|refine w_5 ?_|refine w_6 ?_|refine w_7 ?_|(refine w_8 (fun hb=>?_) (fun hb=>?_) <;> (try simp only [hb]))|refine w_9 ?_|simp (maxDischargeDepth:=12) only [vis, ↓reduceIte, Nat.reduceEqDiff, reduceCtorEq, Int.reduceEq, Int.reduceNeg, Nat.reduceAdd, Nat.reduceLeDiff, ev, putO, intOp, resultsA, resA, Env.start, Env.ofList, loadA_ptr, storeA_ptr, bne_self_eq_false, Int.reduceBEq, Int.reduceBNe, Int.reduceLT, Int.reduceLE, Int.reduceGT, Int.reduceGE]))
    exact this

theorem raftZero_c {e : Entry} {D : Nat → Prop} {s : Mem} {d : AV} {K : AV → Mem → Prop} (hd : Byt s D d e.data)
    (hK : ∀ s', Keep s.next s s' → K (.bool (zeroE e)) s') : C tab 58 [.agg [.int .u64 e.index, .int .u64 e.term, .int .i64 e.kind, d]] s K := by
  refine C_enter (cf := cf58) rfl (Nat.le_of_ble_eq_true rfl) ?_
  simp only [cf58, oo, on, om, og, oc, ou]
  (repeat' (with_reducible first|refine w_1 ?_|refine w_2 ?_|refine w_3 ?_|refine w_4 ?_|refine w_5 ?_|refine w_6 ?_|refine w_7 ?_|(refine w_8 (fun hb=>?_) (fun hb=>?_) <;> (try simp only [hb]))|refine w_9 ?_|simp (maxDischargeDepth:=12) only [vis, ↓reduceIte, Nat.reduceEqDiff, reduceCtorEq, Int.reduceEq, Int.reduceNeg, Nat.reduceAdd, Nat.reduceLeDiff, ev, putO, intOp, resultsA, resA, Env.start, Env.ofList, loadA_ptr, storeA_ptr, hd.cell, hd.lenB]))
  all_goals
    refine K_of hK (pushes _ _) ?_
    unfold zeroE
    (try simp only [decide_eq_true_eq, decide_eq_false_iff_not, bne_iff_ne, ne_eq, bne_eq_false_iff_eq, beq_iff_eq, beq_eq_false_iff_ne, Bool.not_eq_true', Bool.not_eq_false', Bool.not_eq_true, Bool.not_eq_false, Bool.not_not, Bool.not_true, Bool.not_false, Bool.true_beq, Bool.false_beq, beq_true, beq_false, Decidable.not_not, Bool.and_eq_true, Bool.or_eq_true, Bool.and_eq_false_imp] at *)
    simp_all [eq0]

theorem sameZero_c {e : Entry} {D : Nat → Prop} {s : Mem} {d : AV} {K : AV → Mem → Prop} (hI : In D s) (hd : Byt s D d e.data)
    (hK : ∀ s', Keep s.next s s' → K (.bool (zeroE e)) s') : C tab 60 [.agg [.int .u64 e.index, .int .u64 e.term, .int .i64 e.kind, d], .agg [.int .u64 0, .int .u64 0, .int .i64 0, .nilS]] s K := by
  refine C_enter (cf := cf60) rfl (Nat.le_of_ble_eq_true rfl) ?_
  simp only [cf60, oo, on, om, og, oc, ou]
  have hn := Sl.nil s D 1
  have h0 : Byt s D .nilS [] := Sl.nil _ _ _
  have es : ∀ b : List UInt8, strOp .eql b [] = some (.bool (decide (b.length = 0))) := fun b => by
    simp only [strOp]
    cases b <;> rfl
  (repeat' (with_reducible first|refine w_1 ?_|refine w_2 ?_|refine w_3 ?_|refine w_4 ?_|refine w_5 ?_|refine w_6 ?_|refine w_7 ?_|(refine w_8 (fun hb=>?_) (fun hb=>?_) <;> (try simp only [hb]))|refine w_9 ?_|simp (maxDischargeDepth:=12) only [vis, ↓reduceIte, Nat.reduceEqDiff, reduceCtorEq, Int.reduceEq, Int.reduceNeg, Nat.reduceAdd, Nat.reduceLeDiff, ev, putO, intOp, resultsA, resA, Env.start, Env.ofList, loadA_ptr, storeA_ptr, hd.cell, h0.cell, hd.textk hI, h0.textk hI, es]))
  all_goals
    refine K_of hK ((pushes _ _).then (pushes _ _)) ?_
    unfold zeroE
    (try simp only [decide_eq_true_eq, decide_eq_false_iff_not, bne_iff_ne, ne_eq, bne_eq_false_iff_eq, beq_iff_eq, beq_eq_false_iff_ne, Bool.not_eq_true', Bool.not_eq_false', Bool.not_eq_true, Bool.not_eq_false, Bool.not_not, Bool.not_true, Bool.not_false, Bool.true_beq, Bool.false_beq, beq_true, beq_false, Decidable.not_not, Bool.and_eq_true, Bool.or_eq_true, Bool.and_eq_false_imp] at *)
    simp_all [eq0]

theorem mnk_c {F : Nat → Option CFunc} {k : IntKind} {x y : Opd} {e : Env} {s : Mem} {K : AV → Mem → Prop} {a b : Int} (hx : ev e x = .int k a) (hy : ev e y = .int k b) (hK : K (.int k (min a b)) s) : Wp F (.mnmx false [x, y]) e s K := by
  rw [Wp_mnmx]
  simp only [stepOp, List.map_cons, List.map_nil, hx, hy, best, if_true, Bool.false_eq_true, if_false, Option.map_some, K2_some]
  have : (if b < a then b else a) = min a b := by simp only [Int.min_def]; split <;> split <;> omega
  rw [this]; exact hK
theorem mx3_c {F : Nat → Option CFunc} {k : IntKind} {x y z : Opd} {e : Env} {s : Mem} {K : AV → Mem → Prop} {a b c : Int} (hx : ev e x = .int k a) (hy : ev e y = .int k b) (hz : ev e z = .int k c) (hK : K (.int k (max (max a b) c)) s) : Wp F (.mnmx true [x, y, z]) e s K := by
  rw [Wp_mnmx]
  simp only [stepOp, List.map_cons, List.map_nil, hx, hy, hz, best, if_true, Option.map_some, K2_some]
  have e1 : (if b > a then b else a) = max a b := by simp only [Int.max_def]; split <;> split <;> omega
  rw [e1]
  have e2 : (if c > max a b then c else max a b) = max (max a b) c := by
    generalize max a b = q
    simp only [Int.max_def]; split <;> split <;> omega
  rw [e2]; exact hK

set_option maxRecDepth 100000 in
theorem mayMsg_c {m : Msg} {D : Nat → Prop} {s : Mem} {c : List AV} {K : AV → Mem → Prop} (hf : s.floor ≤ s.next) (hI : In D s) (hm : MsgC s D c m) (hw : MsgIn m)
    (hK : ∀ s', Keep s.next s s' → K (.bool (msgOk m)) s') : C tab 20 [.agg c] s K := by
  obtain ⟨ew, sd, rfl, he, hd⟩ := hm
  refine C_enter (cf := cf20) rfl (Nat.le_of_ble_eq_true rfl) ?_
  simp only [cf20, oo, on, om, og, oc, ou]
  have hk0 := pushes s (msgRow m ew sd)
  have hg0 : (s.push (msgRow m ew sd)).get s.next = some (msgRow m ew sd) := by rw [Mem.get_push, if_pos rfl]
  have hlen : lenA false ew = some m.entries.length := he.len
  have hbad : msgOk m = false → ∀ s', Keep s.next s s' → K (.bool false) s' := fun h s' hk => by have := hK s' hk; rw [h] at this; exact this
  simp only [msgRow, msgA] at hg0
  by_cases h1 : 1 ≤ m.kind
  case neg =>
    have c1 : decide (m.kind < 1) = true := by simp; omega
    (repeat' (with_reducible first|refine w_1 ?_|refine w_2 ?_|refine w_3 ?_|refine w_4 ?_|refine w_5 ?_|refine w_6 ?_|refine w_7 ?_|(refine w_8 (fun hb=>?_) (fun hb=>?_) <;> (try simp only [hb]))|refine w_9 ?_|simp (maxDischargeDepth:=12) only [vis, ↓reduceIte, Nat.reduceEqDiff, reduceCtorEq, Int.reduceEq, Int.reduceNeg, Nat.reduceAdd, Nat.reduceLeDiff, ev, putO, intOp, resultsA, resA, Env.start, Env.ofList, loadA_ptr, storeA_ptr, he.cell, hd.cell, hf, c1, bne_self_eq_false, Int.reduceBEq, Int.reduceBNe, Int.reduceLT, Int.reduceLE, Int.reduceGT, Int.reduceGE]))
    exact hbad (by simp [msgOk, h1]) _ hk0
  have c1 : decide (m.kind < 1) = false := by simp; omega
  by_cases h2 : m.kind < 6
  case neg =>
    have c2 : decide (m.kind ≥ 6) = true := by simp; omega
    (repeat' (with_reducible first|refine w_1 ?_|refine w_2 ?_|refine w_3 ?_|refine w_4 ?_|refine w_5 ?_|refine w_6 ?_|refine w_7 ?_|(refine w_8 (fun hb=>?_) (fun hb=>?_) <;> (try simp only [hb]))|refine w_9 ?_|simp (maxDischargeDepth:=12) only [vis, ↓reduceIte, Nat.reduceEqDiff, reduceCtorEq, Int.reduceEq, Int.reduceNeg, Nat.reduceAdd, Nat.reduceLeDiff, ev, putO, intOp, resultsA, resA, Env.start, Env.ofList, loadA_ptr, storeA_ptr, he.cell, hd.cell, hf, c1, c2, bne_self_eq_false, Int.reduceBEq, Int.reduceBNe, Int.reduceLT, Int.reduceLE, Int.reduceGT, Int.reduceGE]))
    exact hbad (by simp [msgOk, h2]) _ hk0
  have c2 : decide (m.kind ≥ 6) = false := by simp; omega
  (repeat' (with_reducible first|refine w_1 ?_|refine w_2 ?_|refine w_3 ?_|refine w_4 ?_|refine w_5 ?_|refine w_6 ?_|refine w_7 ?_|(refine w_8 (fun hb=>?_) (fun hb=>?_) <;> (try simp only [hb]))|refine w_9 ?_|simp (maxDischargeDepth:=12) only [vis, ↓reduceIte, Nat.reduceEqDiff, reduceCtorEq, Int.reduceEq, Int.reduceNeg, Nat.reduceAdd, Nat.reduceLeDiff, ev, putO, intOp, resultsA, resA, Env.start, Env.ofList, loadA_ptr, storeA_ptr, he.cell, hd.cell, hf, c1, c2, bne_self_eq_false, Int.reduceBEq, Int.reduceBNe, Int.reduceLT, Int.reduceLE, Int.reduceGT, Int.reduceGE]))
  refine fnode_c ?_
  cases h3 : nodeOk m.frm
  · (repeat' (with_reducible first|refine w_1 ?_|refine w_2 ?_|refine w_3 ?_|refine w_4 ?_|refine w_5 ?_|refine w_6 ?_|refine w_7 ?_|(refine w_8 (fun hb=>?_) (fun hb=>?_) <;> (try simp only [hb]))|refine w_9 ?_|simp (maxDischargeDepth:=12) only [vis, ↓reduceIte, Nat.reduceEqDiff, reduceCtorEq, Int.reduceEq, Int.reduceNeg, Nat.reduceAdd, Nat.reduceLeDiff, ev, putO, intOp, resultsA, resA, Env.start, Env.ofList, loadA_ptr, storeA_ptr, h3, bne_self_eq_false, Int.reduceBEq, Int.reduceBNe, Int.reduceLT, Int.reduceLE, Int.reduceGT, Int.reduceGE]))
    exact hbad (by simp [msgOk, h3]) _ hk0
  (repeat' (with_reducible first|refine w_1 ?_|refine w_2 ?_|refine w_3 ?_|refine w_4 ?_|refine w_5 ?_|refine w_6 ?_|refine w_7 ?_|(refine w_8 (fun hb=>?_) (fun hb=>?_) <;> (try simp only [hb]))|refine w_9 ?_|simp (maxDischargeDepth:=12) only [vis, ↓reduceIte, Nat.reduceEqDiff, reduceCtorEq, Int.reduceEq, Int.reduceNeg, Nat.reduceAdd, Nat.reduceLeDiff, ev, putO, intOp, resultsA, resA, Env.start, Env.ofList, loadA_ptr, storeA_ptr, h3, bne_self_eq_false, Int.reduceBEq, Int.reduceBNe, Int.reduceLT, Int.reduceLE, Int.reduceGT, Int.reduceGE]))
  refine fnode_c ?_
  cases h4 : nodeOk m.to
  · (repeat' (with_reducible first|refine w_1 ?_|refine w_2 ?_|refine w_3 ?_|refine w_4 ?_|refine w_5 ?_|refine w_6 ?_|refine w_7 ?_|(refine w_8 (fun hb=>?_) (fun hb=>?_) <;> (try simp only [hb]))|refine w_9 ?_|simp (maxDischargeDepth:=12) only [vis, ↓reduceIte, Nat.reduceEqDiff, reduceCtorEq, Int.reduceEq, Int.reduceNeg, Nat.reduceAdd, Nat.reduceLeDiff, ev, putO, intOp, resultsA, resA, Env.start, Env.ofList, loadA_ptr, storeA_ptr, h4, bne_self_eq_false, Int.reduceBEq, Int.reduceBNe, Int.reduceLT, Int.reduceLE, Int.reduceGT, Int.reduceGE]))
    exact hbad (by simp [msgOk, h4]) _ hk0
  by_cases h5 : m.frm = m.to
  · have c5 : (m.frm == m.to) = true := by simp [h5]
    (repeat' (with_reducible first|refine w_1 ?_|refine w_2 ?_|refine w_3 ?_|refine w_4 ?_|refine w_5 ?_|refine w_6 ?_|refine w_7 ?_|(refine w_8 (fun hb=>?_) (fun hb=>?_) <;> (try simp only [hb]))|refine w_9 ?_|simp (maxDischargeDepth:=12) only [vis, ↓reduceIte, Nat.reduceEqDiff, reduceCtorEq, Int.reduceEq, Int.reduceNeg, Nat.reduceAdd, Nat.reduceLeDiff, ev, putO, intOp, resultsA, resA, Env.start, Env.ofList, loadA_ptr, storeA_ptr, h4, c5, bne_self_eq_false, Int.reduceBEq, Int.reduceBNe, Int.reduceLT, Int.reduceLE, Int.reduceGT, Int.reduceGE]))
    exact hbad (by simp [msgOk, h5]) _ hk0
  have c5 : (m.frm == m.to) = false := by simp [h5]
  by_cases h6 : 1 ≤ m.term
  case neg =>
    have c6 : decide (m.term < 1) = true := by simp; omega
    (repeat' (with_reducible first|refine w_1 ?_|refine w_2 ?_|refine w_3 ?_|refine w_4 ?_|refine w_5 ?_|refine w_6 ?_|refine w_7 ?_|(refine w_8 (fun hb=>?_) (fun hb=>?_) <;> (try simp only [hb]))|refine w_9 ?_|simp (maxDischargeDepth:=12) only [vis, ↓reduceIte, Nat.reduceEqDiff, reduceCtorEq, Int.reduceEq, Int.reduceNeg, Nat.reduceAdd, Nat.reduceLeDiff, ev, putO, intOp, resultsA, resA, Env.start, Env.ofList, loadA_ptr, storeA_ptr, h4, c5, c6, bne_self_eq_false, Int.reduceBEq, Int.reduceBNe, Int.reduceLT, Int.reduceLE, Int.reduceGT, Int.reduceGE]))
    exact hbad (by simp [msgOk, h6]) _ hk0
  have c6 : decide (m.term < 1) = false := by simp; omega
  by_cases h7 : m.term ≤ 4611686018427387904
  case neg =>
    have c7 : decide (m.term > 4611686018427387904) = true := by simp; omega
    (repeat' (with_reducible first|refine w_1 ?_|refine w_2 ?_|refine w_3 ?_|refine w_4 ?_|refine w_5 ?_|refine w_6 ?_|refine w_7 ?_|(refine w_8 (fun hb=>?_) (fun hb=>?_) <;> (try simp only [hb]))|refine w_9 ?_|simp (maxDischargeDepth:=12) only [vis, ↓reduceIte, Nat.reduceEqDiff, reduceCtorEq, Int.reduceEq, Int.reduceNeg, Nat.reduceAdd, Nat.reduceLeDiff, ev, putO, intOp, resultsA, resA, Env.start, Env.ofList, loadA_ptr, storeA_ptr, h4, c5, c6, c7, bne_self_eq_false, Int.reduceBEq, Int.reduceBNe, Int.reduceLT, Int.reduceLE, Int.reduceGT, Int.reduceGE]))
    exact hbad (by simp [msgOk, h7]) _ hk0
  have c7 : decide (m.term > 4611686018427387904) = false := by simp; omega
  by_cases h8 : m.entries.length ≤ 16
  case neg =>
    have c8 : decide ((m.entries.length : Int) > 16) = true := by simp; omega
    (repeat' (with_reducible first|refine w_1 ?_|refine w_2 ?_|refine w_3 ?_|refine w_4 ?_|refine w_5 ?_|refine w_6 ?_|refine w_7 ?_|(refine w_8 (fun hb=>?_) (fun hb=>?_) <;> (try simp only [hb]))|refine w_9 ?_|simp (maxDischargeDepth:=12) only [vis, ↓reduceIte, Nat.reduceEqDiff, reduceCtorEq, Int.reduceEq, Int.reduceNeg, Nat.reduceAdd, Nat.reduceLeDiff, ev, putO, intOp, resultsA, resA, Env.start, Env.ofList, loadA_ptr, storeA_ptr, h4, c5, c6, c7, hlen, c8, bne_self_eq_false, Int.reduceBEq, Int.reduceBNe, Int.reduceLT, Int.reduceLE, Int.reduceGT, Int.reduceGE]))
    exact hbad (by simp [msgOk, h8]) _ hk0
  have c8 : decide ((m.entries.length : Int) > 16) = false := by simp; omega
  by_cases h9 : m.index ≤ 4611686018427387904
  case neg =>
    have c9 : decide (m.index > 4611686018427387904) = true := by simp; omega
    (repeat' (with_reducible first|refine w_1 ?_|refine w_2 ?_|refine w_3 ?_|refine w_4 ?_|refine w_5 ?_|refine w_6 ?_|refine w_7 ?_|(refine w_8 (fun hb=>?_) (fun hb=>?_) <;> (try simp only [hb]))|refine w_9 ?_|simp (maxDischargeDepth:=12) only [vis, ↓reduceIte, Nat.reduceEqDiff, reduceCtorEq, Int.reduceEq, Int.reduceNeg, Nat.reduceAdd, Nat.reduceLeDiff, ev, putO, intOp, resultsA, resA, Env.start, Env.ofList, loadA_ptr, storeA_ptr, h4, c5, c6, c7, hlen, c8, c9, bne_self_eq_false, Int.reduceBEq, Int.reduceBNe, Int.reduceLT, Int.reduceLE, Int.reduceGT, Int.reduceGE]))
    exact hbad (by simp [msgOk, h9]) _ hk0
  have c9 : decide (m.index > 4611686018427387904) = false := by simp; omega
  by_cases h10 : m.mtch ≤ 4611686018427387904
  case neg =>
    have c10 : decide (m.mtch > 4611686018427387904) = true := by simp; omega
    (repeat' (with_reducible first|refine w_1 ?_|refine w_2 ?_|refine w_3 ?_|refine w_4 ?_|refine w_5 ?_|refine w_6 ?_|refine w_7 ?_|(refine w_8 (fun hb=>?_) (fun hb=>?_) <;> (try simp only [hb]))|refine w_9 ?_|simp (maxDischargeDepth:=12) only [vis, ↓reduceIte, Nat.reduceEqDiff, reduceCtorEq, Int.reduceEq, Int.reduceNeg, Nat.reduceAdd, Nat.reduceLeDiff, ev, putO, intOp, resultsA, resA, Env.start, Env.ofList, loadA_ptr, storeA_ptr, h4, c5, c6, c7, hlen, c8, c9, c10, bne_self_eq_false, Int.reduceBEq, Int.reduceBNe, Int.reduceLT, Int.reduceLE, Int.reduceGT, Int.reduceGE]))
    exact hbad (by simp [msgOk, h10]) _ hk0
  have c10 : decide (m.mtch > 4611686018427387904) = false := by simp; omega
  by_cases h11 : m.commit ≤ 4611686018427387904
  case neg =>
    have c11 : decide (m.commit > 4611686018427387904) = true := by simp; omega
    (repeat' (with_reducible first|refine w_1 ?_|refine w_2 ?_|refine w_3 ?_|refine w_4 ?_|refine w_5 ?_|refine w_6 ?_|refine w_7 ?_|(refine w_8 (fun hb=>?_) (fun hb=>?_) <;> (try simp only [hb]))|refine w_9 ?_|simp (maxDischargeDepth:=12) only [vis, ↓reduceIte, Nat.reduceEqDiff, reduceCtorEq, Int.reduceEq, Int.reduceNeg, Nat.reduceAdd, Nat.reduceLeDiff, ev, putO, intOp, resultsA, resA, Env.start, Env.ofList, loadA_ptr, storeA_ptr, h4, c5, c6, c7, hlen, c8, c9, c10, c11, bne_self_eq_false, Int.reduceBEq, Int.reduceBNe, Int.reduceLT, Int.reduceLE, Int.reduceGT, Int.reduceGE]))
    exact hbad (by simp [msgOk, h11]) _ hk0
  have c11 : decide (m.commit > 4611686018427387904) = false := by simp; omega
  (repeat' (with_reducible first|refine w_1 ?_|refine w_2 ?_|refine w_3 ?_|refine w_4 ?_|refine w_5 ?_|refine w_6 ?_|refine w_7 ?_|(refine w_8 (fun hb=>?_) (fun hb=>?_) <;> (try simp only [hb]))|refine w_9 ?_|simp (maxDischargeDepth:=12) only [vis, ↓reduceIte, Nat.reduceEqDiff, reduceCtorEq, Int.reduceEq, Int.reduceNeg, Nat.reduceAdd, Nat.reduceLeDiff, ev, putO, intOp, resultsA, resA, Env.start, Env.ofList, loadA_ptr, storeA_ptr, h4, c5, c6, c7, hlen, c8, c9, c10, c11, bne_self_eq_false, Int.reduceBEq, Int.reduceBNe, Int.reduceLT, Int.reduceLE, Int.reduceGT, Int.reduceGE]))
  refine behind_c (hk0.ok hf) (hI.keep hk0) (he.keep (keep_old hI hk0)) hw.wf.entries hw.wf.len hw.index fun s1 hk1 => ?_
  have hk01 := hk0.then hk1
  cases h12 : beh m.index m.prev m.entries
  · (repeat' (with_reducible first|refine w_1 ?_|refine w_2 ?_|refine w_3 ?_|refine w_4 ?_|refine w_5 ?_|refine w_6 ?_|refine w_7 ?_|(refine w_8 (fun hb=>?_) (fun hb=>?_) <;> (try simp only [hb]))|refine w_9 ?_|simp (maxDischargeDepth:=12) only [vis, ↓reduceIte, Nat.reduceEqDiff, reduceCtorEq, Int.reduceEq, Int.reduceNeg, Nat.reduceAdd, Nat.reduceLeDiff, ev, putO, intOp, resultsA, resA, Env.start, Env.ofList, loadA_ptr, storeA_ptr, h12, bne_self_eq_false, Int.reduceBEq, Int.reduceBNe, Int.reduceLT, Int.reduceLE, Int.reduceGT, Int.reduceGE]))
    exact hbad (by simp [msgOk, h12]) _ hk01
  have hg1 : s1.get s.next = some ⟨45, 14, [[.int .i64 m.kind, .int .i64 m.frm, .int .i64 m.to, .int .u64 m.term, .int .u64 m.index, .int .u64 m.prev, ew, .int .u64 m.commit, .bool m.ok, .int .u64 m.mtch, .int .u64 m.snap.index, .int .u64 m.snap.term, .int .i64 m.snap.kind, sd]]⟩ := by
    rw [hk1.get _ (by simp only [next_push']; omega)]; exact hg0
  (repeat' (with_reducible first|refine w_1 ?_|refine w_2 ?_|refine w_3 ?_|refine w_4 ?_|refine w_5 ?_|refine w_6 ?_|refine w_7 ?_|(refine w_8 (fun hb=>?_) (fun hb=>?_) <;> (try simp only [hb]))|refine w_9 ?_|simp (maxDischargeDepth:=12) only [vis, ↓reduceIte, Nat.reduceEqDiff, reduceCtorEq, Int.reduceEq, Int.reduceNeg, Nat.reduceAdd, Nat.reduceLeDiff, ev, putO, intOp, resultsA, resA, Env.start, Env.ofList, loadA_ptr, storeA_ptr, h12, bne_self_eq_false, Int.reduceBEq, Int.reduceBNe, Int.reduceLT, Int.reduceLE, Int.reduceGT, Int.reduceGE]))
  have he1 := he.keep (keep_old hI hk01)
  have hI1 := hI.keep hk01
  have hf1 := hk01.ok hf
  have hmn := hw.wf.len
  refine W_inv m.entries.length (fun i e s' => s' = s1 ∧ e.get 3 = .int .i64 i ∧ termsOk m.term (m.entries.take i) = true) (by delta cf20l0 oo on om og oc ou; exact rfl) ?_ ?_
  · exact ⟨rfl, by simp only [Env.get_set, ↓reduceIte]; rfl, by simp [termsOk]⟩
  · rintro i e s' hi hT ⟨rfl, g3, ht⟩
    have g1 := hT 1 rfl
    simp only [Env.get_set, ↓reduceIte, Nat.reduceEqDiff, Env.start, Env.ofList] at g1
    clear hT
    by_cases hlt : i < m.entries.length
    · obtain ⟨x, hx⟩ := get_of hlt
      obtain ⟨d, p, hp, P, hdx⟩ := he1.atk hI1 hx
      have hkp : ∀ f, Keep s'.next s' (s'.at f) → True := fun _ _ => trivial
      by_cases hgood : x.term ≤ m.term
      · have c1 : decide (x.term > m.term) = false := by simp; omega
        (repeat' (with_reducible first|refine w_1 ?_|refine w_2 ?_|refine w_3 ?_|refine w_4 ?_|refine w_5 ?_|refine w_6 ?_|refine w_7 ?_|(refine w_8 (fun hb=>?_) (fun hb=>?_) <;> (try simp only [hb]))|refine w_9 ?_|simp (maxDischargeDepth:=12) only [vis, ↓reduceIte, Nat.reduceEqDiff, reduceCtorEq, Int.reduceEq, Int.reduceNeg, Nat.reduceAdd, Nat.reduceLeDiff, ev, putO, intOp, resultsA, resA, Env.start, Env.ofList, loadA_ptr, storeA_ptr, g1, g3, hg1, hlen, lt_true hlt, hp, P.adr, P.ldf, P.ld, c1, bne_self_eq_false, Int.reduceBEq, Int.reduceBNe, Int.reduceLT, Int.reduceLE, Int.reduceGT, Int.reduceGE]))
        exact ⟨hlt, succ_av (by omega), all_next ht hx (by simp [hgood])⟩
      · have c1 : decide (x.term > m.term) = true := by simp; omega
        (repeat' (with_reducible first|refine w_1 ?_|refine w_2 ?_|refine w_3 ?_|refine w_4 ?_|refine w_5 ?_|refine w_6 ?_|refine w_7 ?_|(refine w_8 (fun hb=>?_) (fun hb=>?_) <;> (try simp only [hb]))|refine w_9 ?_|simp (maxDischargeDepth:=12) only [vis, ↓reduceIte, Nat.reduceEqDiff, reduceCtorEq, Int.reduceEq, Int.reduceNeg, Nat.reduceAdd, Nat.reduceLeDiff, ev, putO, intOp, resultsA, resA, Env.start, Env.ofList, loadA_ptr, storeA_ptr, g1, g3, hg1, hlen, lt_true hlt, hp, P.adr, P.ldf, P.ld, c1, bne_self_eq_false, Int.reduceBEq, Int.reduceBNe, Int.reduceLT, Int.reduceLE, Int.reduceGT, Int.reduceGE]))
        have : termsOk m.term m.entries = false := all_not hx (by simp; omega)
        exact hbad (by simp [msgOk, this]) _ hk01
    · have hie : i = m.entries.length := by omega
      rw [hie, List.take_length] at ht
      have hst : msgOk m = ((decide (m.kind = 1) || decide (m.prev ≤ m.term)) && decide (m.snap.term ≤ m.term) && (if m.kind = 5 then logOk ⟨m.snap, []⟩ else zeroE m.snap)) := by
        simp [msgOk, h1, h2, h3, h4, h5, h6, h7, h8, h9, h10, h11, h12, ht]
      by_cases q1 : (decide (m.kind = 1) || decide (m.prev ≤ m.term)) = true
      case neg =>
        have d1 : (m.kind != 1) = true := by simp at q1; simp; omega
        have d2 : decide (m.prev > m.term) = true := by simp at q1; simp; omega
        (repeat' (with_reducible first|refine w_1 ?_|refine w_2 ?_|refine w_3 ?_|refine w_4 ?_|refine w_5 ?_|refine w_6 ?_|refine w_7 ?_|(refine w_8 (fun hb=>?_) (fun hb=>?_) <;> (try simp only [hb]))|refine w_9 ?_|simp (maxDischargeDepth:=12) only [vis, ↓reduceIte, Nat.reduceEqDiff, reduceCtorEq, Int.reduceEq, Int.reduceNeg, Nat.reduceAdd, Nat.reduceLeDiff, ev, putO, intOp, resultsA, resA, Env.start, Env.ofList, loadA_ptr, storeA_ptr, g1, g3, hg1, hlen, lt_false hlt, d1, d2, bne_self_eq_false, Int.reduceBEq, Int.reduceBNe, Int.reduceLT, Int.reduceLE, Int.reduceGT, Int.reduceGE]))
        exact hbad (by rw [hst]; simp [q1]) _ hk01
      by_cases q2 : m.snap.term ≤ m.term
      case neg =>
        have d3 : decide (m.snap.term > m.term) = true := by simp; omega
        by_cases k1 : m.kind = 1
        · have d1 : (m.kind != 1) = false := by simp [k1]
          (repeat' (with_reducible first|refine w_1 ?_|refine w_2 ?_|refine w_3 ?_|refine w_4 ?_|refine w_5 ?_|refine w_6 ?_|refine w_7 ?_|(refine w_8 (fun hb=>?_) (fun hb=>?_) <;> (try simp only [hb]))|refine w_9 ?_|simp (maxDischargeDepth:=12) only [vis, ↓reduceIte, Nat.reduceEqDiff, reduceCtorEq, Int.reduceEq, Int.reduceNeg, Nat.reduceAdd, Nat.reduceLeDiff, ev, putO, intOp, resultsA, resA, Env.start, Env.ofList, loadA_ptr, storeA_ptr, g1, g3, hg1, hlen, lt_false hlt, d1, d3, bne_self_eq_false, Int.reduceBEq, Int.reduceBNe, Int.reduceLT, Int.reduceLE, Int.reduceGT, Int.reduceGE]))
          exact hbad (by rw [hst]; simp [q2]) _ hk01
        · have d1 : (m.kind != 1) = true := by simp [k1]
          have d2 : decide (m.prev > m.term) = false := by simp [k1] at q1; simp; omega
          (repeat' (with_reducible first|refine w_1 ?_|refine w_2 ?_|refine w_3 ?_|refine w_4 ?_|refine w_5 ?_|refine w_6 ?_|refine w_7 ?_|(refine w_8 (fun hb=>?_) (fun hb=>?_) <;> (try simp only [hb]))|refine w_9 ?_|simp (maxDischargeDepth:=12) only [vis, ↓reduceIte, Nat.reduceEqDiff, reduceCtorEq, Int.reduceEq, Int.reduceNeg, Nat.reduceAdd, Nat.reduceLeDiff, ev, putO, intOp, resultsA, resA, Env.start, Env.ofList, loadA_ptr, storeA_ptr, g1, g3, hg1, hlen, lt_false hlt, d1, d2, d3, bne_self_eq_false, Int.reduceBEq, Int.reduceBNe, Int.reduceLT, Int.reduceLE, Int.reduceGT, Int.reduceGE]))
          exact hbad (by rw [hst]; simp [q2]) _ hk01
      have d3 : decide (m.snap.term > m.term) = false := by simp; omega
      have hst2 : msgOk m = (if m.kind = 5 then logOk ⟨m.snap, []⟩ else zeroE m.snap) := by rw [hst]; simp [q1, q2]
      have hd1 := hd.keep (keep_old hI hk01)
      by_cases k1 : m.kind = 1
      · have d1 : (m.kind != 1) = false := by simp [k1]
        have d5 : (m.kind == 5) = false := by simp [k1]
        rw [if_neg (by omega)] at hst2
        (repeat' (with_reducible first|refine w_1 ?_|refine w_2 ?_|refine w_3 ?_|refine w_4 ?_|refine w_5 ?_|refine w_6 ?_|refine w_7 ?_|(refine w_8 (fun hb=>?_) (fun hb=>?_) <;> (try simp only [hb]))|refine w_9 ?_|simp (maxDischargeDepth:=12) only [vis, ↓reduceIte, Nat.reduceEqDiff, reduceCtorEq, Int.reduceEq, Int.reduceNeg, Nat.reduceAdd, Nat.reduceLeDiff, ev, putO, intOp, resultsA, resA, Env.start, Env.ofList, loadA_ptr, storeA_ptr, g1, g3, hg1, hlen, lt_false hlt, d1, d3, d5, bne_self_eq_false, Int.reduceBEq, Int.reduceBNe, Int.reduceLT, Int.reduceLE, Int.reduceGT, Int.reduceGE]))
        refine sameZero_c hI1 hd1 fun s2 hk2 => ?_
        (repeat' (with_reducible first|refine w_1 ?_|refine w_2 ?_|refine w_3 ?_|refine w_4 ?_|refine w_5 ?_|refine w_6 ?_|refine w_7 ?_|(refine w_8 (fun hb=>?_) (fun hb=>?_) <;> (try simp only [hb]))|refine w_9 ?_|simp (maxDischargeDepth:=12) only [vis, ↓reduceIte, Nat.reduceEqDiff, reduceCtorEq, Int.reduceEq, Int.reduceNeg, Nat.reduceAdd, Nat.reduceLeDiff, ev, putO, intOp, resultsA, resA, Env.start, Env.ofList, loadA_ptr, storeA_ptr, bne_self_eq_false, Int.reduceBEq, Int.reduceBNe, Int.reduceLT, Int.reduceLE, Int.reduceGT, Int.reduceGE]))
        rw [← hst2]
        exact hK _ (hk01.then hk2)
      · have d1 : (m.kind != 1) = true := by simp [k1]
        have d2 : decide (m.prev > m.term) = false := by simp [k1] at q1; simp; omega
        by_cases k5 : m.kind = 5
        · have d5 : (m.kind == 5) = true := by simp [k5]
          rw [if_pos k5] at hst2
          (repeat' (with_reducible first|refine w_1 ?_|refine w_2 ?_|refine w_3 ?_|refine w_4 ?_|refine w_5 ?_|refine w_6 ?_|refine w_7 ?_|(refine w_8 (fun hb=>?_) (fun hb=>?_) <;> (try simp only [hb]))|refine w_9 ?_|simp (maxDischargeDepth:=12) only [vis, ↓reduceIte, Nat.reduceEqDiff, reduceCtorEq, Int.reduceEq, Int.reduceNeg, Nat.reduceAdd, Nat.reduceLeDiff, ev, putO, intOp, resultsA, resA, Env.start, Env.ofList, loadA_ptr, storeA_ptr, g1, g3, hg1, hlen, lt_false hlt, d1, d2, d3, d5, hd1.cell, bne_self_eq_false, Int.reduceBEq, Int.reduceBNe, Int.reduceLT, Int.reduceLE, Int.reduceGT, Int.reduceGE]))
          refine may_c (l := ⟨m.snap, []⟩) hf1 hI1 ⟨sd, .nilS, rfl, hd1, ⟨[], Sl.nil _ _ _, EntsC.nil _ _⟩⟩ ⟨hw.wf.snap, fun _ h => (by cases h), (by show 0 < _; omega)⟩ fun s2 hk2 => ?_
          (repeat' (with_reducible first|refine w_1 ?_|refine w_2 ?_|refine w_3 ?_|refine w_4 ?_|refine w_5 ?_|refine w_6 ?_|refine w_7 ?_|(refine w_8 (fun hb=>?_) (fun hb=>?_) <;> (try simp only [hb]))|refine w_9 ?_|simp (maxDischargeDepth:=12) only [vis, ↓reduceIte, Nat.reduceEqDiff, reduceCtorEq, Int.reduceEq, Int.reduceNeg, Nat.reduceAdd, Nat.reduceLeDiff, ev, putO, intOp, resultsA, resA, Env.start, Env.ofList, loadA_ptr, storeA_ptr, bne_self_eq_false, Int.reduceBEq, Int.reduceBNe, Int.reduceLT, Int.reduceLE, Int.reduceGT, Int.reduceGE]))
          rw [← hst2]
          exact hK _ (hk01.then hk2)
        · have d5 : (m.kind == 5) = false := by simp [k5]
          rw [if_neg k5] at hst2
          (repeat' (with_reducible first|refine w_1 ?_|refine w_2 ?_|refine w_3 ?_|refine w_4 ?_|refine w_5 ?_|refine w_6 ?_|refine w_7 ?_|(refine w_8 (fun hb=>?_) (fun hb=>?_) <;> (try simp only [hb]))|refine w_9 ?_|simp (maxDischargeDepth:=12) only [vis, ↓reduceIte, Nat.reduceEqDiff, reduceCtorEq, Int.reduceEq, Int.reduceNeg, Nat.reduceAdd, Nat.reduceLeDiff, ev, putO, intOp, resultsA, resA, Env.start, Env.ofList, loadA_ptr, storeA_ptr, g1, g3, hg1, hlen, lt_false hlt, d1, d2, d3, d5, hd1.cell, bne_self_eq_false, Int.reduceBEq, Int.reduceBNe, Int.reduceLT, Int.reduceLE, Int.reduceGT, Int.reduceGE]))
          refine sameZero_c hI1 hd1 fun s2 hk2 => ?_
          (repeat' (with_reducible first|refine w_1 ?_|refine w_2 ?_|refine w_3 ?_|refine w_4 ?_|refine w_5 ?_|refine w_6 ?_|refine w_7 ?_|(refine w_8 (fun hb=>?_) (fun hb=>?_) <;> (try simp only [hb]))|refine w_9 ?_|simp (maxDischargeDepth:=12) only [vis, ↓reduceIte, Nat.reduceEqDiff, reduceCtorEq, Int.reduceEq, Int.reduceNeg, Nat.reduceAdd, Nat.reduceLeDiff, ev, putO, intOp, resultsA, resA, Env.start, Env.ofList, loadA_ptr, storeA_ptr, bne_self_eq_false, Int.reduceBEq, Int.reduceBNe, Int.reduceLT, Int.reduceLE, Int.reduceGT, Int.reduceGE]))
          rw [← hst2]
          exact hK _ (hk01.then hk2)

set_option maxRecDepth 100000 in
theorem checkMsg_c {m : Msg} {D : Nat → Prop} {s : Mem} {c : List AV} {K : AV → Mem → Prop} (hf : s.floor ≤ s.next) (hI : In D s) (hm : MsgC s D c m) (hw : MsgIn m)
    (hK : ∀ s', Keep s.next s s' → K (.int .i64 (if msgOk m = true then 0 else 1)) s') : C tab 19 [.agg c] s K := by
  obtain ⟨ew, sd, rfl, he, hd⟩ := hm
  refine C_enter (cf := cf19) rfl (Nat.le_of_ble_eq_true rfl) ?_
  simp only [cf19, oo, on, om, og, oc, ou]
  have fT : (s.floor ≤ s.next + 1) = True := by simp; omega
  have fT2 : (s.floor ≤ s.next + 1 + 1) = True := by simp; omega
  have hlen : lenA false ew = some m.entries.length := he.len
  (repeat' (with_reducible first|refine w_1 ?_|refine w_2 ?_|refine w_3 ?_|refine w_4 ?_|refine w_5 ?_|refine w_6 ?_|refine w_7 ?_|(refine w_8 (fun hb=>?_) (fun hb=>?_) <;> (try simp only [hb]))|refine w_9 ?_|simp (maxDischargeDepth:=12) only [vis, ↓reduceIte, Nat.reduceEqDiff, reduceCtorEq, Int.reduceEq, Int.reduceNeg, Nat.reduceAdd, Nat.reduceLeDiff, ev, putO, intOp, resultsA, resA, Env.start, Env.ofList, loadA_ptr, storeA_ptr, he.cell, hd.cell]))
  refine mnk_c (k := .u64) (a := m.index) (b := 4611686018427387904) (by simp only [ev, Env.get_set, ↓reduceIte, Nat.reduceEqDiff]) rfl ?_
  have kp : ∀ x y z, Keep s.next s (((s.push x).push y).push z) := fun x y z => ((pushes s x).trans (Keep.push (by simp only [next_push']; omega) y)).trans (Keep.push (by simp only [next_push']; omega) z)
  have hbad : msgOk m = false → ∀ s', Keep s.next s s' → K (.int .i64 1) s' := fun h s' hk => by have := hK s' hk; rw [h] at this; exact this
  have hgood : msgOk m = true → ∀ s', Keep s.next s s' → K (.int .i64 0) s' := fun h s' hk => by have := hK s' hk; rw [h] at this; exact this
  by_cases h1 : 1 ≤ m.kind
  case neg =>
    have c1 : decide (m.kind < 1) = true := by simp; omega
    (repeat' (with_reducible first|refine w_1 ?_|refine w_2 ?_|refine w_3 ?_|refine w_4 ?_|refine w_5 ?_|refine w_6 ?_|refine w_7 ?_|(refine w_8 (fun hb=>?_) (fun hb=>?_) <;> (try simp only [hb]))|refine w_9 ?_|simp (maxDischargeDepth:=12) only [vis, ↓reduceIte, Nat.reduceEqDiff, reduceCtorEq, Int.reduceEq, Int.reduceNeg, Nat.reduceAdd, Nat.reduceLeDiff, ev, putO, intOp, resultsA, resA, Env.start, Env.ofList, loadA_ptr, storeA_ptr, he.cell, cells_cell he.cell, hd.cell, fT, fT2, c1, bne_self_eq_false, Int.reduceBEq, Int.reduceBNe, Int.reduceLT, Int.reduceLE, Int.reduceGT, Int.reduceGE]))
    exact hbad (by simp [msgOk, h1]) _ (kp _ _ _)
  have c1 : decide (m.kind < 1) = false := by simp; omega
  by_cases h2 : m.kind < 6
  case neg =>
    have c2 : decide (m.kind ≥ 6) = true := by simp; omega
    (repeat' (with_reducible first|refine w_1 ?_|refine w_2 ?_|refine w_3 ?_|refine w_4 ?_|refine w_5 ?_|refine w_6 ?_|refine w_7 ?_|(refine w_8 (fun hb=>?_) (fun hb=>?_) <;> (try simp only [hb]))|refine w_9 ?_|simp (maxDischargeDepth:=12) only [vis, ↓reduceIte, Nat.reduceEqDiff, reduceCtorEq, Int.reduceEq, Int.reduceNeg, Nat.reduceAdd, Nat.reduceLeDiff, ev, putO, intOp, resultsA, resA, Env.start, Env.ofList, loadA_ptr, storeA_ptr, he.cell, cells_cell he.cell, hd.cell, fT, fT2, c1, c2, bne_self_eq_false, Int.reduceBEq, Int.reduceBNe, Int.reduceLT, Int.reduceLE, Int.reduceGT, Int.reduceGE]))
    exact hbad (by simp [msgOk, h2]) _ (kp _ _ _)
  have c2 : decide (m.kind ≥ 6) = false := by simp; omega
  (repeat' (with_reducible first|refine w_1 ?_|refine w_2 ?_|refine w_3 ?_|refine w_4 ?_|refine w_5 ?_|refine w_6 ?_|refine w_7 ?_|(refine w_8 (fun hb=>?_) (fun hb=>?_) <;> (try simp only [hb]))|refine w_9 ?_|simp (maxDischargeDepth:=12) only [vis, ↓reduceIte, Nat.reduceEqDiff, reduceCtorEq, Int.reduceEq, Int.reduceNeg, Nat.reduceAdd, Nat.reduceLeDiff, ev, putO, intOp, resultsA, resA, Env.start, Env.ofList, loadA_ptr, storeA_ptr, he.cell, cells_cell he.cell, hd.cell, fT, fT2, c1, c2, bne_self_eq_false, Int.reduceBEq, Int.reduceBNe, Int.reduceLT, Int.reduceLE, Int.reduceGT, Int.reduceGE]))
  generalize hP : Mem.push _ _ = P
  have hk0 : Keep s.next s P := by
    rw [← hP]
    exact kp _ _ _
  have r0 : P.get s.next = some ⟨45, 14, [[.int .i64 m.kind, .int .i64 m.frm, .int .i64 m.to, .int .u64 m.term, .int .u64 m.index, .int .u64 m.prev, ew, .int .u64 m.commit, .bool m.ok, .int .u64 m.mtch, .int .u64 m.snap.index, .int .u64 m.snap.term, .int .i64 m.snap.kind, sd]]⟩ := by
    rw [← hP]; simp [Mem.get_push, next_push']; try omega
  have r1 : P.get (s.next + 1) = some ⟨5, 1, [[.int .u8 1]]⟩ := by
    rw [← hP]; simp [Mem.get_push, next_push']
  have r2 : P.get (s.next + 1 + 1) = some ⟨28, 5, [[.int .u64 (min m.index 4611686018427387904), .int .u64 m.prev, .int .i64 0, .own (s.next + 1) 0 1 1, ew]]⟩ := by
    rw [← hP]; simp [Mem.get_push, next_push']
  have nP : P.next = s.next + 3 := by rw [← hP]; simp only [next_push']
  clear hP
  refine rnode_c ?_
  cases h3 : nodeOk m.frm
  · (repeat' (with_reducible first|refine w_1 ?_|refine w_2 ?_|refine w_3 ?_|refine w_4 ?_|refine w_5 ?_|refine w_6 ?_|refine w_7 ?_|(refine w_8 (fun hb=>?_) (fun hb=>?_) <;> (try simp only [hb]))|refine w_9 ?_|simp (maxDischargeDepth:=12) only [vis, ↓reduceIte, Nat.reduceEqDiff, reduceCtorEq, Int.reduceEq, Int.reduceNeg, Nat.reduceAdd, Nat.reduceLeDiff, ev, putO, intOp, resultsA, resA, Env.start, Env.ofList, loadA_ptr, storeA_ptr, h3, bne_self_eq_false, Int.reduceBEq, Int.reduceBNe, Int.reduceLT, Int.reduceLE, Int.reduceGT, Int.reduceGE]))
    exact hbad (by simp [msgOk, h3]) _ hk0
  (repeat' (with_reducible first|refine w_1 ?_|refine w_2 ?_|refine w_3 ?_|refine w_4 ?_|refine w_5 ?_|refine w_6 ?_|refine w_7 ?_|(refine w_8 (fun hb=>?_) (fun hb=>?_) <;> (try simp only [hb]))|refine w_9 ?_|simp (maxDischargeDepth:=12) only [vis, ↓reduceIte, Nat.reduceEqDiff, reduceCtorEq, Int.reduceEq, Int.reduceNeg, Nat.reduceAdd, Nat.reduceLeDiff, ev, putO, intOp, resultsA, resA, Env.start, Env.ofList, loadA_ptr, storeA_ptr, r0, h3, bne_self_eq_false, Int.reduceBEq, Int.reduceBNe, Int.reduceLT, Int.reduceLE, Int.reduceGT, Int.reduceGE]))
  refine rnode_c ?_
  cases h4 : nodeOk m.to
  · (repeat' (with_reducible first|refine w_1 ?_|refine w_2 ?_|refine w_3 ?_|refine w_4 ?_|refine w_5 ?_|refine w_6 ?_|refine w_7 ?_|(refine w_8 (fun hb=>?_) (fun hb=>?_) <;> (try simp only [hb]))|refine w_9 ?_|simp (maxDischargeDepth:=12) only [vis, ↓reduceIte, Nat.reduceEqDiff, reduceCtorEq, Int.reduceEq, Int.reduceNeg, Nat.reduceAdd, Nat.reduceLeDiff, ev, putO, intOp, resultsA, resA, Env.start, Env.ofList, loadA_ptr, storeA_ptr, h4, bne_self_eq_false, Int.reduceBEq, Int.reduceBNe, Int.reduceLT, Int.reduceLE, Int.reduceGT, Int.reduceGE]))
    exact hbad (by simp [msgOk, h4]) _ hk0
  by_cases h5 : m.frm = m.to
  · have c5 : (m.frm == m.to) = true := by simp [h5]
    (repeat' (with_reducible first|refine w_1 ?_|refine w_2 ?_|refine w_3 ?_|refine w_4 ?_|refine w_5 ?_|refine w_6 ?_|refine w_7 ?_|(refine w_8 (fun hb=>?_) (fun hb=>?_) <;> (try simp only [hb]))|refine w_9 ?_|simp (maxDischargeDepth:=12) only [vis, ↓reduceIte, Nat.reduceEqDiff, reduceCtorEq, Int.reduceEq, Int.reduceNeg, Nat.reduceAdd, Nat.reduceLeDiff, ev, putO, intOp, resultsA, resA, Env.start, Env.ofList, loadA_ptr, storeA_ptr, r0, h4, c5, bne_self_eq_false, Int.reduceBEq, Int.reduceBNe, Int.reduceLT, Int.reduceLE, Int.reduceGT, Int.reduceGE]))
    exact hbad (by simp [msgOk, h5]) _ hk0
  have c5 : (m.frm == m.to) = false := by simp [h5]
  by_cases h6 : 1 ≤ m.term
  case neg =>
    have c6 : decide (m.term < 1) = true := by simp; omega
    (repeat' (with_reducible first|refine w_1 ?_|refine w_2 ?_|refine w_3 ?_|refine w_4 ?_|refine w_5 ?_|refine w_6 ?_|refine w_7 ?_|(refine w_8 (fun hb=>?_) (fun hb=>?_) <;> (try simp only [hb]))|refine w_9 ?_|simp (maxDischargeDepth:=12) only [vis, ↓reduceIte, Nat.reduceEqDiff, reduceCtorEq, Int.reduceEq, Int.reduceNeg, Nat.reduceAdd, Nat.reduceLeDiff, ev, putO, intOp, resultsA, resA, Env.start, Env.ofList, loadA_ptr, storeA_ptr, r0, h4, c5, c6, bne_self_eq_false, Int.reduceBEq, Int.reduceBNe, Int.reduceLT, Int.reduceLE, Int.reduceGT, Int.reduceGE]))
    exact hbad (by simp [msgOk, h6]) _ hk0
  have c6 : decide (m.term < 1) = false := by simp; omega
  by_cases h7 : m.term ≤ 4611686018427387904
  case neg =>
    have c7 : decide (m.term > 4611686018427387904) = true := by simp; omega
    (repeat' (with_reducible first|refine w_1 ?_|refine w_2 ?_|refine w_3 ?_|refine w_4 ?_|refine w_5 ?_|refine w_6 ?_|refine w_7 ?_|(refine w_8 (fun hb=>?_) (fun hb=>?_) <;> (try simp only [hb]))|refine w_9 ?_|simp (maxDischargeDepth:=12) only [vis, ↓reduceIte, Nat.reduceEqDiff, reduceCtorEq, Int.reduceEq, Int.reduceNeg, Nat.reduceAdd, Nat.reduceLeDiff, ev, putO, intOp, resultsA, resA, Env.start, Env.ofList, loadA_ptr, storeA_ptr, r0, h4, c5, c6, c7, bne_self_eq_false, Int.reduceBEq, Int.reduceBNe, Int.reduceLT, Int.reduceLE, Int.reduceGT, Int.reduceGE]))
    exact hbad (by simp [msgOk, h7]) _ hk0
  have c7 : decide (m.term > 4611686018427387904) = false := by simp; omega
  by_cases h8 : m.entries.length ≤ 16
  case neg =>
    have c8 : decide ((m.entries.length : Int) > 16) = true := by simp; omega
    (repeat' (with_reducible first|refine w_1 ?_|refine w_2 ?_|refine w_3 ?_|refine w_4 ?_|refine w_5 ?_|refine w_6 ?_|refine w_7 ?_|(refine w_8 (fun hb=>?_) (fun hb=>?_) <;> (try simp only [hb]))|refine w_9 ?_|simp (maxDischargeDepth:=12) only [vis, ↓reduceIte, Nat.reduceEqDiff, reduceCtorEq, Int.reduceEq, Int.reduceNeg, Nat.reduceAdd, Nat.reduceLeDiff, ev, putO, intOp, resultsA, resA, Env.start, Env.ofList, loadA_ptr, storeA_ptr, r0, h4, c5, c6, c7, hlen, c8, bne_self_eq_false, Int.reduceBEq, Int.reduceBNe, Int.reduceLT, Int.reduceLE, Int.reduceGT, Int.reduceGE]))
    exact hbad (by simp [msgOk, h8]) _ hk0
  have c8 : decide ((m.entries.length : Int) > 16) = false := by simp; omega
  (repeat' (with_reducible first|refine w_1 ?_|refine w_2 ?_|refine w_3 ?_|refine w_4 ?_|refine w_5 ?_|refine w_6 ?_|refine w_7 ?_|(refine w_8 (fun hb=>?_) (fun hb=>?_) <;> (try simp only [hb]))|refine w_9 ?_|simp (maxDischargeDepth:=12) only [vis, ↓reduceIte, Nat.reduceEqDiff, reduceCtorEq, Int.reduceEq, Int.reduceNeg, Nat.reduceAdd, Nat.reduceLeDiff, ev, putO, intOp, resultsA, resA, Env.start, Env.ofList, loadA_ptr, storeA_ptr, r0, h4, c5, c6, c7, hlen, c8, bne_self_eq_false, Int.reduceBEq, Int.reduceBNe, Int.reduceLT, Int.reduceLE, Int.reduceGT, Int.reduceGE]))
  refine mx3_c (k := .u64) (a := m.index) (b := m.mtch) (c := m.commit) (by simp only [ev, Env.get_set, ↓reduceIte, Nat.reduceEqDiff]) (by simp only [ev, Env.get_set, ↓reduceIte, Nat.reduceEqDiff]) (by simp only [ev, Env.get_set, ↓reduceIte, Nat.reduceEqDiff]) ?_
  by_cases h9 : max (max m.index m.mtch) m.commit ≤ 4611686018427387904
  case neg =>
    have c9 : decide (max (max m.index m.mtch) m.commit > 4611686018427387904) = true := by simp only [decide_eq_true_eq]; omega
    (repeat' (with_reducible first|refine w_1 ?_|refine w_2 ?_|refine w_3 ?_|refine w_4 ?_|refine w_5 ?_|refine w_6 ?_|refine w_7 ?_|(refine w_8 (fun hb=>?_) (fun hb=>?_) <;> (try simp only [hb]))|refine w_9 ?_|simp (maxDischargeDepth:=12) only [vis, ↓reduceIte, Nat.reduceEqDiff, reduceCtorEq, Int.reduceEq, Int.reduceNeg, Nat.reduceAdd, Nat.reduceLeDiff, ev, putO, intOp, resultsA, resA, Env.start, Env.ofList, loadA_ptr, storeA_ptr, c9, bne_self_eq_false, Int.reduceBEq, Int.reduceBNe, Int.reduceLT, Int.reduceLE, Int.reduceGT, Int.reduceGE]))
    refine hbad ?_ _ hk0
    have : (decide (m.index ≤ 4611686018427387904) && decide (m.mtch ≤ 4611686018427387904) && decide (m.commit ≤ 4611686018427387904)) = false := by
      rw [Bool.eq_false_iff]
      simp only [ne_eq, Bool.and_eq_true, decide_eq_true_eq]
      omega
    unfold msgOk
    simp only [Bool.and_eq_false_iff, decide_eq_false_iff_not] at this ⊢
    grind
  have c9 : decide (max (max m.index m.mtch) m.commit > 4611686018427387904) = false := by simp only [decide_eq_false_iff_not]; omega
  have k9 : m.index ≤ 4611686018427387904 ∧ m.mtch ≤ 4611686018427387904 ∧ m.commit ≤ 4611686018427387904 := by omega
  obtain ⟨h9a, h9b, h9c⟩ := k9
  have hmin : min m.index 4611686018427387904 = m.index := by omega
  rw [hmin] at r2
  (repeat' (with_reducible first|refine w_1 ?_|refine w_2 ?_|refine w_3 ?_|refine w_4 ?_|refine w_5 ?_|refine w_6 ?_|refine w_7 ?_|(refine w_8 (fun hb=>?_) (fun hb=>?_) <;> (try simp only [hb]))|refine w_9 ?_|simp (maxDischargeDepth:=12) only [vis, ↓reduceIte, Nat.reduceEqDiff, reduceCtorEq, Int.reduceEq, Int.reduceNeg, Nat.reduceAdd, Nat.reduceLeDiff, ev, putO, intOp, resultsA, resA, Env.start, Env.ofList, loadA_ptr, storeA_ptr, c9, r2, bne_self_eq_false, Int.reduceBEq, Int.reduceBNe, Int.reduceLT, Int.reduceLE, Int.reduceGT, Int.reduceGE]))
  have hI0 := hI.keep hk0
  have hf0 := hk0.ok hf
  have hI' : In (fun q => D q ∨ q = s.next + 1) P := fun q hq => hq.elim (fun h => hI0 q h) fun h => by rw [h, nP]; omega
  refine rlogCheck_c (l := ⟨⟨m.index, m.prev, 0, [1]⟩, m.entries⟩) (D := fun q => D q ∨ q = s.next + 1) hf0 hI' ⟨.own (s.next + 1) 0 1 1, ew, rfl, Sl.of_row r1 (.inr rfl) (byteC_len _) rfl, (he.keep (keep_old hI hk0)).mono fun q h => .inl h⟩ ⟨⟨hw.index, hw.prev, (by show -9223372036854775808 ≤ (0 : Int) ∧ (0 : Int) ≤ 9223372036854775807; decide), (by show 1 < 1000000000000; decide)⟩, hw.wf.entries, hw.wf.len⟩ fun s1 hk1 => ?_
  have hk01 := hk0.then hk1
  have hlg : logOk ⟨⟨m.index, m.prev, 0, [1]⟩, m.entries⟩ = beh m.index m.prev m.entries := by
    have e1 : okV (nodes [1]) = true := by decide
    have e2 : decide (m.entries.length ≤ 4096) = true := by simp; omega
    simp only [logOk, e1, e2, h9a, decide_true, Bool.true_and]
  rw [hlg]
  have hg1 : s1.get s.next = some ⟨45, 14, [[.int .i64 m.kind, .int .i64 m.frm, .int .i64 m.to, .int .u64 m.term, .int .u64 m.index, .int .u64 m.prev, ew, .int .u64 m.commit, .bool m.ok, .int .u64 m.mtch, .int .u64 m.snap.index, .int .u64 m.snap.term, .int .i64 m.snap.kind, sd]]⟩ := by
    rw [hk1.get _ (by omega)]; exact r0
  cases h12 : beh m.index m.prev m.entries
  · (repeat' (with_reducible first|refine w_1 ?_|refine w_2 ?_|refine w_3 ?_|refine w_4 ?_|refine w_5 ?_|refine w_6 ?_|refine w_7 ?_|(refine w_8 (fun hb=>?_) (fun hb=>?_) <;> (try simp only [hb]))|refine w_9 ?_|simp (maxDischargeDepth:=12) only [vis, ↓reduceIte, Nat.reduceEqDiff, reduceCtorEq, Int.reduceEq, Int.reduceNeg, Nat.reduceAdd, Nat.reduceLeDiff, ev, putO, intOp, resultsA, resA, Env.start, Env.ofList, loadA_ptr, storeA_ptr, bne_self_eq_false, Int.reduceBEq, Int.reduceBNe, Int.reduceLT, Int.reduceLE, Int.reduceGT, Int.reduceGE]))
    exact hbad (by simp [msgOk, h12]) _ hk01
  have he1 := he.keep (keep_old hI hk01)
  have hd1 := hd.keep (keep_old hI hk01)
  have hI1 := hI.keep hk01
  have hf1 := hk01.ok hf
  have htl := termsOk_last (t := m.term) h12
  have hst : msgOk m = (termsOk m.term m.entries && (decide (m.kind = 1) || decide (m.prev ≤ m.term)) && decide (m.snap.term ≤ m.term) && (if m.kind = 5 then logOk ⟨m.snap, []⟩ else zeroE m.snap)) := by
    simp [msgOk, h1, h2, h3, h4, h5, h6, h7, h8, h9a, h9b, h9c, h12]
  have old1 : ∀ f q, (s1.at f).get q = s1.get q := fun _ _ => rfl
  -- what stands behind
  have fin : ∀ M : Mem, M = s1 → termsOk m.term m.entries = true → (decide (m.kind = 1) || decide (m.prev ≤ m.term)) = true → m.snap.term ≤ m.term → True := fun _ _ _ _ _ => trivial
  clear fin
  have hst5 : (decide (m.kind = 1) || decide (m.prev ≤ m.term)) = true → m.snap.term ≤ m.term → termsOk m.term m.entries = true → msgOk m = (if m.kind = 5 then logOk ⟨m.snap, []⟩ else zeroE m.snap) := fun q1 q2 q3 => by rw [hst]; simp [q1, q2, q3]
  by_cases q1 : (decide (m.kind = 1) || decide (m.prev ≤ m.term)) = true
  case neg =>
    have d1 : (m.kind != 1) = true := by simp at q1; simp; omega
    have d2 : decide (m.prev > m.term) = true := by simp at q1; simp; omega
    (repeat' (with_reducible first|refine w_1 ?_|refine w_2 ?_|refine w_3 ?_|refine w_4 ?_|refine w_5 ?_|refine w_6 ?_|refine w_7 ?_|(refine w_8 (fun hb=>?_) (fun hb=>?_) <;> (try simp only [hb]))|refine w_9 ?_|simp (maxDischargeDepth:=12) only [vis, ↓reduceIte, Nat.reduceEqDiff, reduceCtorEq, Int.reduceEq, Int.reduceNeg, Nat.reduceAdd, Nat.reduceLeDiff, ev, putO, intOp, resultsA, resA, Env.start, Env.ofList, loadA_ptr, storeA_ptr, hg1, d1, d2, bne_self_eq_false, Int.reduceBEq, Int.reduceBNe, Int.reduceLT, Int.reduceLE, Int.reduceGT, Int.reduceGE]))
    exact hbad (by rw [hst]; simp [q1]) _ hk01
  by_cases q2 : m.snap.term ≤ m.term
  case neg =>
    have d3 : decide (m.snap.term > m.term) = true := by simp; omega
    by_cases d2 : m.prev > m.term
    · have d4 : decide (m.prev > m.term) = true := by simp [d2]
      have d1 : (m.kind != 1) = false := by simp at q1; simp; omega
      (repeat' (with_reducible first|refine w_1 ?_|refine w_2 ?_|refine w_3 ?_|refine w_4 ?_|refine w_5 ?_|refine w_6 ?_|refine w_7 ?_|(refine w_8 (fun hb=>?_) (fun hb=>?_) <;> (try simp only [hb]))|refine w_9 ?_|simp (maxDischargeDepth:=12) only [vis, ↓reduceIte, Nat.reduceEqDiff, reduceCtorEq, Int.reduceEq, Int.reduceNeg, Nat.reduceAdd, Nat.reduceLeDiff, ev, putO, intOp, resultsA, resA, Env.start, Env.ofList, loadA_ptr, storeA_ptr, hg1, d1, d4, d3, bne_self_eq_false, Int.reduceBEq, Int.reduceBNe, Int.reduceLT, Int.reduceLE, Int.reduceGT, Int.reduceGE]))
      exact hbad (by rw [hst]; simp [q2]) _ hk01
    · have d4 : decide (m.prev > m.term) = false := by simp [d2]
      (repeat' (with_reducible first|refine w_1 ?_|refine w_2 ?_|refine w_3 ?_|refine w_4 ?_|refine w_5 ?_|refine w_6 ?_|refine w_7 ?_|(refine w_8 (fun hb=>?_) (fun hb=>?_) <;> (try simp only [hb]))|refine w_9 ?_|simp (maxDischargeDepth:=12) only [vis, ↓reduceIte, Nat.reduceEqDiff, reduceCtorEq, Int.reduceEq, Int.reduceNeg, Nat.reduceAdd, Nat.reduceLeDiff, ev, putO, intOp, resultsA, resA, Env.start, Env.ofList, loadA_ptr, storeA_ptr, hg1, d4, d3, bne_self_eq_false, Int.reduceBEq, Int.reduceBNe, Int.reduceLT, Int.reduceLE, Int.reduceGT, Int.reduceGE]))
      exact hbad (by rw [hst]; simp [q2]) _ hk01
  have d3 : decide (m.snap.term > m.term) = false := by simp; omega
  have tail : termsOk m.term m.entries = true → msgOk m = (if m.kind = 5 then logOk ⟨m.snap, []⟩ else zeroE m.snap) := hst5 q1 q2
  have d12 : (m.prev > m.term ∧ m.kind = 1) ∨ m.prev ≤ m.term := by simp at q1; omega
  rcases Nat.eq_zero_or_pos m.entries.length with hz | hz
  · have e0 : termsOk m.term m.entries = true := by
      have : m.entries = [] := List.length_eq_zero_iff.mp hz
      rw [this]; rfl
    have t0 := tail e0
    have c0 : decide ((m.entries.length : Int) > 0) = false := by rw [hz]; rfl
    by_cases k5 : m.kind = 5
    · have d5 : (m.kind == 5) = true := by simp [k5]
      have d4 : decide (m.prev > m.term) = false := by simp; omega
      rw [if_pos k5] at t0
      (repeat' (with_reducible first|refine w_1 ?_|refine w_2 ?_|refine w_3 ?_|refine w_4 ?_|refine w_5 ?_|refine w_6 ?_|refine w_7 ?_|(refine w_8 (fun hb=>?_) (fun hb=>?_) <;> (try simp only [hb]))|refine w_9 ?_|simp (maxDischargeDepth:=12) only [vis, ↓reduceIte, Nat.reduceEqDiff, reduceCtorEq, Int.reduceEq, Int.reduceNeg, Nat.reduceAdd, Nat.reduceLeDiff, ev, putO, intOp, resultsA, resA, Env.start, Env.ofList, loadA_ptr, storeA_ptr, hg1, d4, d3, d5, hlen, c0, bne_self_eq_false, Int.reduceBEq, Int.reduceBNe, Int.reduceLT, Int.reduceLE, Int.reduceGT, Int.reduceGE]))
      refine raftBase_c hf1 hI1 hd1 hw.wf.snap fun s2 hk2 => ?_
      have hk02 := hk01.then hk2
      cases h13 : logOk ⟨m.snap, []⟩
      · (repeat' (with_reducible first|refine w_1 ?_|refine w_2 ?_|refine w_3 ?_|refine w_4 ?_|refine w_5 ?_|refine w_6 ?_|refine w_7 ?_|(refine w_8 (fun hb=>?_) (fun hb=>?_) <;> (try simp only [hb]))|refine w_9 ?_|simp (maxDischargeDepth:=12) only [vis, ↓reduceIte, Nat.reduceEqDiff, reduceCtorEq, Int.reduceEq, Int.reduceNeg, Nat.reduceAdd, Nat.reduceLeDiff, ev, putO, intOp, resultsA, resA, Env.start, Env.ofList, loadA_ptr, storeA_ptr, bne_self_eq_false, Int.reduceBEq, Int.reduceBNe, Int.reduceLT, Int.reduceLE, Int.reduceGT, Int.reduceGE]))
        exact hbad (by rw [t0, h13]) _ hk02
      · have d6 : (m.kind != 5) = false := by simp [k5]
        have hg2 := (hk2.get s.next (by have := hk1.next; omega)).trans hg1
        (repeat' (with_reducible first|refine w_1 ?_|refine w_2 ?_|refine w_3 ?_|refine w_4 ?_|refine w_5 ?_|refine w_6 ?_|refine w_7 ?_|(refine w_8 (fun hb=>?_) (fun hb=>?_) <;> (try simp only [hb]))|refine w_9 ?_|simp (maxDischargeDepth:=12) only [vis, ↓reduceIte, Nat.reduceEqDiff, reduceCtorEq, Int.reduceEq, Int.reduceNeg, Nat.reduceAdd, Nat.reduceLeDiff, ev, putO, intOp, resultsA, resA, Env.start, Env.ofList, loadA_ptr, storeA_ptr, hg2, d6, bne_self_eq_false, Int.reduceBEq, Int.reduceBNe, Int.reduceLT, Int.reduceLE, Int.reduceGT, Int.reduceGE]))
        exact hgood (by rw [t0, h13]) _ hk02
    · have d5 : (m.kind == 5) = false := by simp [k5]
      have d6 : (m.kind != 5) = true := by simp [k5]
      rw [if_neg k5] at t0
      rcases d12 with ⟨x1, x2⟩ | x1
      · have d4 : decide (m.prev > m.term) = true := by simp [x1]
        have d1 : (m.kind != 1) = false := by simp [x2]
        (repeat' (with_reducible first|refine w_1 ?_|refine w_2 ?_|refine w_3 ?_|refine w_4 ?_|refine w_5 ?_|refine w_6 ?_|refine w_7 ?_|(refine w_8 (fun hb=>?_) (fun hb=>?_) <;> (try simp only [hb]))|refine w_9 ?_|simp (maxDischargeDepth:=12) only [vis, ↓reduceIte, Nat.reduceEqDiff, reduceCtorEq, Int.reduceEq, Int.reduceNeg, Nat.reduceAdd, Nat.reduceLeDiff, ev, putO, intOp, resultsA, resA, Env.start, Env.ofList, loadA_ptr, storeA_ptr, hg1, d4, d1, d3, d5, d6, hlen, c0, bne_self_eq_false, Int.reduceBEq, Int.reduceBNe, Int.reduceLT, Int.reduceLE, Int.reduceGT, Int.reduceGE]))
        refine raftZero_c hd1 fun s2 hk2 => ?_
        have hk02 := hk01.then hk2
        cases h13 : zeroE m.snap
        · (repeat' (with_reducible first|refine w_1 ?_|refine w_2 ?_|refine w_3 ?_|refine w_4 ?_|refine w_5 ?_|refine w_6 ?_|refine w_7 ?_|(refine w_8 (fun hb=>?_) (fun hb=>?_) <;> (try simp only [hb]))|refine w_9 ?_|simp (maxDischargeDepth:=12) only [vis, ↓reduceIte, Nat.reduceEqDiff, reduceCtorEq, Int.reduceEq, Int.reduceNeg, Nat.reduceAdd, Nat.reduceLeDiff, ev, putO, intOp, resultsA, resA, Env.start, Env.ofList, loadA_ptr, storeA_ptr, bne_self_eq_false, Int.reduceBEq, Int.reduceBNe, Int.reduceLT, Int.reduceLE, Int.reduceGT, Int.reduceGE]))
          exact hbad (by rw [t0, h13]) _ hk02
        · (repeat' (with_reducible first|refine w_1 ?_|refine w_2 ?_|refine w_3 ?_|refine w_4 ?_|refine w_5 ?_|refine w_6 ?_|refine w_7 ?_|(refine w_8 (fun hb=>?_) (fun hb=>?_) <;> (try simp only [hb]))|refine w_9 ?_|simp (maxDischargeDepth:=12) only [vis, ↓reduceIte, Nat.reduceEqDiff, reduceCtorEq, Int.reduceEq, Int.reduceNeg, Nat.reduceAdd, Nat.reduceLeDiff, ev, putO, intOp, resultsA, resA, Env.start, Env.ofList, loadA_ptr, storeA_ptr, bne_self_eq_false, Int.reduceBEq, Int.reduceBNe, Int.reduceLT, Int.reduceLE, Int.reduceGT, Int.reduceGE]))
          exact hgood (by rw [t0, h13]) _ hk02
      · have d4 : decide (m.prev > m.term) = false := by simp; omega
        (repeat' (with_reducible first|refine w_1 ?_|refine w_2 ?_|refine w_3 ?_|refine w_4 ?_|refine w_5 ?_|refine w_6 ?_|refine w_7 ?_|(refine w_8 (fun hb=>?_) (fun hb=>?_) <;> (try simp only [hb]))|refine w_9 ?_|simp (maxDischargeDepth:=12) only [vis, ↓reduceIte, Nat.reduceEqDiff, reduceCtorEq, Int.reduceEq, Int.reduceNeg, Nat.reduceAdd, Nat.reduceLeDiff, ev, putO, intOp, resultsA, resA, Env.start, Env.ofList, loadA_ptr, storeA_ptr, hg1, d4, d3, d5, d6, hlen, c0, bne_self_eq_false, Int.reduceBEq, Int.reduceBNe, Int.reduceLT, Int.reduceLE, Int.reduceGT, Int.reduceGE]))
        refine raftZero_c hd1 fun s2 hk2 => ?_
        have hk02 := hk01.then hk2
        cases h13 : zeroE m.snap
        · (repeat' (with_reducible first|refine w_1 ?_|refine w_2 ?_|refine w_3 ?_|refine w_4 ?_|refine w_5 ?_|refine w_6 ?_|refine w_7 ?_|(refine w_8 (fun hb=>?_) (fun hb=>?_) <;> (try simp only [hb]))|refine w_9 ?_|simp (maxDischargeDepth:=12) only [vis, ↓reduceIte, Nat.reduceEqDiff, reduceCtorEq, Int.reduceEq, Int.reduceNeg, Nat.reduceAdd, Nat.reduceLeDiff, ev, putO, intOp, resultsA, resA, Env.start, Env.ofList, loadA_ptr, storeA_ptr, bne_self_eq_false, Int.reduceBEq, Int.reduceBNe, Int.reduceLT, Int.reduceLE, Int.reduceGT, Int.reduceGE]))
          exact hbad (by rw [t0, h13]) _ hk02
        · (repeat' (with_reducible first|refine w_1 ?_|refine w_2 ?_|refine w_3 ?_|refine w_4 ?_|refine w_5 ?_|refine w_6 ?_|refine w_7 ?_|(refine w_8 (fun hb=>?_) (fun hb=>?_) <;> (try simp only [hb]))|refine w_9 ?_|simp (maxDischargeDepth:=12) only [vis, ↓reduceIte, Nat.reduceEqDiff, reduceCtorEq, Int.reduceEq, Int.reduceNeg, Nat.reduceAdd, Nat.reduceLeDiff, ev, putO, intOp, resultsA, resA, Env.start, Env.ofList, loadA_ptr, storeA_ptr, bne_self_eq_false, Int.reduceBEq, Int.reduceBNe, Int.reduceLT, Int.reduceLE, Int.reduceGT, Int.reduceGE]))
          exact hgood (by rw [t0, h13]) _ hk02
  · have c0 : decide ((m.entries.length : Int) > 0) = true := gt0 hz
    obtain ⟨x, hx⟩ := get_of (show m.entries.length - 1 < m.entries.length by omega)
    obtain ⟨d, p, hp, P', hdx⟩ := he1.atk hI1 hx
    have htx : termsOk m.term m.entries = decide (x.term ≤ m.term) := by
      rw [htl, List.getLast?_eq_getElem?, hx]
    have pc := pred_cast' hz (by omega)
    by_cases g : x.term ≤ m.term
    case neg =>
      have c6 : decide (x.term > m.term) = true := by simp; omega
      have hb : msgOk m = false := by rw [hst, htx]; simp [g]
      rcases d12 with ⟨x1, x2⟩ | x1
      · have d4 : decide (m.prev > m.term) = true := by simp [x1]
        have d1 : (m.kind != 1) = false := by simp [x2]
        (repeat' (with_reducible first|refine w_1 ?_|refine w_2 ?_|refine w_3 ?_|refine w_4 ?_|refine w_5 ?_|refine w_6 ?_|refine w_7 ?_|(refine w_8 (fun hb=>?_) (fun hb=>?_) <;> (try simp only [hb]))|refine w_9 ?_|simp (maxDischargeDepth:=12) only [vis, ↓reduceIte, Nat.reduceEqDiff, reduceCtorEq, Int.reduceEq, Int.reduceNeg, Nat.reduceAdd, Nat.reduceLeDiff, ev, putO, intOp, resultsA, resA, Env.start, Env.ofList, loadA_ptr, storeA_ptr, hg1, d4, d1, d3, hlen, c0, pc, hp, P'.adr, P'.ldf, P'.ld, c6, bne_self_eq_false, Int.reduceBEq, Int.reduceBNe, Int.reduceLT, Int.reduceLE, Int.reduceGT, Int.reduceGE]))
        exact hbad hb _ hk01
      · have d4 : decide (m.prev > m.term) = false := by simp; omega
        (repeat' (with_reducible first|refine w_1 ?_|refine w_2 ?_|refine w_3 ?_|refine w_4 ?_|refine w_5 ?_|refine w_6 ?_|refine w_7 ?_|(refine w_8 (fun hb=>?_) (fun hb=>?_) <;> (try simp only [hb]))|refine w_9 ?_|simp (maxDischargeDepth:=12) only [vis, ↓reduceIte, Nat.reduceEqDiff, reduceCtorEq, Int.reduceEq, Int.reduceNeg, Nat.reduceAdd, Nat.reduceLeDiff, ev, putO, intOp, resultsA, resA, Env.start, Env.ofList, loadA_ptr, storeA_ptr, hg1, d4, d3, hlen, c0, pc, hp, P'.adr, P'.ldf, P'.ld, c6, bne_self_eq_false, Int.reduceBEq, Int.reduceBNe, Int.reduceLT, Int.reduceLE, Int.reduceGT, Int.reduceGE]))
        exact hbad hb _ hk01
    have c6 : decide (x.term > m.term) = false := by simp; omega
    have t0 := tail (by rw [htx]; simp [g])
    by_cases k5 : m.kind = 5
    · have d5 : (m.kind == 5) = true := by simp [k5]
      have d4 : decide (m.prev > m.term) = false := by simp; omega
      rw [if_pos k5] at t0
      (repeat' (with_reducible first|refine w_1 ?_|refine w_2 ?_|refine w_3 ?_|refine w_4 ?_|refine w_5 ?_|refine w_6 ?_|refine w_7 ?_|(refine w_8 (fun hb=>?_) (fun hb=>?_) <;> (try simp only [hb]))|refine w_9 ?_|simp (maxDischargeDepth:=12) only [vis, ↓reduceIte, Nat.reduceEqDiff, reduceCtorEq, Int.reduceEq, Int.reduceNeg, Nat.reduceAdd, Nat.reduceLeDiff, ev, putO, intOp, resultsA, resA, Env.start, Env.ofList, loadA_ptr, storeA_ptr, hg1, d4, d3, d5, hlen, c0, pc, hp, P'.adr, P'.ldf, P'.ld, c6, bne_self_eq_false, Int.reduceBEq, Int.reduceBNe, Int.reduceLT, Int.reduceLE, Int.reduceGT, Int.reduceGE]))
      refine raftBase_c hf1 hI1 hd1 hw.wf.snap fun s2 hk2 => ?_
      have hk02 := hk01.then hk2
      cases h13 : logOk ⟨m.snap, []⟩
      · (repeat' (with_reducible first|refine w_1 ?_|refine w_2 ?_|refine w_3 ?_|refine w_4 ?_|refine w_5 ?_|refine w_6 ?_|refine w_7 ?_|(refine w_8 (fun hb=>?_) (fun hb=>?_) <;> (try simp only [hb]))|refine w_9 ?_|simp (maxDischargeDepth:=12) only [vis, ↓reduceIte, Nat.reduceEqDiff, reduceCtorEq, Int.reduceEq, Int.reduceNeg, Nat.reduceAdd, Nat.reduceLeDiff, ev, putO, intOp, resultsA, resA, Env.start, Env.ofList, loadA_ptr, storeA_ptr, bne_self_eq_false, Int.reduceBEq, Int.reduceBNe, Int.reduceLT, Int.reduceLE, Int.reduceGT, Int.reduceGE]))
        exact hbad (by rw [t0, h13]) _ hk02
      · have d6 : (m.kind != 5) = false := by simp [k5]
        have hg2 := (hk2.get s.next (by have := hk1.next; omega)).trans hg1
        (repeat' (with_reducible first|refine w_1 ?_|refine w_2 ?_|refine w_3 ?_|refine w_4 ?_|refine w_5 ?_|refine w_6 ?_|refine w_7 ?_|(refine w_8 (fun hb=>?_) (fun hb=>?_) <;> (try simp only [hb]))|refine w_9 ?_|simp (maxDischargeDepth:=12) only [vis, ↓reduceIte, Nat.reduceEqDiff, reduceCtorEq, Int.reduceEq, Int.reduceNeg, Nat.reduceAdd, Nat.reduceLeDiff, ev, putO, intOp, resultsA, resA, Env.start, Env.ofList, loadA_ptr, storeA_ptr, hg2, d6, bne_self_eq_false, Int.reduceBEq, Int.reduceBNe, Int.reduceLT, Int.reduceLE, Int.reduceGT, Int.reduceGE]))
        exact hgood (by rw [t0, h13]) _ hk02
    · have d5 : (m.kind == 5) = false := by simp [k5]
      have d6 : (m.kind != 5) = true := by simp [k5]
      rw [if_neg k5] at t0
      rcases d12 with ⟨x1, x2⟩ | x1
      · have d4 : decide (m.prev > m.term) = true := by simp [x1]
        have d1 : (m.kind != 1) = false := by simp [x2]
        (repeat' (with_reducible first|refine w_1 ?_|refine w_2 ?_|refine w_3 ?_|refine w_4 ?_|refine w_5 ?_|refine w_6 ?_|refine w_7 ?_|(refine w_8 (fun hb=>?_) (fun hb=>?_) <;> (try simp only [hb]))|refine w_9 ?_|simp (maxDischargeDepth:=12) only [vis, ↓reduceIte, Nat.reduceEqDiff, reduceCtorEq, Int.reduceEq, Int.reduceNeg, Nat.reduceAdd, Nat.reduceLeDiff, ev, putO, intOp, resultsA, resA, Env.start, Env.ofList, loadA_ptr, storeA_ptr, hg1, d4, d1, d3, d5, d6, hlen, c0, pc, hp, P'.adr, P'.ldf, P'.ld, c6, bne_self_eq_false, Int.reduceBEq, Int.reduceBNe, Int.reduceLT, Int.reduceLE, Int.reduceGT, Int.reduceGE]))
        refine raftZero_c hd1 fun s2 hk2 => ?_
        have hk02 := hk01.then hk2
        cases h13 : zeroE m.snap
        · (repeat' (with_reducible first|refine w_1 ?_|refine w_2 ?_|refine w_3 ?_|refine w_4 ?_|refine w_5 ?_|refine w_6 ?_|refine w_7 ?_|(refine w_8 (fun hb=>?_) (fun hb=>?_) <;> (try simp only [hb]))|refine w_9 ?_|simp (maxDischargeDepth:=12) only [vis, ↓reduceIte, Nat.reduceEqDiff, reduceCtorEq, Int.reduceEq, Int.reduceNeg, Nat.reduceAdd, Nat.reduceLeDiff, ev, putO, intOp, resultsA, resA, Env.start, Env.ofList, loadA_ptr, storeA_ptr, bne_self_eq_false, Int.reduceBEq, Int.reduceBNe, Int.reduceLT, Int.reduceLE, Int.reduceGT, Int.reduceGE]))
          exact hbad (by rw [t0, h13]) _ hk02
        · (repeat' (with_reducible first|refine w_1 ?_|refine w_2 ?_|refine w_3 ?_|refine w_4 ?_|refine w_5 ?_|refine w_6 ?_|refine w_7 ?_|(refine w_8 (fun hb=>?_) (fun hb=>?_) <;> (try simp only [hb]))|refine w_9 ?_|simp (maxDischargeDepth:=12) only [vis, ↓reduceIte, Nat.reduceEqDiff, reduceCtorEq, Int.reduceEq, Int.reduceNeg, Nat.reduceAdd, Nat.reduceLeDiff, ev, putO, intOp, resultsA, resA, Env.start, Env.ofList, loadA_ptr, storeA_ptr, bne_self_eq_false, Int.reduceBEq, Int.reduceBNe, Int.reduceLT, Int.reduceLE, Int.reduceGT, Int.reduceGE]))
          exact hgood (by rw [t0, h13]) _ hk02
      · have d4 : decide (m.prev > m.term) = false := by simp; omega
        (repeat' (with_reducible first|refine w_1 ?_|refine w_2 ?_|refine w_3 ?_|refine w_4 ?_|refine w_5 ?_|refine w_6 ?_|refine w_7 ?_|(refine w_8 (fun hb=>?_) (fun hb=>?_) <;> (try simp only [hb]))|refine w_9 ?_|simp (maxDischargeDepth:=12) only [vis, ↓reduceIte, Nat.reduceEqDiff, reduceCtorEq, Int.reduceEq, Int.reduceNeg, Nat.reduceAdd, Nat.reduceLeDiff, ev, putO, intOp, resultsA, resA, Env.start, Env.ofList, loadA_ptr, storeA_ptr, hg1, d4, d3, d5, d6, hlen, c0, pc, hp, P'.adr, P'.ldf, P'.ld, c6, bne_self_eq_false, Int.reduceBEq, Int.reduceBNe, Int.reduceLT, Int.reduceLE, Int.reduceGT, Int.reduceGE]))
        refine raftZero_c hd1 fun s2 hk2 => ?_
        have hk02 := hk01.then hk2
        cases h13 : zeroE m.snap
        · (repeat' (with_reducible first|refine w_1 ?_|refine w_2 ?_|refine w_3 ?_|refine w_4 ?_|refine w_5 ?_|refine w_6 ?_|refine w_7 ?_|(refine w_8 (fun hb=>?_) (fun hb=>?_) <;> (try simp only [hb]))|refine w_9 ?_|simp (maxDischargeDepth:=12) only [vis, ↓reduceIte, Nat.reduceEqDiff, reduceCtorEq, Int.reduceEq, Int.reduceNeg, Nat.reduceAdd, Nat.reduceLeDiff, ev, putO, intOp, resultsA, resA, Env.start, Env.ofList, loadA_ptr, storeA_ptr, bne_self_eq_false, Int.reduceBEq, Int.reduceBNe, Int.reduceLT, Int.reduceLE, Int.reduceGT, Int.reduceGE]))
          exact hbad (by rw [t0, h13]) _ hk02
        · (repeat' (with_reducible first|refine w_1 ?_|refine w_2 ?_|refine w_3 ?_|refine w_4 ?_|refine w_5 ?_|refine w_6 ?_|refine w_7 ?_|(refine w_8 (fun hb=>?_) (fun hb=>?_) <;> (try simp only [hb]))|refine w_9 ?_|simp (maxDischargeDepth:=12) only [vis, ↓reduceIte, Nat.reduceEqDiff, reduceCtorEq, Int.reduceEq, Int.reduceNeg, Nat.reduceAdd, Nat.reduceLeDiff, ev, putO, intOp, resultsA, resA, Env.start, Env.ofList, loadA_ptr, storeA_ptr, bne_self_eq_false, Int.reduceBEq, Int.reduceBNe, Int.reduceLT, Int.reduceLE, Int.reduceGT, Int.reduceGE]))
          exact hgood (by rw [t0, h13]) _ hk02
end Go.Proofs.YtfllmhjjfapnmaaGreat
