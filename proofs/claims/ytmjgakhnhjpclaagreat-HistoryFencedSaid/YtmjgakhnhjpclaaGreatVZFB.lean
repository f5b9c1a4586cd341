/- Tokens rise: the program's answer. No statement of the seat is proved here. -/
import Derived.Test.YtmjgakhnhjpclaaGreatVZFA
import Derived.Test.YtmjgakhnhjpclaaGreatVZHist4
import Derived.Test.YtmjgakhnhjpclaaGreatVZVE
namespace Go.Proofs.YtmjgakhnhjpclaaGreat
open Go Go.VI
set_option linter.unusedSimpArgs false
theorem chk_zero {l : List Event} (h : chk l = 0) : l.length ≤ 64 ∧ ∀ i, okAt l i = true := by
  unfold chk at h
  split at h
  · cases h
  rename_i h1
  split at h
  · rename_i h2
    refine ⟨by omega, fun i => ?_⟩
    by_cases hi : i < l.length
    · exact List.all_eq_true.mp h2 i (List.mem_range.mpr hi)
    · simp only [okAt]; rw [List.getElem?_eq_none (by omega)]
  · cases h
theorem keys16 {l : List Event} (h : chk l = 0) {i : Nat} {e : Event} (he : l[i]? = some e) (hd : e.done = false) : e.call.keys.length ≤ 16 := by
  have := (chk_zero h).2 i
  rw [okAt_some he] at this
  simp only [evOk, hd, Bool.and_eq_true, Bool.false_eq_true, if_false, callOk, decide_eq_true_eq] at this
  omega
theorem spans_mem {l : List Event} {x : Sp} (h : x ∈ spans l) : ∃ i e, l[i]? = some e ∧ e.done = false ∧ x = spanOf l i e := by
  unfold spans spansTo at h
  obtain ⟨i, _, hi⟩ := List.mem_filterMap.mp h
  cases he : l[i]? with
  | none => rw [he] at hi; cases hi
  | some e =>
    rw [he, Option.bind_some] at hi
    cases hd : e.done with
    | true => rw [hd] at hi; cases hi
    | false => rw [hd] at hi; exact ⟨i, e, he, hd, (Option.some.inj hi).symm⟩
theorem spanOf_call (l : List Event) (i : Nat) (e : Event) : (spanOf l i e).call = e.call := by unfold spanOf; split <;> rfl
theorem spans16 {l : List Event} (h : chk l = 0) : ∀ x ∈ spans l, x.call.keys.length ≤ 16 := by
  intro x hx
  obtain ⟨i, e, he, hd, rfl⟩ := spans_mem hx
  rw [spanOf_call]; exact keys16 h he hd
def badF (i k : Nat) (a b : Sp) : Bool := (!decide (i = k) && decide (a.reply.token = b.reply.token)) || (decide (a.to < b.frm) && decide (a.reply.token ≥ b.reply.token))
def Fenced (x : List Sp) : Prop := ∀ i k a b, x[i]? = some a → x[k]? = some b → badF i k a b = false
attribute [local irreducible] Ws Wp W C
set_option maxHeartbeats 4000000
theorem fenced_c {l : List Event} {v : AV} {s : Mem} {K : AV → Mem → Prop} (hf : s.floor ≤ s.next) (hv : Evs v l)
    (hbad : chk l ≠ 0 → ∀ s', Keep s.next s s' → K (.tup [.bool false, .int .i64 (chk l)]) s')
    (hK : chk l = 0 → ∀ b s', Keep s.next s s' → (b = true ↔ Fenced ((spans l).filter took)) → K (.tup [.bool b, .int .i64 0]) s') : C tab 5 [v] s K := by
  refine C_enter (cf := cf5) rfl (Nat.le_of_ble_eq_true rfl) ?_
  simp only [cf5, oo, on, om, og, oc, ou]
  (repeat' (with_reducible first|refine w_1 ?_|refine w_2 ?_|refine w_3 ?_|refine w_4 ?_|refine w_5 ?_|refine w_6 ?_|refine w_7 ?_|(refine w_8 (fun hb=>?_) (fun hb=>?_)<;>(try simp only [Bool.not_eq_true',Bool.not_eq_false'] at hb)<;>try simp only [hb])|(refine w_9 ?_;simp (maxDischargeDepth:=12) only [viz,↓reduceIte,Nat.reduceEqDiff,reduceCtorEq,Int.reduceEq,Int.reduceNeg,Nat.reduceAdd,Nat.reduceLeDiff])|refine w_10 (fun hc=>(by (try simp only [Bool.and_eq_true] at hc);simp (maxDischargeDepth:=12) only [viz,↓reduceIte,Nat.reduceEqDiff,reduceCtorEq,Int.reduceEq,Int.reduceNeg,Nat.reduceAdd,Nat.reduceLeDiff,hc];first|exact ⟨rfl,rfl⟩|exact rfl)) ?_|refine w_11 (fun hc=>(by (try simp only [Bool.and_eq_true] at hc);simp (maxDischargeDepth:=12) only [viz,↓reduceIte,Nat.reduceEqDiff,reduceCtorEq,Int.reduceEq,Int.reduceNeg,Nat.reduceAdd,Nat.reduceLeDiff,hc];first|exact ⟨rfl,rfl⟩|exact rfl)) ?_|refine w_12 ?_|simp (maxDischargeDepth:=12) only [viz,↓reduceIte,Nat.reduceEqDiff,reduceCtorEq,Int.reduceEq,Int.reduceNeg,Nat.reduceAdd,Nat.reduceLeDiff]))
  refine hcheck_c hf hv fun s0 h0 => ?_
  have f0 := h0.ok hf
  by_cases hc : chk l = 0
  case neg =>
    have hcb : (chk l != 0) = true := by simpa using hc
    (repeat' (with_reducible first|refine w_1 ?_|refine w_2 ?_|refine w_3 ?_|refine w_4 ?_|refine w_5 ?_|refine w_6 ?_|refine w_7 ?_|(refine w_8 (fun hb=>?_) (fun hb=>?_)<;>(try simp only [Bool.not_eq_true',Bool.not_eq_false'] at hb)<;>try simp only [hb])|(refine w_9 ?_;simp (maxDischargeDepth:=12) only [viz,↓reduceIte,Nat.reduceEqDiff,reduceCtorEq,Int.reduceEq,Int.reduceNeg,Nat.reduceAdd,Nat.reduceLeDiff,hcb])|refine w_10 (fun hc=>(by (try simp only [Bool.and_eq_true] at hc);simp (maxDischargeDepth:=12) only [viz,↓reduceIte,Nat.reduceEqDiff,reduceCtorEq,Int.reduceEq,Int.reduceNeg,Nat.reduceAdd,Nat.reduceLeDiff,hcb,hc];first|exact ⟨rfl,rfl⟩|exact rfl)) ?_|refine w_11 (fun hc=>(by (try simp only [Bool.and_eq_true] at hc);simp (maxDischargeDepth:=12) only [viz,↓reduceIte,Nat.reduceEqDiff,reduceCtorEq,Int.reduceEq,Int.reduceNeg,Nat.reduceAdd,Nat.reduceLeDiff,hcb,hc];first|exact ⟨rfl,rfl⟩|exact rfl)) ?_|refine w_12 ?_|simp (maxDischargeDepth:=12) only [viz,↓reduceIte,Nat.reduceEqDiff,reduceCtorEq,Int.reduceEq,Int.reduceNeg,Nat.reduceAdd,Nat.reduceLeDiff,hcb]))
    exact hbad hc _ h0
  have hcb : (chk l != 0) = false := by simpa using hc
  obtain ⟨h64, hok⟩ := chk_zero hc
  have hx64 : ((spans l).filter took).length ≤ 64 := Nat.le_trans (List.length_filter_le _ _) (Nat.le_trans (spans_len l) h64)
  have hKK := hK hc
  (repeat' (with_reducible first|refine w_1 ?_|refine w_2 ?_|refine w_3 ?_|refine w_4 ?_|refine w_5 ?_|refine w_6 ?_|refine w_7 ?_|(refine w_8 (fun hb=>?_) (fun hb=>?_)<;>(try simp only [Bool.not_eq_true',Bool.not_eq_false'] at hb)<;>try simp only [hb])|(refine w_9 ?_;simp (maxDischargeDepth:=12) only [viz,↓reduceIte,Nat.reduceEqDiff,reduceCtorEq,Int.reduceEq,Int.reduceNeg,Nat.reduceAdd,Nat.reduceLeDiff,hcb])|refine w_10 (fun hc=>(by (try simp only [Bool.and_eq_true] at hc);simp (maxDischargeDepth:=12) only [viz,↓reduceIte,Nat.reduceEqDiff,reduceCtorEq,Int.reduceEq,Int.reduceNeg,Nat.reduceAdd,Nat.reduceLeDiff,hcb,hc];first|exact ⟨rfl,rfl⟩|exact rfl)) ?_|refine w_11 (fun hc=>(by (try simp only [Bool.and_eq_true] at hc);simp (maxDischargeDepth:=12) only [viz,↓reduceIte,Nat.reduceEqDiff,reduceCtorEq,Int.reduceEq,Int.reduceNeg,Nat.reduceAdd,Nat.reduceLeDiff,hcb,hc];first|exact ⟨rfl,rfl⟩|exact rfl)) ?_|refine w_12 ?_|simp (maxDischargeDepth:=12) only [viz,↓reduceIte,Nat.reduceEqDiff,reduceCtorEq,Int.reduceEq,Int.reduceNeg,Nat.reduceAdd,Nat.reduceLeDiff,hcb]))
  refine taken_c f0 hv h64 (spans16 hc) fun w s1 ys h1 hsl hys => ?_
  have f1 := h1.ok f0
  have hI : In (fun q => s0.next ≤ q ∧ q < s1.next) s1 := fun q hq => hq.2
  generalize hX : (spans l).filter took = x at hys hx64 hKK
  have hlen : lenA false w = some x.length := by rw [hsl.len, hys.1]
  (repeat' (with_reducible first|refine w_1 ?_|refine w_2 ?_|refine w_3 ?_|refine w_4 ?_|refine w_5 ?_|refine w_6 ?_|refine w_7 ?_|(refine w_8 (fun hb=>?_) (fun hb=>?_)<;>(try simp only [Bool.not_eq_true',Bool.not_eq_false'] at hb)<;>try simp only [hb])|(refine w_9 ?_;simp (maxDischargeDepth:=12) only [viz,↓reduceIte,Nat.reduceEqDiff,reduceCtorEq,Int.reduceEq,Int.reduceNeg,Nat.reduceAdd,Nat.reduceLeDiff,hlen])|refine w_10 (fun hc=>(by (try simp only [Bool.and_eq_true] at hc);simp (maxDischargeDepth:=12) only [viz,↓reduceIte,Nat.reduceEqDiff,reduceCtorEq,Int.reduceEq,Int.reduceNeg,Nat.reduceAdd,Nat.reduceLeDiff,hlen,hc];first|exact ⟨rfl,rfl⟩|exact rfl)) ?_|refine w_11 (fun hc=>(by (try simp only [Bool.and_eq_true] at hc);simp (maxDischargeDepth:=12) only [viz,↓reduceIte,Nat.reduceEqDiff,reduceCtorEq,Int.reduceEq,Int.reduceNeg,Nat.reduceAdd,Nat.reduceLeDiff,hlen,hc];first|exact ⟨rfl,rfl⟩|exact rfl)) ?_|refine w_12 ?_|simp (maxDischargeDepth:=12) only [viz,↓reduceIte,Nat.reduceEqDiff,reduceCtorEq,Int.reduceEq,Int.reduceNeg,Nat.reduceAdd,Nat.reduceLeDiff,hlen]))
  refine W_inv x.length (fun i E s' => Keep s1.next s1 s' ∧ E.get 5 = w ∧ E.get 17 = w ∧ E.get 18 = .int .i64 x.length ∧ E.get 19 = .int .i64 i ∧ ∀ j k a b, j < i → x[j]? = some a → x[k]? = some b → badF j k a b = false) (by delta cf5l0 oo on om og oc ou; exact rfl) ?_ ?_
  · (repeat' (with_reducible first|refine w_1 ?_|refine w_2 ?_|refine w_3 ?_|refine w_4 ?_|refine w_5 ?_|refine w_6 ?_|refine w_7 ?_|(refine w_8 (fun hb=>?_) (fun hb=>?_)<;>(try simp only [Bool.not_eq_true',Bool.not_eq_false'] at hb)<;>try simp only [hb])|(refine w_9 ?_;simp (maxDischargeDepth:=12) only [viz,↓reduceIte,Nat.reduceEqDiff,reduceCtorEq,Int.reduceEq,Int.reduceNeg,Nat.reduceAdd,Nat.reduceLeDiff])|refine w_10 (fun hc=>(by (try simp only [Bool.and_eq_true] at hc);simp (maxDischargeDepth:=12) only [viz,↓reduceIte,Nat.reduceEqDiff,reduceCtorEq,Int.reduceEq,Int.reduceNeg,Nat.reduceAdd,Nat.reduceLeDiff,hc];first|exact ⟨rfl,rfl⟩|exact rfl)) ?_|refine w_11 (fun hc=>(by (try simp only [Bool.and_eq_true] at hc);simp (maxDischargeDepth:=12) only [viz,↓reduceIte,Nat.reduceEqDiff,reduceCtorEq,Int.reduceEq,Int.reduceNeg,Nat.reduceAdd,Nat.reduceLeDiff,hc];first|exact ⟨rfl,rfl⟩|exact rfl)) ?_|refine w_12 ?_|simp (maxDischargeDepth:=12) only [viz,↓reduceIte,Nat.reduceEqDiff,reduceCtorEq,Int.reduceEq,Int.reduceNeg,Nat.reduceAdd,Nat.reduceLeDiff]))
    exact ⟨rfl, by omega⟩
  rintro i E s' hile _ ⟨hi, g5, g17, g18, g19, hno⟩
  by_cases hlt : i < x.length
  · obtain ⟨a, ha⟩ := get_of hlt
    obtain ⟨c, hc2, hca⟩ := hys.get ha
    obtain ⟨q, hq, P⟩ := hsl.atk hI hc2
    have hld : loadA s' true 12 q = some (.agg c) := by rw [P.ld _ hi, hca.one]
    have hfl := hi.ok f1
    obtain ⟨k1, w1, rfl, hk1, hw1⟩ := hca
    (repeat' (with_reducible first|refine w_1 ?_|refine w_2 ?_|refine w_3 ?_|refine w_4 ?_|refine w_5 ?_|refine w_6 ?_|refine w_7 ?_|(refine w_8 (fun hb=>?_) (fun hb=>?_)<;>(try simp only [Bool.not_eq_true',Bool.not_eq_false'] at hb)<;>try simp only [hb])|(refine w_9 ?_;simp (maxDischargeDepth:=12) only [viz,↓reduceIte,Nat.reduceEqDiff,reduceCtorEq,Int.reduceEq,Int.reduceNeg,Nat.reduceAdd,Nat.reduceLeDiff,g5,g17,g18,g19,lt_true hlt,hq,hld,hk1.cell,hw1.cell,hfl,hlen])|refine w_10 (fun hc=>(by (try simp only [Bool.and_eq_true] at hc);simp (maxDischargeDepth:=12) only [viz,↓reduceIte,Nat.reduceEqDiff,reduceCtorEq,Int.reduceEq,Int.reduceNeg,Nat.reduceAdd,Nat.reduceLeDiff,g5,g17,g18,g19,lt_true hlt,hq,hld,hk1.cell,hw1.cell,hfl,hlen,hc];first|exact ⟨rfl,rfl⟩|exact rfl)) ?_|refine w_11 (fun hc=>(by (try simp only [Bool.and_eq_true] at hc);simp (maxDischargeDepth:=12) only [viz,↓reduceIte,Nat.reduceEqDiff,reduceCtorEq,Int.reduceEq,Int.reduceNeg,Nat.reduceAdd,Nat.reduceLeDiff,g5,g17,g18,g19,lt_true hlt,hq,hld,hk1.cell,hw1.cell,hfl,hlen,hc];first|exact ⟨rfl,rfl⟩|exact rfl)) ?_|refine w_12 ?_|simp (maxDischargeDepth:=12) only [viz,↓reduceIte,Nat.reduceEqDiff,reduceCtorEq,Int.reduceEq,Int.reduceNeg,Nat.reduceAdd,Nat.reduceLeDiff,g5,g17,g18,g19,lt_true hlt,hq,hld,hk1.cell,hw1.cell,hfl,hlen]))
    have hp := pushes s' ⟨46, 12, [[.int .i64 a.call.kind, k1, .int .u64 a.call.token, .int .i64 a.call.ttl, .int .i64 a.frm, .int .i64 a.to, .bool a.known, .int .i64 a.reply.code, .int .u64 a.reply.token, w1, .int .i64 a.start, .int .i64 a.stop]]⟩
    refine W_inv x.length (fun k E2 s2 => Kp s' ⟨46, 12, [[.int .i64 a.call.kind, k1, .int .u64 a.call.token, .int .i64 a.call.ttl, .int .i64 a.frm, .int .i64 a.to, .bool a.known, .int .i64 a.reply.code, .int .u64 a.reply.token, w1, .int .i64 a.start, .int .i64 a.stop]]⟩ s2 ∧ E2.get 5 = w ∧ E2.get 17 = w ∧ E2.get 18 = .int .i64 x.length ∧ E2.get 19 = .int .i64 i ∧ E2.get 6 = .int .i64 i ∧ E2.get 7 = .ptr s'.next 0 0 ∧ E2.get 24 = w ∧ E2.get 25 = .int .i64 x.length ∧ E2.get 26 = .int .i64 k ∧ ∀ j b, j < k → x[j]? = some b → badF i j a b = false) (by delta cf5l1 oo on om og oc ou; exact rfl) ?_ ?_
    · (repeat' (with_reducible first|refine w_1 ?_|refine w_2 ?_|refine w_3 ?_|refine w_4 ?_|refine w_5 ?_|refine w_6 ?_|refine w_7 ?_|(refine w_8 (fun hb=>?_) (fun hb=>?_)<;>(try simp only [Bool.not_eq_true',Bool.not_eq_false'] at hb)<;>try simp only [hb])|(refine w_9 ?_;simp (maxDischargeDepth:=12) only [viz,↓reduceIte,Nat.reduceEqDiff,reduceCtorEq,Int.reduceEq,Int.reduceNeg,Nat.reduceAdd,Nat.reduceLeDiff,g5,g17,g18,g19])|refine w_10 (fun hc=>(by (try simp only [Bool.and_eq_true] at hc);simp (maxDischargeDepth:=12) only [viz,↓reduceIte,Nat.reduceEqDiff,reduceCtorEq,Int.reduceEq,Int.reduceNeg,Nat.reduceAdd,Nat.reduceLeDiff,g5,g17,g18,g19,hc];first|exact ⟨rfl,rfl⟩|exact rfl)) ?_|refine w_11 (fun hc=>(by (try simp only [Bool.and_eq_true] at hc);simp (maxDischargeDepth:=12) only [viz,↓reduceIte,Nat.reduceEqDiff,reduceCtorEq,Int.reduceEq,Int.reduceNeg,Nat.reduceAdd,Nat.reduceLeDiff,g5,g17,g18,g19,hc];first|exact ⟨rfl,rfl⟩|exact rfl)) ?_|refine w_12 ?_|simp (maxDischargeDepth:=12) only [viz,↓reduceIte,Nat.reduceEqDiff,reduceCtorEq,Int.reduceEq,Int.reduceNeg,Nat.reduceAdd,Nat.reduceLeDiff,g5,g17,g18,g19]))
      exact ⟨Kp.of_push _ _, rfl, by omega⟩
    rintro k E2 s2 hkle _ ⟨hkp, e5, e17, e18, e19, e6, e7, e24, e25, e26, hno2⟩
    have gr := hkp.g
    by_cases hlt2 : k < x.length
    · obtain ⟨b, hb'⟩ := get_of hlt2
      obtain ⟨c3, hc3, hcb3⟩ := hys.get hb'
      obtain ⟨q2, hq2, P2⟩ := hsl.atk hI hc3
      have hld2 : loadA s2 true 12 q2 = some (.agg c3) := by rw [P2.ld _ (hi.then hkp.k), hcb3.one]
      have hfl2 := (hi.then hkp.k).ok f1
      have hne : (s'.next = s2.next) = False := by have := hkp.n; simp; omega
      obtain ⟨k3, w3, rfl, hk3, hw3⟩ := hcb3
      (repeat' (with_reducible first|refine w_1 ?_|refine w_2 ?_|refine w_3 ?_|refine w_4 ?_|refine w_5 ?_|refine w_6 ?_|refine w_7 ?_|(refine w_8 (fun hb=>?_) (fun hb=>?_)<;>(try simp only [Bool.not_eq_true',Bool.not_eq_false'] at hb)<;>try simp only [hb])|(refine w_9 ?_;simp (maxDischargeDepth:=12) only [viz,↓reduceIte,Nat.reduceEqDiff,reduceCtorEq,Int.reduceEq,Int.reduceNeg,Nat.reduceAdd,Nat.reduceLeDiff,e5,e17,e18,e19,e6,e7,e24,e25,e26,lt_true hlt2,hq2,hld2,hk3.cell,hw3.cell,hfl2,gr,hne])|refine w_10 (fun hc=>(by (try simp only [Bool.and_eq_true] at hc);simp (maxDischargeDepth:=12) only [viz,↓reduceIte,Nat.reduceEqDiff,reduceCtorEq,Int.reduceEq,Int.reduceNeg,Nat.reduceAdd,Nat.reduceLeDiff,e5,e17,e18,e19,e6,e7,e24,e25,e26,lt_true hlt2,hq2,hld2,hk3.cell,hw3.cell,hfl2,gr,hne,hc];first|exact ⟨rfl,rfl⟩|exact rfl)) ?_|refine w_11 (fun hc=>(by (try simp only [Bool.and_eq_true] at hc);simp (maxDischargeDepth:=12) only [viz,↓reduceIte,Nat.reduceEqDiff,reduceCtorEq,Int.reduceEq,Int.reduceNeg,Nat.reduceAdd,Nat.reduceLeDiff,e5,e17,e18,e19,e6,e7,e24,e25,e26,lt_true hlt2,hq2,hld2,hk3.cell,hw3.cell,hfl2,gr,hne,hc];first|exact ⟨rfl,rfl⟩|exact rfl)) ?_|refine w_12 ?_|simp (maxDischargeDepth:=12) only [viz,↓reduceIte,Nat.reduceEqDiff,reduceCtorEq,Int.reduceEq,Int.reduceNeg,Nat.reduceAdd,Nat.reduceLeDiff,e5,e17,e18,e19,e6,e7,e24,e25,e26,lt_true hlt2,hq2,hld2,hk3.cell,hw3.cell,hfl2,gr,hne]))
      · refine hKK false _ ((h0.then h1).then (hi.then (hkp.k.then (pushes _ _)))) (iff_of_false (by simp) fun hF => ?_)
        have := hF i k a b ha hb'
        simp only [badF] at this
        grind
      · refine ⟨hlt2, hkp.then (pushes _ _), succ_av (by omega), fun j y hj hy => ?_⟩
        by_cases hjk : j = k
        · subst hjk
          rw [hb'] at hy
          obtain rfl := Option.some.inj hy
          simp only [badF]
          grind
        · exact hno2 j y (by omega) hy
    · (repeat' (with_reducible first|refine w_1 ?_|refine w_2 ?_|refine w_3 ?_|refine w_4 ?_|refine w_5 ?_|refine w_6 ?_|refine w_7 ?_|(refine w_8 (fun hb=>?_) (fun hb=>?_)<;>(try simp only [Bool.not_eq_true',Bool.not_eq_false'] at hb)<;>try simp only [hb])|(refine w_9 ?_;simp (maxDischargeDepth:=12) only [viz,↓reduceIte,Nat.reduceEqDiff,reduceCtorEq,Int.reduceEq,Int.reduceNeg,Nat.reduceAdd,Nat.reduceLeDiff,e5,e17,e18,e19,e6,e7,e24,e25,e26,lt_false hlt2])|refine w_10 (fun hc=>(by (try simp only [Bool.and_eq_true] at hc);simp (maxDischargeDepth:=12) only [viz,↓reduceIte,Nat.reduceEqDiff,reduceCtorEq,Int.reduceEq,Int.reduceNeg,Nat.reduceAdd,Nat.reduceLeDiff,e5,e17,e18,e19,e6,e7,e24,e25,e26,lt_false hlt2,hc];first|exact ⟨rfl,rfl⟩|exact rfl)) ?_|refine w_11 (fun hc=>(by (try simp only [Bool.and_eq_true] at hc);simp (maxDischargeDepth:=12) only [viz,↓reduceIte,Nat.reduceEqDiff,reduceCtorEq,Int.reduceEq,Int.reduceNeg,Nat.reduceAdd,Nat.reduceLeDiff,e5,e17,e18,e19,e6,e7,e24,e25,e26,lt_false hlt2,hc];first|exact ⟨rfl,rfl⟩|exact rfl)) ?_|refine w_12 ?_|simp (maxDischargeDepth:=12) only [viz,↓reduceIte,Nat.reduceEqDiff,reduceCtorEq,Int.reduceEq,Int.reduceNeg,Nat.reduceAdd,Nat.reduceLeDiff,e5,e17,e18,e19,e6,e7,e24,e25,e26,lt_false hlt2]))
      refine ⟨hlt, hi.then hkp.k, succ_av (by omega), fun j k' a' b' hj ha' hb' => ?_⟩
      by_cases hji : j = i
      · subst hji
        rw [ha] at ha'
        obtain rfl := Option.some.inj ha'
        exact hno2 k' b' (by have := (List.getElem?_eq_some_iff.mp hb').1; omega) hb'
      · exact hno j k' a' b' (by omega) ha' hb'
  · (repeat' (with_reducible first|refine w_1 ?_|refine w_2 ?_|refine w_3 ?_|refine w_4 ?_|refine w_5 ?_|refine w_6 ?_|refine w_7 ?_|(refine w_8 (fun hb=>?_) (fun hb=>?_)<;>(try simp only [Bool.not_eq_true',Bool.not_eq_false'] at hb)<;>try simp only [hb])|(refine w_9 ?_;simp (maxDischargeDepth:=12) only [viz,↓reduceIte,Nat.reduceEqDiff,reduceCtorEq,Int.reduceEq,Int.reduceNeg,Nat.reduceAdd,Nat.reduceLeDiff,g5,g17,g18,g19,lt_false hlt])|refine w_10 (fun hc=>(by (try simp only [Bool.and_eq_true] at hc);simp (maxDischargeDepth:=12) only [viz,↓reduceIte,Nat.reduceEqDiff,reduceCtorEq,Int.reduceEq,Int.reduceNeg,Nat.reduceAdd,Nat.reduceLeDiff,g5,g17,g18,g19,lt_false hlt,hc];first|exact ⟨rfl,rfl⟩|exact rfl)) ?_|refine w_11 (fun hc=>(by (try simp only [Bool.and_eq_true] at hc);simp (maxDischargeDepth:=12) only [viz,↓reduceIte,Nat.reduceEqDiff,reduceCtorEq,Int.reduceEq,Int.reduceNeg,Nat.reduceAdd,Nat.reduceLeDiff,g5,g17,g18,g19,lt_false hlt,hc];first|exact ⟨rfl,rfl⟩|exact rfl)) ?_|refine w_12 ?_|simp (maxDischargeDepth:=12) only [viz,↓reduceIte,Nat.reduceEqDiff,reduceCtorEq,Int.reduceEq,Int.reduceNeg,Nat.reduceAdd,Nat.reduceLeDiff,g5,g17,g18,g19,lt_false hlt]))
    exact hKK true _ ((h0.then h1).then hi) (iff_of_true rfl fun j k a b ha hb => hno j k a b (by have := (List.getElem?_eq_some_iff.mp ha).1; omega) ha hb)
end Go.Proofs.YtmjgakhnhjpclaaGreat
/- Nobody lost a lock too soon: the program's answer. No statement of the seat is proved here. -/
namespace Go.Proofs.YtmjgakhnhjpclaaGreat
open Go Go.VI
set_option linter.unusedSimpArgs false
def lost (all : List Sp) (a b : Sp) (key : Txt) : Bool := b.call.keys.contains key && !all.any (frees a.reply.token key b.to)
def badL (all : List Sp) (a b : Sp) : Bool := !(decide (a.reply.token ≥ b.reply.token) || decide (IntKind.i64.wrap (b.stop - a.start) ≥ a.call.ttl)) && a.call.keys.any (lost all a b)
def Leased (all x : List Sp) : Prop := ∀ (i k : Nat) (a b : Sp), x[i]? = some a → x[k]? = some b → badL all a b = false
attribute [local irreducible] Ws Wp W C
set_option maxHeartbeats 4000000
theorem leases_c {l : List Event} {v : AV} {s : Mem} {K : AV → Mem → Prop} (hf : s.floor ≤ s.next) (hv : Evs v l)
    (hbad : chk l ≠ 0 → ∀ s', Keep s.next s s' → K (.tup [.bool false, .int .i64 (chk l)]) s')
    (hK : chk l = 0 → ∀ b s', Keep s.next s s' → (b = true ↔ Leased (spans l) ((spans l).filter took)) → K (.tup [.bool b, .int .i64 0]) s') : C tab 6 [v] s K := by
  refine C_enter (cf := cf6) rfl (Nat.le_of_ble_eq_true rfl) ?_
  simp only [cf6, oo, on, om, og, oc, ou]
  (repeat' (with_reducible first|refine w_1 ?_|refine w_2 ?_|refine w_3 ?_|refine w_4 ?_|refine w_5 ?_|refine w_6 ?_|refine w_7 ?_|(refine w_8 (fun hb=>?_) (fun hb=>?_)<;>(try simp only [Bool.not_eq_true',Bool.not_eq_false'] at hb)<;>try simp only [hb])|(refine w_9 ?_;simp (maxDischargeDepth:=12) only [viz,↓reduceIte,Nat.reduceEqDiff,reduceCtorEq,Int.reduceEq,Int.reduceNeg,Nat.reduceAdd,Nat.reduceLeDiff])|refine w_10 (fun hc=>(by (try simp only [Bool.and_eq_true] at hc);simp (maxDischargeDepth:=12) only [viz,↓reduceIte,Nat.reduceEqDiff,reduceCtorEq,Int.reduceEq,Int.reduceNeg,Nat.reduceAdd,Nat.reduceLeDiff,hc];first|exact ⟨rfl,rfl⟩|exact rfl)) ?_|refine w_11 (fun hc=>(by (try simp only [Bool.and_eq_true] at hc);simp (maxDischargeDepth:=12) only [viz,↓reduceIte,Nat.reduceEqDiff,reduceCtorEq,Int.reduceEq,Int.reduceNeg,Nat.reduceAdd,Nat.reduceLeDiff,hc];first|exact ⟨rfl,rfl⟩|exact rfl)) ?_|refine w_12 ?_|simp (maxDischargeDepth:=12) only [viz,↓reduceIte,Nat.reduceEqDiff,reduceCtorEq,Int.reduceEq,Int.reduceNeg,Nat.reduceAdd,Nat.reduceLeDiff]))
  refine hcheck_c hf hv fun s0 h0 => ?_
  have f0 := h0.ok hf
  by_cases hc : chk l = 0
  case neg =>
    have hcb : (chk l != 0) = true := by simpa using hc
    (repeat' (with_reducible first|refine w_1 ?_|refine w_2 ?_|refine w_3 ?_|refine w_4 ?_|refine w_5 ?_|refine w_6 ?_|refine w_7 ?_|(refine w_8 (fun hb=>?_) (fun hb=>?_)<;>(try simp only [Bool.not_eq_true',Bool.not_eq_false'] at hb)<;>try simp only [hb])|(refine w_9 ?_;simp (maxDischargeDepth:=12) only [viz,↓reduceIte,Nat.reduceEqDiff,reduceCtorEq,Int.reduceEq,Int.reduceNeg,Nat.reduceAdd,Nat.reduceLeDiff,hcb])|refine w_10 (fun hc=>(by (try simp only [Bool.and_eq_true] at hc);simp (maxDischargeDepth:=12) only [viz,↓reduceIte,Nat.reduceEqDiff,reduceCtorEq,Int.reduceEq,Int.reduceNeg,Nat.reduceAdd,Nat.reduceLeDiff,hcb,hc];first|exact ⟨rfl,rfl⟩|exact rfl)) ?_|refine w_11 (fun hc=>(by (try simp only [Bool.and_eq_true] at hc);simp (maxDischargeDepth:=12) only [viz,↓reduceIte,Nat.reduceEqDiff,reduceCtorEq,Int.reduceEq,Int.reduceNeg,Nat.reduceAdd,Nat.reduceLeDiff,hcb,hc];first|exact ⟨rfl,rfl⟩|exact rfl)) ?_|refine w_12 ?_|simp (maxDischargeDepth:=12) only [viz,↓reduceIte,Nat.reduceEqDiff,reduceCtorEq,Int.reduceEq,Int.reduceNeg,Nat.reduceAdd,Nat.reduceLeDiff,hcb]))
    exact hbad hc _ h0
  have hcb : (chk l != 0) = false := by simpa using hc
  obtain ⟨h64, hok⟩ := chk_zero hc
  have ha64 : (spans l).length ≤ 64 := Nat.le_trans (spans_len l) h64
  have hx64 : ((spans l).filter took).length ≤ 64 := Nat.le_trans (List.length_filter_le _ _) ha64
  have hKK := hK hc
  have hs16 := spans16 hc
  (repeat' (with_reducible first|refine w_1 ?_|refine w_2 ?_|refine w_3 ?_|refine w_4 ?_|refine w_5 ?_|refine w_6 ?_|refine w_7 ?_|(refine w_8 (fun hb=>?_) (fun hb=>?_)<;>(try simp only [Bool.not_eq_true',Bool.not_eq_false'] at hb)<;>try simp only [hb])|(refine w_9 ?_;simp (maxDischargeDepth:=12) only [viz,↓reduceIte,Nat.reduceEqDiff,reduceCtorEq,Int.reduceEq,Int.reduceNeg,Nat.reduceAdd,Nat.reduceLeDiff,hcb])|refine w_10 (fun hc=>(by (try simp only [Bool.and_eq_true] at hc);simp (maxDischargeDepth:=12) only [viz,↓reduceIte,Nat.reduceEqDiff,reduceCtorEq,Int.reduceEq,Int.reduceNeg,Nat.reduceAdd,Nat.reduceLeDiff,hcb,hc];first|exact ⟨rfl,rfl⟩|exact rfl)) ?_|refine w_11 (fun hc=>(by (try simp only [Bool.and_eq_true] at hc);simp (maxDischargeDepth:=12) only [viz,↓reduceIte,Nat.reduceEqDiff,reduceCtorEq,Int.reduceEq,Int.reduceNeg,Nat.reduceAdd,Nat.reduceLeDiff,hcb,hc];first|exact ⟨rfl,rfl⟩|exact rfl)) ?_|refine w_12 ?_|simp (maxDischargeDepth:=12) only [viz,↓reduceIte,Nat.reduceEqDiff,reduceCtorEq,Int.reduceEq,Int.reduceNeg,Nat.reduceAdd,Nat.reduceLeDiff,hcb]))
  refine spans_c f0 hv h64 fun wa sa yas h1a hoa hyas => ?_
  have fa := h1a.ok f0
  (repeat' (with_reducible first|refine w_1 ?_|refine w_2 ?_|refine w_3 ?_|refine w_4 ?_|refine w_5 ?_|refine w_6 ?_|refine w_7 ?_|(refine w_8 (fun hb=>?_) (fun hb=>?_)<;>(try simp only [Bool.not_eq_true',Bool.not_eq_false'] at hb)<;>try simp only [hb])|(refine w_9 ?_;simp (maxDischargeDepth:=12) only [viz,↓reduceIte,Nat.reduceEqDiff,reduceCtorEq,Int.reduceEq,Int.reduceNeg,Nat.reduceAdd,Nat.reduceLeDiff])|refine w_10 (fun hc=>(by (try simp only [Bool.and_eq_true] at hc);simp (maxDischargeDepth:=12) only [viz,↓reduceIte,Nat.reduceEqDiff,reduceCtorEq,Int.reduceEq,Int.reduceNeg,Nat.reduceAdd,Nat.reduceLeDiff,hc];first|exact ⟨rfl,rfl⟩|exact rfl)) ?_|refine w_11 (fun hc=>(by (try simp only [Bool.and_eq_true] at hc);simp (maxDischargeDepth:=12) only [viz,↓reduceIte,Nat.reduceEqDiff,reduceCtorEq,Int.reduceEq,Int.reduceNeg,Nat.reduceAdd,Nat.reduceLeDiff,hc];first|exact ⟨rfl,rfl⟩|exact rfl)) ?_|refine w_12 ?_|simp (maxDischargeDepth:=12) only [viz,↓reduceIte,Nat.reduceEqDiff,reduceCtorEq,Int.reduceEq,Int.reduceNeg,Nat.reduceAdd,Nat.reduceLeDiff]))
  refine taken_c fa hv h64 hs16 fun w s1 ys h1b hsl hys => ?_
  have h1 := h1a.then h1b
  have f1 := h1b.ok fa
  have hI : In (fun q => sa.next ≤ q ∧ q < s1.next) s1 := fun q hq => hq.2
  have hsa : Sl s1 (fun q => s0.next ≤ q ∧ q < s1.next) wa 12 yas := ((hoa.sl (D := fun q => s0.next ≤ q ∧ q < sa.next) (fun c hc => by obtain ⟨x, hx⟩ := hyas.mem hc; exact hx.len) fun q n h => hoa.row q _ _ _ h).keep fun q hq => h1b.get q hq.2).mono fun q hq => ⟨hq.1, Nat.lt_of_lt_of_le hq.2 h1b.next⟩
  have hIa : In (fun q => s0.next ≤ q ∧ q < s1.next) s1 := fun q hq => hq.2
  have hm16 : ∀ y ∈ (spans l).filter took, y.call.keys.length ≤ 16 := fun y hy => hs16 y (List.mem_filter.mp hy).1
  generalize hX : (spans l).filter took = x at hys hx64 hKK hm16
  generalize hA : spans l = all at hyas ha64 hKK hs16
  have hlen : lenA false w = some x.length := by rw [hsl.len, hys.1]
  (repeat' (with_reducible first|refine w_1 ?_|refine w_2 ?_|refine w_3 ?_|refine w_4 ?_|refine w_5 ?_|refine w_6 ?_|refine w_7 ?_|(refine w_8 (fun hb=>?_) (fun hb=>?_)<;>(try simp only [Bool.not_eq_true',Bool.not_eq_false'] at hb)<;>try simp only [hb])|(refine w_9 ?_;simp (maxDischargeDepth:=12) only [viz,↓reduceIte,Nat.reduceEqDiff,reduceCtorEq,Int.reduceEq,Int.reduceNeg,Nat.reduceAdd,Nat.reduceLeDiff,hlen])|refine w_10 (fun hc=>(by (try simp only [Bool.and_eq_true] at hc);simp (maxDischargeDepth:=12) only [viz,↓reduceIte,Nat.reduceEqDiff,reduceCtorEq,Int.reduceEq,Int.reduceNeg,Nat.reduceAdd,Nat.reduceLeDiff,hlen,hc];first|exact ⟨rfl,rfl⟩|exact rfl)) ?_|refine w_11 (fun hc=>(by (try simp only [Bool.and_eq_true] at hc);simp (maxDischargeDepth:=12) only [viz,↓reduceIte,Nat.reduceEqDiff,reduceCtorEq,Int.reduceEq,Int.reduceNeg,Nat.reduceAdd,Nat.reduceLeDiff,hlen,hc];first|exact ⟨rfl,rfl⟩|exact rfl)) ?_|refine w_12 ?_|simp (maxDischargeDepth:=12) only [viz,↓reduceIte,Nat.reduceEqDiff,reduceCtorEq,Int.reduceEq,Int.reduceNeg,Nat.reduceAdd,Nat.reduceLeDiff,hlen]))
  refine W_inv x.length (fun i E s' => Keep s1.next s1 s' ∧ E.get 5 = wa ∧ E.get 6 = w ∧ E.get 22 = w ∧ E.get 23 = .int .i64 x.length ∧ E.get 24 = .int .i64 i ∧ ∀ (j k : Nat) (a b : Sp), j < i → x[j]? = some a → x[k]? = some b → badL all a b = false) (by delta cf6l0 oo on om og oc ou; exact rfl) ?_ ?_
  · (repeat' (with_reducible first|refine w_1 ?_|refine w_2 ?_|refine w_3 ?_|refine w_4 ?_|refine w_5 ?_|refine w_6 ?_|refine w_7 ?_|(refine w_8 (fun hb=>?_) (fun hb=>?_)<;>(try simp only [Bool.not_eq_true',Bool.not_eq_false'] at hb)<;>try simp only [hb])|(refine w_9 ?_;simp (maxDischargeDepth:=12) only [viz,↓reduceIte,Nat.reduceEqDiff,reduceCtorEq,Int.reduceEq,Int.reduceNeg,Nat.reduceAdd,Nat.reduceLeDiff])|refine w_10 (fun hc=>(by (try simp only [Bool.and_eq_true] at hc);simp (maxDischargeDepth:=12) only [viz,↓reduceIte,Nat.reduceEqDiff,reduceCtorEq,Int.reduceEq,Int.reduceNeg,Nat.reduceAdd,Nat.reduceLeDiff,hc];first|exact ⟨rfl,rfl⟩|exact rfl)) ?_|refine w_11 (fun hc=>(by (try simp only [Bool.and_eq_true] at hc);simp (maxDischargeDepth:=12) only [viz,↓reduceIte,Nat.reduceEqDiff,reduceCtorEq,Int.reduceEq,Int.reduceNeg,Nat.reduceAdd,Nat.reduceLeDiff,hc];first|exact ⟨rfl,rfl⟩|exact rfl)) ?_|refine w_12 ?_|simp (maxDischargeDepth:=12) only [viz,↓reduceIte,Nat.reduceEqDiff,reduceCtorEq,Int.reduceEq,Int.reduceNeg,Nat.reduceAdd,Nat.reduceLeDiff]))
    exact ⟨rfl, by omega⟩
  rintro i E s' hile _ ⟨hi, g5, g6, g22, g23, g24, hno⟩
  by_cases hlt : i < x.length
  · obtain ⟨a, ha⟩ := get_of hlt
    obtain ⟨c, hc2, hca⟩ := hys.get ha
    obtain ⟨q, hq, P⟩ := hsl.atk hI hc2
    have hld : loadA s' true 12 q = some (.agg c) := by rw [P.ld _ hi, hca.one]
    have hfl := hi.ok f1
    have ha16 := hm16 a (List.mem_of_getElem? ha)
    obtain ⟨k1, w1, rfl, hk1, hw1⟩ := hca
    have hkl : lenA false k1 = some a.call.keys.length := by rw [hk1.lenA, List.length_map]
    (repeat' (with_reducible first|refine w_1 ?_|refine w_2 ?_|refine w_3 ?_|refine w_4 ?_|refine w_5 ?_|refine w_6 ?_|refine w_7 ?_|(refine w_8 (fun hb=>?_) (fun hb=>?_)<;>(try simp only [Bool.not_eq_true',Bool.not_eq_false'] at hb)<;>try simp only [hb])|(refine w_9 ?_;simp (maxDischargeDepth:=12) only [viz,↓reduceIte,Nat.reduceEqDiff,reduceCtorEq,Int.reduceEq,Int.reduceNeg,Nat.reduceAdd,Nat.reduceLeDiff,g5,g6,g22,g23,g24,lt_true hlt,hq,hld,hk1.cell,hw1.cell,hfl,hlen])|refine w_10 (fun hc=>(by (try simp only [Bool.and_eq_true] at hc);simp (maxDischargeDepth:=12) only [viz,↓reduceIte,Nat.reduceEqDiff,reduceCtorEq,Int.reduceEq,Int.reduceNeg,Nat.reduceAdd,Nat.reduceLeDiff,g5,g6,g22,g23,g24,lt_true hlt,hq,hld,hk1.cell,hw1.cell,hfl,hlen,hc];first|exact ⟨rfl,rfl⟩|exact rfl)) ?_|refine w_11 (fun hc=>(by (try simp only [Bool.and_eq_true] at hc);simp (maxDischargeDepth:=12) only [viz,↓reduceIte,Nat.reduceEqDiff,reduceCtorEq,Int.reduceEq,Int.reduceNeg,Nat.reduceAdd,Nat.reduceLeDiff,g5,g6,g22,g23,g24,lt_true hlt,hq,hld,hk1.cell,hw1.cell,hfl,hlen,hc];first|exact ⟨rfl,rfl⟩|exact rfl)) ?_|refine w_12 ?_|simp (maxDischargeDepth:=12) only [viz,↓reduceIte,Nat.reduceEqDiff,reduceCtorEq,Int.reduceEq,Int.reduceNeg,Nat.reduceAdd,Nat.reduceLeDiff,g5,g6,g22,g23,g24,lt_true hlt,hq,hld,hk1.cell,hw1.cell,hfl,hlen]))
    generalize hR : Row.mk 46 12 [[.int .i64 a.call.kind, k1, .int .u64 a.call.token, .int .i64 a.call.ttl, .int .i64 a.frm, .int .i64 a.to, .bool a.known, .int .i64 a.reply.code, .int .u64 a.reply.token, w1, .int .i64 a.start, .int .i64 a.stop]] = R
    refine W_inv x.length (fun k E2 s2 => Kp s' R s2 ∧ E2.get 5 = wa ∧ E2.get 6 = w ∧ E2.get 22 = w ∧ E2.get 23 = .int .i64 x.length ∧ E2.get 24 = .int .i64 i ∧ E2.get 8 = .ptr s'.next 0 0 ∧ E2.get 28 = w ∧ E2.get 29 = .int .i64 x.length ∧ E2.get 30 = .int .i64 k ∧ ∀ (j : Nat) (b : Sp), j < k → x[j]? = some b → badL all a b = false) (by delta cf6l1 oo on om og oc ou; exact rfl) ?_ ?_
    · (repeat' (with_reducible first|refine w_1 ?_|refine w_2 ?_|refine w_3 ?_|refine w_4 ?_|refine w_5 ?_|refine w_6 ?_|refine w_7 ?_|(refine w_8 (fun hb=>?_) (fun hb=>?_)<;>(try simp only [Bool.not_eq_true',Bool.not_eq_false'] at hb)<;>try simp only [hb])|(refine w_9 ?_;simp (maxDischargeDepth:=12) only [viz,↓reduceIte,Nat.reduceEqDiff,reduceCtorEq,Int.reduceEq,Int.reduceNeg,Nat.reduceAdd,Nat.reduceLeDiff,g5,g6,g22,g23,g24])|refine w_10 (fun hc=>(by (try simp only [Bool.and_eq_true] at hc);simp (maxDischargeDepth:=12) only [viz,↓reduceIte,Nat.reduceEqDiff,reduceCtorEq,Int.reduceEq,Int.reduceNeg,Nat.reduceAdd,Nat.reduceLeDiff,g5,g6,g22,g23,g24,hc];first|exact ⟨rfl,rfl⟩|exact rfl)) ?_|refine w_11 (fun hc=>(by (try simp only [Bool.and_eq_true] at hc);simp (maxDischargeDepth:=12) only [viz,↓reduceIte,Nat.reduceEqDiff,reduceCtorEq,Int.reduceEq,Int.reduceNeg,Nat.reduceAdd,Nat.reduceLeDiff,g5,g6,g22,g23,g24,hc];first|exact ⟨rfl,rfl⟩|exact rfl)) ?_|refine w_12 ?_|simp (maxDischargeDepth:=12) only [viz,↓reduceIte,Nat.reduceEqDiff,reduceCtorEq,Int.reduceEq,Int.reduceNeg,Nat.reduceAdd,Nat.reduceLeDiff,g5,g6,g22,g23,g24]))
      exact ⟨Kp.of_push _ _, rfl, by omega⟩
    rintro k E2 s2 hkle _ ⟨hkp, e5, e6, e22, e23, e24, e8, e28, e29, e30, hno2⟩
    have gr := hkp.g
    rw [← hR] at gr
    by_cases hlt2 : k < x.length
    · obtain ⟨b, hb'⟩ := get_of hlt2
      obtain ⟨c3, hc3, hcb3⟩ := hys.get hb'
      obtain ⟨q2, hq2, P2⟩ := hsl.atk hI hc3
      have hld2 : loadA s2 true 12 q2 = some (.agg c3) := by rw [P2.ld _ (hi.then hkp.k), hcb3.one]
      have hfl2 := (hi.then hkp.k).ok f1
      have hne : (s'.next = s2.next) = False := by have := hkp.n; simp; omega
      have hb16 := hm16 b (List.mem_of_getElem? hb')
      obtain ⟨k3, w3, rfl, hk3, hw3⟩ := hcb3
      (repeat' (with_reducible first|refine w_1 ?_|refine w_2 ?_|refine w_3 ?_|refine w_4 ?_|refine w_5 ?_|refine w_6 ?_|refine w_7 ?_|(refine w_8 (fun hb=>?_) (fun hb=>?_)<;>(try simp only [Bool.not_eq_true',Bool.not_eq_false'] at hb)<;>try simp only [hb])|(refine w_9 ?_;simp (maxDischargeDepth:=12) only [viz,↓reduceIte,Nat.reduceEqDiff,reduceCtorEq,Int.reduceEq,Int.reduceNeg,Nat.reduceAdd,Nat.reduceLeDiff,e5,e6,e22,e23,e24,e8,e28,e29,e30,lt_true hlt2,hq2,hld2,hk1.cell,hk3.cell,hw3.cell,hfl2,gr,hne,hkl])|refine w_10 (fun hc=>(by (try simp only [Bool.and_eq_true] at hc);simp (maxDischargeDepth:=12) only [viz,↓reduceIte,Nat.reduceEqDiff,reduceCtorEq,Int.reduceEq,Int.reduceNeg,Nat.reduceAdd,Nat.reduceLeDiff,e5,e6,e22,e23,e24,e8,e28,e29,e30,lt_true hlt2,hq2,hld2,hk1.cell,hk3.cell,hw3.cell,hfl2,gr,hne,hkl,hc];first|exact ⟨rfl,rfl⟩|exact rfl)) ?_|refine w_11 (fun hc=>(by (try simp only [Bool.and_eq_true] at hc);simp (maxDischargeDepth:=12) only [viz,↓reduceIte,Nat.reduceEqDiff,reduceCtorEq,Int.reduceEq,Int.reduceNeg,Nat.reduceAdd,Nat.reduceLeDiff,e5,e6,e22,e23,e24,e8,e28,e29,e30,lt_true hlt2,hq2,hld2,hk1.cell,hk3.cell,hw3.cell,hfl2,gr,hne,hkl,hc];first|exact ⟨rfl,rfl⟩|exact rfl)) ?_|refine w_12 ?_|simp (maxDischargeDepth:=12) only [viz,↓reduceIte,Nat.reduceEqDiff,reduceCtorEq,Int.reduceEq,Int.reduceNeg,Nat.reduceAdd,Nat.reduceLeDiff,e5,e6,e22,e23,e24,e8,e28,e29,e30,lt_true hlt2,hq2,hld2,hk1.cell,hk3.cell,hw3.cell,hfl2,gr,hne,hkl]))
      · refine ⟨hlt2, hkp.then (pushes _ _), succ_av (by omega), fun j y hj hy => ?_⟩
        by_cases hjk : j = k
        · subst hjk
          rw [hb'] at hy
          obtain rfl := Option.some.inj hy
          simp only [badL, hb, Bool.not_true, Bool.false_and]
        · exact hno2 j y (by omega) hy
      generalize hRb : Row.mk 46 12 [[.int .i64 b.call.kind, k3, .int .u64 b.call.token, .int .i64 b.call.ttl, .int .i64 b.frm, .int .i64 b.to, .bool b.known, .int .i64 b.reply.code, .int .u64 b.reply.token, w3, .int .i64 b.start, .int .i64 b.stop]] = Rb
      refine W_inv a.call.keys.length (fun n E3 s3 => Kp s2 Rb s3 ∧ E3.get 5 = wa ∧ E3.get 6 = w ∧ E3.get 22 = w ∧ E3.get 23 = .int .i64 x.length ∧ E3.get 24 = .int .i64 i ∧ E3.get 8 = .ptr s'.next 0 0 ∧ E3.get 28 = w ∧ E3.get 29 = .int .i64 x.length ∧ E3.get 30 = .int .i64 k ∧ E3.get 10 = .ptr s2.next 0 0 ∧ E3.get 54 = k1 ∧ E3.get 55 = .int .i64 a.call.keys.length ∧ E3.get 56 = .int .i64 n ∧ ∀ (j : Nat) (key : Txt), j < n → a.call.keys[j]? = some key → lost all a b key = false) (by delta cf6l2 oo on om og oc ou; exact rfl) ?_ ?_
      · (repeat' (with_reducible first|refine w_1 ?_|refine w_2 ?_|refine w_3 ?_|refine w_4 ?_|refine w_5 ?_|refine w_6 ?_|refine w_7 ?_|(refine w_8 (fun hb=>?_) (fun hb=>?_)<;>(try simp only [Bool.not_eq_true',Bool.not_eq_false'] at hb)<;>try simp only [hb])|(refine w_9 ?_;simp (maxDischargeDepth:=12) only [viz,↓reduceIte,Nat.reduceEqDiff,reduceCtorEq,Int.reduceEq,Int.reduceNeg,Nat.reduceAdd,Nat.reduceLeDiff,e5,e6,e22,e23,e24,e8,e28,e29,e30])|refine w_10 (fun hc=>(by (try simp only [Bool.and_eq_true] at hc);simp (maxDischargeDepth:=12) only [viz,↓reduceIte,Nat.reduceEqDiff,reduceCtorEq,Int.reduceEq,Int.reduceNeg,Nat.reduceAdd,Nat.reduceLeDiff,e5,e6,e22,e23,e24,e8,e28,e29,e30,hc];first|exact ⟨rfl,rfl⟩|exact rfl)) ?_|refine w_11 (fun hc=>(by (try simp only [Bool.and_eq_true] at hc);simp (maxDischargeDepth:=12) only [viz,↓reduceIte,Nat.reduceEqDiff,reduceCtorEq,Int.reduceEq,Int.reduceNeg,Nat.reduceAdd,Nat.reduceLeDiff,e5,e6,e22,e23,e24,e8,e28,e29,e30,hc];first|exact ⟨rfl,rfl⟩|exact rfl)) ?_|refine w_12 ?_|simp (maxDischargeDepth:=12) only [viz,↓reduceIte,Nat.reduceEqDiff,reduceCtorEq,Int.reduceEq,Int.reduceNeg,Nat.reduceAdd,Nat.reduceLeDiff,e5,e6,e22,e23,e24,e8,e28,e29,e30]))
        exact ⟨Kp.of_push _ _, rfl, by omega⟩
      rintro n E3 s3 hnle _ ⟨hkb, d5, d6, d22, d23, d24, d8, d28, d29, d30, d10, d54, d55, d56, hno3⟩
      have gb := hkb.g
      rw [← hRb] at gb
      have gr3 := (hkb.k.get s'.next hkp.n).trans gr
      have hk13 := hi.then (hkp.k.then hkb.k)
      by_cases hlt3 : n < a.call.keys.length
      · obtain ⟨key, hkey⟩ := get_of hlt3
        have hpk : ∀ j, atA 1 k1 (.int j (n : Int)) = some (.ref [.str key]) := hk1.pt (c := txtC key) (i := n) (by rw [List.getElem?_map, hkey]; rfl)
        (repeat' (with_reducible first|refine w_1 ?_|refine w_2 ?_|refine w_3 ?_|refine w_4 ?_|refine w_5 ?_|refine w_6 ?_|refine w_7 ?_|(refine w_8 (fun hb=>?_) (fun hb=>?_)<;>(try simp only [Bool.not_eq_true',Bool.not_eq_false'] at hb)<;>try simp only [hb])|(refine w_9 ?_;simp (maxDischargeDepth:=12) only [viz,↓reduceIte,Nat.reduceEqDiff,reduceCtorEq,Int.reduceEq,Int.reduceNeg,Nat.reduceAdd,Nat.reduceLeDiff,d5,d6,d22,d23,d24,d8,d28,d29,d30,d10,d54,d55,d56,lt_true hlt3,hpk,gb,gr3])|refine w_10 (fun hc=>(by (try simp only [Bool.and_eq_true] at hc);simp (maxDischargeDepth:=12) only [viz,↓reduceIte,Nat.reduceEqDiff,reduceCtorEq,Int.reduceEq,Int.reduceNeg,Nat.reduceAdd,Nat.reduceLeDiff,d5,d6,d22,d23,d24,d8,d28,d29,d30,d10,d54,d55,d56,lt_true hlt3,hpk,gb,gr3,hc];first|exact ⟨rfl,rfl⟩|exact rfl)) ?_|refine w_11 (fun hc=>(by (try simp only [Bool.and_eq_true] at hc);simp (maxDischargeDepth:=12) only [viz,↓reduceIte,Nat.reduceEqDiff,reduceCtorEq,Int.reduceEq,Int.reduceNeg,Nat.reduceAdd,Nat.reduceLeDiff,d5,d6,d22,d23,d24,d8,d28,d29,d30,d10,d54,d55,d56,lt_true hlt3,hpk,gb,gr3,hc];first|exact ⟨rfl,rfl⟩|exact rfl)) ?_|refine w_12 ?_|simp (maxDischargeDepth:=12) only [viz,↓reduceIte,Nat.reduceEqDiff,reduceCtorEq,Int.reduceEq,Int.reduceNeg,Nat.reduceAdd,Nat.reduceLeDiff,d5,d6,d22,d23,d24,d8,d28,d29,d30,d10,d54,d55,d56,lt_true hlt3,hpk,gb,gr3]))
        refine strIn_c hk3 (by omega) ?_
        (repeat' (with_reducible first|refine w_1 ?_|refine w_2 ?_|refine w_3 ?_|refine w_4 ?_|refine w_5 ?_|refine w_6 ?_|refine w_7 ?_|(refine w_8 (fun hb=>?_) (fun hb=>?_)<;>(try simp only [Bool.not_eq_true',Bool.not_eq_false'] at hb)<;>try simp only [hb])|(refine w_9 ?_;simp (maxDischargeDepth:=12) only [viz,↓reduceIte,Nat.reduceEqDiff,reduceCtorEq,Int.reduceEq,Int.reduceNeg,Nat.reduceAdd,Nat.reduceLeDiff,d5,d6,d22,d23,d24,d8,d28,d29,d30,d10,d54,d55,d56,gb,gr3])|refine w_10 (fun hc=>(by (try simp only [Bool.and_eq_true] at hc);simp (maxDischargeDepth:=12) only [viz,↓reduceIte,Nat.reduceEqDiff,reduceCtorEq,Int.reduceEq,Int.reduceNeg,Nat.reduceAdd,Nat.reduceLeDiff,d5,d6,d22,d23,d24,d8,d28,d29,d30,d10,d54,d55,d56,gb,gr3,hc];first|exact ⟨rfl,rfl⟩|exact rfl)) ?_|refine w_11 (fun hc=>(by (try simp only [Bool.and_eq_true] at hc);simp (maxDischargeDepth:=12) only [viz,↓reduceIte,Nat.reduceEqDiff,reduceCtorEq,Int.reduceEq,Int.reduceNeg,Nat.reduceAdd,Nat.reduceLeDiff,d5,d6,d22,d23,d24,d8,d28,d29,d30,d10,d54,d55,d56,gb,gr3,hc];first|exact ⟨rfl,rfl⟩|exact rfl)) ?_|refine w_12 ?_|simp (maxDischargeDepth:=12) only [viz,↓reduceIte,Nat.reduceEqDiff,reduceCtorEq,Int.reduceEq,Int.reduceNeg,Nat.reduceAdd,Nat.reduceLeDiff,d5,d6,d22,d23,d24,d8,d28,d29,d30,d10,d54,d55,d56,gb,gr3]))
        · refine freed_c (D := fun q => s0.next ≤ q ∧ q < s1.next) (hk13.ok f1) (fun q hq => Nat.lt_of_lt_of_le hq.2 hk13.next) (hsa.keep fun q hq => hk13.get q hq.2) hyas ha64 hs16 fun s4 h4 => ?_
          (repeat' (with_reducible first|refine w_1 ?_|refine w_2 ?_|refine w_3 ?_|refine w_4 ?_|refine w_5 ?_|refine w_6 ?_|refine w_7 ?_|(refine w_8 (fun hb=>?_) (fun hb=>?_)<;>(try simp only [Bool.not_eq_true',Bool.not_eq_false'] at hb)<;>try simp only [hb])|(refine w_9 ?_;simp (maxDischargeDepth:=12) only [viz,↓reduceIte,Nat.reduceEqDiff,reduceCtorEq,Int.reduceEq,Int.reduceNeg,Nat.reduceAdd,Nat.reduceLeDiff,d5,d6,d22,d23,d24,d8,d28,d29,d30,d10,d54,d55,d56])|refine w_10 (fun hc=>(by (try simp only [Bool.and_eq_true] at hc);simp (maxDischargeDepth:=12) only [viz,↓reduceIte,Nat.reduceEqDiff,reduceCtorEq,Int.reduceEq,Int.reduceNeg,Nat.reduceAdd,Nat.reduceLeDiff,d5,d6,d22,d23,d24,d8,d28,d29,d30,d10,d54,d55,d56,hc];first|exact ⟨rfl,rfl⟩|exact rfl)) ?_|refine w_11 (fun hc=>(by (try simp only [Bool.and_eq_true] at hc);simp (maxDischargeDepth:=12) only [viz,↓reduceIte,Nat.reduceEqDiff,reduceCtorEq,Int.reduceEq,Int.reduceNeg,Nat.reduceAdd,Nat.reduceLeDiff,d5,d6,d22,d23,d24,d8,d28,d29,d30,d10,d54,d55,d56,hc];first|exact ⟨rfl,rfl⟩|exact rfl)) ?_|refine w_12 ?_|simp (maxDischargeDepth:=12) only [viz,↓reduceIte,Nat.reduceEqDiff,reduceCtorEq,Int.reduceEq,Int.reduceNeg,Nat.reduceAdd,Nat.reduceLeDiff,d5,d6,d22,d23,d24,d8,d28,d29,d30,d10,d54,d55,d56]))
          · rename_i hpr _ hct
            refine hKK false _ ((h0.then h1).then (hk13.then h4)) (iff_of_false (by simp) fun hF => ?_)
            have := hF i k a b ha hb'
            have hl : a.call.keys.any (lost all a b) = true := List.any_eq_true.mpr ⟨key, List.mem_of_getElem? hkey, by simp only [lost, hct, hb, Bool.not_false, Bool.and_self]⟩
            rw [badL, hl, hpr] at this
            exact absurd this (by decide)
          · refine ⟨hlt3, hkb.then h4, succ_av (by omega), fun j y hj hy => ?_⟩
            by_cases hjn : j = n
            · subst hjn
              rw [hkey] at hy
              obtain rfl := Option.some.inj hy
              simp only [lost, hb, Bool.not_true, Bool.and_false]
            · exact hno3 j y (by omega) hy
        · refine ⟨hlt3, hkb, succ_av (by omega), fun j y hj hy => ?_⟩
          by_cases hjn : j = n
          · subst hjn
            rw [hkey] at hy
            obtain rfl := Option.some.inj hy
            simp only [lost, hb, Bool.false_and]
          · exact hno3 j y (by omega) hy
      · (repeat' (with_reducible first|refine w_1 ?_|refine w_2 ?_|refine w_3 ?_|refine w_4 ?_|refine w_5 ?_|refine w_6 ?_|refine w_7 ?_|(refine w_8 (fun hb=>?_) (fun hb=>?_)<;>(try simp only [Bool.not_eq_true',Bool.not_eq_false'] at hb)<;>try simp only [hb])|(refine w_9 ?_;simp (maxDischargeDepth:=12) only [viz,↓reduceIte,Nat.reduceEqDiff,reduceCtorEq,Int.reduceEq,Int.reduceNeg,Nat.reduceAdd,Nat.reduceLeDiff,d5,d6,d22,d23,d24,d8,d28,d29,d30,d10,d54,d55,d56,lt_false hlt3])|refine w_10 (fun hc=>(by (try simp only [Bool.and_eq_true] at hc);simp (maxDischargeDepth:=12) only [viz,↓reduceIte,Nat.reduceEqDiff,reduceCtorEq,Int.reduceEq,Int.reduceNeg,Nat.reduceAdd,Nat.reduceLeDiff,d5,d6,d22,d23,d24,d8,d28,d29,d30,d10,d54,d55,d56,lt_false hlt3,hc];first|exact ⟨rfl,rfl⟩|exact rfl)) ?_|refine w_11 (fun hc=>(by (try simp only [Bool.and_eq_true] at hc);simp (maxDischargeDepth:=12) only [viz,↓reduceIte,Nat.reduceEqDiff,reduceCtorEq,Int.reduceEq,Int.reduceNeg,Nat.reduceAdd,Nat.reduceLeDiff,d5,d6,d22,d23,d24,d8,d28,d29,d30,d10,d54,d55,d56,lt_false hlt3,hc];first|exact ⟨rfl,rfl⟩|exact rfl)) ?_|refine w_12 ?_|simp (maxDischargeDepth:=12) only [viz,↓reduceIte,Nat.reduceEqDiff,reduceCtorEq,Int.reduceEq,Int.reduceNeg,Nat.reduceAdd,Nat.reduceLeDiff,d5,d6,d22,d23,d24,d8,d28,d29,d30,d10,d54,d55,d56,lt_false hlt3]))
        refine ⟨hlt2, hkp.then hkb.k, succ_av (by omega), fun j y hj hy => ?_⟩
        by_cases hjk : j = k
        · subst hjk
          rw [hb'] at hy
          obtain rfl := Option.some.inj hy
          have : a.call.keys.any (lost all a b) = false := by
            rw [List.any_eq_false]
            intro key hk
            obtain ⟨p, hp⟩ := List.mem_iff_getElem?.mp hk
            rw [hno3 p key (by have := (List.getElem?_eq_some_iff.mp hp).1; omega) hp]; simp
          simp only [badL, this, Bool.and_false]
        · exact hno2 j y (by omega) hy
    · (repeat' (with_reducible first|refine w_1 ?_|refine w_2 ?_|refine w_3 ?_|refine w_4 ?_|refine w_5 ?_|refine w_6 ?_|refine w_7 ?_|(refine w_8 (fun hb=>?_) (fun hb=>?_)<;>(try simp only [Bool.not_eq_true',Bool.not_eq_false'] at hb)<;>try simp only [hb])|(refine w_9 ?_;simp (maxDischargeDepth:=12) only [viz,↓reduceIte,Nat.reduceEqDiff,reduceCtorEq,Int.reduceEq,Int.reduceNeg,Nat.reduceAdd,Nat.reduceLeDiff,e5,e6,e22,e23,e24,e8,e28,e29,e30,lt_false hlt2])|refine w_10 (fun hc=>(by (try simp only [Bool.and_eq_true] at hc);simp (maxDischargeDepth:=12) only [viz,↓reduceIte,Nat.reduceEqDiff,reduceCtorEq,Int.reduceEq,Int.reduceNeg,Nat.reduceAdd,Nat.reduceLeDiff,e5,e6,e22,e23,e24,e8,e28,e29,e30,lt_false hlt2,hc];first|exact ⟨rfl,rfl⟩|exact rfl)) ?_|refine w_11 (fun hc=>(by (try simp only [Bool.and_eq_true] at hc);simp (maxDischargeDepth:=12) only [viz,↓reduceIte,Nat.reduceEqDiff,reduceCtorEq,Int.reduceEq,Int.reduceNeg,Nat.reduceAdd,Nat.reduceLeDiff,e5,e6,e22,e23,e24,e8,e28,e29,e30,lt_false hlt2,hc];first|exact ⟨rfl,rfl⟩|exact rfl)) ?_|refine w_12 ?_|simp (maxDischargeDepth:=12) only [viz,↓reduceIte,Nat.reduceEqDiff,reduceCtorEq,Int.reduceEq,Int.reduceNeg,Nat.reduceAdd,Nat.reduceLeDiff,e5,e6,e22,e23,e24,e8,e28,e29,e30,lt_false hlt2]))
      refine ⟨hlt, hi.then hkp.k, succ_av (by omega), fun j k' a' b' hj ha' hb' => ?_⟩
      by_cases hji : j = i
      · subst hji
        rw [ha] at ha'
        obtain rfl := Option.some.inj ha'
        exact hno2 k' b' (by have := (List.getElem?_eq_some_iff.mp hb').1; omega) hb'
      · exact hno j k' a' b' (by omega) ha' hb'
  · (repeat' (with_reducible first|refine w_1 ?_|refine w_2 ?_|refine w_3 ?_|refine w_4 ?_|refine w_5 ?_|refine w_6 ?_|refine w_7 ?_|(refine w_8 (fun hb=>?_) (fun hb=>?_)<;>(try simp only [Bool.not_eq_true',Bool.not_eq_false'] at hb)<;>try simp only [hb])|(refine w_9 ?_;simp (maxDischargeDepth:=12) only [viz,↓reduceIte,Nat.reduceEqDiff,reduceCtorEq,Int.reduceEq,Int.reduceNeg,Nat.reduceAdd,Nat.reduceLeDiff,g5,g6,g22,g23,g24,lt_false hlt])|refine w_10 (fun hc=>(by (try simp only [Bool.and_eq_true] at hc);simp (maxDischargeDepth:=12) only [viz,↓reduceIte,Nat.reduceEqDiff,reduceCtorEq,Int.reduceEq,Int.reduceNeg,Nat.reduceAdd,Nat.reduceLeDiff,g5,g6,g22,g23,g24,lt_false hlt,hc];first|exact ⟨rfl,rfl⟩|exact rfl)) ?_|refine w_11 (fun hc=>(by (try simp only [Bool.and_eq_true] at hc);simp (maxDischargeDepth:=12) only [viz,↓reduceIte,Nat.reduceEqDiff,reduceCtorEq,Int.reduceEq,Int.reduceNeg,Nat.reduceAdd,Nat.reduceLeDiff,g5,g6,g22,g23,g24,lt_false hlt,hc];first|exact ⟨rfl,rfl⟩|exact rfl)) ?_|refine w_12 ?_|simp (maxDischargeDepth:=12) only [viz,↓reduceIte,Nat.reduceEqDiff,reduceCtorEq,Int.reduceEq,Int.reduceNeg,Nat.reduceAdd,Nat.reduceLeDiff,g5,g6,g22,g23,g24,lt_false hlt]))
    exact hKK true _ ((h0.then h1).then hi) (iff_of_true rfl fun j k a b ha hb => hno j k a b (by have := (List.getElem?_eq_some_iff.mp ha).1; omega) ha hb)
end Go.Proofs.YtmjgakhnhjpclaaGreat

