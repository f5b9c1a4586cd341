/- Holds, marks: which lists may be. No statement of the seat is proved here. -/
import Derived.Test.YthibbbfhkfebkaaGreatVZTA
import Derived.Test.YthibbbfhkfebkaaGreatVZVE
namespace Go.Proofs.YthibbbfhkfebkaaGreat
open Go Go.VI
set_option linter.unusedSimpArgs false
abbrev Holds (s : Mem) (D : Nat → Prop) (v : AV) (l : List Hold) : Prop := Sl s D v 3 (l.map holdC)
abbrev Marks (s : Mem) (D : Nat → Prop) (v : AV) (l : List Mark) : Prop := Sl s D v 2 (l.map markC)
def mayH (h : Hold) : Bool := decide (h.key.length ≤ 64) && !decide (h.token = 0) && decide (0 ≤ h.till) && decide (h.till ≤ 2147483647)
def holdOk (p : Option Hold) (h : Hold) : Bool := mayH h && (match p with | none => true | some q => bl q.key h.key)
def holdsS (l : List Hold) : Bool := decide (l.length ≤ 1024) && rising holdOk none l
def markOk (p : Option Mark) (m : Mark) : Bool := decide (m.key.length ≤ 64) && !decide (m.token = 0) && (match p with | none => true | some q => bl q.key m.key)
def marksS (l : List Mark) : Bool := decide (l.length ≤ 1024) && rising markOk none l
attribute [local irreducible] Ws Wp W C
set_option maxHeartbeats 4000000
theorem le64 (n : Nat) : decide ((n : Int) ≤ 64) = decide (n ≤ 64) := by
  by_cases hn : n ≤ 64
  · simp [hn]; omega
  · simp [hn]; omega
theorem gt64 (n : Nat) : decide ((n : Int) > 64) = !decide (n ≤ 64) := by
  by_cases hn : n ≤ 64
  · simp [hn]; omega
  · simp [hn]; omega
theorem le_not' (a b : Txt) : (Op.bytesLess a b || a == b) = !Op.bytesLess b a := le_not a b
theorem hold_c {h : Hold} {s : Mem} {K : AV → Mem → Prop} (hK : ∀ s', Keep s.next s s' → K (.bool (mayH h)) s') : C tab 119 [.agg (holdC h)] s K := by
  refine C_enter (cf := cf119) rfl (Nat.le_of_ble_eq_true rfl) ?_
  simp only [cf119, oo, on, om, og, oc, ou, holdC]
  (repeat' (with_reducible first|refine w_1 ?_|refine w_2 ?_|refine w_3 ?_|refine w_4 ?_|refine w_5 ?_|refine w_6 ?_|refine w_7 ?_|(refine w_8 (fun hb=>?_) (fun hb=>?_)<;>(try simp only [Bool.not_eq_true',Bool.not_eq_false'] at hb)<;>try simp only [hb])|(refine w_9 ?_;simp (maxDischargeDepth:=12) only [viz,↓reduceIte,Nat.reduceEqDiff,reduceCtorEq,Int.reduceEq,Int.reduceNeg,Nat.reduceAdd,Nat.reduceLeDiff])|refine w_10 (fun hc=>(by (try simp only [Bool.and_eq_true] at hc);simp (maxDischargeDepth:=12) only [viz,↓reduceIte,Nat.reduceEqDiff,reduceCtorEq,Int.reduceEq,Int.reduceNeg,Nat.reduceAdd,Nat.reduceLeDiff,hc];first|exact ⟨rfl,rfl⟩|exact rfl)) ?_|refine w_11 (fun hc=>(by (try simp only [Bool.and_eq_true] at hc);simp (maxDischargeDepth:=12) only [viz,↓reduceIte,Nat.reduceEqDiff,reduceCtorEq,Int.reduceEq,Int.reduceNeg,Nat.reduceAdd,Nat.reduceLeDiff,hc];first|exact ⟨rfl,rfl⟩|exact rfl)) ?_|refine w_12 ?_|simp (maxDischargeDepth:=12) only [viz,↓reduceIte,Nat.reduceEqDiff,reduceCtorEq,Int.reduceEq,Int.reduceNeg,Nat.reduceAdd,Nat.reduceLeDiff]))
  all_goals rw [le64] at hb
  · refine C_enter (cf := cf136) rfl (Nat.le_of_ble_eq_true rfl) ?_
    simp only [cf136, oo, on, om, og, oc, ou]
    (repeat' (with_reducible first|refine w_1 ?_|refine w_2 ?_|refine w_3 ?_|refine w_4 ?_|refine w_5 ?_|refine w_6 ?_|refine w_7 ?_|(refine w_8 (fun hb=>?_) (fun hb=>?_)<;>(try simp only [Bool.not_eq_true',Bool.not_eq_false'] at hb)<;>try simp only [hb])|(refine w_9 ?_;simp (maxDischargeDepth:=12) only [viz,↓reduceIte,Nat.reduceEqDiff,reduceCtorEq,Int.reduceEq,Int.reduceNeg,Nat.reduceAdd,Nat.reduceLeDiff])|refine w_10 (fun hc=>(by (try simp only [Bool.and_eq_true] at hc);simp (maxDischargeDepth:=12) only [viz,↓reduceIte,Nat.reduceEqDiff,reduceCtorEq,Int.reduceEq,Int.reduceNeg,Nat.reduceAdd,Nat.reduceLeDiff,hc];first|exact ⟨rfl,rfl⟩|exact rfl)) ?_|refine w_11 (fun hc=>(by (try simp only [Bool.and_eq_true] at hc);simp (maxDischargeDepth:=12) only [viz,↓reduceIte,Nat.reduceEqDiff,reduceCtorEq,Int.reduceEq,Int.reduceNeg,Nat.reduceAdd,Nat.reduceLeDiff,hc];first|exact ⟨rfl,rfl⟩|exact rfl)) ?_|refine w_12 ?_|simp (maxDischargeDepth:=12) only [viz,↓reduceIte,Nat.reduceEqDiff,reduceCtorEq,Int.reduceEq,Int.reduceNeg,Nat.reduceAdd,Nat.reduceLeDiff]))
    exact K_of hK (pushes _ _) (by grind [mayH])
  · exact K_of hK (pushes _ _) (by grind [mayH])
theorem rhold_c {h : Hold} {s : Mem} {K : AV → Mem → Prop} (hK : ∀ s', Keep s.next s s' → K (.bool (mayH h)) s') : C tab 129 [.agg (holdC h)] s K := by
  refine C_enter (cf := cf129) rfl (Nat.le_of_ble_eq_true rfl) ?_
  simp only [cf129, oo, on, om, og, oc, ou, holdC]
  (repeat' (with_reducible first|refine w_1 ?_|refine w_2 ?_|refine w_3 ?_|refine w_4 ?_|refine w_5 ?_|refine w_6 ?_|refine w_7 ?_|(refine w_8 (fun hb=>?_) (fun hb=>?_)<;>(try simp only [Bool.not_eq_true',Bool.not_eq_false'] at hb)<;>try simp only [hb])|(refine w_9 ?_;simp (maxDischargeDepth:=12) only [viz,↓reduceIte,Nat.reduceEqDiff,reduceCtorEq,Int.reduceEq,Int.reduceNeg,Nat.reduceAdd,Nat.reduceLeDiff])|refine w_10 (fun hc=>(by (try simp only [Bool.and_eq_true] at hc);simp (maxDischargeDepth:=12) only [viz,↓reduceIte,Nat.reduceEqDiff,reduceCtorEq,Int.reduceEq,Int.reduceNeg,Nat.reduceAdd,Nat.reduceLeDiff,hc];first|exact ⟨rfl,rfl⟩|exact rfl)) ?_|refine w_11 (fun hc=>(by (try simp only [Bool.and_eq_true] at hc);simp (maxDischargeDepth:=12) only [viz,↓reduceIte,Nat.reduceEqDiff,reduceCtorEq,Int.reduceEq,Int.reduceNeg,Nat.reduceAdd,Nat.reduceLeDiff,hc];first|exact ⟨rfl,rfl⟩|exact rfl)) ?_|refine w_12 ?_|simp (maxDischargeDepth:=12) only [viz,↓reduceIte,Nat.reduceEqDiff,reduceCtorEq,Int.reduceEq,Int.reduceNeg,Nat.reduceAdd,Nat.reduceLeDiff]))
  rw [le64]
  exact K_of hK (pushes _ _) (by grind [mayH])
theorem rising_end {α : Type} {ok : Option α → α → Bool} {l : List α} {i : Nat} (h : ¬ i < l.length) (p : Option α) : rising ok p (l.drop i) = true := by rw [drop_end h]; rfl
theorem lcheck_c {l : List Hold} {v : AV} {D : Nat → Prop} {s : Mem} {K : AV → Mem → Prop} (hf : s.floor ≤ s.next) (hI : In D s) (hv : Holds s D v l) (hl : l.length < 1000000000) (hK : ∀ s', Keep s.next s s' → K (.int .i64 (if holdsS l then 0 else 1)) s') : C tab 66 [v] s K := by
  refine C_enter (cf := cf66) rfl (Nat.le_of_ble_eq_true rfl) ?_
  simp only [cf66, oo, on, om, og, oc, ou]
  have hlen : lenA false v = some l.length := hv.lenB
  (repeat' (with_reducible first|refine w_1 ?_|refine w_2 ?_|refine w_3 ?_|refine w_4 ?_|refine w_5 ?_|refine w_6 ?_|refine w_7 ?_|(refine w_8 (fun hb=>?_) (fun hb=>?_)<;>(try simp only [Bool.not_eq_true',Bool.not_eq_false'] at hb)<;>try simp only [hb])|(refine w_9 ?_;simp (maxDischargeDepth:=12) only [viz,↓reduceIte,Nat.reduceEqDiff,reduceCtorEq,Int.reduceEq,Int.reduceNeg,Nat.reduceAdd,Nat.reduceLeDiff,hlen])|refine w_10 (fun hc=>(by (try simp only [Bool.and_eq_true] at hc);simp (maxDischargeDepth:=12) only [viz,↓reduceIte,Nat.reduceEqDiff,reduceCtorEq,Int.reduceEq,Int.reduceNeg,Nat.reduceAdd,Nat.reduceLeDiff,hlen,hc];first|exact ⟨rfl,rfl⟩|exact rfl)) ?_|refine w_11 (fun hc=>(by (try simp only [Bool.and_eq_true] at hc);simp (maxDischargeDepth:=12) only [viz,↓reduceIte,Nat.reduceEqDiff,reduceCtorEq,Int.reduceEq,Int.reduceNeg,Nat.reduceAdd,Nat.reduceLeDiff,hlen,hc];first|exact ⟨rfl,rfl⟩|exact rfl)) ?_|refine w_12 ?_|simp (maxDischargeDepth:=12) only [viz,↓reduceIte,Nat.reduceEqDiff,reduceCtorEq,Int.reduceEq,Int.reduceNeg,Nat.reduceAdd,Nat.reduceLeDiff,hlen]))
  refine W_inv l.length (fun i E s' => Keep s.next s s' ∧ E.get 0 = v ∧ E.get 5 = v ∧ E.get 6 = .int .i64 l.length ∧ E.get 7 = .int .i64 i ∧ rising holdOk none l = rising holdOk (prevOf l i) (l.drop i)) (by delta cf66l0 oo on om og oc ou; exact rfl) ?_ ?_
  · (repeat' (with_reducible first|refine w_1 ?_|refine w_2 ?_|refine w_3 ?_|refine w_4 ?_|refine w_5 ?_|refine w_6 ?_|refine w_7 ?_|(refine w_8 (fun hb=>?_) (fun hb=>?_)<;>(try simp only [Bool.not_eq_true',Bool.not_eq_false'] at hb)<;>try simp only [hb])|(refine w_9 ?_;simp (maxDischargeDepth:=12) only [viz,↓reduceIte,Nat.reduceEqDiff,reduceCtorEq,Int.reduceEq,Int.reduceNeg,Nat.reduceAdd,Nat.reduceLeDiff])|refine w_10 (fun hc=>(by (try simp only [Bool.and_eq_true] at hc);simp (maxDischargeDepth:=12) only [viz,↓reduceIte,Nat.reduceEqDiff,reduceCtorEq,Int.reduceEq,Int.reduceNeg,Nat.reduceAdd,Nat.reduceLeDiff,hc];first|exact ⟨rfl,rfl⟩|exact rfl)) ?_|refine w_11 (fun hc=>(by (try simp only [Bool.and_eq_true] at hc);simp (maxDischargeDepth:=12) only [viz,↓reduceIte,Nat.reduceEqDiff,reduceCtorEq,Int.reduceEq,Int.reduceNeg,Nat.reduceAdd,Nat.reduceLeDiff,hc];first|exact ⟨rfl,rfl⟩|exact rfl)) ?_|refine w_12 ?_|simp (maxDischargeDepth:=12) only [viz,↓reduceIte,Nat.reduceEqDiff,reduceCtorEq,Int.reduceEq,Int.reduceNeg,Nat.reduceAdd,Nat.reduceLeDiff]))
    exact ⟨rfl, rfl⟩
  rintro i E s' hile _ ⟨hi, g0, g5, g6, g7, hr⟩
  by_cases hlt : i < l.length
  · obtain ⟨x, hx⟩ := get_of hlt
    obtain ⟨p, hp, P, hld⟩ := hv.ldk hI hx rfl rfl
    have hld' := hld _ hi
    have hfl := hi.ok hf
    rw [rising_step hx] at hr
    simp only [holdC] at hld'
    have hlx := lt_true hlt
    have q0 := Kp.of_push s' ⟨58, 3, [holdC x]⟩
    rcases i with _ | j
    all_goals first
      | (have h0 : ((0 : Nat) : Int) = 0 := rfl
         rw [h0] at hp hlx
         (repeat' (with_reducible first|refine w_1 ?_|refine w_2 ?_|refine w_3 ?_|refine w_4 ?_|refine w_5 ?_|refine w_6 ?_|refine w_7 ?_|(refine w_8 (fun hb=>?_) (fun hb=>?_)<;>(try simp only [Bool.not_eq_true',Bool.not_eq_false'] at hb)<;>try simp only [hb])|(refine w_9 ?_;simp (maxDischargeDepth:=12) only [viz,↓reduceIte,Nat.reduceEqDiff,reduceCtorEq,Int.reduceEq,Int.reduceNeg,Nat.reduceAdd,Nat.reduceLeDiff,g0,g5,g6,g7,h0,hlx,hp,hld',hfl,bne_self_eq_false, Int.reduceBEq, Int.reduceBNe, Int.reduceLT, Int.reduceLE, Int.reduceGT, Int.reduceGE])|refine w_10 (fun hc=>(by (try simp only [Bool.and_eq_true] at hc);simp (maxDischargeDepth:=12) only [viz,↓reduceIte,Nat.reduceEqDiff,reduceCtorEq,Int.reduceEq,Int.reduceNeg,Nat.reduceAdd,Nat.reduceLeDiff,g0,g5,g6,g7,h0,hlx,hp,hld',hfl,bne_self_eq_false, Int.reduceBEq, Int.reduceBNe, Int.reduceLT, Int.reduceLE, Int.reduceGT, Int.reduceGE,hc];first|exact ⟨rfl,rfl⟩|exact rfl)) ?_|refine w_11 (fun hc=>(by (try simp only [Bool.and_eq_true] at hc);simp (maxDischargeDepth:=12) only [viz,↓reduceIte,Nat.reduceEqDiff,reduceCtorEq,Int.reduceEq,Int.reduceNeg,Nat.reduceAdd,Nat.reduceLeDiff,g0,g5,g6,g7,h0,hlx,hp,hld',hfl,bne_self_eq_false, Int.reduceBEq, Int.reduceBNe, Int.reduceLT, Int.reduceLE, Int.reduceGT, Int.reduceGE,hc];first|exact ⟨rfl,rfl⟩|exact rfl)) ?_|refine w_12 ?_|simp (maxDischargeDepth:=12) only [viz,↓reduceIte,Nat.reduceEqDiff,reduceCtorEq,Int.reduceEq,Int.reduceNeg,Nat.reduceAdd,Nat.reduceLeDiff,g0,g5,g6,g7,h0,hlx,hp,hld',hfl,bne_self_eq_false, Int.reduceBEq, Int.reduceBNe, Int.reduceLT, Int.reduceLE, Int.reduceGT, Int.reduceGE]))
         refine hold_c (h := x) fun s2 h2 => ?_
         have q := q0.then h2
         have qg := q.g
         simp only [holdC] at qg
         (repeat' (with_reducible first|refine w_1 ?_|refine w_2 ?_|refine w_3 ?_|refine w_4 ?_|refine w_5 ?_|refine w_6 ?_|refine w_7 ?_|(refine w_8 (fun hb=>?_) (fun hb=>?_)<;>(try simp only [Bool.not_eq_true',Bool.not_eq_false'] at hb)<;>try simp only [hb])|(refine w_9 ?_;simp (maxDischargeDepth:=12) only [viz,↓reduceIte,Nat.reduceEqDiff,reduceCtorEq,Int.reduceEq,Int.reduceNeg,Nat.reduceAdd,Nat.reduceLeDiff,g0,g5,g6,g7,qg,bne_self_eq_false, Int.reduceBEq, Int.reduceBNe, Int.reduceLT, Int.reduceLE, Int.reduceGT, Int.reduceGE])|refine w_10 (fun hc=>(by (try simp only [Bool.and_eq_true] at hc);simp (maxDischargeDepth:=12) only [viz,↓reduceIte,Nat.reduceEqDiff,reduceCtorEq,Int.reduceEq,Int.reduceNeg,Nat.reduceAdd,Nat.reduceLeDiff,g0,g5,g6,g7,qg,bne_self_eq_false, Int.reduceBEq, Int.reduceBNe, Int.reduceLT, Int.reduceLE, Int.reduceGT, Int.reduceGE,hc];first|exact ⟨rfl,rfl⟩|exact rfl)) ?_|refine w_11 (fun hc=>(by (try simp only [Bool.and_eq_true] at hc);simp (maxDischargeDepth:=12) only [viz,↓reduceIte,Nat.reduceEqDiff,reduceCtorEq,Int.reduceEq,Int.reduceNeg,Nat.reduceAdd,Nat.reduceLeDiff,g0,g5,g6,g7,qg,bne_self_eq_false, Int.reduceBEq, Int.reduceBNe, Int.reduceLT, Int.reduceLE, Int.reduceGT, Int.reduceGE,hc];first|exact ⟨rfl,rfl⟩|exact rfl)) ?_|refine w_12 ?_|simp (maxDischargeDepth:=12) only [viz,↓reduceIte,Nat.reduceEqDiff,reduceCtorEq,Int.reduceEq,Int.reduceNeg,Nat.reduceAdd,Nat.reduceLeDiff,g0,g5,g6,g7,qg,bne_self_eq_false, Int.reduceBEq, Int.reduceBNe, Int.reduceLT, Int.reduceLE, Int.reduceGT, Int.reduceGE])))
      | (obtain ⟨y, hy⟩ := get_of (l := l) (i := j) (by omega)
         obtain ⟨p2, hp2, P2, hld2⟩ := hv.ldk hI hy rfl rfl
         have hj : decide (((j + 1 : Nat) : Int) > 0) = true := by simp
         have hpj := pred_cast j (by omega)
         (repeat' (with_reducible first|refine w_1 ?_|refine w_2 ?_|refine w_3 ?_|refine w_4 ?_|refine w_5 ?_|refine w_6 ?_|refine w_7 ?_|(refine w_8 (fun hb=>?_) (fun hb=>?_)<;>(try simp only [Bool.not_eq_true',Bool.not_eq_false'] at hb)<;>try simp only [hb])|(refine w_9 ?_;simp (maxDischargeDepth:=12) only [viz,↓reduceIte,Nat.reduceEqDiff,reduceCtorEq,Int.reduceEq,Int.reduceNeg,Nat.reduceAdd,Nat.reduceLeDiff,g0,g5,g6,g7,hlx,hp,hld',hfl])|refine w_10 (fun hc=>(by (try simp only [Bool.and_eq_true] at hc);simp (maxDischargeDepth:=12) only [viz,↓reduceIte,Nat.reduceEqDiff,reduceCtorEq,Int.reduceEq,Int.reduceNeg,Nat.reduceAdd,Nat.reduceLeDiff,g0,g5,g6,g7,hlx,hp,hld',hfl,hc];first|exact ⟨rfl,rfl⟩|exact rfl)) ?_|refine w_11 (fun hc=>(by (try simp only [Bool.and_eq_true] at hc);simp (maxDischargeDepth:=12) only [viz,↓reduceIte,Nat.reduceEqDiff,reduceCtorEq,Int.reduceEq,Int.reduceNeg,Nat.reduceAdd,Nat.reduceLeDiff,g0,g5,g6,g7,hlx,hp,hld',hfl,hc];first|exact ⟨rfl,rfl⟩|exact rfl)) ?_|refine w_12 ?_|simp (maxDischargeDepth:=12) only [viz,↓reduceIte,Nat.reduceEqDiff,reduceCtorEq,Int.reduceEq,Int.reduceNeg,Nat.reduceAdd,Nat.reduceLeDiff,g0,g5,g6,g7,hlx,hp,hld',hfl]))
         refine hold_c (h := x) fun s2 h2 => ?_
         have q := q0.then h2
         have qg := q.g
         simp only [holdC] at qg
         have hs2 := hi.then q.k
         have hld3 : loadA s2 false 1 (VI.adr p2 0) = some (.str y.key) := by
           have := P2.ldf _ hs2 0 false 1 (by simp [holdC])
           rw [this]; rfl
         (repeat' (with_reducible first|refine w_1 ?_|refine w_2 ?_|refine w_3 ?_|refine w_4 ?_|refine w_5 ?_|refine w_6 ?_|refine w_7 ?_|(refine w_8 (fun hb=>?_) (fun hb=>?_)<;>(try simp only [Bool.not_eq_true',Bool.not_eq_false'] at hb)<;>try simp only [hb])|(refine w_9 ?_;simp (maxDischargeDepth:=12) only [viz,↓reduceIte,Nat.reduceEqDiff,reduceCtorEq,Int.reduceEq,Int.reduceNeg,Nat.reduceAdd,Nat.reduceLeDiff,g0,g5,g6,g7,qg,hj,hpj,hp2,P2.adr,hld3,le_not'])|refine w_10 (fun hc=>(by (try simp only [Bool.and_eq_true] at hc);simp (maxDischargeDepth:=12) only [viz,↓reduceIte,Nat.reduceEqDiff,reduceCtorEq,Int.reduceEq,Int.reduceNeg,Nat.reduceAdd,Nat.reduceLeDiff,g0,g5,g6,g7,qg,hj,hpj,hp2,P2.adr,hld3,le_not',hc];first|exact ⟨rfl,rfl⟩|exact rfl)) ?_|refine w_11 (fun hc=>(by (try simp only [Bool.and_eq_true] at hc);simp (maxDischargeDepth:=12) only [viz,↓reduceIte,Nat.reduceEqDiff,reduceCtorEq,Int.reduceEq,Int.reduceNeg,Nat.reduceAdd,Nat.reduceLeDiff,g0,g5,g6,g7,qg,hj,hpj,hp2,P2.adr,hld3,le_not',hc];first|exact ⟨rfl,rfl⟩|exact rfl)) ?_|refine w_12 ?_|simp (maxDischargeDepth:=12) only [viz,↓reduceIte,Nat.reduceEqDiff,reduceCtorEq,Int.reduceEq,Int.reduceNeg,Nat.reduceAdd,Nat.reduceLeDiff,g0,g5,g6,g7,qg,hj,hpj,hp2,P2.adr,hld3,le_not'])))
    · exact K_v hK (hi.then q.k) (by simp [holdsS, hr, holdOk, hb])
    · refine ⟨hlt, hi.then q.k, rfl, ?_⟩
      rw [hr]; simp [holdOk, prevOf, hb]
    · have e : holdOk (prevOf l (j + 1)) x = false := by simp only [holdOk, prevOf_succ, hy, bl]; grind
      exact K_v hK (hi.then q.k) (by simp [holdsS, hr, e])
    · have e : holdOk (prevOf l (j + 1)) x = true := by simp only [holdOk, prevOf_succ, hy, bl]; grind
      refine ⟨hlt, hi.then q.k, succ_av (by omega), ?_⟩
      rw [hr, e, Bool.true_and]
  · (repeat' (with_reducible first|refine w_1 ?_|refine w_2 ?_|refine w_3 ?_|refine w_4 ?_|refine w_5 ?_|refine w_6 ?_|refine w_7 ?_|(refine w_8 (fun hb=>?_) (fun hb=>?_)<;>(try simp only [Bool.not_eq_true',Bool.not_eq_false'] at hb)<;>try simp only [hb])|(refine w_9 ?_;simp (maxDischargeDepth:=12) only [viz,↓reduceIte,Nat.reduceEqDiff,reduceCtorEq,Int.reduceEq,Int.reduceNeg,Nat.reduceAdd,Nat.reduceLeDiff,g0,g5,g6,g7,lt_false hlt,hlen])|refine w_10 (fun hc=>(by (try simp only [Bool.and_eq_true] at hc);simp (maxDischargeDepth:=12) only [viz,↓reduceIte,Nat.reduceEqDiff,reduceCtorEq,Int.reduceEq,Int.reduceNeg,Nat.reduceAdd,Nat.reduceLeDiff,g0,g5,g6,g7,lt_false hlt,hlen,hc];first|exact ⟨rfl,rfl⟩|exact rfl)) ?_|refine w_11 (fun hc=>(by (try simp only [Bool.and_eq_true] at hc);simp (maxDischargeDepth:=12) only [viz,↓reduceIte,Nat.reduceEqDiff,reduceCtorEq,Int.reduceEq,Int.reduceNeg,Nat.reduceAdd,Nat.reduceLeDiff,g0,g5,g6,g7,lt_false hlt,hlen,hc];first|exact ⟨rfl,rfl⟩|exact rfl)) ?_|refine w_12 ?_|simp (maxDischargeDepth:=12) only [viz,↓reduceIte,Nat.reduceEqDiff,reduceCtorEq,Int.reduceEq,Int.reduceNeg,Nat.reduceAdd,Nat.reduceLeDiff,g0,g5,g6,g7,lt_false hlt,hlen]))
    all_goals rw [rising_end hlt] at hr
    · exact K_v hK hi (by have := of_decide_eq_true hb; rw [holdsS, hr, if_neg (by simp; omega)])
    · exact K_v hK hi (by have := of_decide_eq_false hb; rw [holdsS, hr, if_pos (by simp; omega)])
theorem lmarks_c {l : List Mark} {v : AV} {D : Nat → Prop} {s : Mem} {K : AV → Mem → Prop} (hf : s.floor ≤ s.next) (hI : In D s) (hv : Marks s D v l) (hl : l.length < 1000000000) (hK : ∀ s', Keep s.next s s' → K (.int .i64 (if marksS l then 0 else 1)) s') : C tab 67 [v] s K := by
  refine C_enter (cf := cf67) rfl (Nat.le_of_ble_eq_true rfl) ?_
  simp only [cf67, oo, on, om, og, oc, ou]
  have hlen : lenA false v = some l.length := hv.lenB
  (repeat' (with_reducible first|refine w_1 ?_|refine w_2 ?_|refine w_3 ?_|refine w_4 ?_|refine w_5 ?_|refine w_6 ?_|refine w_7 ?_|(refine w_8 (fun hb=>?_) (fun hb=>?_)<;>(try simp only [Bool.not_eq_true',Bool.not_eq_false'] at hb)<;>try simp only [hb])|(refine w_9 ?_;simp (maxDischargeDepth:=12) only [viz,↓reduceIte,Nat.reduceEqDiff,reduceCtorEq,Int.reduceEq,Int.reduceNeg,Nat.reduceAdd,Nat.reduceLeDiff,hlen])|refine w_10 (fun hc=>(by (try simp only [Bool.and_eq_true] at hc);simp (maxDischargeDepth:=12) only [viz,↓reduceIte,Nat.reduceEqDiff,reduceCtorEq,Int.reduceEq,Int.reduceNeg,Nat.reduceAdd,Nat.reduceLeDiff,hlen,hc];first|exact ⟨rfl,rfl⟩|exact rfl)) ?_|refine w_11 (fun hc=>(by (try simp only [Bool.and_eq_true] at hc);simp (maxDischargeDepth:=12) only [viz,↓reduceIte,Nat.reduceEqDiff,reduceCtorEq,Int.reduceEq,Int.reduceNeg,Nat.reduceAdd,Nat.reduceLeDiff,hlen,hc];first|exact ⟨rfl,rfl⟩|exact rfl)) ?_|refine w_12 ?_|simp (maxDischargeDepth:=12) only [viz,↓reduceIte,Nat.reduceEqDiff,reduceCtorEq,Int.reduceEq,Int.reduceNeg,Nat.reduceAdd,Nat.reduceLeDiff,hlen]))
  refine W_inv l.length (fun i E s' => Keep s.next s s' ∧ E.get 0 = v ∧ E.get 5 = v ∧ E.get 6 = .int .i64 l.length ∧ E.get 7 = .int .i64 i ∧ rising markOk none l = rising markOk (prevOf l i) (l.drop i)) (by delta cf67l0 oo on om og oc ou; exact rfl) ?_ ?_
  · (repeat' (with_reducible first|refine w_1 ?_|refine w_2 ?_|refine w_3 ?_|refine w_4 ?_|refine w_5 ?_|refine w_6 ?_|refine w_7 ?_|(refine w_8 (fun hb=>?_) (fun hb=>?_)<;>(try simp only [Bool.not_eq_true',Bool.not_eq_false'] at hb)<;>try simp only [hb])|(refine w_9 ?_;simp (maxDischargeDepth:=12) only [viz,↓reduceIte,Nat.reduceEqDiff,reduceCtorEq,Int.reduceEq,Int.reduceNeg,Nat.reduceAdd,Nat.reduceLeDiff])|refine w_10 (fun hc=>(by (try simp only [Bool.and_eq_true] at hc);simp (maxDischargeDepth:=12) only [viz,↓reduceIte,Nat.reduceEqDiff,reduceCtorEq,Int.reduceEq,Int.reduceNeg,Nat.reduceAdd,Nat.reduceLeDiff,hc];first|exact ⟨rfl,rfl⟩|exact rfl)) ?_|refine w_11 (fun hc=>(by (try simp only [Bool.and_eq_true] at hc);simp (maxDischargeDepth:=12) only [viz,↓reduceIte,Nat.reduceEqDiff,reduceCtorEq,Int.reduceEq,Int.reduceNeg,Nat.reduceAdd,Nat.reduceLeDiff,hc];first|exact ⟨rfl,rfl⟩|exact rfl)) ?_|refine w_12 ?_|simp (maxDischargeDepth:=12) only [viz,↓reduceIte,Nat.reduceEqDiff,reduceCtorEq,Int.reduceEq,Int.reduceNeg,Nat.reduceAdd,Nat.reduceLeDiff]))
    exact ⟨rfl, rfl⟩
  rintro i E s' hile _ ⟨hi, g0, g5, g6, g7, hr⟩
  by_cases hlt : i < l.length
  · obtain ⟨x, hx⟩ := get_of hlt
    obtain ⟨p, hp, P, hld⟩ := hv.ldk hI hx rfl rfl
    have hld' := hld _ hi
    have hfl := hi.ok hf
    rw [rising_step hx] at hr
    simp only [markC] at hld'
    have hlx := lt_true hlt
    have q := pushes s' ⟨68, 2, [markC x]⟩
    have e0 := gt64 x.key.length
    rcases i with _ | j
    all_goals first
      | (have h0 : ((0 : Nat) : Int) = 0 := rfl
         rw [h0] at hp hlx
         (repeat' (with_reducible first|refine w_1 ?_|refine w_2 ?_|refine w_3 ?_|refine w_4 ?_|refine w_5 ?_|refine w_6 ?_|refine w_7 ?_|(refine w_8 (fun hb=>?_) (fun hb=>?_)<;>(try simp only [Bool.not_eq_true',Bool.not_eq_false'] at hb)<;>try simp only [hb])|(refine w_9 ?_;simp (maxDischargeDepth:=12) only [viz,↓reduceIte,Nat.reduceEqDiff,reduceCtorEq,Int.reduceEq,Int.reduceNeg,Nat.reduceAdd,Nat.reduceLeDiff,g0,g5,g6,g7,h0,hlx,hp,hld',hfl,bne_self_eq_false, Int.reduceBEq, Int.reduceBNe, Int.reduceLT, Int.reduceLE, Int.reduceGT, Int.reduceGE])|refine w_10 (fun hc=>(by (try simp only [Bool.and_eq_true] at hc);simp (maxDischargeDepth:=12) only [viz,↓reduceIte,Nat.reduceEqDiff,reduceCtorEq,Int.reduceEq,Int.reduceNeg,Nat.reduceAdd,Nat.reduceLeDiff,g0,g5,g6,g7,h0,hlx,hp,hld',hfl,bne_self_eq_false, Int.reduceBEq, Int.reduceBNe, Int.reduceLT, Int.reduceLE, Int.reduceGT, Int.reduceGE,hc];first|exact ⟨rfl,rfl⟩|exact rfl)) ?_|refine w_11 (fun hc=>(by (try simp only [Bool.and_eq_true] at hc);simp (maxDischargeDepth:=12) only [viz,↓reduceIte,Nat.reduceEqDiff,reduceCtorEq,Int.reduceEq,Int.reduceNeg,Nat.reduceAdd,Nat.reduceLeDiff,g0,g5,g6,g7,h0,hlx,hp,hld',hfl,bne_self_eq_false, Int.reduceBEq, Int.reduceBNe, Int.reduceLT, Int.reduceLE, Int.reduceGT, Int.reduceGE,hc];first|exact ⟨rfl,rfl⟩|exact rfl)) ?_|refine w_12 ?_|simp (maxDischargeDepth:=12) only [viz,↓reduceIte,Nat.reduceEqDiff,reduceCtorEq,Int.reduceEq,Int.reduceNeg,Nat.reduceAdd,Nat.reduceLeDiff,g0,g5,g6,g7,h0,hlx,hp,hld',hfl,bne_self_eq_false, Int.reduceBEq, Int.reduceBNe, Int.reduceLT, Int.reduceLE, Int.reduceGT, Int.reduceGE])))
      | (obtain ⟨y, hy⟩ := get_of (l := l) (i := j) (by omega)
         obtain ⟨p2, hp2, P2, hld2⟩ := hv.ldk hI hy rfl rfl
         have hj : decide (((j + 1 : Nat) : Int) > 0) = true := by simp
         have hpj := pred_cast j (by omega)
         have hld3 : ∀ M, Keep s.next s M → loadA M false 1 (VI.adr p2 0) = some (.str y.key) := fun M hM => by
           have := P2.ldf _ hM 0 false 1 (by simp [markC])
           rw [this]; rfl
         have hld4 : ∀ f, loadA ((s'.at f).push ⟨68, 2, [[.str x.key, .int .u64 x.token]]⟩) false 1 (VI.adr p2 0) = some (.str y.key) := fun f =>
           (mat_load (s'.push ⟨68, 2, [markC x]⟩) f false 1 _).trans (hld3 _ (hi.then q))
         (repeat' (with_reducible first|refine w_1 ?_|refine w_2 ?_|refine w_3 ?_|refine w_4 ?_|refine w_5 ?_|refine w_6 ?_|refine w_7 ?_|(refine w_8 (fun hb=>?_) (fun hb=>?_)<;>(try simp only [Bool.not_eq_true',Bool.not_eq_false'] at hb)<;>try simp only [hb])|(refine w_9 ?_;simp (maxDischargeDepth:=12) only [viz,↓reduceIte,Nat.reduceEqDiff,reduceCtorEq,Int.reduceEq,Int.reduceNeg,Nat.reduceAdd,Nat.reduceLeDiff,g0,g5,g6,g7,hlx,hp,hld',hfl,hj,hpj,hp2,P2.adr,hld4,le_not'])|refine w_10 (fun hc=>(by (try simp only [Bool.and_eq_true] at hc);simp (maxDischargeDepth:=12) only [viz,↓reduceIte,Nat.reduceEqDiff,reduceCtorEq,Int.reduceEq,Int.reduceNeg,Nat.reduceAdd,Nat.reduceLeDiff,g0,g5,g6,g7,hlx,hp,hld',hfl,hj,hpj,hp2,P2.adr,hld4,le_not',hc];first|exact ⟨rfl,rfl⟩|exact rfl)) ?_|refine w_11 (fun hc=>(by (try simp only [Bool.and_eq_true] at hc);simp (maxDischargeDepth:=12) only [viz,↓reduceIte,Nat.reduceEqDiff,reduceCtorEq,Int.reduceEq,Int.reduceNeg,Nat.reduceAdd,Nat.reduceLeDiff,g0,g5,g6,g7,hlx,hp,hld',hfl,hj,hpj,hp2,P2.adr,hld4,le_not',hc];first|exact ⟨rfl,rfl⟩|exact rfl)) ?_|refine w_12 ?_|simp (maxDischargeDepth:=12) only [viz,↓reduceIte,Nat.reduceEqDiff,reduceCtorEq,Int.reduceEq,Int.reduceNeg,Nat.reduceAdd,Nat.reduceLeDiff,g0,g5,g6,g7,hlx,hp,hld',hfl,hj,hpj,hp2,P2.adr,hld4,le_not'])))
    · have e : markOk (prevOf l 0) x = false := by simp only [markOk]; grind
      exact K_v hK (hi.then q) (by simp [marksS, hr, e])
    · have e : markOk (prevOf l 0) x = true := by simp only [markOk, prevOf_zero]; grind
      refine ⟨hlt, hi.then q, rfl, ?_⟩
      rw [hr, e, Bool.true_and]
    · have e : markOk (prevOf l (j + 1)) x = false := by simp only [markOk, prevOf_succ, hy, bl]; grind
      exact K_v hK (hi.then q) (by simp [marksS, hr, e])
    · have e : markOk (prevOf l (j + 1)) x = true := by simp only [markOk, prevOf_succ, hy, bl]; grind
      refine ⟨hlt, hi.then q, succ_av (by omega), ?_⟩
      rw [hr, e, Bool.true_and]
  · (repeat' (with_reducible first|refine w_1 ?_|refine w_2 ?_|refine w_3 ?_|refine w_4 ?_|refine w_5 ?_|refine w_6 ?_|refine w_7 ?_|(refine w_8 (fun hb=>?_) (fun hb=>?_)<;>(try simp only [Bool.not_eq_true',Bool.not_eq_false'] at hb)<;>try simp only [hb])|(refine w_9 ?_;simp (maxDischargeDepth:=12) only [viz,↓reduceIte,Nat.reduceEqDiff,reduceCtorEq,Int.reduceEq,Int.reduceNeg,Nat.reduceAdd,Nat.reduceLeDiff,g0,g5,g6,g7,lt_false hlt,hlen])|refine w_10 (fun hc=>(by (try simp only [Bool.and_eq_true] at hc);simp (maxDischargeDepth:=12) only [viz,↓reduceIte,Nat.reduceEqDiff,reduceCtorEq,Int.reduceEq,Int.reduceNeg,Nat.reduceAdd,Nat.reduceLeDiff,g0,g5,g6,g7,lt_false hlt,hlen,hc];first|exact ⟨rfl,rfl⟩|exact rfl)) ?_|refine w_11 (fun hc=>(by (try simp only [Bool.and_eq_true] at hc);simp (maxDischargeDepth:=12) only [viz,↓reduceIte,Nat.reduceEqDiff,reduceCtorEq,Int.reduceEq,Int.reduceNeg,Nat.reduceAdd,Nat.reduceLeDiff,g0,g5,g6,g7,lt_false hlt,hlen,hc];first|exact ⟨rfl,rfl⟩|exact rfl)) ?_|refine w_12 ?_|simp (maxDischargeDepth:=12) only [viz,↓reduceIte,Nat.reduceEqDiff,reduceCtorEq,Int.reduceEq,Int.reduceNeg,Nat.reduceAdd,Nat.reduceLeDiff,g0,g5,g6,g7,lt_false hlt,hlen]))
    all_goals rw [rising_end hlt] at hr
    · exact K_v hK hi (by have := of_decide_eq_true hb; rw [marksS, hr, if_neg (by simp; omega)])
    · exact K_v hK hi (by have := of_decide_eq_false hb; rw [marksS, hr, if_pos (by simp; omega)])
end Go.Proofs.YthibbbfhkfebkaaGreat
/- Holds, marks: the document's word on which lists may be. No statement of the seat is proved here. -/
namespace Go.Proofs.YthibbbfhkfebkaaGreat
open Go Go.VI
set_option linter.unusedSimpArgs false
attribute [local irreducible] Ws Wp W C
set_option maxHeartbeats 4000000
theorem rmayH_c {l : List Hold} {v : AV} {D : Nat → Prop} {s : Mem} {K : AV → Mem → Prop} (hI : In D s) (hv : Holds s D v l) (hK : ∀ s', Keep s.next s s' → K (.bool (holdsS l)) s') : C tab 81 [v] s K := by
  refine C_enter (cf := cf81) rfl (Nat.le_of_ble_eq_true rfl) ?_
  simp only [cf81, oo, on, om, og, oc, ou]
  have hlen : lenA false v = some l.length := hv.lenB
  (repeat' (with_reducible first|refine w_1 ?_|refine w_2 ?_|refine w_3 ?_|refine w_4 ?_|refine w_5 ?_|refine w_6 ?_|refine w_7 ?_|(refine w_8 (fun hb=>?_) (fun hb=>?_)<;>(try simp only [Bool.not_eq_true',Bool.not_eq_false'] at hb)<;>try simp only [hb])|(refine w_9 ?_;simp (maxDischargeDepth:=12) only [viz,↓reduceIte,Nat.reduceEqDiff,reduceCtorEq,Int.reduceEq,Int.reduceNeg,Nat.reduceAdd,Nat.reduceLeDiff,hlen])|refine w_10 (fun hc=>(by (try simp only [Bool.and_eq_true] at hc);simp (maxDischargeDepth:=12) only [viz,↓reduceIte,Nat.reduceEqDiff,reduceCtorEq,Int.reduceEq,Int.reduceNeg,Nat.reduceAdd,Nat.reduceLeDiff,hlen,hc];first|exact ⟨rfl,rfl⟩|exact rfl)) ?_|refine w_11 (fun hc=>(by (try simp only [Bool.and_eq_true] at hc);simp (maxDischargeDepth:=12) only [viz,↓reduceIte,Nat.reduceEqDiff,reduceCtorEq,Int.reduceEq,Int.reduceNeg,Nat.reduceAdd,Nat.reduceLeDiff,hlen,hc];first|exact ⟨rfl,rfl⟩|exact rfl)) ?_|refine w_12 ?_|simp (maxDischargeDepth:=12) only [viz,↓reduceIte,Nat.reduceEqDiff,reduceCtorEq,Int.reduceEq,Int.reduceNeg,Nat.reduceAdd,Nat.reduceLeDiff,hlen]))
  · have := of_decide_eq_true hb
    refine K_of hK (Keep.refl _ _) ?_
    simp [holdsS]; omega
  have h64 : l.length ≤ 1024 := by have := of_decide_eq_false hb; omega
  refine W_inv l.length (fun i E s' => Keep s.next s s' ∧ E.get 0 = v ∧ E.get 3 = .int .i64 i ∧ rising holdOk none l = rising holdOk (prevOf l i) (l.drop i)) (by delta cf81l0 oo on om og oc ou; exact rfl) ?_ ?_
  · (repeat' (with_reducible first|refine w_1 ?_|refine w_2 ?_|refine w_3 ?_|refine w_4 ?_|refine w_5 ?_|refine w_6 ?_|refine w_7 ?_|(refine w_8 (fun hb=>?_) (fun hb=>?_)<;>(try simp only [Bool.not_eq_true',Bool.not_eq_false'] at hb)<;>try simp only [hb])|(refine w_9 ?_;simp (maxDischargeDepth:=12) only [viz,↓reduceIte,Nat.reduceEqDiff,reduceCtorEq,Int.reduceEq,Int.reduceNeg,Nat.reduceAdd,Nat.reduceLeDiff])|refine w_10 (fun hc=>(by (try simp only [Bool.and_eq_true] at hc);simp (maxDischargeDepth:=12) only [viz,↓reduceIte,Nat.reduceEqDiff,reduceCtorEq,Int.reduceEq,Int.reduceNeg,Nat.reduceAdd,Nat.reduceLeDiff,hc];first|exact ⟨rfl,rfl⟩|exact rfl)) ?_|refine w_11 (fun hc=>(by (try simp only [Bool.and_eq_true] at hc);simp (maxDischargeDepth:=12) only [viz,↓reduceIte,Nat.reduceEqDiff,reduceCtorEq,Int.reduceEq,Int.reduceNeg,Nat.reduceAdd,Nat.reduceLeDiff,hc];first|exact ⟨rfl,rfl⟩|exact rfl)) ?_|refine w_12 ?_|simp (maxDischargeDepth:=12) only [viz,↓reduceIte,Nat.reduceEqDiff,reduceCtorEq,Int.reduceEq,Int.reduceNeg,Nat.reduceAdd,Nat.reduceLeDiff]))
    exact ⟨rfl, rfl⟩
  rintro i E s' hile _ ⟨hi, g0, g3, hr⟩
  by_cases hlt : i < l.length
  · obtain ⟨x, hx⟩ := get_of hlt
    obtain ⟨p, hp, P, hld⟩ := hv.ldk hI hx rfl rfl
    have hld' := hld _ hi
    rw [rising_step hx] at hr
    simp only [holdC] at hld'
    have hlx := lt_true hlt
    rcases i with _ | j
    all_goals first
      | (have h0 : ((0 : Nat) : Int) = 0 := rfl
         rw [h0] at hp hlx
         (repeat' (with_reducible first|refine w_1 ?_|refine w_2 ?_|refine w_3 ?_|refine w_4 ?_|refine w_5 ?_|refine w_6 ?_|refine w_7 ?_|(refine w_8 (fun hb=>?_) (fun hb=>?_)<;>(try simp only [Bool.not_eq_true',Bool.not_eq_false'] at hb)<;>try simp only [hb])|(refine w_9 ?_;simp (maxDischargeDepth:=12) only [viz,↓reduceIte,Nat.reduceEqDiff,reduceCtorEq,Int.reduceEq,Int.reduceNeg,Nat.reduceAdd,Nat.reduceLeDiff,g0,g3,h0,hlen,hlx,hp,hld',bne_self_eq_false, Int.reduceBEq, Int.reduceBNe, Int.reduceLT, Int.reduceLE, Int.reduceGT, Int.reduceGE])|refine w_10 (fun hc=>(by (try simp only [Bool.and_eq_true] at hc);simp (maxDischargeDepth:=12) only [viz,↓reduceIte,Nat.reduceEqDiff,reduceCtorEq,Int.reduceEq,Int.reduceNeg,Nat.reduceAdd,Nat.reduceLeDiff,g0,g3,h0,hlen,hlx,hp,hld',bne_self_eq_false, Int.reduceBEq, Int.reduceBNe, Int.reduceLT, Int.reduceLE, Int.reduceGT, Int.reduceGE,hc];first|exact ⟨rfl,rfl⟩|exact rfl)) ?_|refine w_11 (fun hc=>(by (try simp only [Bool.and_eq_true] at hc);simp (maxDischargeDepth:=12) only [viz,↓reduceIte,Nat.reduceEqDiff,reduceCtorEq,Int.reduceEq,Int.reduceNeg,Nat.reduceAdd,Nat.reduceLeDiff,g0,g3,h0,hlen,hlx,hp,hld',bne_self_eq_false, Int.reduceBEq, Int.reduceBNe, Int.reduceLT, Int.reduceLE, Int.reduceGT, Int.reduceGE,hc];first|exact ⟨rfl,rfl⟩|exact rfl)) ?_|refine w_12 ?_|simp (maxDischargeDepth:=12) only [viz,↓reduceIte,Nat.reduceEqDiff,reduceCtorEq,Int.reduceEq,Int.reduceNeg,Nat.reduceAdd,Nat.reduceLeDiff,g0,g3,h0,hlen,hlx,hp,hld',bne_self_eq_false, Int.reduceBEq, Int.reduceBNe, Int.reduceLT, Int.reduceLE, Int.reduceGT, Int.reduceGE]))
         refine rhold_c (h := x) fun s2 h2 => ?_
         (repeat' (with_reducible first|refine w_1 ?_|refine w_2 ?_|refine w_3 ?_|refine w_4 ?_|refine w_5 ?_|refine w_6 ?_|refine w_7 ?_|(refine w_8 (fun hb=>?_) (fun hb=>?_)<;>(try simp only [Bool.not_eq_true',Bool.not_eq_false'] at hb)<;>try simp only [hb])|(refine w_9 ?_;simp (maxDischargeDepth:=12) only [viz,↓reduceIte,Nat.reduceEqDiff,reduceCtorEq,Int.reduceEq,Int.reduceNeg,Nat.reduceAdd,Nat.reduceLeDiff,g0,g3,h0,bne_self_eq_false, Int.reduceBEq, Int.reduceBNe, Int.reduceLT, Int.reduceLE, Int.reduceGT, Int.reduceGE])|refine w_10 (fun hc=>(by (try simp only [Bool.and_eq_true] at hc);simp (maxDischargeDepth:=12) only [viz,↓reduceIte,Nat.reduceEqDiff,reduceCtorEq,Int.reduceEq,Int.reduceNeg,Nat.reduceAdd,Nat.reduceLeDiff,g0,g3,h0,bne_self_eq_false, Int.reduceBEq, Int.reduceBNe, Int.reduceLT, Int.reduceLE, Int.reduceGT, Int.reduceGE,hc];first|exact ⟨rfl,rfl⟩|exact rfl)) ?_|refine w_11 (fun hc=>(by (try simp only [Bool.and_eq_true] at hc);simp (maxDischargeDepth:=12) only [viz,↓reduceIte,Nat.reduceEqDiff,reduceCtorEq,Int.reduceEq,Int.reduceNeg,Nat.reduceAdd,Nat.reduceLeDiff,g0,g3,h0,bne_self_eq_false, Int.reduceBEq, Int.reduceBNe, Int.reduceLT, Int.reduceLE, Int.reduceGT, Int.reduceGE,hc];first|exact ⟨rfl,rfl⟩|exact rfl)) ?_|refine w_12 ?_|simp (maxDischargeDepth:=12) only [viz,↓reduceIte,Nat.reduceEqDiff,reduceCtorEq,Int.reduceEq,Int.reduceNeg,Nat.reduceAdd,Nat.reduceLeDiff,g0,g3,h0,bne_self_eq_false, Int.reduceBEq, Int.reduceBNe, Int.reduceLT, Int.reduceLE, Int.reduceGT, Int.reduceGE])))
      | (obtain ⟨y, hy⟩ := get_of (l := l) (i := j) (by omega)
         obtain ⟨p2, hp2, P2, hld2⟩ := hv.ldk hI hy rfl rfl
         have hj : decide (((j + 1 : Nat) : Int) > 0) = true := by simp
         have hpj := pred_cast j (by omega)
         (repeat' (with_reducible first|refine w_1 ?_|refine w_2 ?_|refine w_3 ?_|refine w_4 ?_|refine w_5 ?_|refine w_6 ?_|refine w_7 ?_|(refine w_8 (fun hb=>?_) (fun hb=>?_)<;>(try simp only [Bool.not_eq_true',Bool.not_eq_false'] at hb)<;>try simp only [hb])|(refine w_9 ?_;simp (maxDischargeDepth:=12) only [viz,↓reduceIte,Nat.reduceEqDiff,reduceCtorEq,Int.reduceEq,Int.reduceNeg,Nat.reduceAdd,Nat.reduceLeDiff,g0,g3,hlen,hlx,hp,hld'])|refine w_10 (fun hc=>(by (try simp only [Bool.and_eq_true] at hc);simp (maxDischargeDepth:=12) only [viz,↓reduceIte,Nat.reduceEqDiff,reduceCtorEq,Int.reduceEq,Int.reduceNeg,Nat.reduceAdd,Nat.reduceLeDiff,g0,g3,hlen,hlx,hp,hld',hc];first|exact ⟨rfl,rfl⟩|exact rfl)) ?_|refine w_11 (fun hc=>(by (try simp only [Bool.and_eq_true] at hc);simp (maxDischargeDepth:=12) only [viz,↓reduceIte,Nat.reduceEqDiff,reduceCtorEq,Int.reduceEq,Int.reduceNeg,Nat.reduceAdd,Nat.reduceLeDiff,g0,g3,hlen,hlx,hp,hld',hc];first|exact ⟨rfl,rfl⟩|exact rfl)) ?_|refine w_12 ?_|simp (maxDischargeDepth:=12) only [viz,↓reduceIte,Nat.reduceEqDiff,reduceCtorEq,Int.reduceEq,Int.reduceNeg,Nat.reduceAdd,Nat.reduceLeDiff,g0,g3,hlen,hlx,hp,hld']))
         refine rhold_c (h := x) fun s2 h2 => ?_
         have hs2 := hi.then h2
         have hld3 : loadA s2 false 1 (VI.adr p2 0) = some (.str y.key) := by
           have := P2.ldf _ hs2 0 false 1 (by simp [holdC])
           rw [this]; rfl
         have hld4 : loadA s2 false 1 (VI.adr p 0) = some (.str x.key) := by
           have := P.ldf _ hs2 0 false 1 (by simp [holdC])
           rw [this]; rfl
         (repeat' (with_reducible first|refine w_1 ?_|refine w_2 ?_|refine w_3 ?_|refine w_4 ?_|refine w_5 ?_|refine w_6 ?_|refine w_7 ?_|(refine w_8 (fun hb=>?_) (fun hb=>?_)<;>(try simp only [Bool.not_eq_true',Bool.not_eq_false'] at hb)<;>try simp only [hb])|(refine w_9 ?_;simp (maxDischargeDepth:=12) only [viz,↓reduceIte,Nat.reduceEqDiff,reduceCtorEq,Int.reduceEq,Int.reduceNeg,Nat.reduceAdd,Nat.reduceLeDiff,g0,g3,hj,hpj,hp,hp2,P2.adr,P.adr,hld3,hld4,le_not'])|refine w_10 (fun hc=>(by (try simp only [Bool.and_eq_true] at hc);simp (maxDischargeDepth:=12) only [viz,↓reduceIte,Nat.reduceEqDiff,reduceCtorEq,Int.reduceEq,Int.reduceNeg,Nat.reduceAdd,Nat.reduceLeDiff,g0,g3,hj,hpj,hp,hp2,P2.adr,P.adr,hld3,hld4,le_not',hc];first|exact ⟨rfl,rfl⟩|exact rfl)) ?_|refine w_11 (fun hc=>(by (try simp only [Bool.and_eq_true] at hc);simp (maxDischargeDepth:=12) only [viz,↓reduceIte,Nat.reduceEqDiff,reduceCtorEq,Int.reduceEq,Int.reduceNeg,Nat.reduceAdd,Nat.reduceLeDiff,g0,g3,hj,hpj,hp,hp2,P2.adr,P.adr,hld3,hld4,le_not',hc];first|exact ⟨rfl,rfl⟩|exact rfl)) ?_|refine w_12 ?_|simp (maxDischargeDepth:=12) only [viz,↓reduceIte,Nat.reduceEqDiff,reduceCtorEq,Int.reduceEq,Int.reduceNeg,Nat.reduceAdd,Nat.reduceLeDiff,g0,g3,hj,hpj,hp,hp2,P2.adr,P.adr,hld3,hld4,le_not'])))
    · exact K_of hK (hi.then h2) (by simp [holdsS, hr, holdOk, hb])
    · refine ⟨hlt, hi.then h2, rfl, ?_⟩
      rw [hr]; simp [holdOk, prevOf, hb]
    · have e : holdOk (prevOf l (j + 1)) x = false := by simp only [holdOk, prevOf_succ, hy, bl]; grind
      exact K_of hK (hi.then h2) (by simp [holdsS, hr, e])
    · have e : holdOk (prevOf l (j + 1)) x = true := by simp only [holdOk, prevOf_succ, hy, bl]; grind
      refine ⟨hlt, hi.then h2, succ_av (by omega), ?_⟩
      rw [hr, e, Bool.true_and]
  · (repeat' (with_reducible first|refine w_1 ?_|refine w_2 ?_|refine w_3 ?_|refine w_4 ?_|refine w_5 ?_|refine w_6 ?_|refine w_7 ?_|(refine w_8 (fun hb=>?_) (fun hb=>?_)<;>(try simp only [Bool.not_eq_true',Bool.not_eq_false'] at hb)<;>try simp only [hb])|(refine w_9 ?_;simp (maxDischargeDepth:=12) only [viz,↓reduceIte,Nat.reduceEqDiff,reduceCtorEq,Int.reduceEq,Int.reduceNeg,Nat.reduceAdd,Nat.reduceLeDiff,g0,g3,lt_false hlt,hlen])|refine w_10 (fun hc=>(by (try simp only [Bool.and_eq_true] at hc);simp (maxDischargeDepth:=12) only [viz,↓reduceIte,Nat.reduceEqDiff,reduceCtorEq,Int.reduceEq,Int.reduceNeg,Nat.reduceAdd,Nat.reduceLeDiff,g0,g3,lt_false hlt,hlen,hc];first|exact ⟨rfl,rfl⟩|exact rfl)) ?_|refine w_11 (fun hc=>(by (try simp only [Bool.and_eq_true] at hc);simp (maxDischargeDepth:=12) only [viz,↓reduceIte,Nat.reduceEqDiff,reduceCtorEq,Int.reduceEq,Int.reduceNeg,Nat.reduceAdd,Nat.reduceLeDiff,g0,g3,lt_false hlt,hlen,hc];first|exact ⟨rfl,rfl⟩|exact rfl)) ?_|refine w_12 ?_|simp (maxDischargeDepth:=12) only [viz,↓reduceIte,Nat.reduceEqDiff,reduceCtorEq,Int.reduceEq,Int.reduceNeg,Nat.reduceAdd,Nat.reduceLeDiff,g0,g3,lt_false hlt,hlen]))
    rw [rising_end hlt] at hr
    exact K_of hK hi (by simp [holdsS, hr, h64])
theorem rmarks_c {l : List Mark} {v : AV} {D : Nat → Prop} {s : Mem} {K : AV → Mem → Prop} (hI : In D s) (hv : Marks s D v l) (hK : K (.bool (marksS l)) s) : C tab 82 [v] s K := by
  refine C_enter (cf := cf82) rfl (Nat.le_of_ble_eq_true rfl) ?_
  simp only [cf82, oo, on, om, og, oc, ou]
  have hlen : lenA false v = some l.length := hv.lenB
  (repeat' (with_reducible first|refine w_1 ?_|refine w_2 ?_|refine w_3 ?_|refine w_4 ?_|refine w_5 ?_|refine w_6 ?_|refine w_7 ?_|(refine w_8 (fun hb=>?_) (fun hb=>?_)<;>(try simp only [Bool.not_eq_true',Bool.not_eq_false'] at hb)<;>try simp only [hb])|(refine w_9 ?_;simp (maxDischargeDepth:=12) only [viz,↓reduceIte,Nat.reduceEqDiff,reduceCtorEq,Int.reduceEq,Int.reduceNeg,Nat.reduceAdd,Nat.reduceLeDiff,hlen])|refine w_10 (fun hc=>(by (try simp only [Bool.and_eq_true] at hc);simp (maxDischargeDepth:=12) only [viz,↓reduceIte,Nat.reduceEqDiff,reduceCtorEq,Int.reduceEq,Int.reduceNeg,Nat.reduceAdd,Nat.reduceLeDiff,hlen,hc];first|exact ⟨rfl,rfl⟩|exact rfl)) ?_|refine w_11 (fun hc=>(by (try simp only [Bool.and_eq_true] at hc);simp (maxDischargeDepth:=12) only [viz,↓reduceIte,Nat.reduceEqDiff,reduceCtorEq,Int.reduceEq,Int.reduceNeg,Nat.reduceAdd,Nat.reduceLeDiff,hlen,hc];first|exact ⟨rfl,rfl⟩|exact rfl)) ?_|refine w_12 ?_|simp (maxDischargeDepth:=12) only [viz,↓reduceIte,Nat.reduceEqDiff,reduceCtorEq,Int.reduceEq,Int.reduceNeg,Nat.reduceAdd,Nat.reduceLeDiff,hlen]))
  · have := of_decide_eq_true hb
    have e : marksS l = false := by simp [marksS]; omega
    rw [e] at hK; exact hK
  have h64 : l.length ≤ 1024 := by have := of_decide_eq_false hb; omega
  refine W_inv l.length (fun i E s' => s' = s ∧ E.get 0 = v ∧ E.get 3 = .int .i64 i ∧ rising markOk none l = rising markOk (prevOf l i) (l.drop i)) (by delta cf82l0 oo on om og oc ou; exact rfl) ?_ ?_
  · (repeat' (with_reducible first|refine w_1 ?_|refine w_2 ?_|refine w_3 ?_|refine w_4 ?_|refine w_5 ?_|refine w_6 ?_|refine w_7 ?_|(refine w_8 (fun hb=>?_) (fun hb=>?_)<;>(try simp only [Bool.not_eq_true',Bool.not_eq_false'] at hb)<;>try simp only [hb])|(refine w_9 ?_;simp (maxDischargeDepth:=12) only [viz,↓reduceIte,Nat.reduceEqDiff,reduceCtorEq,Int.reduceEq,Int.reduceNeg,Nat.reduceAdd,Nat.reduceLeDiff])|refine w_10 (fun hc=>(by (try simp only [Bool.and_eq_true] at hc);simp (maxDischargeDepth:=12) only [viz,↓reduceIte,Nat.reduceEqDiff,reduceCtorEq,Int.reduceEq,Int.reduceNeg,Nat.reduceAdd,Nat.reduceLeDiff,hc];first|exact ⟨rfl,rfl⟩|exact rfl)) ?_|refine w_11 (fun hc=>(by (try simp only [Bool.and_eq_true] at hc);simp (maxDischargeDepth:=12) only [viz,↓reduceIte,Nat.reduceEqDiff,reduceCtorEq,Int.reduceEq,Int.reduceNeg,Nat.reduceAdd,Nat.reduceLeDiff,hc];first|exact ⟨rfl,rfl⟩|exact rfl)) ?_|refine w_12 ?_|simp (maxDischargeDepth:=12) only [viz,↓reduceIte,Nat.reduceEqDiff,reduceCtorEq,Int.reduceEq,Int.reduceNeg,Nat.reduceAdd,Nat.reduceLeDiff]))
    exact ⟨rfl, rfl⟩
  rintro i E s' hile _ ⟨rfl, g0, g3, hr⟩
  by_cases hlt : i < l.length
  · obtain ⟨x, hx⟩ := get_of hlt
    obtain ⟨p, hp, P, hld⟩ := hv.ldk hI hx rfl rfl
    rw [rising_step hx] at hr
    have hlx := lt_true hlt
    have e0 := gt64 x.key.length
    have hl0 : loadA s' false 1 (VI.adr p 0) = some (.str x.key) := by
      have := P.ldf _ (Keep.refl _ _) 0 false 1 (by simp [markC])
      rw [this]; rfl
    have hl1 : loadA s' false 1 (VI.adr p 1) = some (.int .u64 x.token) := by
      have := P.ldf _ (Keep.refl _ _) 1 false 1 (by simp [markC])
      rw [this]; rfl
    rcases i with _ | j
    all_goals first
      | (have h0 : ((0 : Nat) : Int) = 0 := rfl
         rw [h0] at hp hlx
         (repeat' (with_reducible first|refine w_1 ?_|refine w_2 ?_|refine w_3 ?_|refine w_4 ?_|refine w_5 ?_|refine w_6 ?_|refine w_7 ?_|(refine w_8 (fun hb=>?_) (fun hb=>?_)<;>(try simp only [Bool.not_eq_true',Bool.not_eq_false'] at hb)<;>try simp only [hb])|(refine w_9 ?_;simp (maxDischargeDepth:=12) only [viz,↓reduceIte,Nat.reduceEqDiff,reduceCtorEq,Int.reduceEq,Int.reduceNeg,Nat.reduceAdd,Nat.reduceLeDiff,g0,g3,h0,hlen,hlx,hp,P.adr,hl0,hl1,bne_self_eq_false, Int.reduceBEq, Int.reduceBNe, Int.reduceLT, Int.reduceLE, Int.reduceGT, Int.reduceGE])|refine w_10 (fun hc=>(by (try simp only [Bool.and_eq_true] at hc);simp (maxDischargeDepth:=12) only [viz,↓reduceIte,Nat.reduceEqDiff,reduceCtorEq,Int.reduceEq,Int.reduceNeg,Nat.reduceAdd,Nat.reduceLeDiff,g0,g3,h0,hlen,hlx,hp,P.adr,hl0,hl1,bne_self_eq_false, Int.reduceBEq, Int.reduceBNe, Int.reduceLT, Int.reduceLE, Int.reduceGT, Int.reduceGE,hc];first|exact ⟨rfl,rfl⟩|exact rfl)) ?_|refine w_11 (fun hc=>(by (try simp only [Bool.and_eq_true] at hc);simp (maxDischargeDepth:=12) only [viz,↓reduceIte,Nat.reduceEqDiff,reduceCtorEq,Int.reduceEq,Int.reduceNeg,Nat.reduceAdd,Nat.reduceLeDiff,g0,g3,h0,hlen,hlx,hp,P.adr,hl0,hl1,bne_self_eq_false, Int.reduceBEq, Int.reduceBNe, Int.reduceLT, Int.reduceLE, Int.reduceGT, Int.reduceGE,hc];first|exact ⟨rfl,rfl⟩|exact rfl)) ?_|refine w_12 ?_|simp (maxDischargeDepth:=12) only [viz,↓reduceIte,Nat.reduceEqDiff,reduceCtorEq,Int.reduceEq,Int.reduceNeg,Nat.reduceAdd,Nat.reduceLeDiff,g0,g3,h0,hlen,hlx,hp,P.adr,hl0,hl1,bne_self_eq_false, Int.reduceBEq, Int.reduceBNe, Int.reduceLT, Int.reduceLE, Int.reduceGT, Int.reduceGE])))
      | (obtain ⟨y, hy⟩ := get_of (l := l) (i := j) (by omega)
         obtain ⟨p2, hp2, P2, hld2⟩ := hv.ldk hI hy rfl rfl
         have hj : decide (((j + 1 : Nat) : Int) > 0) = true := by simp
         have hpj := pred_cast j (by omega)
         have hl2 : loadA s' false 1 (VI.adr p2 0) = some (.str y.key) := by
           have := P2.ldf _ (Keep.refl _ _) 0 false 1 (by simp [markC])
           rw [this]; rfl
         (repeat' (with_reducible first|refine w_1 ?_|refine w_2 ?_|refine w_3 ?_|refine w_4 ?_|refine w_5 ?_|refine w_6 ?_|refine w_7 ?_|(refine w_8 (fun hb=>?_) (fun hb=>?_)<;>(try simp only [Bool.not_eq_true',Bool.not_eq_false'] at hb)<;>try simp only [hb])|(refine w_9 ?_;simp (maxDischargeDepth:=12) only [viz,↓reduceIte,Nat.reduceEqDiff,reduceCtorEq,Int.reduceEq,Int.reduceNeg,Nat.reduceAdd,Nat.reduceLeDiff,g0,g3,hlen,hlx,hp,hp2,hj,hpj,P.adr,P2.adr,hl0,hl1,hl2,le_not'])|refine w_10 (fun hc=>(by (try simp only [Bool.and_eq_true] at hc);simp (maxDischargeDepth:=12) only [viz,↓reduceIte,Nat.reduceEqDiff,reduceCtorEq,Int.reduceEq,Int.reduceNeg,Nat.reduceAdd,Nat.reduceLeDiff,g0,g3,hlen,hlx,hp,hp2,hj,hpj,P.adr,P2.adr,hl0,hl1,hl2,le_not',hc];first|exact ⟨rfl,rfl⟩|exact rfl)) ?_|refine w_11 (fun hc=>(by (try simp only [Bool.and_eq_true] at hc);simp (maxDischargeDepth:=12) only [viz,↓reduceIte,Nat.reduceEqDiff,reduceCtorEq,Int.reduceEq,Int.reduceNeg,Nat.reduceAdd,Nat.reduceLeDiff,g0,g3,hlen,hlx,hp,hp2,hj,hpj,P.adr,P2.adr,hl0,hl1,hl2,le_not',hc];first|exact ⟨rfl,rfl⟩|exact rfl)) ?_|refine w_12 ?_|simp (maxDischargeDepth:=12) only [viz,↓reduceIte,Nat.reduceEqDiff,reduceCtorEq,Int.reduceEq,Int.reduceNeg,Nat.reduceAdd,Nat.reduceLeDiff,g0,g3,hlen,hlx,hp,hp2,hj,hpj,P.adr,P2.adr,hl0,hl1,hl2,le_not'])))
    · have e : markOk (prevOf l 0) x = false := by simp only [markOk]; grind
      have e2 : marksS l = false := by simp [marksS, hr, e]
      rw [e2] at hK; exact hK
    · have e : markOk (prevOf l 0) x = true := by simp only [markOk, prevOf_zero]; grind
      refine ⟨hlt, rfl, ?_⟩
      rw [hr, e, Bool.true_and]
    · have e : markOk (prevOf l (j + 1)) x = false := by simp only [markOk, prevOf_succ, hy, bl]; grind
      have e2 : marksS l = false := by simp [marksS, hr, e]
      rw [e2] at hK; exact hK
    · have e : markOk (prevOf l (j + 1)) x = true := by simp only [markOk, prevOf_succ, hy, bl]; grind
      refine ⟨hlt, succ_av (by omega), ?_⟩
      rw [hr, e, Bool.true_and]
  · (repeat' (with_reducible first|refine w_1 ?_|refine w_2 ?_|refine w_3 ?_|refine w_4 ?_|refine w_5 ?_|refine w_6 ?_|refine w_7 ?_|(refine w_8 (fun hb=>?_) (fun hb=>?_)<;>(try simp only [Bool.not_eq_true',Bool.not_eq_false'] at hb)<;>try simp only [hb])|(refine w_9 ?_;simp (maxDischargeDepth:=12) only [viz,↓reduceIte,Nat.reduceEqDiff,reduceCtorEq,Int.reduceEq,Int.reduceNeg,Nat.reduceAdd,Nat.reduceLeDiff,g0,g3,lt_false hlt,hlen])|refine w_10 (fun hc=>(by (try simp only [Bool.and_eq_true] at hc);simp (maxDischargeDepth:=12) only [viz,↓reduceIte,Nat.reduceEqDiff,reduceCtorEq,Int.reduceEq,Int.reduceNeg,Nat.reduceAdd,Nat.reduceLeDiff,g0,g3,lt_false hlt,hlen,hc];first|exact ⟨rfl,rfl⟩|exact rfl)) ?_|refine w_11 (fun hc=>(by (try simp only [Bool.and_eq_true] at hc);simp (maxDischargeDepth:=12) only [viz,↓reduceIte,Nat.reduceEqDiff,reduceCtorEq,Int.reduceEq,Int.reduceNeg,Nat.reduceAdd,Nat.reduceLeDiff,g0,g3,lt_false hlt,hlen,hc];first|exact ⟨rfl,rfl⟩|exact rfl)) ?_|refine w_12 ?_|simp (maxDischargeDepth:=12) only [viz,↓reduceIte,Nat.reduceEqDiff,reduceCtorEq,Int.reduceEq,Int.reduceNeg,Nat.reduceAdd,Nat.reduceLeDiff,g0,g3,lt_false hlt,hlen]))
    rw [rising_end hlt] at hr
    have e : marksS l = true := by simp [marksS, hr, h64]
    rw [e] at hK; exact hK
end Go.Proofs.YthibbbfhkfebkaaGreat

