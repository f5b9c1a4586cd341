/- Which states may be, as the program tells. No statement of the seat is proved here. -/
import Derived.Test.YtfllmhjjfapnmaaGreatVZRaftV
import Derived.Test.YtfllmhjjfapnmaaGreatVZVE
namespace Go.Proofs.YtfllmhjjfapnmaaGreat
open Go Go.VI
set_option linter.unusedSimpArgs false
attribute [local irreducible] Ws Wp W C
set_option maxHeartbeats 2000000
theorem take_eq_next {xs ys : List Int} {i : Nat} {a b : Int} (hl : xs.length = ys.length) (h : xs.take i = ys.take i) (ha : xs[i]? = some a) (hb : ys[i]? = some b) : (a = b → xs.take (i + 1) = ys.take (i + 1)) ∧ (a ≠ b → xs ≠ ys) := by
  constructor
  · rintro rfl
    rw [List.take_add_one, List.take_add_one, h, ha, hb]
  · rintro hne rfl
    rw [ha] at hb
    exact hne (Option.some.inj hb)
theorem eqInts_c {xs ys : List Int} {D : Nat → Prop} {s : Mem} {v1 v2 : AV} {K : AV → Mem → Prop} (hI : In D s) (h1 : Sl s D v1 1 (intsA .i64 xs)) (h2 : Sl s D v2 1 (intsA .i64 ys)) (hn : Fit xs.length) (hn2 : Fit ys.length)
    (hK : K (.bool (decide (xs = ys))) s) : C tab 24 [v1, v2] s K := by
  refine C_enter (cf := cf24) rfl (Nat.le_of_ble_eq_true rfl) ?_
  simp only [cf24, oo, on, om, og, oc, ou]
  by_cases hl : xs.length = ys.length
  · have c0 : ((xs.length : Int) != (ys.length : Int)) = false := by simp [hl]
    (repeat' (with_reducible first|refine w_1 ?_|refine w_2 ?_|refine w_3 ?_|refine w_4 ?_|refine w_5 ?_|refine w_6 ?_|refine w_7 ?_|(refine w_8 (fun hb=>?_) (fun hb=>?_)<;>try simp only [hb])|refine w_9 ?_|simp (maxDischargeDepth:=12) only [viz,↓reduceIte,Nat.reduceEqDiff,reduceCtorEq,Int.reduceEq,Int.reduceNeg,Nat.reduceAdd,Nat.reduceLeDiff,h1.lenB,h2.lenB,c0]))
    refine W_inv xs.length (fun i e s' => s' = s ∧ e.get 0 = v1 ∧ e.get 1 = v2 ∧ e.get 5 = .int .i64 i ∧ xs.take i = ys.take i) (by delta cf24l0 oo on om og oc ou; exact rfl) ?_ ?_
    · (repeat' (with_reducible first|refine w_1 ?_|refine w_2 ?_|refine w_3 ?_|refine w_4 ?_|refine w_5 ?_|refine w_6 ?_|refine w_7 ?_|(refine w_8 (fun hb=>?_) (fun hb=>?_)<;>try simp only [hb])|refine w_9 ?_|simp (maxDischargeDepth:=12) only [viz,↓reduceIte,Nat.reduceEqDiff,reduceCtorEq,Int.reduceEq,Int.reduceNeg,Nat.reduceAdd,Nat.reduceLeDiff]))
      all_goals first | rfl | exact ⟨rfl, rfl⟩ | simp
    · rintro i e s' hi _ ⟨rfl, g0, g1, g5, ht⟩
      by_cases hlt : i < xs.length
      · obtain ⟨a, ha⟩ := get_of hlt
        obtain ⟨b, hb⟩ := get_of (show i < ys.length by omega)
        obtain ⟨p, hp, P⟩ := h1.atkB hI ha
        obtain ⟨p2, hp2, P2⟩ := h2.atkB hI hb
        obtain ⟨q1, q2⟩ := take_eq_next hl ht ha hb
        by_cases hab : a = b
        · have c1 : (a != b) = false := by simp [hab]
          (repeat' (with_reducible first|refine w_1 ?_|refine w_2 ?_|refine w_3 ?_|refine w_4 ?_|refine w_5 ?_|refine w_6 ?_|refine w_7 ?_|(refine w_8 (fun hb=>?_) (fun hb=>?_)<;>try simp only [hb])|refine w_9 ?_|simp (maxDischargeDepth:=12) only [viz,↓reduceIte,Nat.reduceEqDiff,reduceCtorEq,Int.reduceEq,Int.reduceNeg,Nat.reduceAdd,Nat.reduceLeDiff,g0,g1,g5,h1.lenB,lt_true hlt,hp,P.ld,hp2,P2.ld,c1]))
          exact ⟨hlt, succ_av (by omega), q1 hab⟩
        · have c1 : (a != b) = true := by simp [hab]
          (repeat' (with_reducible first|refine w_1 ?_|refine w_2 ?_|refine w_3 ?_|refine w_4 ?_|refine w_5 ?_|refine w_6 ?_|refine w_7 ?_|(refine w_8 (fun hb=>?_) (fun hb=>?_)<;>try simp only [hb])|refine w_9 ?_|simp (maxDischargeDepth:=12) only [viz,↓reduceIte,Nat.reduceEqDiff,reduceCtorEq,Int.reduceEq,Int.reduceNeg,Nat.reduceAdd,Nat.reduceLeDiff,g0,g1,g5,h1.lenB,lt_true hlt,hp,P.ld,hp2,P2.ld,c1]))
          rw [decide_eq_false (q2 hab)] at hK
          exact hK
      · (repeat' (with_reducible first|refine w_1 ?_|refine w_2 ?_|refine w_3 ?_|refine w_4 ?_|refine w_5 ?_|refine w_6 ?_|refine w_7 ?_|(refine w_8 (fun hb=>?_) (fun hb=>?_)<;>try simp only [hb])|refine w_9 ?_|simp (maxDischargeDepth:=12) only [viz,↓reduceIte,Nat.reduceEqDiff,reduceCtorEq,Int.reduceEq,Int.reduceNeg,Nat.reduceAdd,Nat.reduceLeDiff,g0,g1,g5,h1.lenB,lt_false hlt]))
        have : xs = ys := by rw [List.take_of_length_le (by omega), List.take_of_length_le (by omega)] at ht; exact ht
        rw [decide_eq_true this] at hK
        exact hK
  · have c0 : ((xs.length : Int) != (ys.length : Int)) = true := by simp; omega
    have : xs ≠ ys := fun h => hl (by rw [h])
    (repeat' (with_reducible first|refine w_1 ?_|refine w_2 ?_|refine w_3 ?_|refine w_4 ?_|refine w_5 ?_|refine w_6 ?_|refine w_7 ?_|(refine w_8 (fun hb=>?_) (fun hb=>?_)<;>try simp only [hb])|refine w_9 ?_|simp (maxDischargeDepth:=12) only [viz,↓reduceIte,Nat.reduceEqDiff,reduceCtorEq,Int.reduceEq,Int.reduceNeg,Nat.reduceAdd,Nat.reduceLeDiff,h1.lenB,h2.lenB,c0]))
    rw [decide_eq_false this] at hK
    exact hK
theorem equalI_c {xs ys : List Int} {D : Nat → Prop} {s : Mem} {v1 v2 : AV} {K : AV → Mem → Prop} (hI : In D s) (h1 : Sl s D v1 1 (intsA .i64 xs)) (h2 : Sl s D v2 1 (intsA .i64 ys)) (hn : Fit xs.length) (hn2 : Fit ys.length)
    (hK : K (.bool (decide (xs = ys))) s) : C tab 61 [v1, v2] s K := by
  refine C_enter (cf := cf61) rfl (Nat.le_of_ble_eq_true rfl) ?_
  simp only [cf61, oo, on, om, og, oc, ou]
  by_cases hl : xs.length = ys.length
  · have c0 : ((xs.length : Int) != (ys.length : Int)) = false := by simp [hl]
    (repeat' (with_reducible first|refine w_1 ?_|refine w_2 ?_|refine w_3 ?_|refine w_4 ?_|refine w_5 ?_|refine w_6 ?_|refine w_7 ?_|(refine w_8 (fun hb=>?_) (fun hb=>?_)<;>try simp only [hb])|refine w_9 ?_|simp (maxDischargeDepth:=12) only [viz,↓reduceIte,Nat.reduceEqDiff,reduceCtorEq,Int.reduceEq,Int.reduceNeg,Nat.reduceAdd,Nat.reduceLeDiff,h1.lenB,h2.lenB,c0]))
    refine W_inv xs.length (fun i e s' => s' = s ∧ e.get 13 = .int .i64 i ∧ xs.take i = ys.take i) (by delta cf61l0 oo on om og oc ou; exact rfl) ?_ ?_
    · (repeat' (with_reducible first|refine w_1 ?_|refine w_2 ?_|refine w_3 ?_|refine w_4 ?_|refine w_5 ?_|refine w_6 ?_|refine w_7 ?_|(refine w_8 (fun hb=>?_) (fun hb=>?_)<;>try simp only [hb])|refine w_9 ?_|simp (maxDischargeDepth:=12) only [viz,↓reduceIte,Nat.reduceEqDiff,reduceCtorEq,Int.reduceEq,Int.reduceNeg,Nat.reduceAdd,Nat.reduceLeDiff]))
      all_goals first | rfl | exact ⟨rfl, rfl⟩ | simp
    · rintro i e s' hi hT ⟨rfl, g5, ht⟩
      have g0 := hT 0 rfl
      have g1 := hT 1 rfl
      have g12 := hT 12 rfl
      simp only [Env.get_set, ↓reduceIte, Nat.reduceEqDiff, Env.start, Env.ofList] at g0 g1 g12
      by_cases hlt : i < xs.length
      · obtain ⟨a, ha⟩ := get_of hlt
        obtain ⟨b, hb⟩ := get_of (show i < ys.length by omega)
        obtain ⟨p, hp, P⟩ := h1.atkB hI ha
        obtain ⟨p2, hp2, P2⟩ := h2.atkB hI hb
        obtain ⟨q1, q2⟩ := take_eq_next hl ht ha hb
        by_cases hab : a = b
        · have c1 : (a != b) = false := by simp [hab]
          (repeat' (with_reducible first|refine w_1 ?_|refine w_2 ?_|refine w_3 ?_|refine w_4 ?_|refine w_5 ?_|refine w_6 ?_|refine w_7 ?_|(refine w_8 (fun hb=>?_) (fun hb=>?_)<;>try simp only [hb])|refine w_9 ?_|simp (maxDischargeDepth:=12) only [viz,↓reduceIte,Nat.reduceEqDiff,reduceCtorEq,Int.reduceEq,Int.reduceNeg,Nat.reduceAdd,Nat.reduceLeDiff,g0,g1,g12,g5,lt_true hlt,hp,P.ld,hp2,P2.ld,c1]))
          exact ⟨hlt, succ_av (by omega), q1 hab⟩
        · have c1 : (a != b) = true := by simp [hab]
          (repeat' (with_reducible first|refine w_1 ?_|refine w_2 ?_|refine w_3 ?_|refine w_4 ?_|refine w_5 ?_|refine w_6 ?_|refine w_7 ?_|(refine w_8 (fun hb=>?_) (fun hb=>?_)<;>try simp only [hb])|refine w_9 ?_|simp (maxDischargeDepth:=12) only [viz,↓reduceIte,Nat.reduceEqDiff,reduceCtorEq,Int.reduceEq,Int.reduceNeg,Nat.reduceAdd,Nat.reduceLeDiff,g0,g1,g12,g5,lt_true hlt,hp,P.ld,hp2,P2.ld,c1]))
          rw [decide_eq_false (q2 hab)] at hK
          exact hK
      · (repeat' (with_reducible first|refine w_1 ?_|refine w_2 ?_|refine w_3 ?_|refine w_4 ?_|refine w_5 ?_|refine w_6 ?_|refine w_7 ?_|(refine w_8 (fun hb=>?_) (fun hb=>?_)<;>try simp only [hb])|refine w_9 ?_|simp (maxDischargeDepth:=12) only [viz,↓reduceIte,Nat.reduceEqDiff,reduceCtorEq,Int.reduceEq,Int.reduceNeg,Nat.reduceAdd,Nat.reduceLeDiff,g0,g1,g12,g5,lt_false hlt]))
        have : xs = ys := by rw [List.take_of_length_le (by omega), List.take_of_length_le (by omega)] at ht; exact ht
        rw [decide_eq_true this] at hK
        exact hK
  · have c0 : ((xs.length : Int) != (ys.length : Int)) = true := by simp; omega
    have : xs ≠ ys := fun h => hl (by rw [h])
    (repeat' (with_reducible first|refine w_1 ?_|refine w_2 ?_|refine w_3 ?_|refine w_4 ?_|refine w_5 ?_|refine w_6 ?_|refine w_7 ?_|(refine w_8 (fun hb=>?_) (fun hb=>?_)<;>try simp only [hb])|refine w_9 ?_|simp (maxDischargeDepth:=12) only [viz,↓reduceIte,Nat.reduceEqDiff,reduceCtorEq,Int.reduceEq,Int.reduceNeg,Nat.reduceAdd,Nat.reduceLeDiff,h1.lenB,h2.lenB,c0]))
    rw [decide_eq_false this] at hK
    exact hK
def nodeOk (n : Int) : Bool := decide (1 ≤ n) && decide (n ≤ 7)
def someOk (n : Int) : Bool := decide (0 ≤ n) && decide (n ≤ 7)
def vot (l : Log) : List Int := nodes (cfgT l.base.data l.l l.l.length)
def peerOk (end_ : Int) (p : Peer) : Bool := decide (p.2.2 < p.2.1) && decide (p.2.1 ≤ IntKind.u64.wrap (end_ + 1))
def peersOk (r : Raft) : Bool := r.peers.all (peerOk (lastE r.log).index) && decide (r.peers.map (·.1) = vot r.log)
def stOk (r : Raft) : Bool :=
  nodeOk r.node && decide (r.term ≤ 4611686018427387904) && someOk r.vote && someOk r.leads && decide (0 ≤ r.elapsed) && decide (r.elapsed ≤ 1000) && logOk r.log &&
  decide ((lastE r.log).term ≤ r.term) && decide (r.log.base.index ≤ r.commit) && decide (r.commit ≤ (lastE r.log).index) &&
  (decide (r.role = 0) && decide (r.votes.length = 0) && decide (r.peers.length = 0) ||
   decide (r.role = 1) && decide (r.peers.length = 0) && (decide (r.votes.length = 0) || okV r.votes) ||
   decide (r.role = 2) && decide (r.votes.length = 0) && peersOk r)
theorem bool_K {s : Mem} {K : AV → Mem → Prop} {b c : Bool} (hK : K (.bool c) s) (h : b = c) : K (.bool b) s := h ▸ hK
section
variable {s : Mem} {K : AV → Mem → Prop} {n : Int}
theorem rnode_c (hK : K (.bool (nodeOk n)) s) : C tab 50 [.int .i64 n] s K := by
  refine C_enter (cf := cf50) rfl (Nat.le_of_ble_eq_true rfl) ?_
  simp only [cf50, oo, on, om, og, oc, ou]
  (repeat' (with_reducible first|refine w_1 ?_|refine w_2 ?_|refine w_3 ?_|refine w_4 ?_|refine w_5 ?_|refine w_6 ?_|refine w_7 ?_|(refine w_8 (fun hb=>?_) (fun hb=>?_)<;>try simp only [hb])|refine w_9 ?_|simp (maxDischargeDepth:=12) only [viz,↓reduceIte,Nat.reduceEqDiff,reduceCtorEq,Int.reduceEq,Int.reduceNeg,Nat.reduceAdd,Nat.reduceLeDiff]))
  all_goals
    refine bool_K hK ?_
    unfold nodeOk
    (try simp only [decide_eq_true_eq, decide_eq_false_iff_not, bne_iff_ne, ne_eq, bne_eq_false_iff_eq, beq_iff_eq, beq_eq_false_iff_ne, Bool.not_eq_true', Bool.not_eq_false', Bool.not_eq_true, Bool.not_eq_false, Bool.not_not, Bool.not_true, Bool.not_false, Bool.true_beq, Bool.false_beq, beq_true, beq_false, Decidable.not_not, Bool.and_eq_true, Bool.or_eq_true, Bool.and_eq_false_imp] at *)
    simp
    try omega
theorem some_c (hK : K (.bool (someOk n)) s) : C tab 53 [.int .i64 n] s K := by
  refine C_enter (cf := cf53) rfl (Nat.le_of_ble_eq_true rfl) ?_
  simp only [cf53, oo, on, om, og, oc, ou]
  by_cases h : n = 0
  · have c1 : (n == 0) = true := by simp [h]
    (repeat' (with_reducible first|refine w_1 ?_|refine w_2 ?_|refine w_3 ?_|refine w_4 ?_|refine w_5 ?_|refine w_6 ?_|refine w_7 ?_|(refine w_8 (fun hb=>?_) (fun hb=>?_)<;>try simp only [hb])|refine w_9 ?_|simp (maxDischargeDepth:=12) only [viz,↓reduceIte,Nat.reduceEqDiff,reduceCtorEq,Int.reduceEq,Int.reduceNeg,Nat.reduceAdd,Nat.reduceLeDiff,c1]))
    subst h; exact hK
  · have c1 : (n == 0) = false := by simp [h]
    (repeat' (with_reducible first|refine w_1 ?_|refine w_2 ?_|refine w_3 ?_|refine w_4 ?_|refine w_5 ?_|refine w_6 ?_|refine w_7 ?_|(refine w_8 (fun hb=>?_) (fun hb=>?_)<;>try simp only [hb])|refine w_9 ?_|simp (maxDischargeDepth:=12) only [viz,↓reduceIte,Nat.reduceEqDiff,reduceCtorEq,Int.reduceEq,Int.reduceNeg,Nat.reduceAdd,Nat.reduceLeDiff,c1]))
    refine rnode_c ?_
    (repeat' (with_reducible first|refine w_1 ?_|refine w_2 ?_|refine w_3 ?_|refine w_4 ?_|refine w_5 ?_|refine w_6 ?_|refine w_7 ?_|(refine w_8 (fun hb=>?_) (fun hb=>?_)<;>try simp only [hb])|refine w_9 ?_|simp (maxDischargeDepth:=12) only [viz,↓reduceIte,Nat.reduceEqDiff,reduceCtorEq,Int.reduceEq,Int.reduceNeg,Nat.reduceAdd,Nat.reduceLeDiff]))
    have : nodeOk n = someOk n := by unfold nodeOk someOk; rw [Bool.eq_iff_iff]; simp; omega
    rw [this]; exact hK
theorem fnode_c (hK : K (.bool (nodeOk n)) s) : C tab 41 [.int .i64 n] s K := by
  refine C_enter (cf := cf41) rfl (Nat.le_of_ble_eq_true rfl) ?_
  simp only [cf41, oo, on, om, og, oc, ou]
  (repeat' (with_reducible first|refine w_1 ?_|refine w_2 ?_|refine w_3 ?_|refine w_4 ?_|refine w_5 ?_|refine w_6 ?_|refine w_7 ?_|(refine w_8 (fun hb=>?_) (fun hb=>?_)<;>try simp only [hb])|refine w_9 ?_|simp (maxDischargeDepth:=12) only [viz,↓reduceIte,Nat.reduceEqDiff,reduceCtorEq,Int.reduceEq,Int.reduceNeg,Nat.reduceAdd,Nat.reduceLeDiff]))
  all_goals
    refine bool_K hK ?_
    unfold nodeOk
    (try simp only [decide_eq_true_eq, decide_eq_false_iff_not, bne_iff_ne, ne_eq, bne_eq_false_iff_eq, beq_iff_eq, beq_eq_false_iff_ne, Bool.not_eq_true', Bool.not_eq_false', Bool.not_eq_true, Bool.not_eq_false, Bool.not_not, Bool.not_true, Bool.not_false, Bool.true_beq, Bool.false_beq, beq_true, beq_false, Decidable.not_not, Bool.and_eq_true, Bool.or_eq_true, Bool.and_eq_false_imp] at *)
    simp
    try omega
theorem rising_c {vs : List Int} {D : Nat → Prop} {v : AV} (hv : Sl s D v 1 (intsA .i64 vs)) (hn : Fit vs.length) (hK : K (.bool (decide (vs.length = 0) || okV vs)) s) : C tab 55 [v] s K := by
  refine C_enter (cf := cf55) rfl (Nat.le_of_ble_eq_true rfl) ?_
  simp only [cf55, oo, on, om, og, oc, ou]
  by_cases h : vs.length = 0
  · have c1 : ((vs.length : Int) == 0) = true := by rw [h]; rfl
    (repeat' (with_reducible first|refine w_1 ?_|refine w_2 ?_|refine w_3 ?_|refine w_4 ?_|refine w_5 ?_|refine w_6 ?_|refine w_7 ?_|(refine w_8 (fun hb=>?_) (fun hb=>?_)<;>try simp only [hb])|refine w_9 ?_|simp (maxDischargeDepth:=12) only [viz,↓reduceIte,Nat.reduceEqDiff,reduceCtorEq,Int.reduceEq,Int.reduceNeg,Nat.reduceAdd,Nat.reduceLeDiff,hv.lenB,c1]))
    rw [decide_eq_true h] at hK
    exact hK
  · have c1 : ((vs.length : Int) == 0) = false := ne0 (by omega)
    (repeat' (with_reducible first|refine w_1 ?_|refine w_2 ?_|refine w_3 ?_|refine w_4 ?_|refine w_5 ?_|refine w_6 ?_|refine w_7 ?_|(refine w_8 (fun hb=>?_) (fun hb=>?_)<;>try simp only [hb])|refine w_9 ?_|simp (maxDischargeDepth:=12) only [viz,↓reduceIte,Nat.reduceEqDiff,reduceCtorEq,Int.reduceEq,Int.reduceNeg,Nat.reduceAdd,Nat.reduceLeDiff,hv.lenB,c1]))
    refine check_c hv hn ?_
    (repeat' (with_reducible first|refine w_1 ?_|refine w_2 ?_|refine w_3 ?_|refine w_4 ?_|refine w_5 ?_|refine w_6 ?_|refine w_7 ?_|(refine w_8 (fun hb=>?_) (fun hb=>?_)<;>try simp only [hb])|refine w_9 ?_|simp (maxDischargeDepth:=12) only [viz,↓reduceIte,Nat.reduceEqDiff,reduceCtorEq,Int.reduceEq,Int.reduceNeg,Nat.reduceAdd,Nat.reduceLeDiff]))
    rw [decide_eq_false h, Bool.false_or] at hK
    exact hK
end
end Go.Proofs.YtfllmhjjfapnmaaGreat

