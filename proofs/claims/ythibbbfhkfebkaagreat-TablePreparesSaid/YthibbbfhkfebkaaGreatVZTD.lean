/- Calls, transactions: which may be. No statement of the seat is proved here. -/
import Derived.Test.YthibbbfhkfebkaaGreatVZTB
import Derived.Test.YthibbbfhkfebkaaGreatVZVE
import Derived.Test.YthibbbfhkfebkaaGreatVZTC
namespace Go.Proofs.YthibbbfhkfebkaaGreat
open Go Go.VI
set_option linter.unusedSimpArgs false
def lastsS (kind ttl : Int) : Bool := if kind = 2 then decide (ttl = 0) else (decide (kind = 1) || decide (kind = 3)) && decide (1 ≤ ttl) && decide (ttl ≤ 1048576)
def idS (c q : Int) : Bool := decide (0 ≤ c) && decide (c < 8) && !decide (q = 0)
structure Call where
  kind : Int
  keys : List Txt
  token : Int
  ttl : Int
def txtC (t : Txt) : List AV := [.str t]
def callC (k : AV) (c : Call) : List AV := [.int .i64 c.kind, k, .int .u64 c.token, .int .i64 c.ttl]
def keyOk2 (p : Option Txt) (k : Txt) : Bool := decide (k.length ≤ 64) && (match p with | none => true | some q => bl q k)
def callS (c : Call) : Bool := lastsS c.kind c.ttl && (decide (c.token = 0) == decide (c.kind = 1)) && decide (1 ≤ c.keys.length) && decide (c.keys.length ≤ 16) && rising keyOk2 none c.keys
attribute [local irreducible] Ws Wp W C
set_option maxHeartbeats 4000000
theorem lasts_c {k t : Int} {s : Mem} {K : AV → Mem → Prop} (hK : K (.bool (lastsS k t)) s) : C tab 89 [.int .i64 k, .int .i64 t] s K := by
  refine C_enter (cf := cf89) rfl (Nat.le_of_ble_eq_true rfl) ?_
  simp only [cf89, oo, on, om, og, oc, ou]
  (repeat' (with_reducible first|refine w_1 ?_|refine w_2 ?_|refine w_3 ?_|refine w_4 ?_|refine w_5 ?_|refine w_6 ?_|refine w_7 ?_|(refine w_8 (fun hb=>?_) (fun hb=>?_)<;>(try simp only [Bool.not_eq_true',Bool.not_eq_false'] at hb)<;>try simp only [hb])|(refine w_9 ?_;simp (maxDischargeDepth:=12) only [viz,↓reduceIte,Nat.reduceEqDiff,reduceCtorEq,Int.reduceEq,Int.reduceNeg,Nat.reduceAdd,Nat.reduceLeDiff])|refine w_10 (fun hc=>(by (try simp only [Bool.and_eq_true] at hc);simp (maxDischargeDepth:=12) only [viz,↓reduceIte,Nat.reduceEqDiff,reduceCtorEq,Int.reduceEq,Int.reduceNeg,Nat.reduceAdd,Nat.reduceLeDiff,hc];first|exact ⟨rfl,rfl⟩|exact rfl)) ?_|refine w_11 (fun hc=>(by (try simp only [Bool.and_eq_true] at hc);simp (maxDischargeDepth:=12) only [viz,↓reduceIte,Nat.reduceEqDiff,reduceCtorEq,Int.reduceEq,Int.reduceNeg,Nat.reduceAdd,Nat.reduceLeDiff,hc];first|exact ⟨rfl,rfl⟩|exact rfl)) ?_|refine w_12 ?_|simp (maxDischargeDepth:=12) only [viz,↓reduceIte,Nat.reduceEqDiff,reduceCtorEq,Int.reduceEq,Int.reduceNeg,Nat.reduceAdd,Nat.reduceLeDiff]))
  all_goals
    refine (congrArg (fun b => K (.bool b) s) ?_).mp hK
    grind [lastsS]
theorem rlasts_c {k t : Int} {s : Mem} {K : AV → Mem → Prop} (hK : K (.bool (lastsS k t)) s) : C tab 84 [.int .i64 k, .int .i64 t] s K := by
  refine C_enter (cf := cf84) rfl (Nat.le_of_ble_eq_true rfl) ?_
  simp only [cf84, oo, on, om, og, oc, ou]
  (repeat' (with_reducible first|refine w_1 ?_|refine w_2 ?_|refine w_3 ?_|refine w_4 ?_|refine w_5 ?_|refine w_6 ?_|refine w_7 ?_|(refine w_8 (fun hb=>?_) (fun hb=>?_)<;>(try simp only [Bool.not_eq_true',Bool.not_eq_false'] at hb)<;>try simp only [hb])|(refine w_9 ?_;simp (maxDischargeDepth:=12) only [viz,↓reduceIte,Nat.reduceEqDiff,reduceCtorEq,Int.reduceEq,Int.reduceNeg,Nat.reduceAdd,Nat.reduceLeDiff])|refine w_10 (fun hc=>(by (try simp only [Bool.and_eq_true] at hc);simp (maxDischargeDepth:=12) only [viz,↓reduceIte,Nat.reduceEqDiff,reduceCtorEq,Int.reduceEq,Int.reduceNeg,Nat.reduceAdd,Nat.reduceLeDiff,hc];first|exact ⟨rfl,rfl⟩|exact rfl)) ?_|refine w_11 (fun hc=>(by (try simp only [Bool.and_eq_true] at hc);simp (maxDischargeDepth:=12) only [viz,↓reduceIte,Nat.reduceEqDiff,reduceCtorEq,Int.reduceEq,Int.reduceNeg,Nat.reduceAdd,Nat.reduceLeDiff,hc];first|exact ⟨rfl,rfl⟩|exact rfl)) ?_|refine w_12 ?_|simp (maxDischargeDepth:=12) only [viz,↓reduceIte,Nat.reduceEqDiff,reduceCtorEq,Int.reduceEq,Int.reduceNeg,Nat.reduceAdd,Nat.reduceLeDiff]))
  all_goals
    refine (congrArg (fun b => K (.bool b) s) ?_).mp hK
    grind [lastsS]
theorem id_c {c q : Int} {s : Mem} {K : AV → Mem → Prop} (hK : ∀ s', Keep s.next s s' → K (.bool (idS c q)) s') : C tab 31 [.agg [.int .i64 c, .int .u64 q]] s K := by
  refine C_enter (cf := cf31) rfl (Nat.le_of_ble_eq_true rfl) ?_
  simp only [cf31, oo, on, om, og, oc, ou]
  (repeat' (with_reducible first|refine w_1 ?_|refine w_2 ?_|refine w_3 ?_|refine w_4 ?_|refine w_5 ?_|refine w_6 ?_|refine w_7 ?_|(refine w_8 (fun hb=>?_) (fun hb=>?_)<;>(try simp only [Bool.not_eq_true',Bool.not_eq_false'] at hb)<;>try simp only [hb])|(refine w_9 ?_;simp (maxDischargeDepth:=12) only [viz,↓reduceIte,Nat.reduceEqDiff,reduceCtorEq,Int.reduceEq,Int.reduceNeg,Nat.reduceAdd,Nat.reduceLeDiff])|refine w_10 (fun hc=>(by (try simp only [Bool.and_eq_true] at hc);simp (maxDischargeDepth:=12) only [viz,↓reduceIte,Nat.reduceEqDiff,reduceCtorEq,Int.reduceEq,Int.reduceNeg,Nat.reduceAdd,Nat.reduceLeDiff,hc];first|exact ⟨rfl,rfl⟩|exact rfl)) ?_|refine w_11 (fun hc=>(by (try simp only [Bool.and_eq_true] at hc);simp (maxDischargeDepth:=12) only [viz,↓reduceIte,Nat.reduceEqDiff,reduceCtorEq,Int.reduceEq,Int.reduceNeg,Nat.reduceAdd,Nat.reduceLeDiff,hc];first|exact ⟨rfl,rfl⟩|exact rfl)) ?_|refine w_12 ?_|simp (maxDischargeDepth:=12) only [viz,↓reduceIte,Nat.reduceEqDiff,reduceCtorEq,Int.reduceEq,Int.reduceNeg,Nat.reduceAdd,Nat.reduceLeDiff]))
  all_goals exact K_of hK (pushes _ _) (by grind [idS])
theorem rid_c {c q : Int} {s : Mem} {K : AV → Mem → Prop} (hK : ∀ s', Keep s.next s s' → K (.bool (idS c q)) s') : C tab 39 [.agg [.int .i64 c, .int .u64 q]] s K := by
  refine C_enter (cf := cf39) rfl (Nat.le_of_ble_eq_true rfl) ?_
  simp only [cf39, oo, on, om, og, oc, ou]
  (repeat' (with_reducible first|refine w_1 ?_|refine w_2 ?_|refine w_3 ?_|refine w_4 ?_|refine w_5 ?_|refine w_6 ?_|refine w_7 ?_|(refine w_8 (fun hb=>?_) (fun hb=>?_)<;>(try simp only [Bool.not_eq_true',Bool.not_eq_false'] at hb)<;>try simp only [hb])|(refine w_9 ?_;simp (maxDischargeDepth:=12) only [viz,↓reduceIte,Nat.reduceEqDiff,reduceCtorEq,Int.reduceEq,Int.reduceNeg,Nat.reduceAdd,Nat.reduceLeDiff])|refine w_10 (fun hc=>(by (try simp only [Bool.and_eq_true] at hc);simp (maxDischargeDepth:=12) only [viz,↓reduceIte,Nat.reduceEqDiff,reduceCtorEq,Int.reduceEq,Int.reduceNeg,Nat.reduceAdd,Nat.reduceLeDiff,hc];first|exact ⟨rfl,rfl⟩|exact rfl)) ?_|refine w_11 (fun hc=>(by (try simp only [Bool.and_eq_true] at hc);simp (maxDischargeDepth:=12) only [viz,↓reduceIte,Nat.reduceEqDiff,reduceCtorEq,Int.reduceEq,Int.reduceNeg,Nat.reduceAdd,Nat.reduceLeDiff,hc];first|exact ⟨rfl,rfl⟩|exact rfl)) ?_|refine w_12 ?_|simp (maxDischargeDepth:=12) only [viz,↓reduceIte,Nat.reduceEqDiff,reduceCtorEq,Int.reduceEq,Int.reduceNeg,Nat.reduceAdd,Nat.reduceLeDiff]))
  all_goals exact K_of hK (pushes _ _) (by grind [idS])
theorem checkCall_c {c : Call} {k : AV} {s : Mem} {K : AV → Mem → Prop} (hk : isSl k (c.keys.map txtC)) (hK : ∀ s', Keep s.next s s' → K (.int .i64 (if callS c then 0 else 1)) s') : C tab 30 [.agg (callC k c)] s K := by
  refine C_enter (cf := cf30) rfl (Nat.le_of_ble_eq_true rfl) ?_
  have hcell : isCell k = true := by rcases hk with ⟨rfl, _⟩ | rfl <;> rfl
  have hlen : lenA false k = some c.keys.length := by
    rcases hk with ⟨rfl, h⟩ | rfl
    · have : c.keys = [] := by simpa using h
      rw [this]; rfl
    · simp [lenA]
  simp only [cf30, oo, on, om, og, oc, ou, callC]
  (repeat' (with_reducible first|refine w_1 ?_|refine w_2 ?_|refine w_3 ?_|refine w_4 ?_|refine w_5 ?_|refine w_6 ?_|refine w_7 ?_|(refine w_8 (fun hb=>?_) (fun hb=>?_)<;>(try simp only [Bool.not_eq_true',Bool.not_eq_false'] at hb)<;>try simp only [hb])|(refine w_9 ?_;simp (maxDischargeDepth:=12) only [viz,↓reduceIte,Nat.reduceEqDiff,reduceCtorEq,Int.reduceEq,Int.reduceNeg,Nat.reduceAdd,Nat.reduceLeDiff,hcell,hlen])|refine w_10 (fun hc=>(by (try simp only [Bool.and_eq_true] at hc);simp (maxDischargeDepth:=12) only [viz,↓reduceIte,Nat.reduceEqDiff,reduceCtorEq,Int.reduceEq,Int.reduceNeg,Nat.reduceAdd,Nat.reduceLeDiff,hcell,hlen,hc];first|exact ⟨rfl,rfl⟩|exact rfl)) ?_|refine w_11 (fun hc=>(by (try simp only [Bool.and_eq_true] at hc);simp (maxDischargeDepth:=12) only [viz,↓reduceIte,Nat.reduceEqDiff,reduceCtorEq,Int.reduceEq,Int.reduceNeg,Nat.reduceAdd,Nat.reduceLeDiff,hcell,hlen,hc];first|exact ⟨rfl,rfl⟩|exact rfl)) ?_|refine w_12 ?_|simp (maxDischargeDepth:=12) only [viz,↓reduceIte,Nat.reduceEqDiff,reduceCtorEq,Int.reduceEq,Int.reduceNeg,Nat.reduceAdd,Nat.reduceLeDiff,hcell,hlen]))
  refine lasts_c ?_
  (repeat' (with_reducible first|refine w_1 ?_|refine w_2 ?_|refine w_3 ?_|refine w_4 ?_|refine w_5 ?_|refine w_6 ?_|refine w_7 ?_|(refine w_8 (fun hb=>?_) (fun hb=>?_)<;>(try simp only [Bool.not_eq_true',Bool.not_eq_false'] at hb)<;>try simp only [hb])|(refine w_9 ?_;simp (maxDischargeDepth:=12) only [viz,↓reduceIte,Nat.reduceEqDiff,reduceCtorEq,Int.reduceEq,Int.reduceNeg,Nat.reduceAdd,Nat.reduceLeDiff,hcell,hlen])|refine w_10 (fun hc=>(by (try simp only [Bool.and_eq_true] at hc);simp (maxDischargeDepth:=12) only [viz,↓reduceIte,Nat.reduceEqDiff,reduceCtorEq,Int.reduceEq,Int.reduceNeg,Nat.reduceAdd,Nat.reduceLeDiff,hcell,hlen,hc];first|exact ⟨rfl,rfl⟩|exact rfl)) ?_|refine w_11 (fun hc=>(by (try simp only [Bool.and_eq_true] at hc);simp (maxDischargeDepth:=12) only [viz,↓reduceIte,Nat.reduceEqDiff,reduceCtorEq,Int.reduceEq,Int.reduceNeg,Nat.reduceAdd,Nat.reduceLeDiff,hcell,hlen,hc];first|exact ⟨rfl,rfl⟩|exact rfl)) ?_|refine w_12 ?_|simp (maxDischargeDepth:=12) only [viz,↓reduceIte,Nat.reduceEqDiff,reduceCtorEq,Int.reduceEq,Int.reduceNeg,Nat.reduceAdd,Nat.reduceLeDiff,hcell,hlen]))
  · exact K_v hK (pushes _ _) (by grind [callS])
  have bad : rising keyOk2 none c.keys = false → ∀ s', Keep s.next s s' → K (.int .i64 1) s' := fun h s' hs => by
    have := hK s' hs
    rw [callS, h] at this
    simpa using this
  have hi : ∀ {i : Nat} {x : Txt}, c.keys[i]? = some x → ∀ j, atA 1 k (.int j (i : Int)) = some (.ref [.str x]) := fun {i x} hx j => by
    rcases hk with ⟨_, h⟩ | rfl
    · have : c.keys = [] := by simpa using h
      rw [this] at hx; simp at hx
    · exact isSl.at_ (.inr rfl) (xs := c.keys.map txtC) (c := txtC x) (by rw [List.getElem?_map, hx]; rfl) rfl
  have h16 : c.keys.length ≤ 16 := by grind
  refine W_inv c.keys.length (fun i e s' => s' = s.push ⟨33, 4, [[.int .i64 c.kind, k, .int .u64 c.token, .int .i64 c.ttl]]⟩ ∧ e.get 1 = .ptr s.next 0 0 ∧ e.get 33 = k ∧ e.get 34 = .int .i64 c.keys.length ∧ e.get 35 = .int .i64 i ∧ rising keyOk2 none c.keys = rising keyOk2 (prevOf c.keys i) (c.keys.drop i)) (by delta cf30l0 oo on om og oc ou; exact rfl) ?_ ?_
  · (repeat' (with_reducible first|refine w_1 ?_|refine w_2 ?_|refine w_3 ?_|refine w_4 ?_|refine w_5 ?_|refine w_6 ?_|refine w_7 ?_|(refine w_8 (fun hb=>?_) (fun hb=>?_)<;>(try simp only [Bool.not_eq_true',Bool.not_eq_false'] at hb)<;>try simp only [hb])|(refine w_9 ?_;simp (maxDischargeDepth:=12) only [viz,↓reduceIte,Nat.reduceEqDiff,reduceCtorEq,Int.reduceEq,Int.reduceNeg,Nat.reduceAdd,Nat.reduceLeDiff])|refine w_10 (fun hc=>(by (try simp only [Bool.and_eq_true] at hc);simp (maxDischargeDepth:=12) only [viz,↓reduceIte,Nat.reduceEqDiff,reduceCtorEq,Int.reduceEq,Int.reduceNeg,Nat.reduceAdd,Nat.reduceLeDiff,hc];first|exact ⟨rfl,rfl⟩|exact rfl)) ?_|refine w_11 (fun hc=>(by (try simp only [Bool.and_eq_true] at hc);simp (maxDischargeDepth:=12) only [viz,↓reduceIte,Nat.reduceEqDiff,reduceCtorEq,Int.reduceEq,Int.reduceNeg,Nat.reduceAdd,Nat.reduceLeDiff,hc];first|exact ⟨rfl,rfl⟩|exact rfl)) ?_|refine w_12 ?_|simp (maxDischargeDepth:=12) only [viz,↓reduceIte,Nat.reduceEqDiff,reduceCtorEq,Int.reduceEq,Int.reduceNeg,Nat.reduceAdd,Nat.reduceLeDiff]))
    exact ⟨rfl, rfl⟩
  rintro i e s' hile _ ⟨rfl, h1, h33, h34, h35, hr⟩
  by_cases hlt : i < c.keys.length
  · obtain ⟨x, hx⟩ := get_of hlt
    have hpx := hi hx
    have hlx := lt_true hlt
    have e0 := gt64 x.length
    rw [rising_step hx] at hr
    rcases i with _ | j
    all_goals first
      | (have h0 : ((0 : Nat) : Int) = 0 := rfl
         rw [h0] at hpx hlx
         (repeat' (with_reducible first|refine w_1 ?_|refine w_2 ?_|refine w_3 ?_|refine w_4 ?_|refine w_5 ?_|refine w_6 ?_|refine w_7 ?_|(refine w_8 (fun hb=>?_) (fun hb=>?_)<;>(try simp only [Bool.not_eq_true',Bool.not_eq_false'] at hb)<;>try simp only [hb])|(refine w_9 ?_;simp (maxDischargeDepth:=12) only [viz,↓reduceIte,Nat.reduceEqDiff,reduceCtorEq,Int.reduceEq,Int.reduceNeg,Nat.reduceAdd,Nat.reduceLeDiff,h1,h33,h34,h35,h0,hlx,hlen,hpx,bne_self_eq_false, Int.reduceBEq, Int.reduceBNe, Int.reduceLT, Int.reduceLE, Int.reduceGT, Int.reduceGE])|refine w_10 (fun hc=>(by (try simp only [Bool.and_eq_true] at hc);simp (maxDischargeDepth:=12) only [viz,↓reduceIte,Nat.reduceEqDiff,reduceCtorEq,Int.reduceEq,Int.reduceNeg,Nat.reduceAdd,Nat.reduceLeDiff,h1,h33,h34,h35,h0,hlx,hlen,hpx,bne_self_eq_false, Int.reduceBEq, Int.reduceBNe, Int.reduceLT, Int.reduceLE, Int.reduceGT, Int.reduceGE,hc];first|exact ⟨rfl,rfl⟩|exact rfl)) ?_|refine w_11 (fun hc=>(by (try simp only [Bool.and_eq_true] at hc);simp (maxDischargeDepth:=12) only [viz,↓reduceIte,Nat.reduceEqDiff,reduceCtorEq,Int.reduceEq,Int.reduceNeg,Nat.reduceAdd,Nat.reduceLeDiff,h1,h33,h34,h35,h0,hlx,hlen,hpx,bne_self_eq_false, Int.reduceBEq, Int.reduceBNe, Int.reduceLT, Int.reduceLE, Int.reduceGT, Int.reduceGE,hc];first|exact ⟨rfl,rfl⟩|exact rfl)) ?_|refine w_12 ?_|simp (maxDischargeDepth:=12) only [viz,↓reduceIte,Nat.reduceEqDiff,reduceCtorEq,Int.reduceEq,Int.reduceNeg,Nat.reduceAdd,Nat.reduceLeDiff,h1,h33,h34,h35,h0,hlx,hlen,hpx,bne_self_eq_false, Int.reduceBEq, Int.reduceBNe, Int.reduceLT, Int.reduceLE, Int.reduceGT, Int.reduceGE])))
      | (obtain ⟨y, hy⟩ := get_of (l := c.keys) (i := j) (by omega)
         have hj : decide (((j + 1 : Nat) : Int) > 0) = true := by simp
         have hpj := pred_cast j (by omega)
         (repeat' (with_reducible first|refine w_1 ?_|refine w_2 ?_|refine w_3 ?_|refine w_4 ?_|refine w_5 ?_|refine w_6 ?_|refine w_7 ?_|(refine w_8 (fun hb=>?_) (fun hb=>?_)<;>(try simp only [Bool.not_eq_true',Bool.not_eq_false'] at hb)<;>try simp only [hb])|(refine w_9 ?_;simp (maxDischargeDepth:=12) only [viz,↓reduceIte,Nat.reduceEqDiff,reduceCtorEq,Int.reduceEq,Int.reduceNeg,Nat.reduceAdd,Nat.reduceLeDiff,h1,h33,h34,h35,hlx,hlen,hpx,hi hy,hj,hpj,le_not'])|refine w_10 (fun hc=>(by (try simp only [Bool.and_eq_true] at hc);simp (maxDischargeDepth:=12) only [viz,↓reduceIte,Nat.reduceEqDiff,reduceCtorEq,Int.reduceEq,Int.reduceNeg,Nat.reduceAdd,Nat.reduceLeDiff,h1,h33,h34,h35,hlx,hlen,hpx,hi hy,hj,hpj,le_not',hc];first|exact ⟨rfl,rfl⟩|exact rfl)) ?_|refine w_11 (fun hc=>(by (try simp only [Bool.and_eq_true] at hc);simp (maxDischargeDepth:=12) only [viz,↓reduceIte,Nat.reduceEqDiff,reduceCtorEq,Int.reduceEq,Int.reduceNeg,Nat.reduceAdd,Nat.reduceLeDiff,h1,h33,h34,h35,hlx,hlen,hpx,hi hy,hj,hpj,le_not',hc];first|exact ⟨rfl,rfl⟩|exact rfl)) ?_|refine w_12 ?_|simp (maxDischargeDepth:=12) only [viz,↓reduceIte,Nat.reduceEqDiff,reduceCtorEq,Int.reduceEq,Int.reduceNeg,Nat.reduceAdd,Nat.reduceLeDiff,h1,h33,h34,h35,hlx,hlen,hpx,hi hy,hj,hpj,le_not'])))
    · have e : keyOk2 (prevOf c.keys 0) x = false := by simp only [keyOk2]; grind
      exact bad (by rw [hr, e]; rfl) _ (pushes _ _)
    · have e : keyOk2 (prevOf c.keys 0) x = true := by simp only [keyOk2, prevOf_zero]; grind
      refine ⟨hlt, rfl, ?_⟩
      rw [hr, e, Bool.true_and]
    · have e : keyOk2 (prevOf c.keys (j + 1)) x = false := by simp only [keyOk2, prevOf_succ, hy, bl]; grind
      exact bad (by rw [hr, e]; rfl) _ (pushes _ _)
    · have e : keyOk2 (prevOf c.keys (j + 1)) x = true := by simp only [keyOk2, prevOf_succ, hy, bl]; grind
      refine ⟨hlt, succ_av (by omega), ?_⟩
      rw [hr, e, Bool.true_and]
  · (repeat' (with_reducible first|refine w_1 ?_|refine w_2 ?_|refine w_3 ?_|refine w_4 ?_|refine w_5 ?_|refine w_6 ?_|refine w_7 ?_|(refine w_8 (fun hb=>?_) (fun hb=>?_)<;>(try simp only [Bool.not_eq_true',Bool.not_eq_false'] at hb)<;>try simp only [hb])|(refine w_9 ?_;simp (maxDischargeDepth:=12) only [viz,↓reduceIte,Nat.reduceEqDiff,reduceCtorEq,Int.reduceEq,Int.reduceNeg,Nat.reduceAdd,Nat.reduceLeDiff,h1,h33,h34,h35,hlen,lt_false hlt])|refine w_10 (fun hc=>(by (try simp only [Bool.and_eq_true] at hc);simp (maxDischargeDepth:=12) only [viz,↓reduceIte,Nat.reduceEqDiff,reduceCtorEq,Int.reduceEq,Int.reduceNeg,Nat.reduceAdd,Nat.reduceLeDiff,h1,h33,h34,h35,hlen,lt_false hlt,hc];first|exact ⟨rfl,rfl⟩|exact rfl)) ?_|refine w_11 (fun hc=>(by (try simp only [Bool.and_eq_true] at hc);simp (maxDischargeDepth:=12) only [viz,↓reduceIte,Nat.reduceEqDiff,reduceCtorEq,Int.reduceEq,Int.reduceNeg,Nat.reduceAdd,Nat.reduceLeDiff,h1,h33,h34,h35,hlen,lt_false hlt,hc];first|exact ⟨rfl,rfl⟩|exact rfl)) ?_|refine w_12 ?_|simp (maxDischargeDepth:=12) only [viz,↓reduceIte,Nat.reduceEqDiff,reduceCtorEq,Int.reduceEq,Int.reduceNeg,Nat.reduceAdd,Nat.reduceLeDiff,h1,h33,h34,h35,hlen,lt_false hlt]))
    rw [rising_end hlt] at hr
    exact K_v hK (pushes _ _) (by grind [callS])
theorem mayCall_c {c : Call} {k : AV} {s : Mem} {K : AV → Mem → Prop} (hk : isSl k (c.keys.map txtC)) (hK : ∀ s', Keep s.next s s' → K (.bool (callS c)) s') : C tab 38 [.agg (callC k c)] s K := by
  refine C_enter (cf := cf38) rfl (Nat.le_of_ble_eq_true rfl) ?_
  have hcell : isCell k = true := by rcases hk with ⟨rfl, _⟩ | rfl <;> rfl
  have hlen : lenA false k = some c.keys.length := by
    rcases hk with ⟨rfl, h⟩ | rfl
    · have : c.keys = [] := by simpa using h
      rw [this]; rfl
    · simp [lenA]
  simp only [cf38, oo, on, om, og, oc, ou, callC]
  (repeat' (with_reducible first|refine w_1 ?_|refine w_2 ?_|refine w_3 ?_|refine w_4 ?_|refine w_5 ?_|refine w_6 ?_|refine w_7 ?_|(refine w_8 (fun hb=>?_) (fun hb=>?_)<;>(try simp only [Bool.not_eq_true',Bool.not_eq_false'] at hb)<;>try simp only [hb])|(refine w_9 ?_;simp (maxDischargeDepth:=12) only [viz,↓reduceIte,Nat.reduceEqDiff,reduceCtorEq,Int.reduceEq,Int.reduceNeg,Nat.reduceAdd,Nat.reduceLeDiff,hcell,hlen])|refine w_10 (fun hc=>(by (try simp only [Bool.and_eq_true] at hc);simp (maxDischargeDepth:=12) only [viz,↓reduceIte,Nat.reduceEqDiff,reduceCtorEq,Int.reduceEq,Int.reduceNeg,Nat.reduceAdd,Nat.reduceLeDiff,hcell,hlen,hc];first|exact ⟨rfl,rfl⟩|exact rfl)) ?_|refine w_11 (fun hc=>(by (try simp only [Bool.and_eq_true] at hc);simp (maxDischargeDepth:=12) only [viz,↓reduceIte,Nat.reduceEqDiff,reduceCtorEq,Int.reduceEq,Int.reduceNeg,Nat.reduceAdd,Nat.reduceLeDiff,hcell,hlen,hc];first|exact ⟨rfl,rfl⟩|exact rfl)) ?_|refine w_12 ?_|simp (maxDischargeDepth:=12) only [viz,↓reduceIte,Nat.reduceEqDiff,reduceCtorEq,Int.reduceEq,Int.reduceNeg,Nat.reduceAdd,Nat.reduceLeDiff,hcell,hlen]))
  refine rlasts_c ?_
  (repeat' (with_reducible first|refine w_1 ?_|refine w_2 ?_|refine w_3 ?_|refine w_4 ?_|refine w_5 ?_|refine w_6 ?_|refine w_7 ?_|(refine w_8 (fun hb=>?_) (fun hb=>?_)<;>(try simp only [Bool.not_eq_true',Bool.not_eq_false'] at hb)<;>try simp only [hb])|(refine w_9 ?_;simp (maxDischargeDepth:=12) only [viz,↓reduceIte,Nat.reduceEqDiff,reduceCtorEq,Int.reduceEq,Int.reduceNeg,Nat.reduceAdd,Nat.reduceLeDiff,hcell,hlen])|refine w_10 (fun hc=>(by (try simp only [Bool.and_eq_true] at hc);simp (maxDischargeDepth:=12) only [viz,↓reduceIte,Nat.reduceEqDiff,reduceCtorEq,Int.reduceEq,Int.reduceNeg,Nat.reduceAdd,Nat.reduceLeDiff,hcell,hlen,hc];first|exact ⟨rfl,rfl⟩|exact rfl)) ?_|refine w_11 (fun hc=>(by (try simp only [Bool.and_eq_true] at hc);simp (maxDischargeDepth:=12) only [viz,↓reduceIte,Nat.reduceEqDiff,reduceCtorEq,Int.reduceEq,Int.reduceNeg,Nat.reduceAdd,Nat.reduceLeDiff,hcell,hlen,hc];first|exact ⟨rfl,rfl⟩|exact rfl)) ?_|refine w_12 ?_|simp (maxDischargeDepth:=12) only [viz,↓reduceIte,Nat.reduceEqDiff,reduceCtorEq,Int.reduceEq,Int.reduceNeg,Nat.reduceAdd,Nat.reduceLeDiff,hcell,hlen]))
  · exact K_of hK (pushes _ _) (by grind [callS])
  have bad : rising keyOk2 none c.keys = false → ∀ s', Keep s.next s s' → K (.bool false) s' := fun h s' hs => by
    have := hK s' hs
    rw [callS, h, Bool.and_false] at this
    exact this
  have hi : ∀ {i : Nat} {x : Txt}, c.keys[i]? = some x → ∀ j, atA 1 k (.int j (i : Int)) = some (.ref [.str x]) := fun {i x} hx j => by
    rcases hk with ⟨_, h⟩ | rfl
    · have : c.keys = [] := by simpa using h
      rw [this] at hx; simp at hx
    · exact isSl.at_ (.inr rfl) (xs := c.keys.map txtC) (c := txtC x) (by rw [List.getElem?_map, hx]; rfl) rfl
  have h16 : c.keys.length ≤ 16 := by grind
  refine W_inv c.keys.length (fun i e s' => s' = s.push ⟨33, 4, [[.int .i64 c.kind, k, .int .u64 c.token, .int .i64 c.ttl]]⟩ ∧ e.get 1 = .ptr s.next 0 0 ∧ e.get 3 = .int .i64 i ∧ rising keyOk2 none c.keys = rising keyOk2 (prevOf c.keys i) (c.keys.drop i)) (by delta cf38l0 oo on om og oc ou; exact rfl) ?_ ?_
  · (repeat' (with_reducible first|refine w_1 ?_|refine w_2 ?_|refine w_3 ?_|refine w_4 ?_|refine w_5 ?_|refine w_6 ?_|refine w_7 ?_|(refine w_8 (fun hb=>?_) (fun hb=>?_)<;>(try simp only [Bool.not_eq_true',Bool.not_eq_false'] at hb)<;>try simp only [hb])|(refine w_9 ?_;simp (maxDischargeDepth:=12) only [viz,↓reduceIte,Nat.reduceEqDiff,reduceCtorEq,Int.reduceEq,Int.reduceNeg,Nat.reduceAdd,Nat.reduceLeDiff])|refine w_10 (fun hc=>(by (try simp only [Bool.and_eq_true] at hc);simp (maxDischargeDepth:=12) only [viz,↓reduceIte,Nat.reduceEqDiff,reduceCtorEq,Int.reduceEq,Int.reduceNeg,Nat.reduceAdd,Nat.reduceLeDiff,hc];first|exact ⟨rfl,rfl⟩|exact rfl)) ?_|refine w_11 (fun hc=>(by (try simp only [Bool.and_eq_true] at hc);simp (maxDischargeDepth:=12) only [viz,↓reduceIte,Nat.reduceEqDiff,reduceCtorEq,Int.reduceEq,Int.reduceNeg,Nat.reduceAdd,Nat.reduceLeDiff,hc];first|exact ⟨rfl,rfl⟩|exact rfl)) ?_|refine w_12 ?_|simp (maxDischargeDepth:=12) only [viz,↓reduceIte,Nat.reduceEqDiff,reduceCtorEq,Int.reduceEq,Int.reduceNeg,Nat.reduceAdd,Nat.reduceLeDiff]))
    exact ⟨rfl, rfl⟩
  rintro i e s' hile _ ⟨rfl, h1, h3, hr⟩
  by_cases hlt : i < c.keys.length
  · obtain ⟨x, hx⟩ := get_of hlt
    have hpx := hi hx
    have hlx := lt_true hlt
    have e0 := gt64 x.length
    rw [rising_step hx] at hr
    rcases i with _ | j
    all_goals first
      | (have h0 : ((0 : Nat) : Int) = 0 := rfl
         rw [h0] at hpx hlx
         (repeat' (with_reducible first|refine w_1 ?_|refine w_2 ?_|refine w_3 ?_|refine w_4 ?_|refine w_5 ?_|refine w_6 ?_|refine w_7 ?_|(refine w_8 (fun hb=>?_) (fun hb=>?_)<;>(try simp only [Bool.not_eq_true',Bool.not_eq_false'] at hb)<;>try simp only [hb])|(refine w_9 ?_;simp (maxDischargeDepth:=12) only [viz,↓reduceIte,Nat.reduceEqDiff,reduceCtorEq,Int.reduceEq,Int.reduceNeg,Nat.reduceAdd,Nat.reduceLeDiff,h1,h3,h0,hlx,hlen,hpx,bne_self_eq_false, Int.reduceBEq, Int.reduceBNe, Int.reduceLT, Int.reduceLE, Int.reduceGT, Int.reduceGE])|refine w_10 (fun hc=>(by (try simp only [Bool.and_eq_true] at hc);simp (maxDischargeDepth:=12) only [viz,↓reduceIte,Nat.reduceEqDiff,reduceCtorEq,Int.reduceEq,Int.reduceNeg,Nat.reduceAdd,Nat.reduceLeDiff,h1,h3,h0,hlx,hlen,hpx,bne_self_eq_false, Int.reduceBEq, Int.reduceBNe, Int.reduceLT, Int.reduceLE, Int.reduceGT, Int.reduceGE,hc];first|exact ⟨rfl,rfl⟩|exact rfl)) ?_|refine w_11 (fun hc=>(by (try simp only [Bool.and_eq_true] at hc);simp (maxDischargeDepth:=12) only [viz,↓reduceIte,Nat.reduceEqDiff,reduceCtorEq,Int.reduceEq,Int.reduceNeg,Nat.reduceAdd,Nat.reduceLeDiff,h1,h3,h0,hlx,hlen,hpx,bne_self_eq_false, Int.reduceBEq, Int.reduceBNe, Int.reduceLT, Int.reduceLE, Int.reduceGT, Int.reduceGE,hc];first|exact ⟨rfl,rfl⟩|exact rfl)) ?_|refine w_12 ?_|simp (maxDischargeDepth:=12) only [viz,↓reduceIte,Nat.reduceEqDiff,reduceCtorEq,Int.reduceEq,Int.reduceNeg,Nat.reduceAdd,Nat.reduceLeDiff,h1,h3,h0,hlx,hlen,hpx,bne_self_eq_false, Int.reduceBEq, Int.reduceBNe, Int.reduceLT, Int.reduceLE, Int.reduceGT, Int.reduceGE])))
      | (obtain ⟨y, hy⟩ := get_of (l := c.keys) (i := j) (by omega)
         have hj : decide (((j + 1 : Nat) : Int) > 0) = true := by simp
         have hpj := pred_cast j (by omega)
         (repeat' (with_reducible first|refine w_1 ?_|refine w_2 ?_|refine w_3 ?_|refine w_4 ?_|refine w_5 ?_|refine w_6 ?_|refine w_7 ?_|(refine w_8 (fun hb=>?_) (fun hb=>?_)<;>(try simp only [Bool.not_eq_true',Bool.not_eq_false'] at hb)<;>try simp only [hb])|(refine w_9 ?_;simp (maxDischargeDepth:=12) only [viz,↓reduceIte,Nat.reduceEqDiff,reduceCtorEq,Int.reduceEq,Int.reduceNeg,Nat.reduceAdd,Nat.reduceLeDiff,h1,h3,hlx,hlen,hpx,hi hy,hj,hpj,le_not'])|refine w_10 (fun hc=>(by (try simp only [Bool.and_eq_true] at hc);simp (maxDischargeDepth:=12) only [viz,↓reduceIte,Nat.reduceEqDiff,reduceCtorEq,Int.reduceEq,Int.reduceNeg,Nat.reduceAdd,Nat.reduceLeDiff,h1,h3,hlx,hlen,hpx,hi hy,hj,hpj,le_not',hc];first|exact ⟨rfl,rfl⟩|exact rfl)) ?_|refine w_11 (fun hc=>(by (try simp only [Bool.and_eq_true] at hc);simp (maxDischargeDepth:=12) only [viz,↓reduceIte,Nat.reduceEqDiff,reduceCtorEq,Int.reduceEq,Int.reduceNeg,Nat.reduceAdd,Nat.reduceLeDiff,h1,h3,hlx,hlen,hpx,hi hy,hj,hpj,le_not',hc];first|exact ⟨rfl,rfl⟩|exact rfl)) ?_|refine w_12 ?_|simp (maxDischargeDepth:=12) only [viz,↓reduceIte,Nat.reduceEqDiff,reduceCtorEq,Int.reduceEq,Int.reduceNeg,Nat.reduceAdd,Nat.reduceLeDiff,h1,h3,hlx,hlen,hpx,hi hy,hj,hpj,le_not'])))
    · have e : keyOk2 (prevOf c.keys 0) x = false := by simp only [keyOk2]; grind
      exact bad (by rw [hr, e]; rfl) _ (pushes _ _)
    · have e : keyOk2 (prevOf c.keys 0) x = true := by simp only [keyOk2, prevOf_zero]; grind
      refine ⟨hlt, rfl, ?_⟩
      rw [hr, e, Bool.true_and]
    · have e : keyOk2 (prevOf c.keys (j + 1)) x = false := by simp only [keyOk2, prevOf_succ, hy, bl]; grind
      exact bad (by rw [hr, e]; rfl) _ (pushes _ _)
    · have e : keyOk2 (prevOf c.keys (j + 1)) x = true := by simp only [keyOk2, prevOf_succ, hy, bl]; grind
      refine ⟨hlt, succ_av (by omega), ?_⟩
      rw [hr, e, Bool.true_and]
  · (repeat' (with_reducible first|refine w_1 ?_|refine w_2 ?_|refine w_3 ?_|refine w_4 ?_|refine w_5 ?_|refine w_6 ?_|refine w_7 ?_|(refine w_8 (fun hb=>?_) (fun hb=>?_)<;>(try simp only [Bool.not_eq_true',Bool.not_eq_false'] at hb)<;>try simp only [hb])|(refine w_9 ?_;simp (maxDischargeDepth:=12) only [viz,↓reduceIte,Nat.reduceEqDiff,reduceCtorEq,Int.reduceEq,Int.reduceNeg,Nat.reduceAdd,Nat.reduceLeDiff,h1,h3,hlen,lt_false hlt])|refine w_10 (fun hc=>(by (try simp only [Bool.and_eq_true] at hc);simp (maxDischargeDepth:=12) only [viz,↓reduceIte,Nat.reduceEqDiff,reduceCtorEq,Int.reduceEq,Int.reduceNeg,Nat.reduceAdd,Nat.reduceLeDiff,h1,h3,hlen,lt_false hlt,hc];first|exact ⟨rfl,rfl⟩|exact rfl)) ?_|refine w_11 (fun hc=>(by (try simp only [Bool.and_eq_true] at hc);simp (maxDischargeDepth:=12) only [viz,↓reduceIte,Nat.reduceEqDiff,reduceCtorEq,Int.reduceEq,Int.reduceNeg,Nat.reduceAdd,Nat.reduceLeDiff,h1,h3,hlen,lt_false hlt,hc];first|exact ⟨rfl,rfl⟩|exact rfl)) ?_|refine w_12 ?_|simp (maxDischargeDepth:=12) only [viz,↓reduceIte,Nat.reduceEqDiff,reduceCtorEq,Int.reduceEq,Int.reduceNeg,Nat.reduceAdd,Nat.reduceLeDiff,h1,h3,hlen,lt_false hlt]))
    rw [rising_end hlt] at hr
    exact K_of hK (pushes _ _) (by grind [callS])
end Go.Proofs.YthibbbfhkfebkaaGreat
/- Places: the document's insertion. No statement of the seat is proved here. -/
namespace Go.Proofs.YthibbbfhkfebkaaGreat
open Go Go.VI
set_option linter.unusedSimpArgs false
def bdV (v : AV) (K : Option Nat → Prop) : Prop :=
  match v with
  | .int _ n => match toNat? n with
    | some j => K (some j)
    | none => False
  | _ => False
theorem bdA_some (e : Env) (x : Opd) (K : Option Nat → Prop) : bdA e (some x) K = bdV (ev e x) K := id rfl
theorem bdV_nat (k : IntKind) (n : Nat) (K : Option Nat → Prop) : bdV (.int k (n : Int)) K = K (some n) := by simp only [bdV, toNat_cast]
attribute [local irreducible] Ws Wp W C
set_option maxHeartbeats 1000000
theorem insert_c {p : List Txt} {x : Txt} {v : AV} {D : Nat → Prop} {s : Mem} {K : AV → Mem → Prop} (hf : s.floor ≤ s.next) (hI : In D s) (hv : Sl s D v 1 (p.map txtC)) (hl : p.length < 1000)
    (hK : ∀ v' s', Keep s.next s s' → Sl s' (fun q => D q ∨ (s.next ≤ q ∧ q < s'.next)) v' 1 ((insR p x).map txtC) → K v' s') : C tab 126 [v, .str x] s K := by
  refine C_enter (cf := cf126) rfl (Nat.le_of_ble_eq_true rfl) ?_
  simp only [cf126, oo, on, om, og, oc, ou]
  have hlen : lenA false v = some p.length := hv.lenB
  (repeat' (with_reducible first|refine w_1 ?_|refine w_2 ?_|refine w_3 ?_|refine w_4 ?_|refine w_5 ?_|refine w_6 ?_|refine w_7 ?_|(refine w_8 (fun hb=>?_) (fun hb=>?_)<;>(try simp only [Bool.not_eq_true',Bool.not_eq_false'] at hb)<;>try simp only [hb])|(refine w_9 ?_;simp (maxDischargeDepth:=12) only [viz,↓reduceIte,Nat.reduceEqDiff,reduceCtorEq,Int.reduceEq,Int.reduceNeg,Nat.reduceAdd,Nat.reduceLeDiff])|refine w_10 (fun hc=>(by (try simp only [Bool.and_eq_true] at hc);simp (maxDischargeDepth:=12) only [viz,↓reduceIte,Nat.reduceEqDiff,reduceCtorEq,Int.reduceEq,Int.reduceNeg,Nat.reduceAdd,Nat.reduceLeDiff,hc];first|exact ⟨rfl,rfl⟩|exact rfl)) ?_|refine w_11 (fun hc=>(by (try simp only [Bool.and_eq_true] at hc);simp (maxDischargeDepth:=12) only [viz,↓reduceIte,Nat.reduceEqDiff,reduceCtorEq,Int.reduceEq,Int.reduceNeg,Nat.reduceAdd,Nat.reduceLeDiff,hc];first|exact ⟨rfl,rfl⟩|exact rfl)) ?_|refine w_12 ?_|simp (maxDischargeDepth:=12) only [viz,↓reduceIte,Nat.reduceEqDiff,reduceCtorEq,Int.reduceEq,Int.reduceNeg,Nat.reduceAdd,Nat.reduceLeDiff]))
  refine W_inv p.length (fun i E s' => s' = s ∧ E.get 0 = v ∧ E.get 1 = .str x ∧ E.get 5 = .int .i64 i ∧ ∀ j y, j < i → p[j]? = some y → bl y x = true) (by delta cf126l0 oo on om og oc ou; exact rfl) ?_ ?_
  · (repeat' (with_reducible first|refine w_1 ?_|refine w_2 ?_|refine w_3 ?_|refine w_4 ?_|refine w_5 ?_|refine w_6 ?_|refine w_7 ?_|(refine w_8 (fun hb=>?_) (fun hb=>?_)<;>(try simp only [Bool.not_eq_true',Bool.not_eq_false'] at hb)<;>try simp only [hb])|(refine w_9 ?_;simp (maxDischargeDepth:=12) only [viz,↓reduceIte,Nat.reduceEqDiff,reduceCtorEq,Int.reduceEq,Int.reduceNeg,Nat.reduceAdd,Nat.reduceLeDiff])|refine w_10 (fun hc=>(by (try simp only [Bool.and_eq_true] at hc);simp (maxDischargeDepth:=12) only [viz,↓reduceIte,Nat.reduceEqDiff,reduceCtorEq,Int.reduceEq,Int.reduceNeg,Nat.reduceAdd,Nat.reduceLeDiff,hc];first|exact ⟨rfl,rfl⟩|exact rfl)) ?_|refine w_11 (fun hc=>(by (try simp only [Bool.and_eq_true] at hc);simp (maxDischargeDepth:=12) only [viz,↓reduceIte,Nat.reduceEqDiff,reduceCtorEq,Int.reduceEq,Int.reduceNeg,Nat.reduceAdd,Nat.reduceLeDiff,hc];first|exact ⟨rfl,rfl⟩|exact rfl)) ?_|refine w_12 ?_|simp (maxDischargeDepth:=12) only [viz,↓reduceIte,Nat.reduceEqDiff,reduceCtorEq,Int.reduceEq,Int.reduceNeg,Nat.reduceAdd,Nat.reduceLeDiff]))
    exact ⟨rfl, by omega⟩
  rintro i E s' hile _ ⟨rfl, g0, g1, g5, hlo⟩
  obtain ⟨v1, hc1, hv1⟩ := hv.cut (lo := none) (hi := some i) (Nat.zero_le _) (by simpa using hile)
  obtain ⟨v2, hc2, hv2⟩ := hv.cut (lo := some i) (hi := none) (by simpa using hile) (Nat.le_refl _)
  simp only [Option.getD_none, Option.getD_some, List.drop_zero, ← List.map_take] at hv1
  simp only [Option.getD_none, Option.getD_some, List.take_length, ← List.map_drop] at hv2
  have fin : ∀ v5 s5, (∀ y, p[i]? = some y → bl y x = false) → p[i]? ≠ some x → OwnL s5 (s'.next + 1) v5 9 1 (((p.take i).map txtC ++ [[.str x]]) ++ (p.drop i).map txtC) → Keep s'.next s' s5 → s'.next + 1 ≤ s5.next → K v5 s5 := fun v5 s5 h1 h2 ho hk hn => by
    refine hK v5 s5 hk ?_
    rw [insR_at hlo h1 hile, if_neg h2]
    have e : ((p.take i).map txtC ++ [[.str x]]) ++ (p.drop i).map txtC = (p.take i ++ [x] ++ p.drop i).map txtC := by simp [txtC]
    rw [e] at ho
    refine ho.sl (fun c hc => ?_) fun r n hr => Or.inr ?_
    · obtain ⟨y, _, rfl⟩ := List.mem_map.mp hc; rfl
    · have := ho.row r 0 n 1 hr; omega
  by_cases hlt : i < p.length
  · obtain ⟨y, hy⟩ := get_of hlt
    obtain ⟨q, hq, P, hld⟩ := hv.ldk hI hy rfl rfl
    have hl1 : loadA s' false 1 q = some (.str y) := by
      have := P.ld _ (Keep.refl _ _) false 1
      rw [this]; rfl
    (repeat' (with_reducible first|refine w_1 ?_|refine w_2 ?_|refine w_3 ?_|refine w_4 ?_|refine w_5 ?_|refine w_6 ?_|refine w_7 ?_|(refine w_8 (fun hb=>?_) (fun hb=>?_)<;>(try simp only [Bool.not_eq_true',Bool.not_eq_false'] at hb)<;>try simp only [hb])|(refine w_9 ?_;simp (maxDischargeDepth:=12) only [viz,↓reduceIte,Nat.reduceEqDiff,reduceCtorEq,Int.reduceEq,Int.reduceNeg,Nat.reduceAdd,Nat.reduceLeDiff,g0,g1,g5,hlen,lt_true hlt,hq,hl1,bdA_some,bdV_nat,hc1,hc2])|refine w_10 (fun hc=>(by (try simp only [Bool.and_eq_true] at hc);simp (maxDischargeDepth:=12) only [viz,↓reduceIte,Nat.reduceEqDiff,reduceCtorEq,Int.reduceEq,Int.reduceNeg,Nat.reduceAdd,Nat.reduceLeDiff,g0,g1,g5,hlen,lt_true hlt,hq,hl1,bdA_some,bdV_nat,hc1,hc2,hc];first|exact ⟨rfl,rfl⟩|exact rfl)) ?_|refine w_11 (fun hc=>(by (try simp only [Bool.and_eq_true] at hc);simp (maxDischargeDepth:=12) only [viz,↓reduceIte,Nat.reduceEqDiff,reduceCtorEq,Int.reduceEq,Int.reduceNeg,Nat.reduceAdd,Nat.reduceLeDiff,g0,g1,g5,hlen,lt_true hlt,hq,hl1,bdA_some,bdV_nat,hc1,hc2,hc];first|exact ⟨rfl,rfl⟩|exact rfl)) ?_|refine w_12 ?_|simp (maxDischargeDepth:=12) only [viz,↓reduceIte,Nat.reduceEqDiff,reduceCtorEq,Int.reduceEq,Int.reduceNeg,Nat.reduceAdd,Nat.reduceLeDiff,g0,g1,g5,hlen,lt_true hlt,hq,hl1,bdA_some,bdV_nat,hc1,hc2]))
    · refine ⟨hlt, succ_av (by omega), fun j z hj hz => ?_⟩
      by_cases hji : j = i
      · rw [hji, hy] at hz; obtain rfl := Option.some.inj hz; exact hb
      · exact hlo j z (by omega) hz
    · have e : insR p x = p := by
        rw [insR_at hlo (fun z hz => by rw [hy] at hz; obtain rfl := Option.some.inj hz; assumption) hile, if_pos (by rw [hy, eq_of_beq hb])]
      refine hK v _ (Keep.refl _ _) ?_
      rw [e]
      exact hv.mono fun r hr => .inl hr
    · refine app_x (b := s'.next + 1) (xs := []) (ys := (p.take i).map txtC) (Nat.le_refl _) (Nat.le_refl _) (by simp only [ev, Env.get_set, ↓reduceIte, Nat.reduceEqDiff]; exact OwnL.emp _ _ _ _) ?_ ?_ (room (by simp; omega) (by simp; omega)) ?_
      · simp only [ev, Env.get_set, ↓reduceIte, Nat.reduceEqDiff]
        exact (mat_read _ _ _).trans (hv1.readk hI _ (pushes s' _))
      · exact hv1.uni
      · intro v3 s3 ho3 hx3 _ hr3
        have hk3 : Keep (s'.next + 1) ((s'.at (s'.next + 1)).push ⟨9, 1, []⟩) s3 := hx3.keep (Nat.le_refl _) fun r i n z h => by simp only [ev, Env.get_set, ↓reduceIte, Nat.reduceEqDiff, reduceCtorEq] at h
        have hkA : Keep s'.next s' (s3.at s'.floor) := (pushes s' ⟨9, 1, []⟩).then (Keep.of_at (s := s'.push ⟨9, 1, []⟩) hk3)
        have a3 : s'.next + 1 ≤ s3.next := hk3.next
        have ho3' : OwnL (s3.at s'.floor) (s'.next + 1) v3 9 1 ([] ++ (p.take i).map txtC) := ho3.at (by omega)
        rw [List.nil_append] at ho3'
        have hf3 : s'.floor ≤ s3.next := by omega
        (repeat' (with_reducible first|refine w_1 ?_|refine w_2 ?_|refine w_3 ?_|refine w_4 ?_|refine w_5 ?_|refine w_6 ?_|refine w_7 ?_|(refine w_8 (fun hb=>?_) (fun hb=>?_)<;>(try simp only [Bool.not_eq_true',Bool.not_eq_false'] at hb)<;>try simp only [hb])|(refine w_9 ?_;simp (maxDischargeDepth:=12) only [viz,↓reduceIte,Nat.reduceEqDiff,reduceCtorEq,Int.reduceEq,Int.reduceNeg,Nat.reduceAdd,Nat.reduceLeDiff,g0,g1,g5,hlen,bdA_some,bdV_nat,hc1,hc2,hf3,le_s1 hf3])|refine w_10 (fun hc=>(by (try simp only [Bool.and_eq_true] at hc);simp (maxDischargeDepth:=12) only [viz,↓reduceIte,Nat.reduceEqDiff,reduceCtorEq,Int.reduceEq,Int.reduceNeg,Nat.reduceAdd,Nat.reduceLeDiff,g0,g1,g5,hlen,bdA_some,bdV_nat,hc1,hc2,hf3,le_s1 hf3,hc];first|exact ⟨rfl,rfl⟩|exact rfl)) ?_|refine w_11 (fun hc=>(by (try simp only [Bool.and_eq_true] at hc);simp (maxDischargeDepth:=12) only [viz,↓reduceIte,Nat.reduceEqDiff,reduceCtorEq,Int.reduceEq,Int.reduceNeg,Nat.reduceAdd,Nat.reduceLeDiff,g0,g1,g5,hlen,bdA_some,bdV_nat,hc1,hc2,hf3,le_s1 hf3,hc];first|exact ⟨rfl,rfl⟩|exact rfl)) ?_|refine w_12 ?_|simp (maxDischargeDepth:=12) only [viz,↓reduceIte,Nat.reduceEqDiff,reduceCtorEq,Int.reduceEq,Int.reduceNeg,Nat.reduceAdd,Nat.reduceLeDiff,g0,g1,g5,hlen,bdA_some,bdV_nat,hc1,hc2,hf3,le_s1 hf3]))
        refine app_lit (k := 1) (b := s'.next + 1) (xs := (p.take i).map txtC) (s := s3.at s'.floor) (show s'.floor ≤ s'.next + 1 by omega) a3 ho3' (by simp only [ev, Env.get_set, ↓reduceIte, Nat.reduceEqDiff]) (by simp only [ev, Env.get_set, ↓reduceIte, Nat.reduceEqDiff]; rfl) rfl rfl (room (by simp; omega) (by simp; omega)) ?_
        intro v4 s4 ho4 hx4 hr4 _
        have hk34 : Keep (s'.next + 1) (s3.at s'.floor) s4 := hx4.keep a3 fun r i n z h => (ho3'.row r i n z h).1
        have hk4 : Keep s'.next s' s4 := hkA.trans (hk34.le (Nat.le_succ _))
        have a4 : s3.next ≤ s4.next := hx4.next
        (repeat' (with_reducible first|refine w_1 ?_|refine w_2 ?_|refine w_3 ?_|refine w_4 ?_|refine w_5 ?_|refine w_6 ?_|refine w_7 ?_|(refine w_8 (fun hb=>?_) (fun hb=>?_)<;>(try simp only [Bool.not_eq_true',Bool.not_eq_false'] at hb)<;>try simp only [hb])|(refine w_9 ?_;simp (maxDischargeDepth:=12) only [viz,↓reduceIte,Nat.reduceEqDiff,reduceCtorEq,Int.reduceEq,Int.reduceNeg,Nat.reduceAdd,Nat.reduceLeDiff,g0,g1,g5,hlen,bdA_some,bdV_nat,hc1,hc2])|refine w_10 (fun hc=>(by (try simp only [Bool.and_eq_true] at hc);simp (maxDischargeDepth:=12) only [viz,↓reduceIte,Nat.reduceEqDiff,reduceCtorEq,Int.reduceEq,Int.reduceNeg,Nat.reduceAdd,Nat.reduceLeDiff,g0,g1,g5,hlen,bdA_some,bdV_nat,hc1,hc2,hc];first|exact ⟨rfl,rfl⟩|exact rfl)) ?_|refine w_11 (fun hc=>(by (try simp only [Bool.and_eq_true] at hc);simp (maxDischargeDepth:=12) only [viz,↓reduceIte,Nat.reduceEqDiff,reduceCtorEq,Int.reduceEq,Int.reduceNeg,Nat.reduceAdd,Nat.reduceLeDiff,g0,g1,g5,hlen,bdA_some,bdV_nat,hc1,hc2,hc];first|exact ⟨rfl,rfl⟩|exact rfl)) ?_|refine w_12 ?_|simp (maxDischargeDepth:=12) only [viz,↓reduceIte,Nat.reduceEqDiff,reduceCtorEq,Int.reduceEq,Int.reduceNeg,Nat.reduceAdd,Nat.reduceLeDiff,g0,g1,g5,hlen,bdA_some,bdV_nat,hc1,hc2]))
        refine app_x (b := s'.next + 1) (xs := (p.take i).map txtC ++ [[.str x]]) (ys := (p.drop i).map txtC) (by rw [hk4.floor]; omega) (by omega) (by simp only [ev, Env.get_set, ↓reduceIte, Nat.reduceEqDiff]; exact ho4) ?_ ?_ (room (by simp; omega) (by simp; omega)) ?_
        · simp only [ev, Env.get_set, ↓reduceIte, Nat.reduceEqDiff]
          exact hv2.readk hI _ hk4
        · exact hv2.uni
        · intro v5 s5 ho5 hx5 _ hr5
          have hk5 : Keep s'.next s' s5 := hk4.trans (hx5.keep (by omega) fun r i n z h => by
            have := ho4.row r i n z (by simpa only [ev, Env.get_set, ↓reduceIte, Nat.reduceEqDiff] using h); omega)
          (repeat' (with_reducible first|refine w_1 ?_|refine w_2 ?_|refine w_3 ?_|refine w_4 ?_|refine w_5 ?_|refine w_6 ?_|refine w_7 ?_|(refine w_8 (fun hb=>?_) (fun hb=>?_)<;>(try simp only [Bool.not_eq_true',Bool.not_eq_false'] at hb)<;>try simp only [hb])|(refine w_9 ?_;simp (maxDischargeDepth:=12) only [viz,↓reduceIte,Nat.reduceEqDiff,reduceCtorEq,Int.reduceEq,Int.reduceNeg,Nat.reduceAdd,Nat.reduceLeDiff])|refine w_10 (fun hc=>(by (try simp only [Bool.and_eq_true] at hc);simp (maxDischargeDepth:=12) only [viz,↓reduceIte,Nat.reduceEqDiff,reduceCtorEq,Int.reduceEq,Int.reduceNeg,Nat.reduceAdd,Nat.reduceLeDiff,hc];first|exact ⟨rfl,rfl⟩|exact rfl)) ?_|refine w_11 (fun hc=>(by (try simp only [Bool.and_eq_true] at hc);simp (maxDischargeDepth:=12) only [viz,↓reduceIte,Nat.reduceEqDiff,reduceCtorEq,Int.reduceEq,Int.reduceNeg,Nat.reduceAdd,Nat.reduceLeDiff,hc];first|exact ⟨rfl,rfl⟩|exact rfl)) ?_|refine w_12 ?_|simp (maxDischargeDepth:=12) only [viz,↓reduceIte,Nat.reduceEqDiff,reduceCtorEq,Int.reduceEq,Int.reduceNeg,Nat.reduceAdd,Nat.reduceLeDiff]))
          exact fin v5 s5 (fun z hz => by rw [hy] at hz; obtain rfl := Option.some.inj hz; assumption) (fun hz => by rw [hy] at hz; obtain rfl := Option.some.inj hz; simp_all) ho5 hk5 (by have := hx5.next; omega)
  · (repeat' (with_reducible first|refine w_1 ?_|refine w_2 ?_|refine w_3 ?_|refine w_4 ?_|refine w_5 ?_|refine w_6 ?_|refine w_7 ?_|(refine w_8 (fun hb=>?_) (fun hb=>?_)<;>(try simp only [Bool.not_eq_true',Bool.not_eq_false'] at hb)<;>try simp only [hb])|(refine w_9 ?_;simp (maxDischargeDepth:=12) only [viz,↓reduceIte,Nat.reduceEqDiff,reduceCtorEq,Int.reduceEq,Int.reduceNeg,Nat.reduceAdd,Nat.reduceLeDiff,g0,g1,g5,hlen,lt_false hlt,bdA_some,bdV_nat,hc1,hc2])|refine w_10 (fun hc=>(by (try simp only [Bool.and_eq_true] at hc);simp (maxDischargeDepth:=12) only [viz,↓reduceIte,Nat.reduceEqDiff,reduceCtorEq,Int.reduceEq,Int.reduceNeg,Nat.reduceAdd,Nat.reduceLeDiff,g0,g1,g5,hlen,lt_false hlt,bdA_some,bdV_nat,hc1,hc2,hc];first|exact ⟨rfl,rfl⟩|exact rfl)) ?_|refine w_11 (fun hc=>(by (try simp only [Bool.and_eq_true] at hc);simp (maxDischargeDepth:=12) only [viz,↓reduceIte,Nat.reduceEqDiff,reduceCtorEq,Int.reduceEq,Int.reduceNeg,Nat.reduceAdd,Nat.reduceLeDiff,g0,g1,g5,hlen,lt_false hlt,bdA_some,bdV_nat,hc1,hc2,hc];first|exact ⟨rfl,rfl⟩|exact rfl)) ?_|refine w_12 ?_|simp (maxDischargeDepth:=12) only [viz,↓reduceIte,Nat.reduceEqDiff,reduceCtorEq,Int.reduceEq,Int.reduceNeg,Nat.reduceAdd,Nat.reduceLeDiff,g0,g1,g5,hlen,lt_false hlt,bdA_some,bdV_nat,hc1,hc2]))
    refine app_x (b := s'.next + 1) (xs := []) (ys := (p.take i).map txtC) (Nat.le_refl _) (Nat.le_refl _) (by simp only [ev, Env.get_set, ↓reduceIte, Nat.reduceEqDiff]; exact OwnL.emp _ _ _ _) ?_ ?_ (room (by simp; omega) (by simp; omega)) ?_
    · simp only [ev, Env.get_set, ↓reduceIte, Nat.reduceEqDiff]
      exact (mat_read _ _ _).trans (hv1.readk hI _ (pushes s' _))
    · exact hv1.uni
    · intro v3 s3 ho3 hx3 _ hr3
      have hk3 : Keep (s'.next + 1) ((s'.at (s'.next + 1)).push ⟨9, 1, []⟩) s3 := hx3.keep (Nat.le_refl _) fun r i n z h => by simp only [ev, Env.get_set, ↓reduceIte, Nat.reduceEqDiff, reduceCtorEq] at h
      have hkA : Keep s'.next s' (s3.at s'.floor) := (pushes s' ⟨9, 1, []⟩).then (Keep.of_at (s := s'.push ⟨9, 1, []⟩) hk3)
      have a3 : s'.next + 1 ≤ s3.next := hk3.next
      have ho3' : OwnL (s3.at s'.floor) (s'.next + 1) v3 9 1 ([] ++ (p.take i).map txtC) := ho3.at (by omega)
      rw [List.nil_append] at ho3'
      have hf3 : s'.floor ≤ s3.next := by omega
      (repeat' (with_reducible first|refine w_1 ?_|refine w_2 ?_|refine w_3 ?_|refine w_4 ?_|refine w_5 ?_|refine w_6 ?_|refine w_7 ?_|(refine w_8 (fun hb=>?_) (fun hb=>?_)<;>(try simp only [Bool.not_eq_true',Bool.not_eq_false'] at hb)<;>try simp only [hb])|(refine w_9 ?_;simp (maxDischargeDepth:=12) only [viz,↓reduceIte,Nat.reduceEqDiff,reduceCtorEq,Int.reduceEq,Int.reduceNeg,Nat.reduceAdd,Nat.reduceLeDiff,g0,g1,g5,hlen,bdA_some,bdV_nat,hc1,hc2,hf3,le_s1 hf3])|refine w_10 (fun hc=>(by (try simp only [Bool.and_eq_true] at hc);simp (maxDischargeDepth:=12) only [viz,↓reduceIte,Nat.reduceEqDiff,reduceCtorEq,Int.reduceEq,Int.reduceNeg,Nat.reduceAdd,Nat.reduceLeDiff,g0,g1,g5,hlen,bdA_some,bdV_nat,hc1,hc2,hf3,le_s1 hf3,hc];first|exact ⟨rfl,rfl⟩|exact rfl)) ?_|refine w_11 (fun hc=>(by (try simp only [Bool.and_eq_true] at hc);simp (maxDischargeDepth:=12) only [viz,↓reduceIte,Nat.reduceEqDiff,reduceCtorEq,Int.reduceEq,Int.reduceNeg,Nat.reduceAdd,Nat.reduceLeDiff,g0,g1,g5,hlen,bdA_some,bdV_nat,hc1,hc2,hf3,le_s1 hf3,hc];first|exact ⟨rfl,rfl⟩|exact rfl)) ?_|refine w_12 ?_|simp (maxDischargeDepth:=12) only [viz,↓reduceIte,Nat.reduceEqDiff,reduceCtorEq,Int.reduceEq,Int.reduceNeg,Nat.reduceAdd,Nat.reduceLeDiff,g0,g1,g5,hlen,bdA_some,bdV_nat,hc1,hc2,hf3,le_s1 hf3]))
      refine app_lit (k := 1) (b := s'.next + 1) (xs := (p.take i).map txtC) (s := s3.at s'.floor) (show s'.floor ≤ s'.next + 1 by omega) a3 ho3' (by simp only [ev, Env.get_set, ↓reduceIte, Nat.reduceEqDiff]) (by simp only [ev, Env.get_set, ↓reduceIte, Nat.reduceEqDiff]; rfl) rfl rfl (room (by simp; omega) (by simp; omega)) ?_
      intro v4 s4 ho4 hx4 hr4 _
      have hk34 : Keep (s'.next + 1) (s3.at s'.floor) s4 := hx4.keep a3 fun r i n z h => (ho3'.row r i n z h).1
      have hk4 : Keep s'.next s' s4 := hkA.trans (hk34.le (Nat.le_succ _))
      have a4 : s3.next ≤ s4.next := hx4.next
      (repeat' (with_reducible first|refine w_1 ?_|refine w_2 ?_|refine w_3 ?_|refine w_4 ?_|refine w_5 ?_|refine w_6 ?_|refine w_7 ?_|(refine w_8 (fun hb=>?_) (fun hb=>?_)<;>(try simp only [Bool.not_eq_true',Bool.not_eq_false'] at hb)<;>try simp only [hb])|(refine w_9 ?_;simp (maxDischargeDepth:=12) only [viz,↓reduceIte,Nat.reduceEqDiff,reduceCtorEq,Int.reduceEq,Int.reduceNeg,Nat.reduceAdd,Nat.reduceLeDiff,g0,g1,g5,hlen,bdA_some,bdV_nat,hc1,hc2])|refine w_10 (fun hc=>(by (try simp only [Bool.and_eq_true] at hc);simp (maxDischargeDepth:=12) only [viz,↓reduceIte,Nat.reduceEqDiff,reduceCtorEq,Int.reduceEq,Int.reduceNeg,Nat.reduceAdd,Nat.reduceLeDiff,g0,g1,g5,hlen,bdA_some,bdV_nat,hc1,hc2,hc];first|exact ⟨rfl,rfl⟩|exact rfl)) ?_|refine w_11 (fun hc=>(by (try simp only [Bool.and_eq_true] at hc);simp (maxDischargeDepth:=12) only [viz,↓reduceIte,Nat.reduceEqDiff,reduceCtorEq,Int.reduceEq,Int.reduceNeg,Nat.reduceAdd,Nat.reduceLeDiff,g0,g1,g5,hlen,bdA_some,bdV_nat,hc1,hc2,hc];first|exact ⟨rfl,rfl⟩|exact rfl)) ?_|refine w_12 ?_|simp (maxDischargeDepth:=12) only [viz,↓reduceIte,Nat.reduceEqDiff,reduceCtorEq,Int.reduceEq,Int.reduceNeg,Nat.reduceAdd,Nat.reduceLeDiff,g0,g1,g5,hlen,bdA_some,bdV_nat,hc1,hc2]))
      refine app_x (b := s'.next + 1) (xs := (p.take i).map txtC ++ [[.str x]]) (ys := (p.drop i).map txtC) (by rw [hk4.floor]; omega) (by omega) (by simp only [ev, Env.get_set, ↓reduceIte, Nat.reduceEqDiff]; exact ho4) ?_ ?_ (room (by simp; omega) (by simp; omega)) ?_
      · simp only [ev, Env.get_set, ↓reduceIte, Nat.reduceEqDiff]
        exact hv2.readk hI _ hk4
      · exact hv2.uni
      · intro v5 s5 ho5 hx5 _ hr5
        have hk5 : Keep s'.next s' s5 := hk4.trans (hx5.keep (by omega) fun r i n z h => by
          have := ho4.row r i n z (by simpa only [ev, Env.get_set, ↓reduceIte, Nat.reduceEqDiff] using h); omega)
        (repeat' (with_reducible first|refine w_1 ?_|refine w_2 ?_|refine w_3 ?_|refine w_4 ?_|refine w_5 ?_|refine w_6 ?_|refine w_7 ?_|(refine w_8 (fun hb=>?_) (fun hb=>?_)<;>(try simp only [Bool.not_eq_true',Bool.not_eq_false'] at hb)<;>try simp only [hb])|(refine w_9 ?_;simp (maxDischargeDepth:=12) only [viz,↓reduceIte,Nat.reduceEqDiff,reduceCtorEq,Int.reduceEq,Int.reduceNeg,Nat.reduceAdd,Nat.reduceLeDiff])|refine w_10 (fun hc=>(by (try simp only [Bool.and_eq_true] at hc);simp (maxDischargeDepth:=12) only [viz,↓reduceIte,Nat.reduceEqDiff,reduceCtorEq,Int.reduceEq,Int.reduceNeg,Nat.reduceAdd,Nat.reduceLeDiff,hc];first|exact ⟨rfl,rfl⟩|exact rfl)) ?_|refine w_11 (fun hc=>(by (try simp only [Bool.and_eq_true] at hc);simp (maxDischargeDepth:=12) only [viz,↓reduceIte,Nat.reduceEqDiff,reduceCtorEq,Int.reduceEq,Int.reduceNeg,Nat.reduceAdd,Nat.reduceLeDiff,hc];first|exact ⟨rfl,rfl⟩|exact rfl)) ?_|refine w_12 ?_|simp (maxDischargeDepth:=12) only [viz,↓reduceIte,Nat.reduceEqDiff,reduceCtorEq,Int.reduceEq,Int.reduceNeg,Nat.reduceAdd,Nat.reduceLeDiff]))
        exact fin v5 s5 (fun z hz => by rw [List.getElem?_eq_none (by omega)] at hz; cases hz) (fun hz => by rw [List.getElem?_eq_none (by omega)] at hz; cases hz) ho5 hk5 (by have := hx5.next; omega)
end Go.Proofs.YthibbbfhkfebkaaGreat
/- Places and pieces by the document. No statement of the seat is proved here. -/
namespace Go.Proofs.YthibbbfhkfebkaaGreat
open Go Go.VI
set_option linter.unusedSimpArgs false
theorem insR_len (s : Txt) : ∀ p : List Txt, (insR p s).length ≤ p.length + 1
  | [] => Nat.le_refl _
  | x :: r => by
    have := insR_len s r
    unfold insR
    split
    · simp only [List.length_cons]; omega
    · split <;> simp only [List.length_cons] <;> omega
theorem places_len : ∀ (l : List Span) (p : List Txt), (l.foldl (fun p x => insR (insR p x.frm) x.to) p).length ≤ p.length + 2 * l.length
  | [], p => Nat.le_refl _
  | x :: l, p => by
    have := places_len l (insR (insR p x.frm) x.to)
    have a := insR_len x.to (insR p x.frm)
    have b := insR_len x.frm p
    simp only [List.foldl_cons, List.length_cons]; omega
theorem placesP_len (l : List Span) : (placesP l).length ≤ 1 + 2 * l.length := places_len l _
theorem setTo_len (out : List Span) (a : Txt) : (setTo out a).length = out.length := by
  unfold setTo
  cases h : out.getLast? with
  | none => rfl
  | some x =>
    obtain ⟨ys, rfl⟩ := List.getLast?_eq_some_iff.mp h
    simp
theorem scan_len (is : Txt → Bool) : ∀ (p : List Txt) (st : Bool × List Span) (n : Nat), 2 * st.2.length ≤ n + (if st.1 then 1 else 0) → 2 * (p.foldl (fun st a => (is a, nextOut is st.1 st.2 a)) st).2.length ≤ n + p.length + 1
  | [], st, n, h => by simp only [List.foldl_nil, List.length_nil]; split at h <;> omega
  | a :: p, st, n, h => by
    have := scan_len is p (is a, nextOut is st.1 st.2 a) (n + 1) (by
      simp only [nextOut]
      cases h1 : is a <;> cases h2 : st.1 <;> simp [h2, setTo_len] at h ⊢ <;> omega)
    simp only [List.foldl_cons, List.length_cons]; omega
theorem piece_len (l : List Span) (s : Span) (kind : Int) : (pieceP l s kind).length ≤ l.length + 2 := by
  have h := scan_len (isK l s kind) (placesP (l ++ [s])) (false, []) 0 (by simp)
  have h2 := placesP_len (l ++ [s])
  have e : pieceP l s kind = ((placesP (l ++ [s])).foldl (fun st a => (isK l s kind a, nextOut (isK l s kind) st.1 st.2 a)) (false, [])).2 := rfl
  rw [e]
  simp only [List.length_append, List.length_singleton] at h2
  omega
attribute [local irreducible] Ws Wp W C
set_option maxHeartbeats 4000000
theorem places_c {l : List Span} {v : AV} {D : Nat → Prop} {s : Mem} {K : AV → Mem → Prop} (hf : s.floor ≤ s.next) (hI : In D s) (hv : Spans s D v l) (hl : l.length < 300)
    (hK : ∀ v' s', Keep s.next s s' → Sl s' (fun q => s.next ≤ q ∧ q < s'.next) v' 1 ((placesP l).map txtC) → K v' s') : C tab 76 [v] s K := by
  refine C_enter (cf := cf76) rfl (Nat.le_of_ble_eq_true rfl) ?_
  simp only [cf76, oo, on, om, og, oc, ou]
  have hlen : lenA false v = some l.length := hv.lenB
  (repeat' (with_reducible first|refine w_1 ?_|refine w_2 ?_|refine w_3 ?_|refine w_4 ?_|refine w_5 ?_|refine w_6 ?_|refine w_7 ?_|(refine w_8 (fun hb=>?_) (fun hb=>?_)<;>(try simp only [Bool.not_eq_true',Bool.not_eq_false'] at hb)<;>try simp only [hb])|(refine w_9 ?_;simp (maxDischargeDepth:=12) only [viz,↓reduceIte,Nat.reduceEqDiff,reduceCtorEq,Int.reduceEq,Int.reduceNeg,Nat.reduceAdd,Nat.reduceLeDiff])|refine w_10 (fun hc=>(by (try simp only [Bool.and_eq_true] at hc);simp (maxDischargeDepth:=12) only [viz,↓reduceIte,Nat.reduceEqDiff,reduceCtorEq,Int.reduceEq,Int.reduceNeg,Nat.reduceAdd,Nat.reduceLeDiff,hc];first|exact ⟨rfl,rfl⟩|exact rfl)) ?_|refine w_11 (fun hc=>(by (try simp only [Bool.and_eq_true] at hc);simp (maxDischargeDepth:=12) only [viz,↓reduceIte,Nat.reduceEqDiff,reduceCtorEq,Int.reduceEq,Int.reduceNeg,Nat.reduceAdd,Nat.reduceLeDiff,hc];first|exact ⟨rfl,rfl⟩|exact rfl)) ?_|refine w_12 ?_|simp (maxDischargeDepth:=12) only [viz,↓reduceIte,Nat.reduceEqDiff,reduceCtorEq,Int.reduceEq,Int.reduceNeg,Nat.reduceAdd,Nat.reduceLeDiff]))
  refine W_inv l.length (fun i E s' => ∃ w, Keep s.next s s' ∧ Sl s' (fun q => s.next ≤ q ∧ q < s'.next) w 1 ((placesP (l.take i)).map txtC) ∧ E.get 0 = v ∧ E.get 3 = w ∧ E.get 4 = .int .i64 i) (by delta cf76l0 oo on om og oc ou; exact rfl) ?_ ?_
  · refine ⟨_, pushes _ _, Sl.of_row (r := s.next) (n := 1) (ty := 9) ?_ ?_ ?_ rfl, (by simp only [ev, Env.get_set, ↓reduceIte, Nat.reduceEqDiff]), (by simp only [ev, Env.get_set, ↓reduceIte, Nat.reduceEqDiff]), (by simp only [ev, Env.get_set, ↓reduceIte, Nat.reduceEqDiff]; rfl)⟩
    · rw [Mem.get_push, if_pos rfl]; rfl
    · exact ⟨Nat.le_refl _, by rw [Mem.next_push]; omega⟩
    · intro c hc
      obtain ⟨y, _, rfl⟩ := List.mem_map.mp hc; rfl
  rintro i E s' hile _ ⟨w, hk, hw, g0, g3, g4⟩
  by_cases hlt : i < l.length
  · obtain ⟨x, hx⟩ := get_of hlt
    obtain ⟨p, hp, P, hld⟩ := hv.ldk hI hx rfl rfl
    have l0 : ∀ M, Keep s.next s M → loadA M false 1 (VI.adr p 0) = some (.str x.frm) := fun M hM => by
      have := P.ldf _ hM 0 false 1 (by simp [spanC])
      rw [this]; rfl
    have l1 : ∀ M, Keep s.next s M → loadA M false 1 (VI.adr p 1) = some (.str x.to) := fun M hM => by
      have := P.ldf _ hM 1 false 1 (by simp [spanC])
      rw [this]; rfl
    have pl := placesP_len (l.take i)
    rw [List.length_take] at pl
    have il := insR_len x.frm (placesP (l.take i))
    (repeat' (with_reducible first|refine w_1 ?_|refine w_2 ?_|refine w_3 ?_|refine w_4 ?_|refine w_5 ?_|refine w_6 ?_|refine w_7 ?_|(refine w_8 (fun hb=>?_) (fun hb=>?_)<;>(try simp only [Bool.not_eq_true',Bool.not_eq_false'] at hb)<;>try simp only [hb])|(refine w_9 ?_;simp (maxDischargeDepth:=12) only [viz,↓reduceIte,Nat.reduceEqDiff,reduceCtorEq,Int.reduceEq,Int.reduceNeg,Nat.reduceAdd,Nat.reduceLeDiff,g0,g3,g4,hlen,lt_true hlt,hp,P.adr,l0 _ hk])|refine w_10 (fun hc=>(by (try simp only [Bool.and_eq_true] at hc);simp (maxDischargeDepth:=12) only [viz,↓reduceIte,Nat.reduceEqDiff,reduceCtorEq,Int.reduceEq,Int.reduceNeg,Nat.reduceAdd,Nat.reduceLeDiff,g0,g3,g4,hlen,lt_true hlt,hp,P.adr,l0 _ hk,hc];first|exact ⟨rfl,rfl⟩|exact rfl)) ?_|refine w_11 (fun hc=>(by (try simp only [Bool.and_eq_true] at hc);simp (maxDischargeDepth:=12) only [viz,↓reduceIte,Nat.reduceEqDiff,reduceCtorEq,Int.reduceEq,Int.reduceNeg,Nat.reduceAdd,Nat.reduceLeDiff,g0,g3,g4,hlen,lt_true hlt,hp,P.adr,l0 _ hk,hc];first|exact ⟨rfl,rfl⟩|exact rfl)) ?_|refine w_12 ?_|simp (maxDischargeDepth:=12) only [viz,↓reduceIte,Nat.reduceEqDiff,reduceCtorEq,Int.reduceEq,Int.reduceNeg,Nat.reduceAdd,Nat.reduceLeDiff,g0,g3,g4,hlen,lt_true hlt,hp,P.adr,l0 _ hk]))
    refine insert_c (hk.ok hf) (fun q hq => hq.2) hw (by omega) fun w2 s2 h2 hw2 => ?_
    have hk2 := hk.then h2
    (repeat' (with_reducible first|refine w_1 ?_|refine w_2 ?_|refine w_3 ?_|refine w_4 ?_|refine w_5 ?_|refine w_6 ?_|refine w_7 ?_|(refine w_8 (fun hb=>?_) (fun hb=>?_)<;>(try simp only [Bool.not_eq_true',Bool.not_eq_false'] at hb)<;>try simp only [hb])|(refine w_9 ?_;simp (maxDischargeDepth:=12) only [viz,↓reduceIte,Nat.reduceEqDiff,reduceCtorEq,Int.reduceEq,Int.reduceNeg,Nat.reduceAdd,Nat.reduceLeDiff,g0,g3,g4,hlen,hp,P.adr,l1 _ hk2])|refine w_10 (fun hc=>(by (try simp only [Bool.and_eq_true] at hc);simp (maxDischargeDepth:=12) only [viz,↓reduceIte,Nat.reduceEqDiff,reduceCtorEq,Int.reduceEq,Int.reduceNeg,Nat.reduceAdd,Nat.reduceLeDiff,g0,g3,g4,hlen,hp,P.adr,l1 _ hk2,hc];first|exact ⟨rfl,rfl⟩|exact rfl)) ?_|refine w_11 (fun hc=>(by (try simp only [Bool.and_eq_true] at hc);simp (maxDischargeDepth:=12) only [viz,↓reduceIte,Nat.reduceEqDiff,reduceCtorEq,Int.reduceEq,Int.reduceNeg,Nat.reduceAdd,Nat.reduceLeDiff,g0,g3,g4,hlen,hp,P.adr,l1 _ hk2,hc];first|exact ⟨rfl,rfl⟩|exact rfl)) ?_|refine w_12 ?_|simp (maxDischargeDepth:=12) only [viz,↓reduceIte,Nat.reduceEqDiff,reduceCtorEq,Int.reduceEq,Int.reduceNeg,Nat.reduceAdd,Nat.reduceLeDiff,g0,g3,g4,hlen,hp,P.adr,l1 _ hk2]))
    refine insert_c (hk2.ok hf) (D := fun q => s.next ≤ q ∧ q < s2.next) (fun q hq => hq.2) (hw2.mono fun q hq => ?_) (by omega) fun w3 s3 h3 hw3 => ?_
    · have := hk.next; have := h2.next; rcases hq with hq | hq <;> omega
    have hk3 := hk2.then h3
    (repeat' (with_reducible first|refine w_1 ?_|refine w_2 ?_|refine w_3 ?_|refine w_4 ?_|refine w_5 ?_|refine w_6 ?_|refine w_7 ?_|(refine w_8 (fun hb=>?_) (fun hb=>?_)<;>(try simp only [Bool.not_eq_true',Bool.not_eq_false'] at hb)<;>try simp only [hb])|(refine w_9 ?_;simp (maxDischargeDepth:=12) only [viz,↓reduceIte,Nat.reduceEqDiff,reduceCtorEq,Int.reduceEq,Int.reduceNeg,Nat.reduceAdd,Nat.reduceLeDiff,g0,g3,g4])|refine w_10 (fun hc=>(by (try simp only [Bool.and_eq_true] at hc);simp (maxDischargeDepth:=12) only [viz,↓reduceIte,Nat.reduceEqDiff,reduceCtorEq,Int.reduceEq,Int.reduceNeg,Nat.reduceAdd,Nat.reduceLeDiff,g0,g3,g4,hc];first|exact ⟨rfl,rfl⟩|exact rfl)) ?_|refine w_11 (fun hc=>(by (try simp only [Bool.and_eq_true] at hc);simp (maxDischargeDepth:=12) only [viz,↓reduceIte,Nat.reduceEqDiff,reduceCtorEq,Int.reduceEq,Int.reduceNeg,Nat.reduceAdd,Nat.reduceLeDiff,g0,g3,g4,hc];first|exact ⟨rfl,rfl⟩|exact rfl)) ?_|refine w_12 ?_|simp (maxDischargeDepth:=12) only [viz,↓reduceIte,Nat.reduceEqDiff,reduceCtorEq,Int.reduceEq,Int.reduceNeg,Nat.reduceAdd,Nat.reduceLeDiff,g0,g3,g4]))
    refine ⟨hlt, w3, hk3, ?_, rfl, succ_av (by omega)⟩
    have e : l.take (i + 1) = l.take i ++ [x] := by rw [List.take_add_one, hx]; rfl
    rw [e, places_snoc]
    refine hw3.mono fun q hq => ?_
    have := hk2.next; have := h3.next; rcases hq with hq | hq <;> omega
  · (repeat' (with_reducible first|refine w_1 ?_|refine w_2 ?_|refine w_3 ?_|refine w_4 ?_|refine w_5 ?_|refine w_6 ?_|refine w_7 ?_|(refine w_8 (fun hb=>?_) (fun hb=>?_)<;>(try simp only [Bool.not_eq_true',Bool.not_eq_false'] at hb)<;>try simp only [hb])|(refine w_9 ?_;simp (maxDischargeDepth:=12) only [viz,↓reduceIte,Nat.reduceEqDiff,reduceCtorEq,Int.reduceEq,Int.reduceNeg,Nat.reduceAdd,Nat.reduceLeDiff,g0,g3,g4,hlen,lt_false hlt])|refine w_10 (fun hc=>(by (try simp only [Bool.and_eq_true] at hc);simp (maxDischargeDepth:=12) only [viz,↓reduceIte,Nat.reduceEqDiff,reduceCtorEq,Int.reduceEq,Int.reduceNeg,Nat.reduceAdd,Nat.reduceLeDiff,g0,g3,g4,hlen,lt_false hlt,hc];first|exact ⟨rfl,rfl⟩|exact rfl)) ?_|refine w_11 (fun hc=>(by (try simp only [Bool.and_eq_true] at hc);simp (maxDischargeDepth:=12) only [viz,↓reduceIte,Nat.reduceEqDiff,reduceCtorEq,Int.reduceEq,Int.reduceNeg,Nat.reduceAdd,Nat.reduceLeDiff,g0,g3,g4,hlen,lt_false hlt,hc];first|exact ⟨rfl,rfl⟩|exact rfl)) ?_|refine w_12 ?_|simp (maxDischargeDepth:=12) only [viz,↓reduceIte,Nat.reduceEqDiff,reduceCtorEq,Int.reduceEq,Int.reduceNeg,Nat.reduceAdd,Nat.reduceLeDiff,g0,g3,g4,hlen,lt_false hlt]))
    rw [List.take_of_length_le (by omega)] at hw
    exact hK _ _ hk hw
end Go.Proofs.YthibbbfhkfebkaaGreat

