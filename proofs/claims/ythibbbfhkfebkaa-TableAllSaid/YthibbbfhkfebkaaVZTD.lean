/- Calls, transactions: which may be. No statement of the seat is proved here. -/
import Derived.Test.YthibbbfhkfebkaaVZTB
import Derived.Test.YthibbbfhkfebkaaVZVE
namespace Go.Proofs.Ythibbbfhkfebkaa
open Go Go.VI
set_option linter.unusedSimpArgs false
def lastsS (kind ttl : Int) : Bool := if kind = 2 then decide (ttl = 0) else (decide (kind = 1) || decide (kind = 3)) && decide (1 ≤ ttl) && decide (ttl ≤ 1048576)
def idS (c q : Int) : Bool := decide (0 ≤ c) && decide (c < 8) && !decide (q = 0)
structure Call where
  kind : Int
  keys : List Txt
  token : Int
  ttl : Int
def txtC (t : Txt) : List AV := [.str t]
def callC (k : AV) (c : Call) : List AV := [.int .i64 c.kind, k, .int .u64 c.token, .int .i64 c.ttl]
def keyOk2 (p : Option Txt) (k : Txt) : Bool := decide (k.length ≤ 64) && (match p with | none => true | some q => bl q k)
def callS (c : Call) : Bool := lastsS c.kind c.ttl && (decide (c.token = 0) == decide (c.kind = 1)) && decide (1 ≤ c.keys.length) && decide (c.keys.length ≤ 16) && rising keyOk2 none c.keys
attribute [local irreducible] Ws Wp W C
set_option maxHeartbeats 4000000
theorem lasts_c {k t : Int} {s : Mem} {K : AV → Mem → Prop} (hK : K (.bool (lastsS k t)) s) : C tab 37 [.int .i64 k, .int .i64 t] s K := by
  refine C_enter (cf := cf37) rfl (Nat.le_of_ble_eq_true rfl) ?_
  simp only [cf37, oo, on, om, og, oc, ou]
  (repeat' (with_reducible first|refine w_1 ?_|refine w_2 ?_|refine w_3 ?_|refine w_4 ?_|refine w_5 ?_|refine w_6 ?_|refine w_7 ?_|(refine w_8 (fun hb=>?_) (fun hb=>?_)<;>(try simp only [Bool.not_eq_true',Bool.not_eq_false'] at hb)<;>try simp only [hb])|refine w_13 (fun hc=>(by (try simp only [Bool.and_eq_true] at hc);simp (maxDischargeDepth:=12) only [viz,↓reduceIte,Nat.reduceEqDiff,reduceCtorEq,Int.reduceEq,Int.reduceNeg,Nat.reduceAdd,Nat.reduceLeDiff,cond_true,cond_false,hc];first|exact ⟨rfl,rfl⟩|exact rfl)) ?_|refine w_12 ?_|((try refine w_9 ?_);simp (maxDischargeDepth:=12) only [viz,↓reduceIte,Nat.reduceEqDiff,reduceCtorEq,Int.reduceEq,Int.reduceNeg,Nat.reduceAdd,Nat.reduceLeDiff])))
  all_goals
    refine (congrArg (fun b => K (.bool b) s) ?_).mp hK
    grind [lastsS]
theorem id_c {c q : Int} {s : Mem} {K : AV → Mem → Prop} (hK : ∀ s', Keep s.next s s' → K (.bool (idS c q)) s') : C tab 14 [.agg [.int .i64 c, .int .u64 q]] s K := by
  refine C_enter (cf := cf14) rfl (Nat.le_of_ble_eq_true rfl) ?_
  simp only [cf14, oo, on, om, og, oc, ou]
  (repeat' (with_reducible first|refine w_1 ?_|refine w_2 ?_|refine w_3 ?_|refine w_4 ?_|refine w_5 ?_|refine w_6 ?_|refine w_7 ?_|(refine w_8 (fun hb=>?_) (fun hb=>?_)<;>(try simp only [Bool.not_eq_true',Bool.not_eq_false'] at hb)<;>try simp only [hb])|refine w_13 (fun hc=>(by (try simp only [Bool.and_eq_true] at hc);simp (maxDischargeDepth:=12) only [viz,↓reduceIte,Nat.reduceEqDiff,reduceCtorEq,Int.reduceEq,Int.reduceNeg,Nat.reduceAdd,Nat.reduceLeDiff,cond_true,cond_false,hc];first|exact ⟨rfl,rfl⟩|exact rfl)) ?_|refine w_12 ?_|((try refine w_9 ?_);simp (maxDischargeDepth:=12) only [viz,↓reduceIte,Nat.reduceEqDiff,reduceCtorEq,Int.reduceEq,Int.reduceNeg,Nat.reduceAdd,Nat.reduceLeDiff])))
  all_goals exact K_of hK (pushes _ _) (by grind [idS])
theorem checkCall_c {c : Call} {k : AV} {s : Mem} {K : AV → Mem → Prop} (hk : isSl k (c.keys.map txtC)) (hK : ∀ s', Keep s.next s s' → K (.int .i64 (if callS c then 0 else 1)) s') : C tab 13 [.agg (callC k c)] s K := by
  refine C_enter (cf := cf13) rfl (Nat.le_of_ble_eq_true rfl) ?_
  have hcell : isCell k = true := by rcases hk with ⟨rfl, _⟩ | rfl <;> rfl
  have hlen : lenA false k = some c.keys.length := by
    rcases hk with ⟨rfl, h⟩ | rfl
    · have : c.keys = [] := by simpa using h
      rw [this]; rfl
    · simp [lenA]
  simp only [cf13, oo, on, om, og, oc, ou, callC]
  (repeat' (with_reducible first|refine w_1 ?_|refine w_2 ?_|refine w_3 ?_|refine w_4 ?_|refine w_5 ?_|refine w_6 ?_|refine w_7 ?_|(refine w_8 (fun hb=>?_) (fun hb=>?_)<;>(try simp only [Bool.not_eq_true',Bool.not_eq_false'] at hb)<;>try simp only [hb])|refine w_13 (fun hc=>(by (try simp only [Bool.and_eq_true] at hc);simp (maxDischargeDepth:=12) only [viz,↓reduceIte,Nat.reduceEqDiff,reduceCtorEq,Int.reduceEq,Int.reduceNeg,Nat.reduceAdd,Nat.reduceLeDiff,hcell,hlen,cond_true,cond_false,hc];first|exact ⟨rfl,rfl⟩|exact rfl)) ?_|refine w_12 ?_|((try refine w_9 ?_);simp (maxDischargeDepth:=12) only [viz,↓reduceIte,Nat.reduceEqDiff,reduceCtorEq,Int.reduceEq,Int.reduceNeg,Nat.reduceAdd,Nat.reduceLeDiff,hcell,hlen])))
  refine lasts_c ?_
  (repeat' (with_reducible first|refine w_1 ?_|refine w_2 ?_|refine w_3 ?_|refine w_4 ?_|refine w_5 ?_|refine w_6 ?_|refine w_7 ?_|(refine w_8 (fun hb=>?_) (fun hb=>?_)<;>(try simp only [Bool.not_eq_true',Bool.not_eq_false'] at hb)<;>try simp only [hb])|refine w_13 (fun hc=>(by (try simp only [Bool.and_eq_true] at hc);simp (maxDischargeDepth:=12) only [viz,↓reduceIte,Nat.reduceEqDiff,reduceCtorEq,Int.reduceEq,Int.reduceNeg,Nat.reduceAdd,Nat.reduceLeDiff,hcell,hlen,cond_true,cond_false,hc];first|exact ⟨rfl,rfl⟩|exact rfl)) ?_|refine w_12 ?_|((try refine w_9 ?_);simp (maxDischargeDepth:=12) only [viz,↓reduceIte,Nat.reduceEqDiff,reduceCtorEq,Int.reduceEq,Int.reduceNeg,Nat.reduceAdd,Nat.reduceLeDiff,hcell,hlen])))
  · exact K_v hK (pushes _ _) (by grind [callS])
  have bad : rising keyOk2 none c.keys = false → ∀ s', Keep s.next s s' → K (.int .i64 1) s' := fun h s' hs => by
    have := hK s' hs
    rw [callS, h] at this
    simpa using this
  have hi : ∀ {i : Nat} {x : Txt}, c.keys[i]? = some x → ∀ j, atA 1 k (.int j (i : Int)) = some (.ref [.str x]) := fun {i x} hx j => by
    rcases hk with ⟨_, h⟩ | rfl
    · have : c.keys = [] := by simpa using h
      rw [this] at hx; simp at hx
    · exact isSl.at_ (.inr rfl) (xs := c.keys.map txtC) (c := txtC x) (by rw [List.getElem?_map, hx]; rfl) rfl
  have h16 : c.keys.length ≤ 16 := by grind
  refine W_inv c.keys.length (fun i e s' => s' = s.push ⟨33, 4, [[.int .i64 c.kind, k, .int .u64 c.token, .int .i64 c.ttl]]⟩ ∧ e.get 1 = .ptr s.next 0 0 ∧ e.get 33 = k ∧ e.get 34 = .int .i64 c.keys.length ∧ e.get 35 = .int .i64 i ∧ rising keyOk2 none c.keys = rising keyOk2 (prevOf c.keys i) (c.keys.drop i)) (by delta cf13l0 oo on om og oc ou; exact rfl) ?_ ?_
  · (repeat' (with_reducible first|refine w_1 ?_|refine w_2 ?_|refine w_3 ?_|refine w_4 ?_|refine w_5 ?_|refine w_6 ?_|refine w_7 ?_|(refine w_8 (fun hb=>?_) (fun hb=>?_)<;>(try simp only [Bool.not_eq_true',Bool.not_eq_false'] at hb)<;>try simp only [hb])|refine w_13 (fun hc=>(by (try simp only [Bool.and_eq_true] at hc);simp (maxDischargeDepth:=12) only [viz,↓reduceIte,Nat.reduceEqDiff,reduceCtorEq,Int.reduceEq,Int.reduceNeg,Nat.reduceAdd,Nat.reduceLeDiff,cond_true,cond_false,hc];first|exact ⟨rfl,rfl⟩|exact rfl)) ?_|refine w_12 ?_|((try refine w_9 ?_);simp (maxDischargeDepth:=12) only [viz,↓reduceIte,Nat.reduceEqDiff,reduceCtorEq,Int.reduceEq,Int.reduceNeg,Nat.reduceAdd,Nat.reduceLeDiff])))
    exact ⟨rfl, rfl⟩
  rintro i e s' hile _ ⟨rfl, h1, h33, h34, h35, hr⟩
  by_cases hlt : i < c.keys.length
  · obtain ⟨x, hx⟩ := get_of hlt
    have hpx := hi hx
    have hlx := lt_true hlt
    have e0 := gt64 x.length
    rw [rising_step hx] at hr
    rcases i with _ | j
    all_goals first
      | (have h0 : ((0 : Nat) : Int) = 0 := rfl
         rw [h0] at hpx hlx
         (repeat' (with_reducible first|refine w_1 ?_|refine w_2 ?_|refine w_3 ?_|refine w_4 ?_|refine w_5 ?_|refine w_6 ?_|refine w_7 ?_|(refine w_8 (fun hb=>?_) (fun hb=>?_)<;>(try simp only [Bool.not_eq_true',Bool.not_eq_false'] at hb)<;>try simp only [hb])|refine w_13 (fun hc=>(by (try simp only [Bool.and_eq_true] at hc);simp (maxDischargeDepth:=12) only [viz,↓reduceIte,Nat.reduceEqDiff,reduceCtorEq,Int.reduceEq,Int.reduceNeg,Nat.reduceAdd,Nat.reduceLeDiff,h1,h33,h34,h35,h0,hlx,hlen,hpx,bne_self_eq_false, Int.reduceBEq, Int.reduceBNe, Int.reduceLT, Int.reduceLE, Int.reduceGT, Int.reduceGE,cond_true,cond_false,hc];first|exact ⟨rfl,rfl⟩|exact rfl)) ?_|refine w_12 ?_|((try refine w_9 ?_);simp (maxDischargeDepth:=12) only [viz,↓reduceIte,Nat.reduceEqDiff,reduceCtorEq,Int.reduceEq,Int.reduceNeg,Nat.reduceAdd,Nat.reduceLeDiff,h1,h33,h34,h35,h0,hlx,hlen,hpx,bne_self_eq_false, Int.reduceBEq, Int.reduceBNe, Int.reduceLT, Int.reduceLE, Int.reduceGT, Int.reduceGE]))))
      | (obtain ⟨y, hy⟩ := get_of (l := c.keys) (i := j) (by omega)
         have hj : decide (((j + 1 : Nat) : Int) > 0) = true := by simp
         have hpj := pred_cast j (by omega)
         (repeat' (with_reducible first|refine w_1 ?_|refine w_2 ?_|refine w_3 ?_|refine w_4 ?_|refine w_5 ?_|refine w_6 ?_|refine w_7 ?_|(refine w_8 (fun hb=>?_) (fun hb=>?_)<;>(try simp only [Bool.not_eq_true',Bool.not_eq_false'] at hb)<;>try simp only [hb])|refine w_13 (fun hc=>(by (try simp only [Bool.and_eq_true] at hc);simp (maxDischargeDepth:=12) only [viz,↓reduceIte,Nat.reduceEqDiff,reduceCtorEq,Int.reduceEq,Int.reduceNeg,Nat.reduceAdd,Nat.reduceLeDiff,h1,h33,h34,h35,hlx,hlen,hpx,hi hy,hj,hpj,le_not',cond_true,cond_false,hc];first|exact ⟨rfl,rfl⟩|exact rfl)) ?_|refine w_12 ?_|((try refine w_9 ?_);simp (maxDischargeDepth:=12) only [viz,↓reduceIte,Nat.reduceEqDiff,reduceCtorEq,Int.reduceEq,Int.reduceNeg,Nat.reduceAdd,Nat.reduceLeDiff,h1,h33,h34,h35,hlx,hlen,hpx,hi hy,hj,hpj,le_not']))))
    · have e : keyOk2 (prevOf c.keys 0) x = false := by simp only [keyOk2]; grind
      exact bad (by rw [hr, e]; rfl) _ (pushes _ _)
    · have e : keyOk2 (prevOf c.keys 0) x = true := by simp only [keyOk2, prevOf_zero]; grind
      refine ⟨hlt, rfl, ?_⟩
      rw [hr, e, Bool.true_and]
    · have e : keyOk2 (prevOf c.keys (j + 1)) x = false := by simp only [keyOk2, prevOf_succ, hy, bl]; grind
      exact bad (by rw [hr, e]; rfl) _ (pushes _ _)
    · have e : keyOk2 (prevOf c.keys (j + 1)) x = true := by simp only [keyOk2, prevOf_succ, hy, bl]; grind
      refine ⟨hlt, succ_av (by omega), ?_⟩
      rw [hr, e, Bool.true_and]
  · (repeat' (with_reducible first|refine w_1 ?_|refine w_2 ?_|refine w_3 ?_|refine w_4 ?_|refine w_5 ?_|refine w_6 ?_|refine w_7 ?_|(refine w_8 (fun hb=>?_) (fun hb=>?_)<;>(try simp only [Bool.not_eq_true',Bool.not_eq_false'] at hb)<;>try simp only [hb])|refine w_13 (fun hc=>(by (try simp only [Bool.and_eq_true] at hc);simp (maxDischargeDepth:=12) only [viz,↓reduceIte,Nat.reduceEqDiff,reduceCtorEq,Int.reduceEq,Int.reduceNeg,Nat.reduceAdd,Nat.reduceLeDiff,h1,h33,h34,h35,hlen,lt_false hlt,cond_true,cond_false,hc];first|exact ⟨rfl,rfl⟩|exact rfl)) ?_|refine w_12 ?_|((try refine w_9 ?_);simp (maxDischargeDepth:=12) only [viz,↓reduceIte,Nat.reduceEqDiff,reduceCtorEq,Int.reduceEq,Int.reduceNeg,Nat.reduceAdd,Nat.reduceLeDiff,h1,h33,h34,h35,hlen,lt_false hlt])))
    rw [rising_end hlt] at hr
    exact K_v hK (pushes _ _) (by grind [callS])
end Go.Proofs.Ythibbbfhkfebkaa
/- Places: the document's insertion. No statement of the seat is proved here. -/
namespace Go.Proofs.Ythibbbfhkfebkaa
open Go Go.VI
set_option linter.unusedSimpArgs false
def bdV (v : AV) (K : Option Nat → Prop) : Prop :=
  match v with
  | .int _ n => match toNat? n with
    | some j => K (some j)
    | none => False
  | _ => False
theorem bdA_some (e : Env) (x : Opd) (K : Option Nat → Prop) : bdA e (some x) K = bdV (ev e x) K := id rfl
theorem bdV_nat (k : IntKind) (n : Nat) (K : Option Nat → Prop) : bdV (.int k (n : Int)) K = K (some n) := by simp only [bdV, toNat_cast]
attribute [local irreducible] Ws Wp W C
set_option maxHeartbeats 1000000
end Go.Proofs.Ythibbbfhkfebkaa
/- Places and pieces by the document. No statement of the seat is proved here. -/
namespace Go.Proofs.Ythibbbfhkfebkaa
open Go Go.VI
set_option linter.unusedSimpArgs false
attribute [local irreducible] Ws Wp W C
set_option maxHeartbeats 4000000
end Go.Proofs.Ythibbbfhkfebkaa
/- Pieces by the document. No statement of the seat is proved here. -/
namespace Go.Proofs.Ythibbbfhkfebkaa
open Go Go.VI
set_option linter.unusedSimpArgs false
theorem span_cells (l : List Span) : ∀ c ∈ l.map spanC, c.length = 2 := fun c hc => by
  obtain ⟨y, _, rfl⟩ := List.mem_map.mp hc; rfl
attribute [local irreducible] Ws Wp W C
set_option maxHeartbeats 4000000
end Go.Proofs.Ythibbbfhkfebkaa
/- Covers by the document. No statement of the seat is proved here. -/
namespace Go.Proofs.Ythibbbfhkfebkaa
open Go Go.VI
set_option linter.unusedSimpArgs false
attribute [local irreducible] Ws Wp W C
set_option maxHeartbeats 4000000
end Go.Proofs.Ythibbbfhkfebkaa

