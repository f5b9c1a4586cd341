/- Spans, holds, marks, intents, tables as values; the order of texts. No statement of the seat is proved here. -/
import Derived.Test.YthibbbfhkfebkaaGreatVZTab
import Derived.Test.YthibbbfhkfebkaaGreatVZXs
import Derived.Test.YthibbbfhkfebkaaGreatVZVE
namespace Go.Proofs.YthibbbfhkfebkaaGreat
open Go Go.VI
set_option linter.unusedSimpArgs false
abbrev Txt := List UInt8
abbrev bl (a b : Txt) : Bool := Op.bytesLess a b
theorem bl_irrefl : ∀ a : Txt, bl a a = false
  | [] => rfl
  | x :: a => by
    have := bl_irrefl a
    simp only [bl] at this ⊢
    unfold Op.bytesLess
    simp [this]
theorem bl_trans : ∀ {a b c : Txt}, bl a b = true → bl b c = true → bl a c = true
  | [], b, [], h, k => by cases b <;> simp [bl, Op.bytesLess] at k
  | [], b, z :: c, h, k => by simp [bl, Op.bytesLess]
  | x :: a, [], c, h, k => by simp [bl, Op.bytesLess] at h
  | x :: a, y :: b, [], h, k => by simp [bl, Op.bytesLess] at k
  | x :: a, y :: b, z :: c, h, k => by
    have ih := @bl_trans a b c
    simp only [bl] at ih h k ⊢
    unfold Op.bytesLess at h k ⊢
    simp only [Bool.or_eq_true, Bool.and_eq_true, decide_eq_true_eq, beq_iff_eq] at h k ⊢
    grind
theorem bl_total : ∀ {a b : Txt}, bl a b = false → bl b a = false → a = b
  | [], [], _, _ => rfl
  | [], y :: b, h, _ => by simp [bl, Op.bytesLess] at h
  | x :: a, [], _, k => by simp [bl, Op.bytesLess] at k
  | x :: a, y :: b, h, k => by
    have ih := @bl_total a b
    simp only [bl] at ih h k
    unfold Op.bytesLess at h k
    simp only [Bool.or_eq_false_iff, Bool.and_eq_false_imp, decide_eq_false_iff_not, beq_iff_eq] at h k
    grind
theorem bl_nil (a : Txt) : bl a [] = false := by cases a <;> simp [bl, Op.bytesLess]
structure Span where
  frm : Txt
  to : Txt
def spanC (s : Span) : List AV := [.str s.frm, .str s.to]
structure Hold where
  key : Txt
  token : Int
  till : Int
def holdC (h : Hold) : List AV := [.str h.key, .int .u64 h.token, .int .i64 h.till]
structure Mark where
  key : Txt
  token : Int
def markC (m : Mark) : List AV := [.str m.key, .int .u64 m.token]
structure Intent where
  key : Txt
  client : Int
  seq : Int
  kind : Int
  token : Int
  ttl : Int
def intC (x : Intent) : List AV := [.str x.key, .int .i64 x.client, .int .u64 x.seq, .int .i64 x.kind, .int .u64 x.token, .int .i64 x.ttl]
def rising {α : Type} (ok : Option α → α → Bool) : Option α → List α → Bool
  | _, [] => true
  | p, x :: r => ok p x && rising ok (some x) r
theorem rising_drop {α : Type} {ok : Option α → α → Bool} {l : List α} {i : Nat} {x : α} (h : l[i]? = some x) (p : Option α) : rising ok p (l.drop i) = (ok p x && rising ok (some x) (l.drop (i + 1))) := by
  rw [drop_cons h]; rfl
def prevOf {α : Type} (l : List α) (i : Nat) : Option α := if i = 0 then none else l[i - 1]?
theorem prevOf_zero {α : Type} (l : List α) : prevOf l 0 = none := rfl
theorem prevOf_succ {α : Type} (l : List α) (i : Nat) : prevOf l (i + 1) = l[i]? := rfl
theorem rising_step {α : Type} {ok : Option α → α → Bool} {l : List α} {i : Nat} {x : α} (h : l[i]? = some x) : rising ok (prevOf l i) (l.drop i) = (ok (prevOf l i) x && rising ok (prevOf l (i + 1)) (l.drop (i + 1))) := by
  rw [rising_drop h, prevOf_succ, h]
def mayS (s : Span) : Bool := decide (s.frm.length ≤ 64) && decide (s.to.length ≤ 64) && (s.to == [] || bl s.frm s.to)
def hasS (s : Span) (k : Txt) : Bool := !bl k s.frm && (s.to == [] || bl k s.to)
def aheadS (to frm : Txt) : Bool := !(to == []) && bl to frm
def belowS (a b : Txt) : Bool := !(a == []) && (b == [] || bl a b)
def formOk (p : Option Span) (s : Span) : Bool := mayS s && (match p with | none => true | some q => aheadS q.to s.frm)
def formS (l : List Span) : Bool := decide (l.length ≤ 64) && rising formOk none l
theorem bl_asymm {a b : Txt} (h : bl a b = true) : bl b a = false := by
  cases hb : bl b a with
  | false => rfl
  | true => have := bl_trans h hb; rw [bl_irrefl] at this; cases this
theorem not_le (a b : Txt) : (!(bl a b || a == b)) = bl b a := by
  cases h : bl b a with
  | true =>
    have h1 := bl_asymm h
    have h2 : (a == b) = false := by
      rw [beq_eq_false_iff_ne]; intro e; subst e; rw [bl_irrefl] at h; cases h
    simp [h1, h2]
  | false =>
    cases h1 : bl a b with
    | true => rfl
    | false => have := bl_total h1 h; subst this; simp
theorem K_v {s s1 : Mem} {K : AV → Mem → Prop} {v w : AV} (hK : ∀ s', Keep s.next s s' → K v s') (hk : Keep s.next s s1) (h : v = w) : K w s1 := h ▸ hK s1 hk
theorem mayS_not (x : Span) : mayS x = !(decide ((x.frm.length : Int) > 64) || decide ((x.to.length : Int) > 64) || (!x.to == [] && (bl x.to x.frm || x.to == x.frm))) := by
  have h := not_le x.to x.frm
  have e : ∀ n : Nat, decide (n ≤ 64) = !decide ((n : Int) > 64) := fun n => by
    by_cases hn : n ≤ 64
    · simp [hn]; omega
    · simp [hn]; omega
  simp only [mayS, e, Bool.not_or, Bool.not_and, Bool.not_not]
  rw [← h]
  simp only [Bool.not_or]
theorem le_not (a b : Txt) : (bl a b || a == b) = !bl b a := by rw [← not_le a b, Bool.not_not]
theorem _root_.Go.VI.Sl.ldk {α : Type} {s : Mem} {D : Nat → Prop} {v : AV} {sz : Nat} {f : α → List AV} {l : List α} (h : Sl s D v sz (l.map f)) (hI : In D s) {i : Nat} {a : α} (hi : l[i]? = some a) (hz : (f a).length = sz) (hc : (slice1 (f a) 0 sz).bind (pickCells true) = some (.agg (f a))) :
    ∃ p, (∀ j, atA sz v (.int j (i : Int)) = some p) ∧ Ptk s p (f a) ∧ ∀ M, Keep s.next s M → loadA M true sz p = some (.agg (f a)) := by
  obtain ⟨p, hp, P⟩ := h.atkB hI hi
  exact ⟨p, hp, P, fun M hM => by rw [P.ld M hM]; exact hc⟩
theorem succ_av {i : Nat} (h : i < 4611686018427387904) : AV.int .i64 (IntKind.i64.wrap ((i : Int) + 1)) = AV.int .i64 ((i + 1 : Nat) : Int) := congrArg _ (succ_cast h)
abbrev Spans (s : Mem) (D : Nat → Prop) (v : AV) (l : List Span) : Prop := Sl s D v 2 (l.map spanC)
structure Kp (s' : Mem) (R : Row) (M : Mem) : Prop where
  k : Keep s'.next s' M
  g : M.get s'.next = some R
  n : s'.next < M.next
theorem Kp.of_push (s' : Mem) (R : Row) : Kp s' R (s'.push R) := ⟨pushes _ _, by rw [Mem.get_push, if_pos rfl], by rw [Mem.next_push]; omega⟩
theorem Kp.then {s' M N : Mem} {R : Row} (h : Kp s' R M) (k : Keep M.next M N) : Kp s' R N := ⟨h.k.then k, by rw [k.get _ h.n, h.g], Nat.lt_of_lt_of_le h.n k.next⟩
end Go.Proofs.YthibbbfhkfebkaaGreat
/- Spans: the program's and the document's first words. No statement of the seat is proved here. -/
namespace Go.Proofs.YthibbbfhkfebkaaGreat
open Go Go.VI
set_option linter.unusedSimpArgs false
attribute [local irreducible] Ws Wp W C
set_option maxHeartbeats 4000000
theorem ahead_c {a b : Txt} {s : Mem} {K : AV → Mem → Prop} (hK : K (.bool (aheadS a b)) s) : C tab 111 [.str a, .str b] s K := by
  refine C_enter (cf := cf111) rfl (Nat.le_of_ble_eq_true rfl) ?_
  simp only [cf111, oo, on, om, og, oc, ou]
  (repeat' (with_reducible first|refine w_1 ?_|refine w_2 ?_|refine w_6 ?_|refine w_13 (fun hc=>(by (try simp only [Bool.and_eq_true] at hc);simp (maxDischargeDepth:=12) only [viz,↓reduceIte,Nat.reduceEqDiff,reduceCtorEq,cond_false,hc];first|exact ⟨rfl,rfl⟩|exact rfl)) ?_|((try refine w_9 ?_);simp (maxDischargeDepth:=12) only [viz,↓reduceIte,Nat.reduceAdd])))
  exact hK
theorem below_c {a b : Txt} {s : Mem} {K : AV → Mem → Prop} (hK : K (.bool (belowS a b)) s) : C tab 110 [.str a, .str b] s K := by
  refine C_enter (cf := cf110) rfl (Nat.le_of_ble_eq_true rfl) ?_
  simp only [cf110, oo, on, om, og, oc, ou]
  (repeat' (with_reducible first|refine w_1 ?_|refine w_2 ?_|refine w_6 ?_|refine w_13 (fun hc=>(by (try simp only [Bool.and_eq_true] at hc);simp (maxDischargeDepth:=12) only [viz,↓reduceIte,Nat.reduceEqDiff,reduceCtorEq,cond_false,hc];first|exact ⟨rfl,rfl⟩|exact rfl)) ?_|((try refine w_9 ?_);simp (maxDischargeDepth:=12) only [viz,↓reduceIte,Nat.reduceEqDiff,Nat.reduceAdd])))
  exact hK
theorem scheck_c {x : Span} {s : Mem} {K : AV → Mem → Prop} (hK : ∀ s', Keep s.next s s' → K (.int .i64 (if mayS x then 0 else 1)) s') : C tab 50 [.agg (spanC x)] s K := by
  refine C_enter (cf := cf50) rfl (Nat.le_of_ble_eq_true rfl) ?_
  simp only [cf50, oo, on, om, og, oc, ou, spanC]
  rw [mayS_not] at hK
  (repeat' (with_reducible first|refine w_1 ?_|refine w_2 ?_|refine w_4 ?_|refine w_5 ?_|refine w_6 ?_|(refine w_8 (fun hb=>?_) (fun hb=>?_)<;>(try simp only [Bool.not_eq_true',Bool.not_eq_false'] at hb)<;>try simp only [hb])|refine w_13 (fun hc=>(by (try simp only [Bool.and_eq_true] at hc);simp (maxDischargeDepth:=12) only [viz,↓reduceIte,Nat.reduceEqDiff,Nat.reduceAdd,cond_false,hc];first|exact ⟨rfl,rfl⟩|exact rfl)) ?_|((try refine w_9 ?_);simp (maxDischargeDepth:=12) only [viz,↓reduceIte,Nat.reduceEqDiff,Nat.reduceAdd])))
  all_goals exact K_v hK (pushes _ _) (by rw [hb]; rfl)
theorem smay_c {x : Span} {s : Mem} {K : AV → Mem → Prop} (hK : ∀ s', Keep s.next s s' → K (.bool (mayS x)) s') : C tab 108 [.agg (spanC x)] s K := by
  refine C_enter (cf := cf108) rfl (Nat.le_of_ble_eq_true rfl) ?_
  simp only [cf108, oo, on, om, og, oc, ou, spanC]
  (repeat' (with_reducible first|refine w_1 ?_|refine w_2 ?_|simp (maxDischargeDepth:=12) only [viz,↓reduceIte,Nat.reduceAdd]))
  refine scheck_c fun s1 h1 => ?_
  (repeat' (with_reducible first|refine w_6 ?_|simp (maxDischargeDepth:=12) only [viz,↓reduceIte]))
  refine K_of hK ((pushes _ _).then h1) ?_
  cases mayS x <;> rfl
def hasP (x : Span) (k : Txt) : Bool := mayS x && decide (k.length ≤ 64) && hasS x k
theorem shas_c {x : Span} {k : Txt} {s : Mem} {K : AV → Mem → Prop} (hK : ∀ s', Keep s.next s s' → K (.bool (hasP x k)) s') : C tab 57 [.agg (spanC x), .str k] s K := by
  refine C_enter (cf := cf57) rfl (Nat.le_of_ble_eq_true rfl) ?_
  simp only [cf57, oo, on, om, og, oc, ou, spanC]
  (repeat' (with_reducible first|refine w_1 ?_|refine w_2 ?_|simp (maxDischargeDepth:=12) only [viz,↓reduceIte,Nat.reduceAdd]))
  refine smay_c fun s1 h1 => ?_
  have q := (Kp.of_push s ⟨47, 2, [[.str x.frm, .str x.to]]⟩).then h1
  have qg := q.g
  (repeat' (with_reducible first|refine w_6 ?_|refine w_13 (fun hc=>(by (try simp only [Bool.and_eq_true] at hc);simp (maxDischargeDepth:=12) only [viz,↓reduceIte,Nat.reduceEqDiff,Nat.reduceAdd,qg,cond_false,hc];first|exact ⟨rfl,rfl⟩|exact rfl)) ?_|((try refine w_9 ?_);simp (maxDischargeDepth:=12) only [viz,↓reduceIte,Nat.reduceEqDiff])))
  refine K_of hK q.k ?_
  have e : decide ((k.length : Int) ≤ 64) = decide (k.length ≤ 64) := by
    by_cases hn : k.length ≤ 64
    · simp [hn]; omega
    · simp [hn]; omega
  simp only [hasP, hasS, e, Bool.and_assoc]
theorem form_c {l : List Span} {v : AV} {D : Nat → Prop} {s : Mem} {K : AV → Mem → Prop} (hf : s.floor ≤ s.next) (hI : In D s) (hv : Spans s D v l) (hl : l.length < 1000000000) (hK : ∀ s', Keep s.next s s' → K (.bool (formS l)) s') : C tab 86 [v] s K := by
  refine C_enter (cf := cf86) rfl (Nat.le_of_ble_eq_true rfl) ?_
  simp only [cf86, oo, on, om, og, oc, ou]
  have hlen : lenA false v = some l.length := hv.lenB
  (repeat' (with_reducible first|refine w_1 ?_|refine w_2 ?_|refine w_3 ?_|simp (maxDischargeDepth:=12) only [viz,↓reduceIte,Nat.reduceAdd,hlen]))
  refine W_inv l.length (fun i E s' => Keep s.next s s' ∧ E.get 0 = v ∧ E.get 5 = v ∧ E.get 6 = .int .i64 l.length ∧ E.get 7 = .int .i64 i ∧ rising formOk none l = rising formOk (prevOf l i) (l.drop i)) (by delta cf86l0 oo on om og oc ou; exact rfl) ?_ ?_
  · (repeat' with_reducible simp (maxDischargeDepth:=12) only [viz,↓reduceIte,reduceCtorEq])
    exact ⟨rfl, rfl⟩
  rintro i E s' hile _ ⟨hi, g0, g5, g6, g7, hr⟩
  by_cases hlt : i < l.length
  · obtain ⟨x, hx⟩ := get_of hlt
    obtain ⟨p, hp, P, hld⟩ := hv.ldk hI hx rfl rfl
    have hld' := hld _ hi
    have hfl := hi.ok hf
    rw [rising_step hx] at hr
    simp only [spanC] at hld'
    have hlx := lt_true hlt
    have q0 := Kp.of_push s' ⟨47, 2, [[.str x.frm, .str x.to]]⟩
    rcases i with _ | j
    all_goals first
      | (have h0 : ((0 : Nat) : Int) = 0 := rfl
         rw [h0] at hp hlx
         (repeat' (with_reducible first|refine w_1 ?_|refine w_2 ?_|refine w_3 ?_|refine w_4 ?_|refine w_5 ?_|simp (maxDischargeDepth:=12) only [viz,↓reduceIte,Nat.reduceEqDiff,Nat.reduceAdd,g5,g6,g7,h0,hlx,hp,hld',hfl, Int.reduceBEq, Int.reduceBNe, Int.reduceLT, Int.reduceLE, Int.reduceGT, Int.reduceGE]))
         refine smay_c (x := x) fun s2 h2 => ?_
         have q := q0.then h2
         have qg : s2.get s'.next = some ⟨47, 2, [[.str x.frm, .str x.to]]⟩ := q.g
         (repeat' (with_reducible first|refine w_1 ?_|refine w_2 ?_|refine w_4 ?_|refine w_5 ?_|refine w_6 ?_|(refine w_8 (fun hb=>?_) (fun hb=>?_)<;>(try simp only [Bool.not_eq_true',Bool.not_eq_false'] at hb)<;>try simp only [hb])|refine w_13 (fun hc=>(by (try simp only [Bool.and_eq_true] at hc);simp (maxDischargeDepth:=12) only [viz,↓reduceIte,Nat.reduceEqDiff, Int.reduceBEq, Int.reduceBNe, Int.reduceLT, Int.reduceLE, Int.reduceGT, Int.reduceGE,cond_true,hc];first|exact ⟨rfl,rfl⟩|exact rfl)) ?_|((try refine w_9 ?_);simp (maxDischargeDepth:=12) only [viz,↓reduceIte,Nat.reduceEqDiff,reduceCtorEq,Nat.reduceAdd,g0,g5,g6,g7, Int.reduceBEq, Int.reduceBNe, Int.reduceLT, Int.reduceLE, Int.reduceGT, Int.reduceGE]))))
      | (obtain ⟨y, hy⟩ := get_of (l := l) (i := j) (by omega)
         obtain ⟨p2, hp2, P2, hld2⟩ := hv.ldk hI hy rfl rfl
         have hj : decide (((j + 1 : Nat) : Int) > 0) = true := by simp
         have hpj := pred_cast j (by omega)
         (repeat' (with_reducible first|refine w_1 ?_|refine w_2 ?_|refine w_3 ?_|refine w_4 ?_|refine w_5 ?_|simp (maxDischargeDepth:=12) only [viz,↓reduceIte,Nat.reduceEqDiff,Nat.reduceAdd,g5,g6,g7,hlx,hp,hld',hfl]))
         refine smay_c (x := x) fun s2 h2 => ?_
         have q := q0.then h2
         have qg : s2.get s'.next = some ⟨47, 2, [[.str x.frm, .str x.to]]⟩ := q.g
         have hs2 := hi.then q.k
         have hld3 : loadA s2 false 1 (VI.adr p2 1) = some (.str y.to) := by
           have := P2.ldf _ hs2 1 false 1 (by simp [spanC])
           rw [this]; rfl
         (repeat' (with_reducible first|refine w_1 ?_|refine w_2 ?_|refine w_4 ?_|refine w_6 ?_|(refine w_8 (fun hb=>?_) (fun hb=>?_)<;>(try simp only [Bool.not_eq_true',Bool.not_eq_false'] at hb)<;>try simp only [hb])|refine w_13 (fun hc=>(by (try simp only [Bool.and_eq_true] at hc);simp (maxDischargeDepth:=12) only [viz,↓reduceIte,Nat.reduceEqDiff,reduceCtorEq,Nat.reduceAdd,g0,qg,hj,hpj,hp2,P2.adr,hld3,cond_true,cond_false,hc];first|exact ⟨rfl,rfl⟩|exact rfl)) ?_|refine w_12 ?_|((try refine w_9 ?_);simp (maxDischargeDepth:=12) only [viz,↓reduceIte,Nat.reduceEqDiff]))))
    all_goals try
      (refine ahead_c ?_
       (repeat' (with_reducible first|refine w_1 ?_|refine w_2 ?_|refine w_4 ?_|refine w_5 ?_|refine w_6 ?_|(refine w_8 (fun hb=>?_) (fun hb=>?_)<;>(try simp only [Bool.not_eq_true',Bool.not_eq_false'] at hb)<;>try simp only [hb])|((try refine w_9 ?_);simp (maxDischargeDepth:=12) only [viz,↓reduceIte,Nat.reduceEqDiff,reduceCtorEq,g0,g5,g6,g7]))))
    · exact K_of hK (hi.then q.k) (by simp [formS, hr, formOk, hb])
    · refine ⟨hlt, hi.then q.k, rfl, ?_⟩
      rw [hr]; simp [formOk, prevOf, hb]
    · exact K_of hK (hi.then q.k) (by simp [formS, hr, formOk, prevOf_succ, hy, hb])
    · rename_i hm
      refine ⟨hlt, hi.then q.k, succ_av (by omega), ?_⟩
      rw [hr]; simp [formOk, prevOf_succ, hy, hb, hm]
    · exact K_of hK (hi.then q.k) (by simp [formS, hr, formOk, hb])
  · (repeat' (with_reducible first|refine w_1 ?_|refine w_2 ?_|refine w_4 ?_|refine w_6 ?_|refine w_7 ?_|simp (maxDischargeDepth:=12) only [viz,↓reduceIte,reduceCtorEq,g0,g6,g7,lt_false hlt,hlen]))
    rw [drop_end hlt] at hr
    refine K_of hK hi ?_
    have e : decide ((l.length : Int) ≤ 64) = decide (l.length ≤ 64) := by
      by_cases hn : l.length ≤ 64
      · simp [hn]; omega
      · simp [hn]; omega
    simp only [formS, hr, rising, Bool.and_true, e]
end Go.Proofs.YthibbbfhkfebkaaGreat
/- Spans: the document's words. No statement of the seat is proved here. -/
namespace Go.Proofs.YthibbbfhkfebkaaGreat
open Go Go.VI
set_option linter.unusedSimpArgs false
attribute [local irreducible] Ws Wp W C
set_option maxHeartbeats 4000000
theorem rhas_c {x : Span} {k : Txt} {s : Mem} {K : AV → Mem → Prop} (hK : ∀ s', Keep s.next s s' → K (.bool (hasS x k)) s') : C tab 23 [.agg (spanC x), .str k] s K := by
  refine C_enter (cf := cf23) rfl (Nat.le_of_ble_eq_true rfl) ?_
  simp only [cf23, oo, on, om, og, oc, ou, spanC]
  (repeat' (with_reducible first|refine w_1 ?_|refine w_2 ?_|refine w_6 ?_|refine w_13 (fun hc=>(by (try simp only [Bool.and_eq_true] at hc);simp (maxDischargeDepth:=12) only [viz,↓reduceIte,Nat.reduceEqDiff,Nat.reduceAdd,cond_false,hc];first|exact ⟨rfl,rfl⟩|exact rfl)) ?_|((try refine w_9 ?_);simp (maxDischargeDepth:=12) only [viz,↓reduceIte,Nat.reduceEqDiff,Nat.reduceAdd])))
  refine K_of hK (pushes _ _) ?_
  rw [le_not]; rfl
theorem rin_c {l : List Span} {k : Txt} {v : AV} {D : Nat → Prop} {s : Mem} {K : AV → Mem → Prop} (hI : In D s) (hv : Spans s D v l) (hl : l.length < 1000000000) (hK : ∀ s', Keep s.next s s' → K (.bool (l.any fun x => hasS x k)) s') : C tab 77 [v, .str k] s K := by
  refine C_enter (cf := cf77) rfl (Nat.le_of_ble_eq_true rfl) ?_
  simp only [cf77, oo, on, om, og, oc, ou]
  have hlen : lenA false v = some l.length := hv.lenB
  (repeat' (with_reducible first|refine w_1 ?_|refine w_2 ?_|refine w_3 ?_|simp (maxDischargeDepth:=12) only [viz,Nat.reduceAdd]))
  refine W_inv l.length (fun i E s' => Keep s.next s s' ∧ E.get 0 = v ∧ E.get 1 = .str k ∧ E.get 5 = .int .i64 i ∧ ∀ j x, j < i → l[j]? = some x → hasS x k = false) (by delta cf77l0 oo on om og oc ou; exact rfl) ?_ ?_
  · (repeat' with_reducible simp (maxDischargeDepth:=12) only [viz,↓reduceIte])
    exact ⟨rfl, by omega⟩
  rintro i E s' hile _ ⟨hi, g0, g1, g5, hno⟩
  by_cases hlt : i < l.length
  · obtain ⟨x, hx⟩ := get_of hlt
    obtain ⟨p, hp, P, hld⟩ := hv.ldk hI hx rfl rfl
    have hld' := hld _ hi
    (repeat' (with_reducible first|refine w_1 ?_|refine w_2 ?_|refine w_3 ?_|refine w_4 ?_|refine w_5 ?_|simp (maxDischargeDepth:=12) only [viz,↓reduceIte,Nat.reduceEqDiff,reduceCtorEq,g0,g1,g5,hlen,lt_true hlt,hp,hld']))
    refine rhas_c fun s2 h2 => ?_
    (repeat' (with_reducible first|refine w_1 ?_|refine w_2 ?_|refine w_4 ?_|refine w_5 ?_|refine w_6 ?_|(refine w_8 (fun hb=>?_) (fun hb=>?_)<;>(try simp only [Bool.not_eq_true',Bool.not_eq_false'] at hb)<;>try simp only [hb])|simp (maxDischargeDepth:=12) only [viz,↓reduceIte,Nat.reduceEqDiff,reduceCtorEq,g0,g1,g5]))
    · refine K_of hK (hi.then h2) ?_
      exact List.any_eq_true.mpr ⟨x, List.mem_of_getElem? hx, hb⟩
    · refine ⟨hlt, hi.then h2, succ_av (by omega), fun j y hj hy => ?_⟩
      by_cases hji : j = i
      · rw [hji, hx] at hy; obtain rfl := Option.some.inj hy; exact hb
      · exact hno j y (by omega) hy
  · (repeat' (with_reducible first|refine w_1 ?_|refine w_2 ?_|refine w_4 ?_|refine w_6 ?_|refine w_7 ?_|simp (maxDischargeDepth:=12) only [viz,↓reduceIte,reduceCtorEq,g0,g5,hlen,lt_false hlt]))
    refine K_of hK hi ?_
    refine List.any_eq_false.mpr ?_
    intro x hx
    obtain ⟨j, hj⟩ := List.mem_iff_getElem?.mp hx
    rw [hno j x (by have := (List.getElem?_eq_some_iff.mp hj).1; omega) hj]; simp
end Go.Proofs.YthibbbfhkfebkaaGreat
/- Spans that hold a key, that cover another. No statement of the seat is proved here. -/
namespace Go.Proofs.YthibbbfhkfebkaaGreat
open Go Go.VI
set_option linter.unusedSimpArgs false
def idx {α : Type} (l : List α) (p : α → Bool) : Int := match l.findIdx? p with | some k => (k : Int) | none => -1
theorem idx_at {α : Type} {l : List α} {p : α → Bool} {i : Nat} {x : α} (hx : l[i]? = some x) (h : p x = true) (hn : ∀ j y, j < i → l[j]? = some y → p y = false) : l.findIdx? p = some i := by
  obtain ⟨hlt, rfl⟩ := List.getElem?_eq_some_iff.mp hx
  refine List.findIdx?_eq_some_iff_getElem.mpr ⟨hlt, h, fun j hj => ?_⟩
  rw [hn j _ hj (List.getElem?_eq_getElem (by omega))]; simp
theorem idx_no {α : Type} {l : List α} {p : α → Bool} (hn : ∀ j y, j < l.length → l[j]? = some y → p y = false) : l.findIdx? p = none := by
  refine List.findIdx?_eq_none_iff.mpr fun y hy => ?_
  obtain ⟨j, hj⟩ := List.mem_iff_getElem?.mp hy
  exact hn j y (List.getElem?_eq_some_iff.mp hj).1 hj
theorem any_idx {α : Type} (l : List α) (p : α → Bool) : decide (idx l p ≥ 0) = l.any p := by
  unfold idx
  cases h : l.findIdx? p with
  | none =>
    have : l.any p = false := by
      rw [List.any_eq_false]
      intro x hx
      simpa using List.findIdx?_eq_none_iff.mp h x hx
    rw [this]; rfl
  | some k =>
    obtain ⟨h1, h2, _⟩ := List.findIdx?_eq_some_iff_getElem.mp h
    have : l.any p = true := List.any_eq_true.mpr ⟨_, List.getElem_mem h1, h2⟩
    rw [this]; simp
def FnP {α : Type} (cell : α → AV) (G : Mem → Prop) (f : Nat) (cp : List AV) (p : α → Bool) : Prop := ∀ (x : α) (M : Mem) (K : AV → Mem → Prop), G M → (∀ M', Keep M.next M M' → K (.bool (p x)) M') → C tab f (cell x :: cp) M K
def spanA (x : Span) : AV := .agg (spanC x)
attribute [local irreducible] Ws Wp W C
set_option maxHeartbeats 4000000
theorem spIx_c {l : List Span} {v : AV} {D : Nat → Prop} {f : Nat} {cp : List AV} {p : Span → Bool} {G : Mem → Prop} {s : Mem} {K : AV → Mem → Prop} (hI : In D s) (hv : Spans s D v l) (hl : l.length < 1000000000)
    (hG : ∀ M, Keep s.next s M → G M) (hp : FnP spanA G f cp p)
    (hK : ∀ s', Keep s.next s s' → K (.int .i64 (idx l p)) s') : C tab 122 [v, .fn f cp] s K := by
  refine C_enter (cf := cf122) rfl (Nat.le_of_ble_eq_true rfl) ?_
  simp only [cf122, oo, on, om, og, oc, ou]
  have hlen : lenA false v = some l.length := hv.lenB
  (repeat' (with_reducible first|refine w_1 ?_|refine w_2 ?_|refine w_3 ?_|simp (maxDischargeDepth:=12) only [viz,↓reduceIte,Int.reduceNeg,Nat.reduceAdd,hlen]))
  refine W_inv l.length (fun i E s' => Keep s.next s s' ∧ E.get 0 = v ∧ E.get 1 = .fn f cp ∧ E.get 7 = .int .i64 l.length ∧ E.get 8 = .int .i64 i ∧ ∀ j x, j < i → l[j]? = some x → p x = false) (by delta cf122l0 oo on om og oc ou; exact rfl) ?_ ?_
  · (repeat' with_reducible simp (maxDischargeDepth:=12) only [viz,↓reduceIte,Nat.reduceEqDiff,reduceCtorEq])
    exact ⟨rfl, by omega⟩
  rintro i E s' hile _ ⟨hi, g0, g1, g7, g8, hno⟩
  by_cases hlt : i < l.length
  · obtain ⟨x, hx⟩ := get_of hlt
    obtain ⟨q, hq, P, hld⟩ := hv.ldk hI hx rfl rfl
    have hld' := hld _ hi
    (repeat' (with_reducible first|refine w_1 ?_|refine w_2 ?_|refine w_3 ?_|refine w_4 ?_|refine w_5 ?_|simp (maxDischargeDepth:=12) only [viz,↓reduceIte,Nat.reduceEqDiff,reduceCtorEq,Int.reduceNeg,g0,g1,g7,g8,lt_true hlt,hq,hld']))
    refine hp x s' _ (hG _ hi) fun s2 h2 => ?_
    (repeat' (with_reducible first|refine w_1 ?_|refine w_2 ?_|refine w_4 ?_|refine w_5 ?_|refine w_6 ?_|(refine w_8 (fun hb=>?_) (fun hb=>?_)<;>(try simp only [Bool.not_eq_true',Bool.not_eq_false'] at hb)<;>try simp only [hb])|simp (maxDischargeDepth:=12) only [viz,↓reduceIte,Nat.reduceEqDiff,reduceCtorEq,Int.reduceNeg,g0,g1,g7,g8]))
    · unfold idx at hK
      rw [idx_at hx hb hno] at hK
      exact hK _ (hi.then h2)
    · refine ⟨hlt, hi.then h2, succ_av (by omega), fun j y hj hy => ?_⟩
      by_cases hji : j = i
      · rw [hji, hx] at hy; obtain rfl := Option.some.inj hy; exact hb
      · exact hno j y (by omega) hy
  · (repeat' (with_reducible first|refine w_1 ?_|refine w_2 ?_|refine w_4 ?_|refine w_6 ?_|refine w_7 ?_|simp (maxDischargeDepth:=12) only [viz,↓reduceIte,Int.reduceNeg,g7,g8,lt_false hlt]))
    unfold idx at hK
    rw [idx_no fun j x hj => hno j x (by omega)] at hK
    exact hK _ hi
theorem spAny_c {l : List Span} {v : AV} {D : Nat → Prop} {f : Nat} {cp : List AV} {p : Span → Bool} {G : Mem → Prop} {s : Mem} {K : AV → Mem → Prop} (hI : In D s) (hv : Spans s D v l) (hl : l.length < 1000000000)
    (hG : ∀ M, Keep s.next s M → G M) (hp : FnP spanA G f cp p)
    (hK : ∀ s', Keep s.next s s' → K (.bool (l.any p)) s') : C tab 69 [v, .fn f cp] s K := by
  refine C_enter (cf := cf69) rfl (Nat.le_of_ble_eq_true rfl) ?_
  simp only [cf69, oo, on, om, og, oc, ou]
  (repeat' (with_reducible first|refine w_1 ?_|refine w_2 ?_|simp (maxDischargeDepth:=12) only [viz,↓reduceIte,Nat.reduceAdd]))
  refine spIx_c hI hv hl hG hp fun s1 h1 => ?_
  (repeat' (with_reducible first|refine w_6 ?_|simp (maxDischargeDepth:=12) only [viz,↓reduceIte]))
  rw [any_idx]
  exact hK _ h1
theorem inF (k : Txt) (r t : Nat) : FnP spanA (fun M => M.get r = some ⟨t, 1, [[.str k]]⟩ ∧ r < M.next) 127 [.ptr r 0 0] (fun x => hasP x k) := by
  rintro x M K ⟨hg, hr⟩ hK
  refine C_enter (cf := cf127) rfl (Nat.le_of_ble_eq_true rfl) ?_
  simp only [cf127, oo, on, om, og, oc, ou, spanA, spanC]
  have hne : (r = M.next) = False := by simp; omega
  (repeat' (with_reducible first|refine w_1 ?_|refine w_2 ?_|simp (maxDischargeDepth:=12) only [viz,↓reduceIte,Nat.reduceAdd,hg,hne]))
  refine shas_c (x := x) fun s1 h1 => ?_
  (repeat' (with_reducible first|refine w_6 ?_|simp (maxDischargeDepth:=12) only [viz,↓reduceIte]))
  exact hK _ ((pushes _ _).then h1)
def coverP (a : Span) (x : Span) : Bool := !bl a.frm x.frm && !belowS x.to a.to
theorem coverF (a : Span) (r t : Nat) : FnP spanA (fun M => M.get r = some ⟨t, 2, [spanC a]⟩ ∧ r < M.next) 109 [.ptr r 0 0] (coverP a) := by
  rintro x M K ⟨hg, hr⟩ hK
  refine C_enter (cf := cf109) rfl (Nat.le_of_ble_eq_true rfl) ?_
  simp only [cf109, oo, on, om, og, oc, ou, spanA, spanC] at hg ⊢
  have hne : (r = M.next) = False := by simp; omega
  (repeat' (with_reducible first|refine w_1 ?_|refine w_2 ?_|refine w_6 ?_|(refine w_8 (fun hb=>?_) (fun hb=>?_)<;>(try simp only [Bool.not_eq_true',Bool.not_eq_false'] at hb)<;>try simp only [hb])|refine w_13 (fun hc=>(by (try simp only [Bool.and_eq_true] at hc);simp (maxDischargeDepth:=12) only [viz,↓reduceIte,Nat.reduceEqDiff,Nat.reduceAdd,hg,hne,cond_false,hc];first|exact ⟨rfl,rfl⟩|exact rfl)) ?_|refine w_12 ?_|((try refine w_9 ?_);simp (maxDischargeDepth:=12) only [viz,↓reduceIte,Nat.reduceEqDiff,Nat.reduceAdd,hg,hne])))
  all_goals have hle := le_not x.frm a.frm
  all_goals simp only [bl] at hle
  all_goals rw [hle] at hb
  · refine below_c ?_
    (repeat' (with_reducible first|refine w_6 ?_|((try refine w_9 ?_);simp (maxDischargeDepth:=12) only [viz,↓reduceIte,Nat.reduceEqDiff])))
    refine K_of hK (pushes _ _) ?_
    simp only [coverP, bl, hb, Bool.true_and]
  · exact K_of hK (pushes _ _) (by simp only [coverP, bl, hb, Bool.false_and])
def inS (l : List Span) (k : Txt) : Bool := formS l && l.any fun x => hasP x k
theorem sin_c {l : List Span} {v : AV} {k : Txt} {D : Nat → Prop} {s : Mem} {K : AV → Mem → Prop} (hf : s.floor ≤ s.next) (hI : In D s) (hv : Spans s D v l) (hl : l.length < 1000000000)
    (hK : ∀ s', Keep s.next s s' → K (.bool (inS l k)) s') : C tab 78 [v, .str k] s K := by
  refine C_enter (cf := cf78) rfl (Nat.le_of_ble_eq_true rfl) ?_
  simp only [cf78, oo, on, om, og, oc, ou]
  (repeat' (with_reducible first|refine w_1 ?_|refine w_2 ?_|simp (maxDischargeDepth:=12) only [viz,↓reduceIte,Nat.reduceAdd]))
  have hp := pushes s ⟨9, 1, [[.str k]]⟩
  refine form_c (l := l) (D := D) (by simp only [floor_push', next_push']; omega) (hI.keep hp) (hv.keep fun q hq => hp.get q (hI q hq)) hl fun s1 h1 => ?_
  have q := (Kp.of_push s ⟨9, 1, [[.str k]]⟩).then h1
  (repeat' (with_reducible first|refine w_6 ?_|(refine w_8 (fun hb=>?_) (fun hb=>?_)<;>(try simp only [Bool.not_eq_true',Bool.not_eq_false'] at hb)<;>try simp only [hb])|refine w_13 (fun hc=>(by (try simp only [Bool.and_eq_true] at hc);simp (maxDischargeDepth:=12) only [viz,↓reduceIte,reduceCtorEq,cond_false,hc];first|exact ⟨rfl,rfl⟩|exact rfl)) ?_|refine w_12 ?_|((try refine w_9 ?_);simp (maxDischargeDepth:=12) only [viz,↓reduceIte])))
  · refine spAny_c (D := D) (p := fun x => hasP x k) (hI.keep q.k) (hv.keep fun r hr => q.k.get r (hI r hr)) hl (fun M hM => ⟨by rw [hM.get _ q.n]; exact q.g, Nat.lt_of_lt_of_le q.n hM.next⟩) (inF k s.next 9) fun s2 h2 => ?_
    (repeat' (with_reducible first|refine w_6 ?_|simp (maxDischargeDepth:=12) only [viz,↓reduceIte]))
    exact K_of hK (q.k.then h2) (by simp only [inS, hb, Bool.true_and])
  · exact K_of hK q.k (by simp only [inS, hb, Bool.false_and])
def coversS (l : List Span) (a : Span) : Bool := formS l && mayS a && l.any (coverP a)
theorem covers_c {l : List Span} {v : AV} {a : Span} {D : Nat → Prop} {s : Mem} {K : AV → Mem → Prop} (hf : s.floor ≤ s.next) (hI : In D s) (hv : Spans s D v l) (hl : l.length < 1000000000)
    (hK : ∀ s', Keep s.next s s' → K (.bool (coversS l a)) s') : C tab 51 [v, .agg (spanC a)] s K := by
  refine C_enter (cf := cf51) rfl (Nat.le_of_ble_eq_true rfl) ?_
  simp only [cf51, oo, on, om, og, oc, ou, spanC]
  (repeat' (with_reducible first|refine w_1 ?_|refine w_2 ?_|simp (maxDischargeDepth:=12) only [viz,↓reduceIte,Nat.reduceAdd]))
  have hp := pushes s ⟨47, 2, [[.str a.frm, .str a.to]]⟩
  refine form_c (l := l) (D := D) (by simp only [floor_push', next_push']; omega) (hI.keep hp) (hv.keep fun q hq => hp.get q (hI q hq)) hl fun s1 h1 => ?_
  have q := (Kp.of_push s ⟨47, 2, [[.str a.frm, .str a.to]]⟩).then h1
  have qg := q.g
  (repeat' (with_reducible first|refine w_6 ?_|(refine w_8 (fun hb=>?_) (fun hb=>?_)<;>(try simp only [Bool.not_eq_true',Bool.not_eq_false'] at hb)<;>try simp only [hb])|refine w_13 (fun hc=>(by (try simp only [Bool.and_eq_true] at hc);simp (maxDischargeDepth:=12) only [viz,↓reduceIte,qg,cond_false,hc];first|exact ⟨rfl,rfl⟩|exact rfl)) ?_|refine w_12 ?_|((try refine w_9 ?_);simp (maxDischargeDepth:=12) only [viz,↓reduceIte])))
  · refine smay_c (x := a) fun s2 h2 => ?_
    have q2 := q.then h2
    (repeat' (with_reducible first|refine w_6 ?_|(refine w_8 (fun hb=>?_) (fun hb=>?_)<;>(try simp only [Bool.not_eq_true',Bool.not_eq_false'] at hb)<;>try simp only [hb])|refine w_13 (fun hc=>(by (try simp only [Bool.and_eq_true] at hc);simp (maxDischargeDepth:=12) only [viz,↓reduceIte,Nat.reduceEqDiff,reduceCtorEq,cond_false,hc];first|exact ⟨rfl,rfl⟩|exact rfl)) ?_|refine w_12 ?_|((try refine w_9 ?_);simp (maxDischargeDepth:=12) only [viz,↓reduceIte])))
    · refine spAny_c (D := D) (p := coverP a) (hI.keep q2.k) (hv.keep fun r hr => q2.k.get r (hI r hr)) hl (fun M hM => ⟨by rw [hM.get _ q2.n]; exact q2.g, Nat.lt_of_lt_of_le q2.n hM.next⟩) (coverF a s.next 47) fun s3 h3 => ?_
      (repeat' (with_reducible first|refine w_6 ?_|simp (maxDischargeDepth:=12) only [viz,↓reduceIte]))
      refine K_of hK (q2.k.then h3) ?_
      simp_all [coversS]
    · refine K_of hK q2.k ?_
      simp_all [coversS]
  · exact K_of hK q.k (by simp only [coversS, hb, Bool.false_and])
end Go.Proofs.YthibbbfhkfebkaaGreat

