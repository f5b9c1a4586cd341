/- Calls, replies and events as values; which calls may be. No statement of the seat is proved here. -/
import Derived.Test.YtmjgakhnhjpclaaGreatVZTab
import Derived.Test.YtmjgakhnhjpclaaGreatVZVE
namespace Go.Proofs.YtmjgakhnhjpclaaGreat
open Go Go.VI
set_option linter.unusedSimpArgs false
theorem K_v {s s1 : Mem} {K : AV → Mem → Prop} {v w : AV} (hK : ∀ s', Keep s.next s s' → K v s') (hk : Keep s.next s s1) (h : v = w) : K w s1 := h ▸ hK s1 hk
theorem _root_.Go.VI.isSl.cell {v : AV} {xs : List (List AV)} (h : isSl v xs) : isCell v = true := by
  rcases h with ⟨rfl, _⟩ | rfl <;> rfl
theorem _root_.Go.VI.isSl.lenA {v : AV} {xs : List (List AV)} (h : isSl v xs) : lenA false v = some xs.length := by
  rcases h with ⟨rfl, rfl⟩ | rfl <;> rfl
theorem _root_.Go.VI.isSl.pt {v : AV} {xs : List (List AV)} (h : isSl v xs) {i : Nat} {c : List AV} (hi : xs[i]? = some c) : (∀ j, atA c.length v (.int j (i : Int)) = some (.ref c)) := fun j => h.at_ hi rfl
def LsC {α : Type} (R : List AV → α → Prop) (xs : List (List AV)) (es : List α) : Prop := xs.length = es.length ∧ ∀ (i : Nat) (c : List AV) (e : α), xs[i]? = some c → es[i]? = some e → R c e
section
variable {α : Type} {R : List AV → α → Prop} {xs ys : List (List AV)} {es fs : List α}
theorem LsC.get (h : LsC R xs es) {i : Nat} {e : α} (he : es[i]? = some e) : ∃ c, xs[i]? = some c ∧ R c e := by
  have hlt := (List.getElem?_eq_some_iff.mp he).1
  obtain ⟨c, hc⟩ := get_of (l := xs) (i := i) (by rw [h.1]; exact hlt)
  exact ⟨c, hc, h.2 i c e hc he⟩
theorem LsC.mem (h : LsC R xs es) {c : List AV} (hc : c ∈ xs) : ∃ e, R c e := by
  obtain ⟨i, hi⟩ := List.mem_iff_getElem?.mp hc
  have hlt := (List.getElem?_eq_some_iff.mp hi).1
  obtain ⟨e, he⟩ := get_of (l := es) (i := i) (by rw [← h.1]; exact hlt)
  exact ⟨e, h.2 i c e hi he⟩
theorem LsC.nil (R : List AV → α → Prop) : LsC R [] [] := ⟨rfl, by intro i c e h; simp at h⟩
theorem LsC.append (h : LsC R xs es) (k : LsC R ys fs) : LsC R (xs ++ ys) (es ++ fs) := by
  refine ⟨by simp [h.1, k.1], ?_⟩
  intro i c e h1 h2
  by_cases hi : i < xs.length
  · rw [List.getElem?_append_left hi] at h1
    rw [List.getElem?_append_left (by rw [← h.1]; exact hi)] at h2
    exact h.2 i c e h1 h2
  · rw [List.getElem?_append_right (by omega)] at h1
    rw [List.getElem?_append_right (by rw [← h.1]; omega), ← h.1] at h2
    exact k.2 _ c e h1 h2
theorem LsC.one {c : List AV} {e : α} (h : R c e) : LsC R [c] [e] := by
  refine ⟨rfl, ?_⟩
  intro i c' e' h1 h2
  match i with
  | 0 => simp at h1 h2; subst h1 h2; exact h
  | i + 1 => simp at h1
end
abbrev Txt := List UInt8
def txtC (t : Txt) : List AV := [.str t]
structure Call where
  kind : Int
  keys : List Txt
  token : Int
  ttl : Int
structure Reply where
  code : Int
  token : Int
  holds : List Int
structure Event where
  client : Int
  seq : Int
  time : Int
  done : Bool
  unknown : Bool
  call : Call
  reply : Reply
def callC (k : AV) (c : Call) : List AV := [.int .i64 c.kind, k, .int .u64 c.token, .int .i64 c.ttl]
def replyC (h : AV) (r : Reply) : List AV := [.int .i64 r.code, .int .u64 r.token, h]
def EvC (c : List AV) (e : Event) : Prop := ∃ k h, c = [.int .i64 e.client, .int .u64 e.seq, .int .i64 e.time, .bool e.done, .bool e.unknown, .int .i64 e.call.kind, k, .int .u64 e.call.token, .int .i64 e.call.ttl, .int .i64 e.reply.code, .int .u64 e.reply.token, h] ∧
  isSl k (e.call.keys.map txtC) ∧ isSl h (intsA .u64 e.reply.holds)
theorem EvC.len {c : List AV} {e : Event} (h : EvC c e) : c.length = 12 := by obtain ⟨k, h, rfl, _⟩ := h; rfl
def Evs (v : AV) (es : List Event) : Prop := ∃ xs, isSl v xs ∧ LsC EvC xs es
theorem Evs.len {v : AV} {es : List Event} (h : Evs v es) : lenA false v = some es.length := by obtain ⟨xs, h1, h2⟩ := h; rw [h1.lenA, h2.1]
theorem Evs.cell {v : AV} {es : List Event} (h : Evs v es) : isCell v = true := by obtain ⟨xs, h1, _⟩ := h; exact h1.cell
theorem Evs.at {v : AV} {es : List Event} (h : Evs v es) {i : Nat} {e : Event} (he : es[i]? = some e) :
    ∃ k w, (∀ j, atA 12 v (.int j (i : Int)) = some (.ref [.int .i64 e.client, .int .u64 e.seq, .int .i64 e.time, .bool e.done, .bool e.unknown, .int .i64 e.call.kind, k, .int .u64 e.call.token, .int .i64 e.call.ttl, .int .i64 e.reply.code, .int .u64 e.reply.token, w])) ∧
      isSl k (e.call.keys.map txtC) ∧ isSl w (intsA .u64 e.reply.holds) := by
  obtain ⟨xs, h1, h2⟩ := h
  obtain ⟨c, hc, k, w, rfl, hk, hw⟩ := h2.get he
  exact ⟨k, w, h1.pt hc, hk, hw⟩
theorem succ_av {i : Nat} (h : i < 4611686018427387904) : AV.int .i64 (IntKind.i64.wrap ((i : Int) + 1)) = AV.int .i64 ((i + 1 : Nat) : Int) := congrArg _ (succ_cast h)
def prevOf {α : Type} (l : List α) (i : Nat) : Option α := if i = 0 then none else l[i - 1]?
theorem prevOf_succ {α : Type} (l : List α) (i : Nat) : prevOf l (i + 1) = l[i]? := rfl
def keysOk : Option Txt → List Txt → Bool
  | _, [] => true
  | p, k :: r => decide (k.length ≤ 64) && (match p with | none => true | some q => !(Op.bytesLess k q || k == q)) && keysOk (some k) r
def callOk (c : Call) : Bool := decide (1 ≤ c.kind) && decide (c.kind ≤ 4) && decide (1 ≤ c.keys.length) && decide (c.keys.length ≤ 16) &&
  (if c.kind = 1 ∨ c.kind = 3 then decide (1 ≤ c.ttl) && decide (c.ttl ≤ 1048576) else decide (c.ttl = 0)) &&
  (if c.kind = 2 ∨ c.kind = 3 then !decide (c.token = 0) else decide (c.token = 0)) && keysOk none c.keys
def callNone (c : Call) : Bool := decide (c.kind = 0) && decide (c.keys.length = 0) && decide (c.token = 0) && decide (c.ttl = 0)
def silentR (r : Reply) : Bool := decide (r.code = 0) && decide (r.token = 0) && decide (r.holds.length = 0)
end Go.Proofs.YtmjgakhnhjpclaaGreat
/- Which calls may be; what says nothing. No statement of the seat is proved here. -/
namespace Go.Proofs.YtmjgakhnhjpclaaGreat
open Go Go.VI
set_option linter.unusedSimpArgs false
attribute [local irreducible] Ws Wp W C
set_option maxHeartbeats 2000000
theorem none_c {c : Call} {k : AV} {s : Mem} {K : AV → Mem → Prop} (hk : isSl k (c.keys.map txtC)) (hK : ∀ s', Keep s.next s s' → K (.bool (callNone c)) s') : C tab 24 [.agg (callC k c)] s K := by
  refine C_enter (cf := cf24) rfl (Nat.le_of_ble_eq_true rfl) ?_
  simp only [cf24, oo, on, om, og, oc, ou, callC]
  have hl : lenA false k = some c.keys.length := by rw [hk.lenA, List.length_map]
  (repeat' (with_reducible first|refine w_1 ?_|refine w_2 ?_|refine w_3 ?_|refine w_4 ?_|refine w_5 ?_|refine w_6 ?_|refine w_7 ?_|(refine w_8 (fun hb=>?_) (fun hb=>?_)<;>(try simp only [Bool.not_eq_true',Bool.not_eq_false'] at hb)<;>try simp only [hb])|(refine w_9 ?_;simp (maxDischargeDepth:=12) only [viz,↓reduceIte,Nat.reduceEqDiff,reduceCtorEq,Int.reduceEq,Int.reduceNeg,Nat.reduceAdd,Nat.reduceLeDiff,hk.cell,hl])|refine w_10 (fun hc=>(by (try simp only [Bool.and_eq_true] at hc);simp (maxDischargeDepth:=12) only [viz,↓reduceIte,Nat.reduceEqDiff,reduceCtorEq,Int.reduceEq,Int.reduceNeg,Nat.reduceAdd,Nat.reduceLeDiff,hk.cell,hl,hc];first|exact ⟨rfl,rfl⟩|exact rfl)) ?_|refine w_11 (fun hc=>(by (try simp only [Bool.and_eq_true] at hc);simp (maxDischargeDepth:=12) only [viz,↓reduceIte,Nat.reduceEqDiff,reduceCtorEq,Int.reduceEq,Int.reduceNeg,Nat.reduceAdd,Nat.reduceLeDiff,hk.cell,hl,hc];first|exact ⟨rfl,rfl⟩|exact rfl)) ?_|refine w_12 ?_|simp (maxDischargeDepth:=12) only [viz,↓reduceIte,Nat.reduceEqDiff,reduceCtorEq,Int.reduceEq,Int.reduceNeg,Nat.reduceAdd,Nat.reduceLeDiff,hk.cell,hl]))
  all_goals exact K_of hK (pushes _ _) (by grind [callNone])
theorem silent_c {r : Reply} {h : AV} {s : Mem} {K : AV → Mem → Prop} (hk : isSl h (intsA .u64 r.holds)) (hK : ∀ s', Keep s.next s s' → K (.bool (silentR r)) s') : C tab 25 [.agg (replyC h r)] s K := by
  refine C_enter (cf := cf25) rfl (Nat.le_of_ble_eq_true rfl) ?_
  simp only [cf25, oo, on, om, og, oc, ou, replyC]
  have hl : lenA false h = some r.holds.length := by rw [hk.lenA, intsA_len]
  (repeat' (with_reducible first|refine w_1 ?_|refine w_2 ?_|refine w_3 ?_|refine w_4 ?_|refine w_5 ?_|refine w_6 ?_|refine w_7 ?_|(refine w_8 (fun hb=>?_) (fun hb=>?_)<;>(try simp only [Bool.not_eq_true',Bool.not_eq_false'] at hb)<;>try simp only [hb])|(refine w_9 ?_;simp (maxDischargeDepth:=12) only [viz,↓reduceIte,Nat.reduceEqDiff,reduceCtorEq,Int.reduceEq,Int.reduceNeg,Nat.reduceAdd,Nat.reduceLeDiff,hk.cell,hl])|refine w_10 (fun hc=>(by (try simp only [Bool.and_eq_true] at hc);simp (maxDischargeDepth:=12) only [viz,↓reduceIte,Nat.reduceEqDiff,reduceCtorEq,Int.reduceEq,Int.reduceNeg,Nat.reduceAdd,Nat.reduceLeDiff,hk.cell,hl,hc];first|exact ⟨rfl,rfl⟩|exact rfl)) ?_|refine w_11 (fun hc=>(by (try simp only [Bool.and_eq_true] at hc);simp (maxDischargeDepth:=12) only [viz,↓reduceIte,Nat.reduceEqDiff,reduceCtorEq,Int.reduceEq,Int.reduceNeg,Nat.reduceAdd,Nat.reduceLeDiff,hk.cell,hl,hc];first|exact ⟨rfl,rfl⟩|exact rfl)) ?_|refine w_12 ?_|simp (maxDischargeDepth:=12) only [viz,↓reduceIte,Nat.reduceEqDiff,reduceCtorEq,Int.reduceEq,Int.reduceNeg,Nat.reduceAdd,Nat.reduceLeDiff,hk.cell,hl]))
  all_goals exact K_of hK (pushes _ _) (by grind [silentR])
end Go.Proofs.YtmjgakhnhjpclaaGreat
/- Which calls may be: the program's and the document's answer. No statement of the seat is proved here. -/
namespace Go.Proofs.YtmjgakhnhjpclaaGreat
open Go Go.VI
set_option linter.unusedSimpArgs false
attribute [local irreducible] Ws Wp W C
set_option maxHeartbeats 4000000
theorem rtexts_nil {k : AV} {l : List Txt} {s : Mem} {K : AV → Mem → Prop} (hk : isSl k (l.map txtC)) (hK : K (.bool (decide (l.length = 0))) s) : C tab 22 [k, .nilS] s K := by
  refine C_enter (cf := cf22) rfl (Nat.le_of_ble_eq_true rfl) ?_
  simp only [cf22, oo, on, om, og, oc, ou]
  have hl : lenA false k = some l.length := by rw [hk.lenA, List.length_map]
  (repeat' (with_reducible first|refine w_1 ?_|refine w_2 ?_|refine w_3 ?_|refine w_4 ?_|refine w_5 ?_|refine w_6 ?_|refine w_7 ?_|(refine w_8 (fun hb=>?_) (fun hb=>?_)<;>(try simp only [Bool.not_eq_true',Bool.not_eq_false'] at hb)<;>try simp only [hb])|(refine w_9 ?_;simp (maxDischargeDepth:=12) only [viz,↓reduceIte,Nat.reduceEqDiff,reduceCtorEq,Int.reduceEq,Int.reduceNeg,Nat.reduceAdd,Nat.reduceLeDiff,hl,lenA_nil])|refine w_10 (fun hc=>(by (try simp only [Bool.and_eq_true] at hc);simp (maxDischargeDepth:=12) only [viz,↓reduceIte,Nat.reduceEqDiff,reduceCtorEq,Int.reduceEq,Int.reduceNeg,Nat.reduceAdd,Nat.reduceLeDiff,hl,lenA_nil,hc];first|exact ⟨rfl,rfl⟩|exact rfl)) ?_|refine w_11 (fun hc=>(by (try simp only [Bool.and_eq_true] at hc);simp (maxDischargeDepth:=12) only [viz,↓reduceIte,Nat.reduceEqDiff,reduceCtorEq,Int.reduceEq,Int.reduceNeg,Nat.reduceAdd,Nat.reduceLeDiff,hl,lenA_nil,hc];first|exact ⟨rfl,rfl⟩|exact rfl)) ?_|refine w_12 ?_|simp (maxDischargeDepth:=12) only [viz,↓reduceIte,Nat.reduceEqDiff,reduceCtorEq,Int.reduceEq,Int.reduceNeg,Nat.reduceAdd,Nat.reduceLeDiff,hl,lenA_nil]))
  · have : l.length ≠ 0 := by simpa using hb
    simpa [this] using hK
  · refine W_loop' (by delta cf22l0 oo on om og oc ou; exact rfl) ?_
    have h0 : l.length = 0 := by simpa using hb
    have hlt : decide ((0 : Int) < (l.length : Int)) = false := by simp [h0]
    (repeat' (with_reducible first|refine w_1 ?_|refine w_2 ?_|refine w_3 ?_|refine w_4 ?_|refine w_5 ?_|refine w_6 ?_|refine w_7 ?_|(refine w_8 (fun hb=>?_) (fun hb=>?_)<;>(try simp only [Bool.not_eq_true',Bool.not_eq_false'] at hb)<;>try simp only [hb])|(refine w_9 ?_;simp (maxDischargeDepth:=12) only [viz,↓reduceIte,Nat.reduceEqDiff,reduceCtorEq,Int.reduceEq,Int.reduceNeg,Nat.reduceAdd,Nat.reduceLeDiff,hl,hlt])|refine w_10 (fun hc=>(by (try simp only [Bool.and_eq_true] at hc);simp (maxDischargeDepth:=12) only [viz,↓reduceIte,Nat.reduceEqDiff,reduceCtorEq,Int.reduceEq,Int.reduceNeg,Nat.reduceAdd,Nat.reduceLeDiff,hl,hlt,hc];first|exact ⟨rfl,rfl⟩|exact rfl)) ?_|refine w_11 (fun hc=>(by (try simp only [Bool.and_eq_true] at hc);simp (maxDischargeDepth:=12) only [viz,↓reduceIte,Nat.reduceEqDiff,reduceCtorEq,Int.reduceEq,Int.reduceNeg,Nat.reduceAdd,Nat.reduceLeDiff,hl,hlt,hc];first|exact ⟨rfl,rfl⟩|exact rfl)) ?_|refine w_12 ?_|simp (maxDischargeDepth:=12) only [viz,↓reduceIte,Nat.reduceEqDiff,reduceCtorEq,Int.reduceEq,Int.reduceNeg,Nat.reduceAdd,Nat.reduceLeDiff,hl,hlt]))
    simpa [h0] using hK
theorem rcallnone_c {c : Call} {k : AV} {s : Mem} {K : AV → Mem → Prop} (hk : isSl k (c.keys.map txtC)) (hK : ∀ s', Keep s.next s s' → K (.bool (callNone c)) s') : C tab 10 [.agg (callC k c), .agg [.int .i64 0, .nilS, .int .u64 0, .int .i64 0]] s K := by
  refine C_enter (cf := cf10) rfl (Nat.le_of_ble_eq_true rfl) ?_
  simp only [cf10, oo, on, om, og, oc, ou, callC]
  (repeat' (with_reducible first|refine w_1 ?_|refine w_2 ?_|refine w_3 ?_|refine w_4 ?_|refine w_5 ?_|refine w_6 ?_|refine w_7 ?_|(refine w_8 (fun hb=>?_) (fun hb=>?_)<;>(try simp only [Bool.not_eq_true',Bool.not_eq_false'] at hb)<;>try simp only [hb])|(refine w_9 ?_;simp (maxDischargeDepth:=12) only [viz,↓reduceIte,Nat.reduceEqDiff,reduceCtorEq,Int.reduceEq,Int.reduceNeg,Nat.reduceAdd,Nat.reduceLeDiff,hk.cell])|refine w_10 (fun hc=>(by (try simp only [Bool.and_eq_true] at hc);simp (maxDischargeDepth:=12) only [viz,↓reduceIte,Nat.reduceEqDiff,reduceCtorEq,Int.reduceEq,Int.reduceNeg,Nat.reduceAdd,Nat.reduceLeDiff,hk.cell,hc];first|exact ⟨rfl,rfl⟩|exact rfl)) ?_|refine w_11 (fun hc=>(by (try simp only [Bool.and_eq_true] at hc);simp (maxDischargeDepth:=12) only [viz,↓reduceIte,Nat.reduceEqDiff,reduceCtorEq,Int.reduceEq,Int.reduceNeg,Nat.reduceAdd,Nat.reduceLeDiff,hk.cell,hc];first|exact ⟨rfl,rfl⟩|exact rfl)) ?_|refine w_12 ?_|simp (maxDischargeDepth:=12) only [viz,↓reduceIte,Nat.reduceEqDiff,reduceCtorEq,Int.reduceEq,Int.reduceNeg,Nat.reduceAdd,Nat.reduceLeDiff,hk.cell]))
  all_goals first
    | exact K_of hK ((pushes _ _).then (pushes _ _)) (by grind [callNone])
    | skip
  refine rtexts_nil hk ?_
  (repeat' (with_reducible first|refine w_1 ?_|refine w_2 ?_|refine w_3 ?_|refine w_4 ?_|refine w_5 ?_|refine w_6 ?_|refine w_7 ?_|(refine w_8 (fun hb=>?_) (fun hb=>?_)<;>(try simp only [Bool.not_eq_true',Bool.not_eq_false'] at hb)<;>try simp only [hb])|(refine w_9 ?_;simp (maxDischargeDepth:=12) only [viz,↓reduceIte,Nat.reduceEqDiff,reduceCtorEq,Int.reduceEq,Int.reduceNeg,Nat.reduceAdd,Nat.reduceLeDiff])|refine w_10 (fun hc=>(by (try simp only [Bool.and_eq_true] at hc);simp (maxDischargeDepth:=12) only [viz,↓reduceIte,Nat.reduceEqDiff,reduceCtorEq,Int.reduceEq,Int.reduceNeg,Nat.reduceAdd,Nat.reduceLeDiff,hc];first|exact ⟨rfl,rfl⟩|exact rfl)) ?_|refine w_11 (fun hc=>(by (try simp only [Bool.and_eq_true] at hc);simp (maxDischargeDepth:=12) only [viz,↓reduceIte,Nat.reduceEqDiff,reduceCtorEq,Int.reduceEq,Int.reduceNeg,Nat.reduceAdd,Nat.reduceLeDiff,hc];first|exact ⟨rfl,rfl⟩|exact rfl)) ?_|refine w_12 ?_|simp (maxDischargeDepth:=12) only [viz,↓reduceIte,Nat.reduceEqDiff,reduceCtorEq,Int.reduceEq,Int.reduceNeg,Nat.reduceAdd,Nat.reduceLeDiff]))
  exact K_of hK ((pushes _ _).then (pushes _ _)) (by grind [callNone])
theorem rsamereply_nil {r : Reply} {h : AV} {s : Mem} {K : AV → Mem → Prop} (hk : isSl h (intsA .u64 r.holds)) (hK : ∀ s', Keep s.next s s' → K (.bool (silentR r)) s') : C tab 23 [.agg (replyC h r), .agg [.int .i64 0, .int .u64 0, .nilS]] s K := by
  refine C_enter (cf := cf23) rfl (Nat.le_of_ble_eq_true rfl) ?_
  simp only [cf23, oo, on, om, og, oc, ou, replyC]
  have hl : lenA false h = some r.holds.length := by rw [hk.lenA, intsA_len]
  (repeat' (with_reducible first|refine w_1 ?_|refine w_2 ?_|refine w_3 ?_|refine w_4 ?_|refine w_5 ?_|refine w_6 ?_|refine w_7 ?_|(refine w_8 (fun hb=>?_) (fun hb=>?_)<;>(try simp only [Bool.not_eq_true',Bool.not_eq_false'] at hb)<;>try simp only [hb])|(refine w_9 ?_;simp (maxDischargeDepth:=12) only [viz,↓reduceIte,Nat.reduceEqDiff,reduceCtorEq,Int.reduceEq,Int.reduceNeg,Nat.reduceAdd,Nat.reduceLeDiff,hk.cell,hl])|refine w_10 (fun hc=>(by (try simp only [Bool.and_eq_true] at hc);simp (maxDischargeDepth:=12) only [viz,↓reduceIte,Nat.reduceEqDiff,reduceCtorEq,Int.reduceEq,Int.reduceNeg,Nat.reduceAdd,Nat.reduceLeDiff,hk.cell,hl,hc];first|exact ⟨rfl,rfl⟩|exact rfl)) ?_|refine w_11 (fun hc=>(by (try simp only [Bool.and_eq_true] at hc);simp (maxDischargeDepth:=12) only [viz,↓reduceIte,Nat.reduceEqDiff,reduceCtorEq,Int.reduceEq,Int.reduceNeg,Nat.reduceAdd,Nat.reduceLeDiff,hk.cell,hl,hc];first|exact ⟨rfl,rfl⟩|exact rfl)) ?_|refine w_12 ?_|simp (maxDischargeDepth:=12) only [viz,↓reduceIte,Nat.reduceEqDiff,reduceCtorEq,Int.reduceEq,Int.reduceNeg,Nat.reduceAdd,Nat.reduceLeDiff,hk.cell,hl]))
  all_goals first
    | exact K_of hK ((pushes _ _).then (pushes _ _)) (by grind [silentR])
    | skip
  refine W_loop' (by delta cf23l0 oo on om og oc ou; exact rfl) ?_
  have h0 : r.holds.length = 0 := by simp_all
  have hlt : decide ((0 : Int) < (r.holds.length : Int)) = false := by simp [h0]
  (repeat' (with_reducible first|refine w_1 ?_|refine w_2 ?_|refine w_3 ?_|refine w_4 ?_|refine w_5 ?_|refine w_6 ?_|refine w_7 ?_|(refine w_8 (fun hb=>?_) (fun hb=>?_)<;>(try simp only [Bool.not_eq_true',Bool.not_eq_false'] at hb)<;>try simp only [hb])|(refine w_9 ?_;simp (maxDischargeDepth:=12) only [viz,↓reduceIte,Nat.reduceEqDiff,reduceCtorEq,Int.reduceEq,Int.reduceNeg,Nat.reduceAdd,Nat.reduceLeDiff,hl,hlt])|refine w_10 (fun hc=>(by (try simp only [Bool.and_eq_true] at hc);simp (maxDischargeDepth:=12) only [viz,↓reduceIte,Nat.reduceEqDiff,reduceCtorEq,Int.reduceEq,Int.reduceNeg,Nat.reduceAdd,Nat.reduceLeDiff,hl,hlt,hc];first|exact ⟨rfl,rfl⟩|exact rfl)) ?_|refine w_11 (fun hc=>(by (try simp only [Bool.and_eq_true] at hc);simp (maxDischargeDepth:=12) only [viz,↓reduceIte,Nat.reduceEqDiff,reduceCtorEq,Int.reduceEq,Int.reduceNeg,Nat.reduceAdd,Nat.reduceLeDiff,hl,hlt,hc];first|exact ⟨rfl,rfl⟩|exact rfl)) ?_|refine w_12 ?_|simp (maxDischargeDepth:=12) only [viz,↓reduceIte,Nat.reduceEqDiff,reduceCtorEq,Int.reduceEq,Int.reduceNeg,Nat.reduceAdd,Nat.reduceLeDiff,hl,hlt]))
  exact K_of hK ((pushes _ _).then (pushes _ _)) (by grind [silentR])
theorem rsilent_c {r : Reply} {h : AV} {s : Mem} {K : AV → Mem → Prop} (hk : isSl h (intsA .u64 r.holds)) (hK : ∀ s', Keep s.next s s' → K (.bool (silentR r)) s') : C tab 11 [.agg (replyC h r)] s K := by
  refine C_enter (cf := cf11) rfl (Nat.le_of_ble_eq_true rfl) ?_
  simp only [cf11, oo, on, om, og, oc, ou, replyC]
  (repeat' (with_reducible first|refine w_1 ?_|refine w_2 ?_|refine w_3 ?_|refine w_4 ?_|refine w_5 ?_|refine w_6 ?_|refine w_7 ?_|(refine w_8 (fun hb=>?_) (fun hb=>?_)<;>(try simp only [Bool.not_eq_true',Bool.not_eq_false'] at hb)<;>try simp only [hb])|(refine w_9 ?_;simp (maxDischargeDepth:=12) only [viz,↓reduceIte,Nat.reduceEqDiff,reduceCtorEq,Int.reduceEq,Int.reduceNeg,Nat.reduceAdd,Nat.reduceLeDiff,hk.cell])|refine w_10 (fun hc=>(by (try simp only [Bool.and_eq_true] at hc);simp (maxDischargeDepth:=12) only [viz,↓reduceIte,Nat.reduceEqDiff,reduceCtorEq,Int.reduceEq,Int.reduceNeg,Nat.reduceAdd,Nat.reduceLeDiff,hk.cell,hc];first|exact ⟨rfl,rfl⟩|exact rfl)) ?_|refine w_11 (fun hc=>(by (try simp only [Bool.and_eq_true] at hc);simp (maxDischargeDepth:=12) only [viz,↓reduceIte,Nat.reduceEqDiff,reduceCtorEq,Int.reduceEq,Int.reduceNeg,Nat.reduceAdd,Nat.reduceLeDiff,hk.cell,hc];first|exact ⟨rfl,rfl⟩|exact rfl)) ?_|refine w_12 ?_|simp (maxDischargeDepth:=12) only [viz,↓reduceIte,Nat.reduceEqDiff,reduceCtorEq,Int.reduceEq,Int.reduceNeg,Nat.reduceAdd,Nat.reduceLeDiff,hk.cell]))
  refine rsamereply_nil hk fun s' hk' => ?_
  (repeat' (with_reducible first|refine w_1 ?_|refine w_2 ?_|refine w_3 ?_|refine w_4 ?_|refine w_5 ?_|refine w_6 ?_|refine w_7 ?_|(refine w_8 (fun hb=>?_) (fun hb=>?_)<;>(try simp only [Bool.not_eq_true',Bool.not_eq_false'] at hb)<;>try simp only [hb])|(refine w_9 ?_;simp (maxDischargeDepth:=12) only [viz,↓reduceIte,Nat.reduceEqDiff,reduceCtorEq,Int.reduceEq,Int.reduceNeg,Nat.reduceAdd,Nat.reduceLeDiff])|refine w_10 (fun hc=>(by (try simp only [Bool.and_eq_true] at hc);simp (maxDischargeDepth:=12) only [viz,↓reduceIte,Nat.reduceEqDiff,reduceCtorEq,Int.reduceEq,Int.reduceNeg,Nat.reduceAdd,Nat.reduceLeDiff,hc];first|exact ⟨rfl,rfl⟩|exact rfl)) ?_|refine w_11 (fun hc=>(by (try simp only [Bool.and_eq_true] at hc);simp (maxDischargeDepth:=12) only [viz,↓reduceIte,Nat.reduceEqDiff,reduceCtorEq,Int.reduceEq,Int.reduceNeg,Nat.reduceAdd,Nat.reduceLeDiff,hc];first|exact ⟨rfl,rfl⟩|exact rfl)) ?_|refine w_12 ?_|simp (maxDischargeDepth:=12) only [viz,↓reduceIte,Nat.reduceEqDiff,reduceCtorEq,Int.reduceEq,Int.reduceNeg,Nat.reduceAdd,Nat.reduceLeDiff]))
  exact hK _ ((pushes _ _).then hk')
theorem keysOk_b {l : List Txt} {i : Nat} {x : Txt} {b : Bool} (hx : l[i]? = some x) (hb : (decide ((x.length : Int) > 64) || (match prevOf l i with | none => false | some q => Op.bytesLess x q || x == q)) = b) :
    keysOk (prevOf l i) (l.drop i) = (!b && keysOk (prevOf l (i + 1)) (l.drop (i + 1))) := by
  rw [drop_cons hx, prevOf_succ, hx, ← hb]
  simp only [keysOk]
  have : decide (x.length ≤ 64) = !decide ((x.length : Int) > 64) := by
    by_cases h : x.length ≤ 64
    · simp [h]; omega
    · simp [h]; omega
  rw [this]
  cases prevOf l i <;> simp
theorem mcheck_c {c : Call} {k : AV} {s : Mem} {K : AV → Mem → Prop} (hk : isSl k (c.keys.map txtC)) (hK : ∀ s', Keep s.next s s' → K (.int .i64 (if callOk c then 0 else 1)) s') : C tab 26 [.agg (callC k c)] s K := by
  refine C_enter (cf := cf26) rfl (Nat.le_of_ble_eq_true rfl) ?_
  simp only [cf26, oo, on, om, og, oc, ou, callC]
  have hl : lenA false k = some c.keys.length := by rw [hk.lenA, List.length_map]
  (repeat' (with_reducible first|refine w_1 ?_|refine w_2 ?_|refine w_3 ?_|refine w_4 ?_|refine w_5 ?_|refine w_6 ?_|refine w_7 ?_|(refine w_8 (fun hb=>?_) (fun hb=>?_)<;>(try simp only [Bool.not_eq_true',Bool.not_eq_false'] at hb)<;>try simp only [hb])|(refine w_9 ?_;simp (maxDischargeDepth:=12) only [viz,↓reduceIte,Nat.reduceEqDiff,reduceCtorEq,Int.reduceEq,Int.reduceNeg,Nat.reduceAdd,Nat.reduceLeDiff,hk.cell,hl])|refine w_10 (fun hc=>(by (try simp only [Bool.and_eq_true] at hc);simp (maxDischargeDepth:=12) only [viz,↓reduceIte,Nat.reduceEqDiff,reduceCtorEq,Int.reduceEq,Int.reduceNeg,Nat.reduceAdd,Nat.reduceLeDiff,hk.cell,hl,hc];first|exact ⟨rfl,rfl⟩|exact rfl)) ?_|refine w_11 (fun hc=>(by (try simp only [Bool.and_eq_true] at hc);simp (maxDischargeDepth:=12) only [viz,↓reduceIte,Nat.reduceEqDiff,reduceCtorEq,Int.reduceEq,Int.reduceNeg,Nat.reduceAdd,Nat.reduceLeDiff,hk.cell,hl,hc];first|exact ⟨rfl,rfl⟩|exact rfl)) ?_|refine w_12 ?_|simp (maxDischargeDepth:=12) only [viz,↓reduceIte,Nat.reduceEqDiff,reduceCtorEq,Int.reduceEq,Int.reduceNeg,Nat.reduceAdd,Nat.reduceLeDiff,hk.cell,hl]))
  · exact K_v hK (pushes _ _) (by grind [callOk])
  · exact K_v hK (pushes _ _) (by grind [callOk])
  have hi : ∀ {i : Nat} {x : Txt}, c.keys[i]? = some x → atA 1 k (.int .i64 (i : Int)) = some (.ref [.str x]) := fun {i x} hx => hk.pt (c := txtC x) (by rw [List.getElem?_map, hx]; rfl) .i64
  refine W_inv c.keys.length (fun i e s' => s' = s.push ⟨34, 4, [[.int .i64 c.kind, k, .int .u64 c.token, .int .i64 c.ttl]]⟩ ∧ e.get 1 = .ptr s.next 0 0 ∧ e.get 73 = k ∧ e.get 74 = .int .i64 c.keys.length ∧ e.get 75 = .int .i64 i ∧ keysOk none c.keys = keysOk (prevOf c.keys i) (c.keys.drop i)) (by delta cf26l0 oo on om og oc ou; exact rfl) ?_ ?_
  · (repeat' (with_reducible first|refine w_1 ?_|refine w_2 ?_|refine w_3 ?_|refine w_4 ?_|refine w_5 ?_|refine w_6 ?_|refine w_7 ?_|(refine w_8 (fun hb=>?_) (fun hb=>?_)<;>(try simp only [Bool.not_eq_true',Bool.not_eq_false'] at hb)<;>try simp only [hb])|(refine w_9 ?_;simp (maxDischargeDepth:=12) only [viz,↓reduceIte,Nat.reduceEqDiff,reduceCtorEq,Int.reduceEq,Int.reduceNeg,Nat.reduceAdd,Nat.reduceLeDiff])|refine w_10 (fun hc=>(by (try simp only [Bool.and_eq_true] at hc);simp (maxDischargeDepth:=12) only [viz,↓reduceIte,Nat.reduceEqDiff,reduceCtorEq,Int.reduceEq,Int.reduceNeg,Nat.reduceAdd,Nat.reduceLeDiff,hc];first|exact ⟨rfl,rfl⟩|exact rfl)) ?_|refine w_11 (fun hc=>(by (try simp only [Bool.and_eq_true] at hc);simp (maxDischargeDepth:=12) only [viz,↓reduceIte,Nat.reduceEqDiff,reduceCtorEq,Int.reduceEq,Int.reduceNeg,Nat.reduceAdd,Nat.reduceLeDiff,hc];first|exact ⟨rfl,rfl⟩|exact rfl)) ?_|refine w_12 ?_|simp (maxDischargeDepth:=12) only [viz,↓reduceIte,Nat.reduceEqDiff,reduceCtorEq,Int.reduceEq,Int.reduceNeg,Nat.reduceAdd,Nat.reduceLeDiff]))
    exact ⟨rfl, rfl⟩
  have h16 : c.keys.length ≤ 16 := by grind
  rintro i e s' hile _ ⟨rfl, h1, h73, h74, h75, hok⟩
  by_cases hlt : i < c.keys.length
  · obtain ⟨x, hx⟩ := get_of hlt
    have hpx := hi hx
    have hlx := lt_true hlt
    cases i with
    | zero =>
      have h0 : ((0 : Nat) : Int) = 0 := rfl
      rw [h0] at hpx hlx
      (repeat' (with_reducible first|refine w_1 ?_|refine w_2 ?_|refine w_3 ?_|refine w_4 ?_|refine w_5 ?_|refine w_6 ?_|refine w_7 ?_|(refine w_8 (fun hb=>?_) (fun hb=>?_)<;>(try simp only [Bool.not_eq_true',Bool.not_eq_false'] at hb)<;>try simp only [hb])|(refine w_9 ?_;simp (maxDischargeDepth:=12) only [viz,↓reduceIte,Nat.reduceEqDiff,reduceCtorEq,Int.reduceEq,Int.reduceNeg,Nat.reduceAdd,Nat.reduceLeDiff,h1,h73,h74,h75,h0,hlx,hpx,bne_self_eq_false, Int.reduceBEq, Int.reduceBNe, Int.reduceLT, Int.reduceLE, Int.reduceGT, Int.reduceGE])|refine w_10 (fun hc=>(by (try simp only [Bool.and_eq_true] at hc);simp (maxDischargeDepth:=12) only [viz,↓reduceIte,Nat.reduceEqDiff,reduceCtorEq,Int.reduceEq,Int.reduceNeg,Nat.reduceAdd,Nat.reduceLeDiff,h1,h73,h74,h75,h0,hlx,hpx,bne_self_eq_false, Int.reduceBEq, Int.reduceBNe, Int.reduceLT, Int.reduceLE, Int.reduceGT, Int.reduceGE,hc];first|exact ⟨rfl,rfl⟩|exact rfl)) ?_|refine w_11 (fun hc=>(by (try simp only [Bool.and_eq_true] at hc);simp (maxDischargeDepth:=12) only [viz,↓reduceIte,Nat.reduceEqDiff,reduceCtorEq,Int.reduceEq,Int.reduceNeg,Nat.reduceAdd,Nat.reduceLeDiff,h1,h73,h74,h75,h0,hlx,hpx,bne_self_eq_false, Int.reduceBEq, Int.reduceBNe, Int.reduceLT, Int.reduceLE, Int.reduceGT, Int.reduceGE,hc];first|exact ⟨rfl,rfl⟩|exact rfl)) ?_|refine w_12 ?_|simp (maxDischargeDepth:=12) only [viz,↓reduceIte,Nat.reduceEqDiff,reduceCtorEq,Int.reduceEq,Int.reduceNeg,Nat.reduceAdd,Nat.reduceLeDiff,h1,h73,h74,h75,h0,hlx,hpx,bne_self_eq_false, Int.reduceBEq, Int.reduceBNe, Int.reduceLT, Int.reduceLE, Int.reduceGT, Int.reduceGE]))
      · rw [keysOk_b hx (b := true) (by simpa [prevOf] using hb)] at hok
        exact K_v hK (pushes _ _) (by grind [callOk])
      · rw [keysOk_b hx (b := false) (by simpa [prevOf] using hb)] at hok
        exact ⟨hlt, rfl, hok⟩
    | succ j =>
      obtain ⟨y, hy⟩ := get_of (l := c.keys) (i := j) (by omega)
      have hj : decide (((j + 1 : Nat) : Int) > 0) = true := by simp
      have hpj := pred_cast j (by omega)
      (repeat' (with_reducible first|refine w_1 ?_|refine w_2 ?_|refine w_3 ?_|refine w_4 ?_|refine w_5 ?_|refine w_6 ?_|refine w_7 ?_|(refine w_8 (fun hb=>?_) (fun hb=>?_)<;>(try simp only [Bool.not_eq_true',Bool.not_eq_false'] at hb)<;>try simp only [hb])|(refine w_9 ?_;simp (maxDischargeDepth:=12) only [viz,↓reduceIte,Nat.reduceEqDiff,reduceCtorEq,Int.reduceEq,Int.reduceNeg,Nat.reduceAdd,Nat.reduceLeDiff,h1,h73,h74,h75,hlx,hpx,hi hy,hj,hpj])|refine w_10 (fun hc=>(by (try simp only [Bool.and_eq_true] at hc);simp (maxDischargeDepth:=12) only [viz,↓reduceIte,Nat.reduceEqDiff,reduceCtorEq,Int.reduceEq,Int.reduceNeg,Nat.reduceAdd,Nat.reduceLeDiff,h1,h73,h74,h75,hlx,hpx,hi hy,hj,hpj,hc];first|exact ⟨rfl,rfl⟩|exact rfl)) ?_|refine w_11 (fun hc=>(by (try simp only [Bool.and_eq_true] at hc);simp (maxDischargeDepth:=12) only [viz,↓reduceIte,Nat.reduceEqDiff,reduceCtorEq,Int.reduceEq,Int.reduceNeg,Nat.reduceAdd,Nat.reduceLeDiff,h1,h73,h74,h75,hlx,hpx,hi hy,hj,hpj,hc];first|exact ⟨rfl,rfl⟩|exact rfl)) ?_|refine w_12 ?_|simp (maxDischargeDepth:=12) only [viz,↓reduceIte,Nat.reduceEqDiff,reduceCtorEq,Int.reduceEq,Int.reduceNeg,Nat.reduceAdd,Nat.reduceLeDiff,h1,h73,h74,h75,hlx,hpx,hi hy,hj,hpj]))
      · rw [keysOk_b hx (b := true) (by rw [prevOf_succ, hy]; exact hb)] at hok
        exact K_v hK (pushes _ _) (by grind [callOk])
      · rw [keysOk_b hx (b := false) (by rw [prevOf_succ, hy]; exact hb)] at hok
        exact ⟨hlt, succ_av (by omega), hok⟩
  · (repeat' (with_reducible first|refine w_1 ?_|refine w_2 ?_|refine w_3 ?_|refine w_4 ?_|refine w_5 ?_|refine w_6 ?_|refine w_7 ?_|(refine w_8 (fun hb=>?_) (fun hb=>?_)<;>(try simp only [Bool.not_eq_true',Bool.not_eq_false'] at hb)<;>try simp only [hb])|(refine w_9 ?_;simp (maxDischargeDepth:=12) only [viz,↓reduceIte,Nat.reduceEqDiff,reduceCtorEq,Int.reduceEq,Int.reduceNeg,Nat.reduceAdd,Nat.reduceLeDiff,h1,h73,h74,h75,lt_false hlt])|refine w_10 (fun hc=>(by (try simp only [Bool.and_eq_true] at hc);simp (maxDischargeDepth:=12) only [viz,↓reduceIte,Nat.reduceEqDiff,reduceCtorEq,Int.reduceEq,Int.reduceNeg,Nat.reduceAdd,Nat.reduceLeDiff,h1,h73,h74,h75,lt_false hlt,hc];first|exact ⟨rfl,rfl⟩|exact rfl)) ?_|refine w_11 (fun hc=>(by (try simp only [Bool.and_eq_true] at hc);simp (maxDischargeDepth:=12) only [viz,↓reduceIte,Nat.reduceEqDiff,reduceCtorEq,Int.reduceEq,Int.reduceNeg,Nat.reduceAdd,Nat.reduceLeDiff,h1,h73,h74,h75,lt_false hlt,hc];first|exact ⟨rfl,rfl⟩|exact rfl)) ?_|refine w_12 ?_|simp (maxDischargeDepth:=12) only [viz,↓reduceIte,Nat.reduceEqDiff,reduceCtorEq,Int.reduceEq,Int.reduceNeg,Nat.reduceAdd,Nat.reduceLeDiff,h1,h73,h74,h75,lt_false hlt]))
    rw [drop_end hlt] at hok
    exact K_v hK (pushes _ _) (by grind [callOk, keysOk])
theorem rmay_c {c : Call} {k : AV} {s : Mem} {K : AV → Mem → Prop} (hk : isSl k (c.keys.map txtC)) (hK : ∀ s', Keep s.next s s' → K (.bool (callOk c)) s') : C tab 12 [.agg (callC k c)] s K := by
  refine C_enter (cf := cf12) rfl (Nat.le_of_ble_eq_true rfl) ?_
  simp only [cf12, oo, on, om, og, oc, ou, callC]
  have hl : lenA false k = some c.keys.length := by rw [hk.lenA, List.length_map]
  (repeat' (with_reducible first|refine w_1 ?_|refine w_2 ?_|refine w_3 ?_|refine w_4 ?_|refine w_5 ?_|refine w_6 ?_|refine w_7 ?_|(refine w_8 (fun hb=>?_) (fun hb=>?_)<;>(try simp only [Bool.not_eq_true',Bool.not_eq_false'] at hb)<;>try simp only [hb])|(refine w_9 ?_;simp (maxDischargeDepth:=12) only [viz,↓reduceIte,Nat.reduceEqDiff,reduceCtorEq,Int.reduceEq,Int.reduceNeg,Nat.reduceAdd,Nat.reduceLeDiff,hk.cell,hl])|refine w_10 (fun hc=>(by (try simp only [Bool.and_eq_true] at hc);simp (maxDischargeDepth:=12) only [viz,↓reduceIte,Nat.reduceEqDiff,reduceCtorEq,Int.reduceEq,Int.reduceNeg,Nat.reduceAdd,Nat.reduceLeDiff,hk.cell,hl,hc];first|exact ⟨rfl,rfl⟩|exact rfl)) ?_|refine w_11 (fun hc=>(by (try simp only [Bool.and_eq_true] at hc);simp (maxDischargeDepth:=12) only [viz,↓reduceIte,Nat.reduceEqDiff,reduceCtorEq,Int.reduceEq,Int.reduceNeg,Nat.reduceAdd,Nat.reduceLeDiff,hk.cell,hl,hc];first|exact ⟨rfl,rfl⟩|exact rfl)) ?_|refine w_12 ?_|simp (maxDischargeDepth:=12) only [viz,↓reduceIte,Nat.reduceEqDiff,reduceCtorEq,Int.reduceEq,Int.reduceNeg,Nat.reduceAdd,Nat.reduceLeDiff,hk.cell,hl]))
  · exact K_of hK (pushes _ _) (by grind [callOk])
  have hi : ∀ {i : Nat} {x : Txt}, c.keys[i]? = some x → atA 1 k (.int .i64 (i : Int)) = some (.ref [.str x]) := fun {i x} hx => hk.pt (c := txtC x) (by rw [List.getElem?_map, hx]; rfl) .i64
  refine W_inv c.keys.length (fun i e s' => s' = s.push ⟨34, 4, [[.int .i64 c.kind, k, .int .u64 c.token, .int .i64 c.ttl]]⟩ ∧ e.get 1 = .ptr s.next 0 0 ∧ e.get 3 = .int .i64 i ∧ keysOk none c.keys = keysOk (prevOf c.keys i) (c.keys.drop i)) (by delta cf12l0 oo on om og oc ou; exact rfl) ?_ ?_
  · (repeat' (with_reducible first|refine w_1 ?_|refine w_2 ?_|refine w_3 ?_|refine w_4 ?_|refine w_5 ?_|refine w_6 ?_|refine w_7 ?_|(refine w_8 (fun hb=>?_) (fun hb=>?_)<;>(try simp only [Bool.not_eq_true',Bool.not_eq_false'] at hb)<;>try simp only [hb])|(refine w_9 ?_;simp (maxDischargeDepth:=12) only [viz,↓reduceIte,Nat.reduceEqDiff,reduceCtorEq,Int.reduceEq,Int.reduceNeg,Nat.reduceAdd,Nat.reduceLeDiff])|refine w_10 (fun hc=>(by (try simp only [Bool.and_eq_true] at hc);simp (maxDischargeDepth:=12) only [viz,↓reduceIte,Nat.reduceEqDiff,reduceCtorEq,Int.reduceEq,Int.reduceNeg,Nat.reduceAdd,Nat.reduceLeDiff,hc];first|exact ⟨rfl,rfl⟩|exact rfl)) ?_|refine w_11 (fun hc=>(by (try simp only [Bool.and_eq_true] at hc);simp (maxDischargeDepth:=12) only [viz,↓reduceIte,Nat.reduceEqDiff,reduceCtorEq,Int.reduceEq,Int.reduceNeg,Nat.reduceAdd,Nat.reduceLeDiff,hc];first|exact ⟨rfl,rfl⟩|exact rfl)) ?_|refine w_12 ?_|simp (maxDischargeDepth:=12) only [viz,↓reduceIte,Nat.reduceEqDiff,reduceCtorEq,Int.reduceEq,Int.reduceNeg,Nat.reduceAdd,Nat.reduceLeDiff]))
    exact ⟨rfl, rfl⟩
  have h16 : c.keys.length ≤ 16 := by grind
  rintro i e s' hile _ ⟨rfl, h1, h3, hok⟩
  by_cases hlt : i < c.keys.length
  · obtain ⟨x, hx⟩ := get_of hlt
    have hpx := hi hx
    have hlx := lt_true hlt
    cases i with
    | zero =>
      have h0 : ((0 : Nat) : Int) = 0 := rfl
      rw [h0] at hpx hlx
      (repeat' (with_reducible first|refine w_1 ?_|refine w_2 ?_|refine w_3 ?_|refine w_4 ?_|refine w_5 ?_|refine w_6 ?_|refine w_7 ?_|(refine w_8 (fun hb=>?_) (fun hb=>?_)<;>(try simp only [Bool.not_eq_true',Bool.not_eq_false'] at hb)<;>try simp only [hb])|(refine w_9 ?_;simp (maxDischargeDepth:=12) only [viz,↓reduceIte,Nat.reduceEqDiff,reduceCtorEq,Int.reduceEq,Int.reduceNeg,Nat.reduceAdd,Nat.reduceLeDiff,h1,h3,h0,hlx,hl,hpx,bne_self_eq_false, Int.reduceBEq, Int.reduceBNe, Int.reduceLT, Int.reduceLE, Int.reduceGT, Int.reduceGE])|refine w_10 (fun hc=>(by (try simp only [Bool.and_eq_true] at hc);simp (maxDischargeDepth:=12) only [viz,↓reduceIte,Nat.reduceEqDiff,reduceCtorEq,Int.reduceEq,Int.reduceNeg,Nat.reduceAdd,Nat.reduceLeDiff,h1,h3,h0,hlx,hl,hpx,bne_self_eq_false, Int.reduceBEq, Int.reduceBNe, Int.reduceLT, Int.reduceLE, Int.reduceGT, Int.reduceGE,hc];first|exact ⟨rfl,rfl⟩|exact rfl)) ?_|refine w_11 (fun hc=>(by (try simp only [Bool.and_eq_true] at hc);simp (maxDischargeDepth:=12) only [viz,↓reduceIte,Nat.reduceEqDiff,reduceCtorEq,Int.reduceEq,Int.reduceNeg,Nat.reduceAdd,Nat.reduceLeDiff,h1,h3,h0,hlx,hl,hpx,bne_self_eq_false, Int.reduceBEq, Int.reduceBNe, Int.reduceLT, Int.reduceLE, Int.reduceGT, Int.reduceGE,hc];first|exact ⟨rfl,rfl⟩|exact rfl)) ?_|refine w_12 ?_|simp (maxDischargeDepth:=12) only [viz,↓reduceIte,Nat.reduceEqDiff,reduceCtorEq,Int.reduceEq,Int.reduceNeg,Nat.reduceAdd,Nat.reduceLeDiff,h1,h3,h0,hlx,hl,hpx,bne_self_eq_false, Int.reduceBEq, Int.reduceBNe, Int.reduceLT, Int.reduceLE, Int.reduceGT, Int.reduceGE]))
      · rw [keysOk_b hx (b := true) (by simpa [prevOf] using hb)] at hok
        exact K_of hK (pushes _ _) (by grind [callOk])
      · rw [keysOk_b hx (b := false) (by simpa [prevOf] using hb)] at hok
        exact ⟨hlt, rfl, hok⟩
    | succ j =>
      obtain ⟨y, hy⟩ := get_of (l := c.keys) (i := j) (by omega)
      have hj : decide (((j + 1 : Nat) : Int) > 0) = true := by simp
      have hpj := pred_cast j (by omega)
      (repeat' (with_reducible first|refine w_1 ?_|refine w_2 ?_|refine w_3 ?_|refine w_4 ?_|refine w_5 ?_|refine w_6 ?_|refine w_7 ?_|(refine w_8 (fun hb=>?_) (fun hb=>?_)<;>(try simp only [Bool.not_eq_true',Bool.not_eq_false'] at hb)<;>try simp only [hb])|(refine w_9 ?_;simp (maxDischargeDepth:=12) only [viz,↓reduceIte,Nat.reduceEqDiff,reduceCtorEq,Int.reduceEq,Int.reduceNeg,Nat.reduceAdd,Nat.reduceLeDiff,h1,h3,hlx,hl,hpx,hi hy,hj,hpj])|refine w_10 (fun hc=>(by (try simp only [Bool.and_eq_true] at hc);simp (maxDischargeDepth:=12) only [viz,↓reduceIte,Nat.reduceEqDiff,reduceCtorEq,Int.reduceEq,Int.reduceNeg,Nat.reduceAdd,Nat.reduceLeDiff,h1,h3,hlx,hl,hpx,hi hy,hj,hpj,hc];first|exact ⟨rfl,rfl⟩|exact rfl)) ?_|refine w_11 (fun hc=>(by (try simp only [Bool.and_eq_true] at hc);simp (maxDischargeDepth:=12) only [viz,↓reduceIte,Nat.reduceEqDiff,reduceCtorEq,Int.reduceEq,Int.reduceNeg,Nat.reduceAdd,Nat.reduceLeDiff,h1,h3,hlx,hl,hpx,hi hy,hj,hpj,hc];first|exact ⟨rfl,rfl⟩|exact rfl)) ?_|refine w_12 ?_|simp (maxDischargeDepth:=12) only [viz,↓reduceIte,Nat.reduceEqDiff,reduceCtorEq,Int.reduceEq,Int.reduceNeg,Nat.reduceAdd,Nat.reduceLeDiff,h1,h3,hlx,hl,hpx,hi hy,hj,hpj]))
      · rw [keysOk_b hx (b := true) (by rw [prevOf_succ, hy]; exact hb)] at hok
        exact K_of hK (pushes _ _) (by grind [callOk])
      · rw [keysOk_b hx (b := false) (by rw [prevOf_succ, hy]; exact hb)] at hok
        exact ⟨hlt, succ_av (by omega), hok⟩
  · (repeat' (with_reducible first|refine w_1 ?_|refine w_2 ?_|refine w_3 ?_|refine w_4 ?_|refine w_5 ?_|refine w_6 ?_|refine w_7 ?_|(refine w_8 (fun hb=>?_) (fun hb=>?_)<;>(try simp only [Bool.not_eq_true',Bool.not_eq_false'] at hb)<;>try simp only [hb])|(refine w_9 ?_;simp (maxDischargeDepth:=12) only [viz,↓reduceIte,Nat.reduceEqDiff,reduceCtorEq,Int.reduceEq,Int.reduceNeg,Nat.reduceAdd,Nat.reduceLeDiff,h1,h3,hl,lt_false hlt])|refine w_10 (fun hc=>(by (try simp only [Bool.and_eq_true] at hc);simp (maxDischargeDepth:=12) only [viz,↓reduceIte,Nat.reduceEqDiff,reduceCtorEq,Int.reduceEq,Int.reduceNeg,Nat.reduceAdd,Nat.reduceLeDiff,h1,h3,hl,lt_false hlt,hc];first|exact ⟨rfl,rfl⟩|exact rfl)) ?_|refine w_11 (fun hc=>(by (try simp only [Bool.and_eq_true] at hc);simp (maxDischargeDepth:=12) only [viz,↓reduceIte,Nat.reduceEqDiff,reduceCtorEq,Int.reduceEq,Int.reduceNeg,Nat.reduceAdd,Nat.reduceLeDiff,h1,h3,hl,lt_false hlt,hc];first|exact ⟨rfl,rfl⟩|exact rfl)) ?_|refine w_12 ?_|simp (maxDischargeDepth:=12) only [viz,↓reduceIte,Nat.reduceEqDiff,reduceCtorEq,Int.reduceEq,Int.reduceNeg,Nat.reduceAdd,Nat.reduceLeDiff,h1,h3,hl,lt_false hlt]))
    all_goals
      rw [drop_end hlt] at hok
      have hok2 : keysOk none c.keys = true := hok
    all_goals exact K_of hK (pushes _ _) (by grind [callOk])
end Go.Proofs.YtmjgakhnhjpclaaGreat

