/- A history's calls. No statement of the seat is proved here. -/
import Derived.Test.YtmjgakhnhjpclaaGreatVZHB
import Derived.Test.YtmjgakhnhjpclaaGreatVZVE
namespace Go.Proofs.YtmjgakhnhjpclaaGreat
open Go Go.VI
set_option linter.unusedSimpArgs false
def endP (l : List Event) (q : Idn) : Option Nat := l.findIdx? fun f => f.done && idOf f == q
structure Sp where
  call : Call
  frm : Nat
  to : Nat
  known : Bool
  reply : Reply
  start : Int
  stop : Int
def SpC (c : List AV) (p : Sp) : Prop := ∃ k h, c = [.int .i64 p.call.kind, k, .int .u64 p.call.token, .int .i64 p.call.ttl, .int .i64 p.frm, .int .i64 p.to, .bool p.known, .int .i64 p.reply.code, .int .u64 p.reply.token, h, .int .i64 p.start, .int .i64 p.stop] ∧
  isSl k (p.call.keys.map txtC) ∧ isSl h (intsA .u64 p.reply.holds)
theorem SpC.len {c : List AV} {p : Sp} (h : SpC c p) : c.length = 12 := by obtain ⟨k, h, rfl, _⟩ := h; rfl
def spanOf (l : List Event) (i : Nat) (e : Event) : Sp := match (endP l (idOf e)).bind fun k => (l[k]?).bind fun f => if f.unknown then none else some (k, f) with
  | some (k, f) => ⟨e.call, i, k, true, f.reply, e.time, f.time⟩
  | none => ⟨e.call, i, l.length, false, ⟨0, 0, []⟩, e.time, 0⟩
def spansTo (l : List Event) (n : Nat) : List Sp := (List.range n).filterMap fun i => (l[i]?).bind fun e => if e.done then none else some (spanOf l i e)
def spans (l : List Event) : List Sp := spansTo l l.length
theorem spansTo_succ {l : List Event} {n : Nat} {e : Event} (h : l[n]? = some e) : spansTo l (n + 1) = spansTo l n ++ (if e.done then [] else [spanOf l n e]) := by
  unfold spansTo
  rw [List.range_succ, List.filterMap_append]
  congr 1
  simp only [List.filterMap_cons, List.filterMap_nil, h, Option.bind_some]
  cases e.done <;> rfl
theorem spansTo_len (l : List Event) (n : Nat) : (spansTo l n).length ≤ n := by
  refine Nat.le_trans (List.length_filterMap_le _ _) ?_
  rw [List.length_range]; exact Nat.le_refl _
theorem endP_some {l : List Event} {q : Idn} {i : Nat} {f : Event} (hf : l[i]? = some f) (h : (f.done && idOf f == q) = true) (hn : ∀ j f, j < i → l[j]? = some f → (f.done && idOf f == q) = false) : endP l q = some i := by
  obtain ⟨hlt, rfl⟩ := List.getElem?_eq_some_iff.mp hf
  refine List.findIdx?_eq_some_iff_getElem.mpr ⟨hlt, h, fun j hj => ?_⟩
  have := hn j _ hj (List.getElem?_eq_getElem (by omega))
  rw [this]; simp
theorem endP_none {l : List Event} {q : Idn} (hn : ∀ j f, j < l.length → l[j]? = some f → (f.done && idOf f == q) = false) : endP l q = none := by
  refine List.findIdx?_eq_none_iff.mpr fun f hf => ?_
  obtain ⟨j, hj⟩ := List.mem_iff_getElem?.mp hf
  exact hn j f (List.getElem?_eq_some_iff.mp hj).1 hj
theorem endP_spec {l : List Event} {q : Idn} {i : Nat} (h : endP l q = some i) : ∃ f, l[i]? = some f ∧ f.done = true ∧ idOf f = q ∧ ∀ j g, j < i → l[j]? = some g → (g.done && idOf g == q) = false := by
  obtain ⟨hlt, h1, h2⟩ := List.findIdx?_eq_some_iff_getElem.mp h
  rw [Bool.and_eq_true, beq_iff_eq] at h1
  refine ⟨_, List.getElem?_eq_getElem hlt, h1.1, h1.2, fun j g hj hg => ?_⟩
  obtain ⟨hjl, rfl⟩ := List.getElem?_eq_some_iff.mp hg
  have := h2 j hj
  simpa using this
def evA (e : Event) (k w : AV) : List AV := [.int .i64 e.client, .int .u64 e.seq, .int .i64 e.time, .bool e.done, .bool e.unknown, .int .i64 e.call.kind, k, .int .u64 e.call.token, .int .i64 e.call.ttl, .int .i64 e.reply.code, .int .u64 e.reply.token, w]
attribute [local irreducible] Ws Wp W C
set_option maxHeartbeats 4000000
theorem ends_c {e f : Event} {k w k2 w2 : AV} {ty r : Nat} {s : Mem} {K : AV → Mem → Prop} (hk : isCell k2 = true) (hw : isCell w2 = true) (hg : s.get r = some ⟨ty, 12, [evA e k w]⟩) (hr : r < s.next)
    (hK : ∀ s', Keep s.next s s' → K (.bool (f.done && idOf f == idOf e)) s') : C tab 30 [.agg (evA f k2 w2), .ptr r 0 0] s K := by
  refine C_enter (cf := cf30) rfl (Nat.le_of_ble_eq_true rfl) ?_
  simp only [cf30, oo, on, om, og, oc, ou, evA] at hg ⊢
  have hne : (r = s.next) = False := by simp; omega
  (repeat' (with_reducible first|refine w_1 ?_|refine w_2 ?_|refine w_3 ?_|refine w_4 ?_|refine w_5 ?_|refine w_6 ?_|refine w_7 ?_|(refine w_8 (fun hb=>?_) (fun hb=>?_)<;>(try simp only [Bool.not_eq_true',Bool.not_eq_false'] at hb)<;>try simp only [hb])|(refine w_9 ?_;simp (maxDischargeDepth:=12) only [viz,↓reduceIte,Nat.reduceEqDiff,reduceCtorEq,Int.reduceEq,Int.reduceNeg,Nat.reduceAdd,Nat.reduceLeDiff,hk,hw,hg,hne,eqA_id])|refine w_10 (fun hc=>(by (try simp only [Bool.and_eq_true] at hc);simp (maxDischargeDepth:=12) only [viz,↓reduceIte,Nat.reduceEqDiff,reduceCtorEq,Int.reduceEq,Int.reduceNeg,Nat.reduceAdd,Nat.reduceLeDiff,hk,hw,hg,hne,eqA_id,hc];first|exact ⟨rfl,rfl⟩|exact rfl)) ?_|refine w_11 (fun hc=>(by (try simp only [Bool.and_eq_true] at hc);simp (maxDischargeDepth:=12) only [viz,↓reduceIte,Nat.reduceEqDiff,reduceCtorEq,Int.reduceEq,Int.reduceNeg,Nat.reduceAdd,Nat.reduceLeDiff,hk,hw,hg,hne,eqA_id,hc];first|exact ⟨rfl,rfl⟩|exact rfl)) ?_|refine w_12 ?_|simp (maxDischargeDepth:=12) only [viz,↓reduceIte,Nat.reduceEqDiff,reduceCtorEq,Int.reduceEq,Int.reduceNeg,Nat.reduceAdd,Nat.reduceLeDiff,hk,hw,hg,hne,eqA_id]))
  exact hK _ (pushes _ _)
theorem evIx_c {l : List Event} {v : AV} {e : Event} {k w : AV} {ty r : Nat} {s : Mem} {K : AV → Mem → Prop} (hv : Evs v l) (h64 : l.length ≤ 64) (hg : s.get r = some ⟨ty, 12, [evA e k w]⟩) (hr : r < s.next)
    (hK : ∀ s', Keep s.next s s' → K (.int .i64 (match endP l (idOf e) with | some k => (k : Int) | none => -1)) s') : C tab 29 [v, .fn 30 [.ptr r 0 0]] s K := by
  refine C_enter (cf := cf29) rfl (Nat.le_of_ble_eq_true rfl) ?_
  simp only [cf29, oo, on, om, og, oc, ou]
  have hl := hv.len
  (repeat' (with_reducible first|refine w_1 ?_|refine w_2 ?_|refine w_3 ?_|refine w_4 ?_|refine w_5 ?_|refine w_6 ?_|refine w_7 ?_|(refine w_8 (fun hb=>?_) (fun hb=>?_)<;>(try simp only [Bool.not_eq_true',Bool.not_eq_false'] at hb)<;>try simp only [hb])|(refine w_9 ?_;simp (maxDischargeDepth:=12) only [viz,↓reduceIte,Nat.reduceEqDiff,reduceCtorEq,Int.reduceEq,Int.reduceNeg,Nat.reduceAdd,Nat.reduceLeDiff,hl])|refine w_10 (fun hc=>(by (try simp only [Bool.and_eq_true] at hc);simp (maxDischargeDepth:=12) only [viz,↓reduceIte,Nat.reduceEqDiff,reduceCtorEq,Int.reduceEq,Int.reduceNeg,Nat.reduceAdd,Nat.reduceLeDiff,hl,hc];first|exact ⟨rfl,rfl⟩|exact rfl)) ?_|refine w_11 (fun hc=>(by (try simp only [Bool.and_eq_true] at hc);simp (maxDischargeDepth:=12) only [viz,↓reduceIte,Nat.reduceEqDiff,reduceCtorEq,Int.reduceEq,Int.reduceNeg,Nat.reduceAdd,Nat.reduceLeDiff,hl,hc];first|exact ⟨rfl,rfl⟩|exact rfl)) ?_|refine w_12 ?_|simp (maxDischargeDepth:=12) only [viz,↓reduceIte,Nat.reduceEqDiff,reduceCtorEq,Int.reduceEq,Int.reduceNeg,Nat.reduceAdd,Nat.reduceLeDiff,hl]))
  refine W_inv l.length (fun i E s' => Keep s.next s s' ∧ E.get 0 = v ∧ E.get 1 = .fn 30 [.ptr r 0 0] ∧ E.get 7 = .int .i64 l.length ∧ E.get 8 = .int .i64 i ∧ ∀ j f, j < i → l[j]? = some f → (f.done && idOf f == idOf e) = false) (by delta cf29l0 oo on om og oc ou; exact rfl) ?_ ?_
  · (repeat' (with_reducible first|refine w_1 ?_|refine w_2 ?_|refine w_3 ?_|refine w_4 ?_|refine w_5 ?_|refine w_6 ?_|refine w_7 ?_|(refine w_8 (fun hb=>?_) (fun hb=>?_)<;>(try simp only [Bool.not_eq_true',Bool.not_eq_false'] at hb)<;>try simp only [hb])|(refine w_9 ?_;simp (maxDischargeDepth:=12) only [viz,↓reduceIte,Nat.reduceEqDiff,reduceCtorEq,Int.reduceEq,Int.reduceNeg,Nat.reduceAdd,Nat.reduceLeDiff])|refine w_10 (fun hc=>(by (try simp only [Bool.and_eq_true] at hc);simp (maxDischargeDepth:=12) only [viz,↓reduceIte,Nat.reduceEqDiff,reduceCtorEq,Int.reduceEq,Int.reduceNeg,Nat.reduceAdd,Nat.reduceLeDiff,hc];first|exact ⟨rfl,rfl⟩|exact rfl)) ?_|refine w_11 (fun hc=>(by (try simp only [Bool.and_eq_true] at hc);simp (maxDischargeDepth:=12) only [viz,↓reduceIte,Nat.reduceEqDiff,reduceCtorEq,Int.reduceEq,Int.reduceNeg,Nat.reduceAdd,Nat.reduceLeDiff,hc];first|exact ⟨rfl,rfl⟩|exact rfl)) ?_|refine w_12 ?_|simp (maxDischargeDepth:=12) only [viz,↓reduceIte,Nat.reduceEqDiff,reduceCtorEq,Int.reduceEq,Int.reduceNeg,Nat.reduceAdd,Nat.reduceLeDiff]))
    exact ⟨rfl, by omega⟩
  rintro i E s' hile _ ⟨hi, g0, g1, g7, g8, hno⟩
  by_cases hlt : i < l.length
  · obtain ⟨f, hf⟩ := get_of hlt
    obtain ⟨k2, w2, hp, hk2, hw2⟩ := hv.at hf
    (repeat' (with_reducible first|refine w_1 ?_|refine w_2 ?_|refine w_3 ?_|refine w_4 ?_|refine w_5 ?_|refine w_6 ?_|refine w_7 ?_|(refine w_8 (fun hb=>?_) (fun hb=>?_)<;>(try simp only [Bool.not_eq_true',Bool.not_eq_false'] at hb)<;>try simp only [hb])|(refine w_9 ?_;simp (maxDischargeDepth:=12) only [viz,↓reduceIte,Nat.reduceEqDiff,reduceCtorEq,Int.reduceEq,Int.reduceNeg,Nat.reduceAdd,Nat.reduceLeDiff,g0,g1,g7,g8,lt_true hlt,hp])|refine w_10 (fun hc=>(by (try simp only [Bool.and_eq_true] at hc);simp (maxDischargeDepth:=12) only [viz,↓reduceIte,Nat.reduceEqDiff,reduceCtorEq,Int.reduceEq,Int.reduceNeg,Nat.reduceAdd,Nat.reduceLeDiff,g0,g1,g7,g8,lt_true hlt,hp,hc];first|exact ⟨rfl,rfl⟩|exact rfl)) ?_|refine w_11 (fun hc=>(by (try simp only [Bool.and_eq_true] at hc);simp (maxDischargeDepth:=12) only [viz,↓reduceIte,Nat.reduceEqDiff,reduceCtorEq,Int.reduceEq,Int.reduceNeg,Nat.reduceAdd,Nat.reduceLeDiff,g0,g1,g7,g8,lt_true hlt,hp,hc];first|exact ⟨rfl,rfl⟩|exact rfl)) ?_|refine w_12 ?_|simp (maxDischargeDepth:=12) only [viz,↓reduceIte,Nat.reduceEqDiff,reduceCtorEq,Int.reduceEq,Int.reduceNeg,Nat.reduceAdd,Nat.reduceLeDiff,g0,g1,g7,g8,lt_true hlt,hp]))
    refine ends_c (e := e) hk2.cell hw2.cell (by rw [hi.get _ hr]; exact hg) (Nat.lt_of_lt_of_le hr hi.next) fun s2 h2 => ?_
    (repeat' (with_reducible first|refine w_1 ?_|refine w_2 ?_|refine w_3 ?_|refine w_4 ?_|refine w_5 ?_|refine w_6 ?_|refine w_7 ?_|(refine w_8 (fun hb=>?_) (fun hb=>?_)<;>(try simp only [Bool.not_eq_true',Bool.not_eq_false'] at hb)<;>try simp only [hb])|(refine w_9 ?_;simp (maxDischargeDepth:=12) only [viz,↓reduceIte,Nat.reduceEqDiff,reduceCtorEq,Int.reduceEq,Int.reduceNeg,Nat.reduceAdd,Nat.reduceLeDiff,g0,g1,g7,g8])|refine w_10 (fun hc=>(by (try simp only [Bool.and_eq_true] at hc);simp (maxDischargeDepth:=12) only [viz,↓reduceIte,Nat.reduceEqDiff,reduceCtorEq,Int.reduceEq,Int.reduceNeg,Nat.reduceAdd,Nat.reduceLeDiff,g0,g1,g7,g8,hc];first|exact ⟨rfl,rfl⟩|exact rfl)) ?_|refine w_11 (fun hc=>(by (try simp only [Bool.and_eq_true] at hc);simp (maxDischargeDepth:=12) only [viz,↓reduceIte,Nat.reduceEqDiff,reduceCtorEq,Int.reduceEq,Int.reduceNeg,Nat.reduceAdd,Nat.reduceLeDiff,g0,g1,g7,g8,hc];first|exact ⟨rfl,rfl⟩|exact rfl)) ?_|refine w_12 ?_|simp (maxDischargeDepth:=12) only [viz,↓reduceIte,Nat.reduceEqDiff,reduceCtorEq,Int.reduceEq,Int.reduceNeg,Nat.reduceAdd,Nat.reduceLeDiff,g0,g1,g7,g8]))
    · rw [endP_some hf hb hno] at hK
      exact hK _ (hi.then h2)
    · refine ⟨hlt, hi.then h2, succ_av (by omega), fun j g hj hg => ?_⟩
      by_cases hji : j = i
      · rw [hji, hf] at hg; obtain rfl := Option.some.inj hg; exact hb
      · exact hno j g (by omega) hg
  · (repeat' (with_reducible first|refine w_1 ?_|refine w_2 ?_|refine w_3 ?_|refine w_4 ?_|refine w_5 ?_|refine w_6 ?_|refine w_7 ?_|(refine w_8 (fun hb=>?_) (fun hb=>?_)<;>(try simp only [Bool.not_eq_true',Bool.not_eq_false'] at hb)<;>try simp only [hb])|(refine w_9 ?_;simp (maxDischargeDepth:=12) only [viz,↓reduceIte,Nat.reduceEqDiff,reduceCtorEq,Int.reduceEq,Int.reduceNeg,Nat.reduceAdd,Nat.reduceLeDiff,g0,g1,g7,g8,lt_false hlt])|refine w_10 (fun hc=>(by (try simp only [Bool.and_eq_true] at hc);simp (maxDischargeDepth:=12) only [viz,↓reduceIte,Nat.reduceEqDiff,reduceCtorEq,Int.reduceEq,Int.reduceNeg,Nat.reduceAdd,Nat.reduceLeDiff,g0,g1,g7,g8,lt_false hlt,hc];first|exact ⟨rfl,rfl⟩|exact rfl)) ?_|refine w_11 (fun hc=>(by (try simp only [Bool.and_eq_true] at hc);simp (maxDischargeDepth:=12) only [viz,↓reduceIte,Nat.reduceEqDiff,reduceCtorEq,Int.reduceEq,Int.reduceNeg,Nat.reduceAdd,Nat.reduceLeDiff,g0,g1,g7,g8,lt_false hlt,hc];first|exact ⟨rfl,rfl⟩|exact rfl)) ?_|refine w_12 ?_|simp (maxDischargeDepth:=12) only [viz,↓reduceIte,Nat.reduceEqDiff,reduceCtorEq,Int.reduceEq,Int.reduceNeg,Nat.reduceAdd,Nat.reduceLeDiff,g0,g1,g7,g8,lt_false hlt]))
    rw [endP_none fun j f hj => hno j f (by omega)] at hK
    exact hK _ hi
theorem spans_c {l : List Event} {v : AV} {s : Mem} {K : AV → Mem → Prop} (hf : s.floor ≤ s.next) (hv : Evs v l) (h64 : l.length ≤ 64)
    (hK : ∀ v' s' ys, Keep s.next s s' → OwnL s' s.next v' 46 12 ys → LsC SpC ys (spans l) → K v' s') : C tab 15 [v] s K := by
  refine C_enter (cf := cf15) rfl (Nat.le_of_ble_eq_true rfl) ?_
  simp only [cf15, oo, on, om, og, oc, ou]
  have hl := hv.len
  (repeat' (with_reducible first|refine w_1 ?_|refine w_2 ?_|refine w_3 ?_|refine w_4 ?_|refine w_5 ?_|refine w_6 ?_|refine w_7 ?_|(refine w_8 (fun hb=>?_) (fun hb=>?_)<;>(try simp only [Bool.not_eq_true',Bool.not_eq_false'] at hb)<;>try simp only [hb])|(refine w_9 ?_;simp (maxDischargeDepth:=12) only [viz,↓reduceIte,Nat.reduceEqDiff,reduceCtorEq,Int.reduceEq,Int.reduceNeg,Nat.reduceAdd,Nat.reduceLeDiff,hl])|refine w_10 (fun hc=>(by (try simp only [Bool.and_eq_true] at hc);simp (maxDischargeDepth:=12) only [viz,↓reduceIte,Nat.reduceEqDiff,reduceCtorEq,Int.reduceEq,Int.reduceNeg,Nat.reduceAdd,Nat.reduceLeDiff,hl,hc];first|exact ⟨rfl,rfl⟩|exact rfl)) ?_|refine w_11 (fun hc=>(by (try simp only [Bool.and_eq_true] at hc);simp (maxDischargeDepth:=12) only [viz,↓reduceIte,Nat.reduceEqDiff,reduceCtorEq,Int.reduceEq,Int.reduceNeg,Nat.reduceAdd,Nat.reduceLeDiff,hl,hc];first|exact ⟨rfl,rfl⟩|exact rfl)) ?_|refine w_12 ?_|simp (maxDischargeDepth:=12) only [viz,↓reduceIte,Nat.reduceEqDiff,reduceCtorEq,Int.reduceEq,Int.reduceNeg,Nat.reduceAdd,Nat.reduceLeDiff,hl]))
  refine W_inv l.length (fun i E s' => Keep s.next s s' ∧ E.get 0 = v ∧ E.get 8 = v ∧ E.get 9 = .int .i64 l.length ∧ E.get 10 = .int .i64 i ∧ ∃ w ys, E.get 3 = w ∧ OwnL s' s.next w 46 12 ys ∧ LsC SpC ys (spansTo l i)) (by delta cf15l0 oo on om og oc ou; exact rfl) ?_ ?_
  · (repeat' (with_reducible first|refine w_1 ?_|refine w_2 ?_|refine w_3 ?_|refine w_4 ?_|refine w_5 ?_|refine w_6 ?_|refine w_7 ?_|(refine w_8 (fun hb=>?_) (fun hb=>?_)<;>(try simp only [Bool.not_eq_true',Bool.not_eq_false'] at hb)<;>try simp only [hb])|(refine w_9 ?_;simp (maxDischargeDepth:=12) only [viz,↓reduceIte,Nat.reduceEqDiff,reduceCtorEq,Int.reduceEq,Int.reduceNeg,Nat.reduceAdd,Nat.reduceLeDiff])|refine w_10 (fun hc=>(by (try simp only [Bool.and_eq_true] at hc);simp (maxDischargeDepth:=12) only [viz,↓reduceIte,Nat.reduceEqDiff,reduceCtorEq,Int.reduceEq,Int.reduceNeg,Nat.reduceAdd,Nat.reduceLeDiff,hc];first|exact ⟨rfl,rfl⟩|exact rfl)) ?_|refine w_11 (fun hc=>(by (try simp only [Bool.and_eq_true] at hc);simp (maxDischargeDepth:=12) only [viz,↓reduceIte,Nat.reduceEqDiff,reduceCtorEq,Int.reduceEq,Int.reduceNeg,Nat.reduceAdd,Nat.reduceLeDiff,hc];first|exact ⟨rfl,rfl⟩|exact rfl)) ?_|refine w_12 ?_|simp (maxDischargeDepth:=12) only [viz,↓reduceIte,Nat.reduceEqDiff,reduceCtorEq,Int.reduceEq,Int.reduceNeg,Nat.reduceAdd,Nat.reduceLeDiff]))
    exact ⟨rfl, .nilS, [], rfl, OwnL.nil _ _ _ _, LsC.nil _⟩
  rintro i E s' hile _ ⟨hi, g0, g8, g9, g10, w, ys, g3, ho, hys⟩
  by_cases hlt : i < l.length
  · obtain ⟨e, he⟩ := get_of hlt
    obtain ⟨k, h, hp, hk, hh⟩ := hv.at he
    have hfl := hi.ok hf
    have hsn := hi.next
    (repeat' (with_reducible first|refine w_1 ?_|refine w_2 ?_|refine w_3 ?_|refine w_4 ?_|refine w_5 ?_|refine w_6 ?_|refine w_7 ?_|(refine w_8 (fun hb=>?_) (fun hb=>?_)<;>(try simp only [Bool.not_eq_true',Bool.not_eq_false'] at hb)<;>try simp only [hb])|(refine w_9 ?_;simp (maxDischargeDepth:=12) only [viz,↓reduceIte,Nat.reduceEqDiff,reduceCtorEq,Int.reduceEq,Int.reduceNeg,Nat.reduceAdd,Nat.reduceLeDiff,g0,g8,g9,g10,g3,lt_true hlt,hp,hk.cell,hh.cell,hfl,hl])|refine w_10 (fun hc=>(by (try simp only [Bool.and_eq_true] at hc);simp (maxDischargeDepth:=12) only [viz,↓reduceIte,Nat.reduceEqDiff,reduceCtorEq,Int.reduceEq,Int.reduceNeg,Nat.reduceAdd,Nat.reduceLeDiff,g0,g8,g9,g10,g3,lt_true hlt,hp,hk.cell,hh.cell,hfl,hl,hc];first|exact ⟨rfl,rfl⟩|exact rfl)) ?_|refine w_11 (fun hc=>(by (try simp only [Bool.and_eq_true] at hc);simp (maxDischargeDepth:=12) only [viz,↓reduceIte,Nat.reduceEqDiff,reduceCtorEq,Int.reduceEq,Int.reduceNeg,Nat.reduceAdd,Nat.reduceLeDiff,g0,g8,g9,g10,g3,lt_true hlt,hp,hk.cell,hh.cell,hfl,hl,hc];first|exact ⟨rfl,rfl⟩|exact rfl)) ?_|refine w_12 ?_|simp (maxDischargeDepth:=12) only [viz,↓reduceIte,Nat.reduceEqDiff,reduceCtorEq,Int.reduceEq,Int.reduceNeg,Nat.reduceAdd,Nat.reduceLeDiff,g0,g8,g9,g10,g3,lt_true hlt,hp,hk.cell,hh.cell,hfl,hl]))
    · rw [spansTo_succ he, hb]
      exact ⟨hlt, hi.then (pushes _ _), succ_av (by omega), w, ys, rfl, ho.push _, by simpa using hys⟩
    have hs := spansTo_succ he
    rw [hb] at hs
    refine evIx_c (e := e) (k := k) (w := h) (ty := 39) hv h64 (by simp only [Mem.get_push, next_push', if_true, evA, hb]; rw [if_neg (by omega)]) (by simp only [next_push']; omega) fun s2 h2 => ?_
    have hk2 := (pushes s' _).then ((pushes _ _).then h2)
    have hg5 := (h2.get s'.next (by simp only [next_push']; omega)).trans (by simp only [Mem.get_push, next_push']; rw [if_neg (by omega), if_pos trivial])
    have hg6 := (h2.get (s'.next + 1) (by simp only [next_push']; omega)).trans (by simp only [Mem.get_push, next_push']; rw [if_pos trivial])
    have ho2 := ho.keep hk2 fun q hq => (ho.row q _ _ _ hq).2
    have hfl2 := (hi.then hk2).ok hf
    have hf6 : s2.floor ≤ s'.next + 1 := by rw [hk2.floor]; omega
    have hsn2 := hk2.next
    have hyl := hys.1
    have hyn := spansTo_len l i
    have hfle : s2.floor = s.floor := hk2.floor.trans hi.floor
    have hyl := hys.1
    have hyn := spansTo_len l i
    have hfle : s2.floor = s.floor := hk2.floor.trans hi.floor
    have hun : spanOf l i e = ⟨e.call, i, l.length, false, ⟨0, 0, []⟩, e.time, 0⟩ → ∀ k, isSl k (e.call.keys.map txtC) → SpC [.int .i64 e.call.kind, k, .int .u64 e.call.token, .int .i64 e.call.ttl, .int .i64 i, .int .i64 l.length, .bool false, .int .i64 0, .int .u64 0, .nilS, .int .i64 e.time, .int .i64 0] (spanOf l i e) := fun h k hk => by
      rw [h]; exact ⟨k, .nilS, rfl, hk, .inl ⟨rfl, rfl⟩⟩
    rcases hE : endP l (idOf e) with _ | kx
    · (repeat' (with_reducible first|refine w_1 ?_|refine w_2 ?_|refine w_3 ?_|refine w_4 ?_|refine w_5 ?_|refine w_6 ?_|refine w_7 ?_|(refine w_8 (fun hb=>?_) (fun hb=>?_)<;>(try simp only [Bool.not_eq_true',Bool.not_eq_false'] at hb)<;>try simp only [hb])|(refine w_9 ?_;simp (maxDischargeDepth:=12) only [viz,↓reduceIte,Nat.reduceEqDiff,reduceCtorEq,Int.reduceEq,Int.reduceNeg,Nat.reduceAdd,Nat.reduceLeDiff,g0,g8,g9,g10,g3,hg5,hg6,hfl2,hf6,hk.cell,bne_self_eq_false, Int.reduceBEq, Int.reduceBNe, Int.reduceLT, Int.reduceLE, Int.reduceGT, Int.reduceGE])|refine w_10 (fun hc=>(by (try simp only [Bool.and_eq_true] at hc);simp (maxDischargeDepth:=12) only [viz,↓reduceIte,Nat.reduceEqDiff,reduceCtorEq,Int.reduceEq,Int.reduceNeg,Nat.reduceAdd,Nat.reduceLeDiff,g0,g8,g9,g10,g3,hg5,hg6,hfl2,hf6,hk.cell,bne_self_eq_false, Int.reduceBEq, Int.reduceBNe, Int.reduceLT, Int.reduceLE, Int.reduceGT, Int.reduceGE,hc];first|exact ⟨rfl,rfl⟩|exact rfl)) ?_|refine w_11 (fun hc=>(by (try simp only [Bool.and_eq_true] at hc);simp (maxDischargeDepth:=12) only [viz,↓reduceIte,Nat.reduceEqDiff,reduceCtorEq,Int.reduceEq,Int.reduceNeg,Nat.reduceAdd,Nat.reduceLeDiff,g0,g8,g9,g10,g3,hg5,hg6,hfl2,hf6,hk.cell,bne_self_eq_false, Int.reduceBEq, Int.reduceBNe, Int.reduceLT, Int.reduceLE, Int.reduceGT, Int.reduceGE,hc];first|exact ⟨rfl,rfl⟩|exact rfl)) ?_|refine w_12 ?_|simp (maxDischargeDepth:=12) only [viz,↓reduceIte,Nat.reduceEqDiff,reduceCtorEq,Int.reduceEq,Int.reduceNeg,Nat.reduceAdd,Nat.reduceLeDiff,g0,g8,g9,g10,g3,hg5,hg6,hfl2,hf6,hk.cell,bne_self_eq_false, Int.reduceBEq, Int.reduceBNe, Int.reduceLT, Int.reduceLE, Int.reduceGT, Int.reduceGE]))
      refine app_lit (v := w) (k := 1) (b := s.next) (xs := ys) (by rw [hfle]; exact hf) (by omega) ho2 (by simp only [ev, Env.get_set, ↓reduceIte, Nat.reduceEqDiff]) (by simp only [ev, Env.get_set, ↓reduceIte, Nat.reduceEqDiff]) rfl rfl (room (by rw [hyl, List.length_singleton]; omega) (by rw [hyl, List.length_singleton]; omega)) ?_
      intro v5 s5 ho5 hx5 _ _
      (repeat' (with_reducible first|refine w_1 ?_|refine w_2 ?_|refine w_3 ?_|refine w_4 ?_|refine w_5 ?_|refine w_6 ?_|refine w_7 ?_|(refine w_8 (fun hb=>?_) (fun hb=>?_)<;>(try simp only [Bool.not_eq_true',Bool.not_eq_false'] at hb)<;>try simp only [hb])|(refine w_9 ?_;simp (maxDischargeDepth:=12) only [viz,↓reduceIte,Nat.reduceEqDiff,reduceCtorEq,Int.reduceEq,Int.reduceNeg,Nat.reduceAdd,Nat.reduceLeDiff,g0,g8,g9,g10])|refine w_10 (fun hc=>(by (try simp only [Bool.and_eq_true] at hc);simp (maxDischargeDepth:=12) only [viz,↓reduceIte,Nat.reduceEqDiff,reduceCtorEq,Int.reduceEq,Int.reduceNeg,Nat.reduceAdd,Nat.reduceLeDiff,g0,g8,g9,g10,hc];first|exact ⟨rfl,rfl⟩|exact rfl)) ?_|refine w_11 (fun hc=>(by (try simp only [Bool.and_eq_true] at hc);simp (maxDischargeDepth:=12) only [viz,↓reduceIte,Nat.reduceEqDiff,reduceCtorEq,Int.reduceEq,Int.reduceNeg,Nat.reduceAdd,Nat.reduceLeDiff,g0,g8,g9,g10,hc];first|exact ⟨rfl,rfl⟩|exact rfl)) ?_|refine w_12 ?_|simp (maxDischargeDepth:=12) only [viz,↓reduceIte,Nat.reduceEqDiff,reduceCtorEq,Int.reduceEq,Int.reduceNeg,Nat.reduceAdd,Nat.reduceLeDiff,g0,g8,g9,g10]))
      rw [hs]
      exact ⟨hlt, (hi.then hk2).trans (hx5.keep (by omega) fun q i n z hq => (ho.row q i n z hq).1), succ_av (by omega), v5, _, rfl, ho5, hys.append (LsC.one (hun (by simp only [spanOf, hE, Option.bind_none]) k hk))⟩
    · obtain ⟨f, hfx, hfd, hfq, hfn⟩ := endP_spec hE
      obtain ⟨k3, w3, hp3, hk3, hw3⟩ := hv.at hfx
      have hkx : decide ((kx : Int) ≥ 0) = true := by simp
      (repeat' (with_reducible first|refine w_1 ?_|refine w_2 ?_|refine w_3 ?_|refine w_4 ?_|refine w_5 ?_|refine w_6 ?_|refine w_7 ?_|(refine w_8 (fun hb=>?_) (fun hb=>?_)<;>(try simp only [Bool.not_eq_true',Bool.not_eq_false'] at hb)<;>try simp only [hb])|(refine w_9 ?_;simp (maxDischargeDepth:=12) only [viz,↓reduceIte,Nat.reduceEqDiff,reduceCtorEq,Int.reduceEq,Int.reduceNeg,Nat.reduceAdd,Nat.reduceLeDiff,g0,g8,g9,g10,g3,hg5,hg6,hfl2,hf6,hkx,hp3,hk.cell,hk3.cell,hw3.cell,List.drop_succ_cons,List.drop_zero])|refine w_10 (fun hc=>(by (try simp only [Bool.and_eq_true] at hc);simp (maxDischargeDepth:=12) only [viz,↓reduceIte,Nat.reduceEqDiff,reduceCtorEq,Int.reduceEq,Int.reduceNeg,Nat.reduceAdd,Nat.reduceLeDiff,g0,g8,g9,g10,g3,hg5,hg6,hfl2,hf6,hkx,hp3,hk.cell,hk3.cell,hw3.cell,List.drop_succ_cons,List.drop_zero,hc];first|exact ⟨rfl,rfl⟩|exact rfl)) ?_|refine w_11 (fun hc=>(by (try simp only [Bool.and_eq_true] at hc);simp (maxDischargeDepth:=12) only [viz,↓reduceIte,Nat.reduceEqDiff,reduceCtorEq,Int.reduceEq,Int.reduceNeg,Nat.reduceAdd,Nat.reduceLeDiff,g0,g8,g9,g10,g3,hg5,hg6,hfl2,hf6,hkx,hp3,hk.cell,hk3.cell,hw3.cell,List.drop_succ_cons,List.drop_zero,hc];first|exact ⟨rfl,rfl⟩|exact rfl)) ?_|refine w_12 ?_|simp (maxDischargeDepth:=12) only [viz,↓reduceIte,Nat.reduceEqDiff,reduceCtorEq,Int.reduceEq,Int.reduceNeg,Nat.reduceAdd,Nat.reduceLeDiff,g0,g8,g9,g10,g3,hg5,hg6,hfl2,hf6,hkx,hp3,hk.cell,hk3.cell,hw3.cell,List.drop_succ_cons,List.drop_zero]))
      · generalize hP : Mem.put _ _ _ = P
        have kP : Keep (s'.next + 1) s2 P := ⟨by rw [← hP]; simp only [next_put']; exact Nat.le_refl _, by rw [← hP]; rfl, fun q hq => by rw [← hP]; simp only [Mem.get_put]; rw [if_neg (by omega), if_neg (by omega), if_neg (by omega), if_neg (by omega)]⟩
        have hoP := ho2.keep kP fun q hq => by have := (ho.row q _ _ _ hq).2; omega
        have hkP : Keep s.next s P := (hi.then hk2).trans (kP.le (by omega))
        have hnP := kP.next
        have hPn : P.next = s2.next := by rw [← hP]; rfl
        have e1 : spanOf l i e = ⟨e.call, i, kx, true, f.reply, e.time, f.time⟩ := by simp [spanOf, hE, hfx, hb]
        refine app_lit (v := w) (k := 1) (b := s.next) (xs := ys) (by rw [hkP.floor]; exact hf) (by omega) hoP (by simp only [ev, Env.get_set, ↓reduceIte, Nat.reduceEqDiff]) (by simp only [ev, Env.get_set, ↓reduceIte, Nat.reduceEqDiff, hPn]) rfl rfl (room (by rw [hyl, List.length_singleton]; omega) (by rw [hyl, List.length_singleton]; omega)) ?_
        intro v5 s5 ho5 hx5 _ _
        (repeat' (with_reducible first|refine w_1 ?_|refine w_2 ?_|refine w_3 ?_|refine w_4 ?_|refine w_5 ?_|refine w_6 ?_|refine w_7 ?_|(refine w_8 (fun hb=>?_) (fun hb=>?_)<;>(try simp only [Bool.not_eq_true',Bool.not_eq_false'] at hb)<;>try simp only [hb])|(refine w_9 ?_;simp (maxDischargeDepth:=12) only [viz,↓reduceIte,Nat.reduceEqDiff,reduceCtorEq,Int.reduceEq,Int.reduceNeg,Nat.reduceAdd,Nat.reduceLeDiff,g0,g8,g9,g10])|refine w_10 (fun hc=>(by (try simp only [Bool.and_eq_true] at hc);simp (maxDischargeDepth:=12) only [viz,↓reduceIte,Nat.reduceEqDiff,reduceCtorEq,Int.reduceEq,Int.reduceNeg,Nat.reduceAdd,Nat.reduceLeDiff,g0,g8,g9,g10,hc];first|exact ⟨rfl,rfl⟩|exact rfl)) ?_|refine w_11 (fun hc=>(by (try simp only [Bool.and_eq_true] at hc);simp (maxDischargeDepth:=12) only [viz,↓reduceIte,Nat.reduceEqDiff,reduceCtorEq,Int.reduceEq,Int.reduceNeg,Nat.reduceAdd,Nat.reduceLeDiff,g0,g8,g9,g10,hc];first|exact ⟨rfl,rfl⟩|exact rfl)) ?_|refine w_12 ?_|simp (maxDischargeDepth:=12) only [viz,↓reduceIte,Nat.reduceEqDiff,reduceCtorEq,Int.reduceEq,Int.reduceNeg,Nat.reduceAdd,Nat.reduceLeDiff,g0,g8,g9,g10]))
        rw [hs]
        exact ⟨hlt, hkP.trans (hx5.keep (by omega) fun q i n z hq => (ho.row q i n z hq).1), succ_av (by omega), v5, _, rfl, ho5, hys.append (LsC.one (by rw [e1]; exact ⟨k, w3, rfl, hk, hw3⟩))⟩
      · have e1 : spanOf l i e = ⟨e.call, i, l.length, false, ⟨0, 0, []⟩, e.time, 0⟩ := by simp [spanOf, hE, hfx, hb]
        refine app_lit (v := w) (k := 1) (b := s.next) (xs := ys) (by rw [hfle]; exact hf) (by omega) ho2 (by simp only [ev, Env.get_set, ↓reduceIte, Nat.reduceEqDiff]) (by simp only [ev, Env.get_set, ↓reduceIte, Nat.reduceEqDiff]) rfl rfl (room (by rw [hyl, List.length_singleton]; omega) (by rw [hyl, List.length_singleton]; omega)) ?_
        intro v5 s5 ho5 hx5 _ _
        (repeat' (with_reducible first|refine w_1 ?_|refine w_2 ?_|refine w_3 ?_|refine w_4 ?_|refine w_5 ?_|refine w_6 ?_|refine w_7 ?_|(refine w_8 (fun hb=>?_) (fun hb=>?_)<;>(try simp only [Bool.not_eq_true',Bool.not_eq_false'] at hb)<;>try simp only [hb])|(refine w_9 ?_;simp (maxDischargeDepth:=12) only [viz,↓reduceIte,Nat.reduceEqDiff,reduceCtorEq,Int.reduceEq,Int.reduceNeg,Nat.reduceAdd,Nat.reduceLeDiff,g0,g8,g9,g10])|refine w_10 (fun hc=>(by (try simp only [Bool.and_eq_true] at hc);simp (maxDischargeDepth:=12) only [viz,↓reduceIte,Nat.reduceEqDiff,reduceCtorEq,Int.reduceEq,Int.reduceNeg,Nat.reduceAdd,Nat.reduceLeDiff,g0,g8,g9,g10,hc];first|exact ⟨rfl,rfl⟩|exact rfl)) ?_|refine w_11 (fun hc=>(by (try simp only [Bool.and_eq_true] at hc);simp (maxDischargeDepth:=12) only [viz,↓reduceIte,Nat.reduceEqDiff,reduceCtorEq,Int.reduceEq,Int.reduceNeg,Nat.reduceAdd,Nat.reduceLeDiff,g0,g8,g9,g10,hc];first|exact ⟨rfl,rfl⟩|exact rfl)) ?_|refine w_12 ?_|simp (maxDischargeDepth:=12) only [viz,↓reduceIte,Nat.reduceEqDiff,reduceCtorEq,Int.reduceEq,Int.reduceNeg,Nat.reduceAdd,Nat.reduceLeDiff,g0,g8,g9,g10]))
        rw [hs]
        exact ⟨hlt, (hi.then hk2).trans (hx5.keep (by omega) fun q i n z hq => (ho.row q i n z hq).1), succ_av (by omega), v5, _, rfl, ho5, hys.append (LsC.one (hun e1 k hk))⟩
  · (repeat' (with_reducible first|refine w_1 ?_|refine w_2 ?_|refine w_3 ?_|refine w_4 ?_|refine w_5 ?_|refine w_6 ?_|refine w_7 ?_|(refine w_8 (fun hb=>?_) (fun hb=>?_)<;>(try simp only [Bool.not_eq_true',Bool.not_eq_false'] at hb)<;>try simp only [hb])|(refine w_9 ?_;simp (maxDischargeDepth:=12) only [viz,↓reduceIte,Nat.reduceEqDiff,reduceCtorEq,Int.reduceEq,Int.reduceNeg,Nat.reduceAdd,Nat.reduceLeDiff,g0,g8,g9,g10,g3,lt_false hlt])|refine w_10 (fun hc=>(by (try simp only [Bool.and_eq_true] at hc);simp (maxDischargeDepth:=12) only [viz,↓reduceIte,Nat.reduceEqDiff,reduceCtorEq,Int.reduceEq,Int.reduceNeg,Nat.reduceAdd,Nat.reduceLeDiff,g0,g8,g9,g10,g3,lt_false hlt,hc];first|exact ⟨rfl,rfl⟩|exact rfl)) ?_|refine w_11 (fun hc=>(by (try simp only [Bool.and_eq_true] at hc);simp (maxDischargeDepth:=12) only [viz,↓reduceIte,Nat.reduceEqDiff,reduceCtorEq,Int.reduceEq,Int.reduceNeg,Nat.reduceAdd,Nat.reduceLeDiff,g0,g8,g9,g10,g3,lt_false hlt,hc];first|exact ⟨rfl,rfl⟩|exact rfl)) ?_|refine w_12 ?_|simp (maxDischargeDepth:=12) only [viz,↓reduceIte,Nat.reduceEqDiff,reduceCtorEq,Int.reduceEq,Int.reduceNeg,Nat.reduceAdd,Nat.reduceLeDiff,g0,g8,g9,g10,g3,lt_false hlt]))
    have : i = l.length := by omega
    subst this
    exact hK _ _ _ hi ho hys
end Go.Proofs.YtmjgakhnhjpclaaGreat
/- What is taken of a history's calls. No statement of the seat is proved here. -/
namespace Go.Proofs.YtmjgakhnhjpclaaGreat
open Go Go.VI
set_option linter.unusedSimpArgs false
def bdV (v : AV) (K : Option Nat → Prop) : Prop :=
  match v with
  | .int _ n => match toNat? n with
    | some j => K (some j)
    | none => False
  | _ => False
theorem bdA_some (e : Env) (x : Opd) (K : Option Nat → Prop) : bdA e (some x) K = bdV (ev e x) K := id rfl
theorem bdV_nat (k : IntKind) (n : Nat) (K : Option Nat → Prop) : bdV (.int k (n : Int)) K = K (some n) := by simp only [bdV, toNat_cast]
def FnP (G : Mem → Prop) (f : Nat) (cp : List AV) (p : Sp → Bool) : Prop := ∀ (c : List AV) (x : Sp) (M : Mem) (K : AV → Mem → Prop), G M → x.call.keys.length ≤ 16 → SpC c x → (∀ M', Keep M.next M M' → K (.bool (p x)) M') → C tab f (.agg c :: cp) M K
theorem SpC.one {c : List AV} {p : Sp} (h : SpC c p) : (slice1 c 0 12).bind (pickCells true) = some (.agg c) := by
  obtain ⟨k, w, rfl, h1, h2⟩ := h; rfl
def idx {α : Type} (l : List α) (p : α → Bool) : Int := match l.findIdx? p with | some k => (k : Int) | none => -1
theorem idx_at {α : Type} {l : List α} {p : α → Bool} {i : Nat} {x : α} (hx : l[i]? = some x) (h : p x = true) (hn : ∀ j y, j < i → l[j]? = some y → p y = false) : l.findIdx? p = some i := by
  obtain ⟨hlt, rfl⟩ := List.getElem?_eq_some_iff.mp hx
  refine List.findIdx?_eq_some_iff_getElem.mpr ⟨hlt, h, fun j hj => ?_⟩
  rw [hn j _ hj (List.getElem?_eq_getElem (by omega))]; simp
theorem idx_no {α : Type} {l : List α} {p : α → Bool} (hn : ∀ j y, j < l.length → l[j]? = some y → p y = false) : l.findIdx? p = none := by
  refine List.findIdx?_eq_none_iff.mpr fun y hy => ?_
  obtain ⟨j, hj⟩ := List.mem_iff_getElem?.mp hy
  exact hn j y (List.getElem?_eq_some_iff.mp hj).1 hj
attribute [local irreducible] Ws Wp W C
set_option maxHeartbeats 4000000
theorem spIx_c {l : List Sp} {v : AV} {ys : List (List AV)} {D : Nat → Prop} {f : Nat} {cp : List AV} {p : Sp → Bool} {G : Mem → Prop} {s : Mem} {K : AV → Mem → Prop} (hI : In D s) (hv : Sl s D v 12 ys) (hy : LsC SpC ys l) (h64 : l.length ≤ 64) (h16 : ∀ x ∈ l, x.call.keys.length ≤ 16)
    (hG : ∀ M, Keep s.next s M → G M) (hp : FnP G f cp p)
    (hK : ∀ s', Keep s.next s s' → K (.int .i64 (idx l p)) s') : C tab 37 [v, .fn f cp] s K := by
  refine C_enter (cf := cf37) rfl (Nat.le_of_ble_eq_true rfl) ?_
  simp only [cf37, oo, on, om, og, oc, ou]
  have hl : lenA false v = some l.length := by rw [hv.len, hy.1]
  (repeat' (with_reducible first|refine w_1 ?_|refine w_2 ?_|refine w_3 ?_|refine w_4 ?_|refine w_5 ?_|refine w_6 ?_|refine w_7 ?_|(refine w_8 (fun hb=>?_) (fun hb=>?_)<;>(try simp only [Bool.not_eq_true',Bool.not_eq_false'] at hb)<;>try simp only [hb])|(refine w_9 ?_;simp (maxDischargeDepth:=12) only [viz,↓reduceIte,Nat.reduceEqDiff,reduceCtorEq,Int.reduceEq,Int.reduceNeg,Nat.reduceAdd,Nat.reduceLeDiff,hl])|refine w_10 (fun hc=>(by (try simp only [Bool.and_eq_true] at hc);simp (maxDischargeDepth:=12) only [viz,↓reduceIte,Nat.reduceEqDiff,reduceCtorEq,Int.reduceEq,Int.reduceNeg,Nat.reduceAdd,Nat.reduceLeDiff,hl,hc];first|exact ⟨rfl,rfl⟩|exact rfl)) ?_|refine w_11 (fun hc=>(by (try simp only [Bool.and_eq_true] at hc);simp (maxDischargeDepth:=12) only [viz,↓reduceIte,Nat.reduceEqDiff,reduceCtorEq,Int.reduceEq,Int.reduceNeg,Nat.reduceAdd,Nat.reduceLeDiff,hl,hc];first|exact ⟨rfl,rfl⟩|exact rfl)) ?_|refine w_12 ?_|simp (maxDischargeDepth:=12) only [viz,↓reduceIte,Nat.reduceEqDiff,reduceCtorEq,Int.reduceEq,Int.reduceNeg,Nat.reduceAdd,Nat.reduceLeDiff,hl]))
  refine W_inv l.length (fun i E s' => Keep s.next s s' ∧ E.get 0 = v ∧ E.get 1 = .fn f cp ∧ E.get 7 = .int .i64 l.length ∧ E.get 8 = .int .i64 i ∧ ∀ j x, j < i → l[j]? = some x → p x = false) (by delta cf37l0 oo on om og oc ou; exact rfl) ?_ ?_
  · (repeat' (with_reducible first|refine w_1 ?_|refine w_2 ?_|refine w_3 ?_|refine w_4 ?_|refine w_5 ?_|refine w_6 ?_|refine w_7 ?_|(refine w_8 (fun hb=>?_) (fun hb=>?_)<;>(try simp only [Bool.not_eq_true',Bool.not_eq_false'] at hb)<;>try simp only [hb])|(refine w_9 ?_;simp (maxDischargeDepth:=12) only [viz,↓reduceIte,Nat.reduceEqDiff,reduceCtorEq,Int.reduceEq,Int.reduceNeg,Nat.reduceAdd,Nat.reduceLeDiff])|refine w_10 (fun hc=>(by (try simp only [Bool.and_eq_true] at hc);simp (maxDischargeDepth:=12) only [viz,↓reduceIte,Nat.reduceEqDiff,reduceCtorEq,Int.reduceEq,Int.reduceNeg,Nat.reduceAdd,Nat.reduceLeDiff,hc];first|exact ⟨rfl,rfl⟩|exact rfl)) ?_|refine w_11 (fun hc=>(by (try simp only [Bool.and_eq_true] at hc);simp (maxDischargeDepth:=12) only [viz,↓reduceIte,Nat.reduceEqDiff,reduceCtorEq,Int.reduceEq,Int.reduceNeg,Nat.reduceAdd,Nat.reduceLeDiff,hc];first|exact ⟨rfl,rfl⟩|exact rfl)) ?_|refine w_12 ?_|simp (maxDischargeDepth:=12) only [viz,↓reduceIte,Nat.reduceEqDiff,reduceCtorEq,Int.reduceEq,Int.reduceNeg,Nat.reduceAdd,Nat.reduceLeDiff]))
    exact ⟨rfl, by omega⟩
  rintro i E s' hile _ ⟨hi, g0, g1, g7, g8, hno⟩
  by_cases hlt : i < l.length
  · obtain ⟨x, hx⟩ := get_of hlt
    obtain ⟨c, hc, hcx⟩ := hy.get hx
    obtain ⟨q, hq, P⟩ := hv.atk hI hc
    have hld : loadA s' true 12 q = some (.agg c) := by rw [P.ld _ hi, hcx.one]
    (repeat' (with_reducible first|refine w_1 ?_|refine w_2 ?_|refine w_3 ?_|refine w_4 ?_|refine w_5 ?_|refine w_6 ?_|refine w_7 ?_|(refine w_8 (fun hb=>?_) (fun hb=>?_)<;>(try simp only [Bool.not_eq_true',Bool.not_eq_false'] at hb)<;>try simp only [hb])|(refine w_9 ?_;simp (maxDischargeDepth:=12) only [viz,↓reduceIte,Nat.reduceEqDiff,reduceCtorEq,Int.reduceEq,Int.reduceNeg,Nat.reduceAdd,Nat.reduceLeDiff,g0,g1,g7,g8,lt_true hlt,hq,hld])|refine w_10 (fun hc=>(by (try simp only [Bool.and_eq_true] at hc);simp (maxDischargeDepth:=12) only [viz,↓reduceIte,Nat.reduceEqDiff,reduceCtorEq,Int.reduceEq,Int.reduceNeg,Nat.reduceAdd,Nat.reduceLeDiff,g0,g1,g7,g8,lt_true hlt,hq,hld,hc];first|exact ⟨rfl,rfl⟩|exact rfl)) ?_|refine w_11 (fun hc=>(by (try simp only [Bool.and_eq_true] at hc);simp (maxDischargeDepth:=12) only [viz,↓reduceIte,Nat.reduceEqDiff,reduceCtorEq,Int.reduceEq,Int.reduceNeg,Nat.reduceAdd,Nat.reduceLeDiff,g0,g1,g7,g8,lt_true hlt,hq,hld,hc];first|exact ⟨rfl,rfl⟩|exact rfl)) ?_|refine w_12 ?_|simp (maxDischargeDepth:=12) only [viz,↓reduceIte,Nat.reduceEqDiff,reduceCtorEq,Int.reduceEq,Int.reduceNeg,Nat.reduceAdd,Nat.reduceLeDiff,g0,g1,g7,g8,lt_true hlt,hq,hld]))
    refine hp c x s' _ (hG _ hi) (h16 x (List.mem_of_getElem? hx)) hcx fun s2 h2 => ?_
    (repeat' (with_reducible first|refine w_1 ?_|refine w_2 ?_|refine w_3 ?_|refine w_4 ?_|refine w_5 ?_|refine w_6 ?_|refine w_7 ?_|(refine w_8 (fun hb=>?_) (fun hb=>?_)<;>(try simp only [Bool.not_eq_true',Bool.not_eq_false'] at hb)<;>try simp only [hb])|(refine w_9 ?_;simp (maxDischargeDepth:=12) only [viz,↓reduceIte,Nat.reduceEqDiff,reduceCtorEq,Int.reduceEq,Int.reduceNeg,Nat.reduceAdd,Nat.reduceLeDiff,g0,g1,g7,g8])|refine w_10 (fun hc=>(by (try simp only [Bool.and_eq_true] at hc);simp (maxDischargeDepth:=12) only [viz,↓reduceIte,Nat.reduceEqDiff,reduceCtorEq,Int.reduceEq,Int.reduceNeg,Nat.reduceAdd,Nat.reduceLeDiff,g0,g1,g7,g8,hc];first|exact ⟨rfl,rfl⟩|exact rfl)) ?_|refine w_11 (fun hc=>(by (try simp only [Bool.and_eq_true] at hc);simp (maxDischargeDepth:=12) only [viz,↓reduceIte,Nat.reduceEqDiff,reduceCtorEq,Int.reduceEq,Int.reduceNeg,Nat.reduceAdd,Nat.reduceLeDiff,g0,g1,g7,g8,hc];first|exact ⟨rfl,rfl⟩|exact rfl)) ?_|refine w_12 ?_|simp (maxDischargeDepth:=12) only [viz,↓reduceIte,Nat.reduceEqDiff,reduceCtorEq,Int.reduceEq,Int.reduceNeg,Nat.reduceAdd,Nat.reduceLeDiff,g0,g1,g7,g8]))
    · unfold idx at hK
      rw [idx_at hx hb hno] at hK
      exact hK _ (hi.then h2)
    · refine ⟨hlt, hi.then h2, succ_av (by omega), fun j y hj hy => ?_⟩
      by_cases hji : j = i
      · rw [hji, hx] at hy; obtain rfl := Option.some.inj hy; exact hb
      · exact hno j y (by omega) hy
  · (repeat' (with_reducible first|refine w_1 ?_|refine w_2 ?_|refine w_3 ?_|refine w_4 ?_|refine w_5 ?_|refine w_6 ?_|refine w_7 ?_|(refine w_8 (fun hb=>?_) (fun hb=>?_)<;>(try simp only [Bool.not_eq_true',Bool.not_eq_false'] at hb)<;>try simp only [hb])|(refine w_9 ?_;simp (maxDischargeDepth:=12) only [viz,↓reduceIte,Nat.reduceEqDiff,reduceCtorEq,Int.reduceEq,Int.reduceNeg,Nat.reduceAdd,Nat.reduceLeDiff,g0,g1,g7,g8,lt_false hlt])|refine w_10 (fun hc=>(by (try simp only [Bool.and_eq_true] at hc);simp (maxDischargeDepth:=12) only [viz,↓reduceIte,Nat.reduceEqDiff,reduceCtorEq,Int.reduceEq,Int.reduceNeg,Nat.reduceAdd,Nat.reduceLeDiff,g0,g1,g7,g8,lt_false hlt,hc];first|exact ⟨rfl,rfl⟩|exact rfl)) ?_|refine w_11 (fun hc=>(by (try simp only [Bool.and_eq_true] at hc);simp (maxDischargeDepth:=12) only [viz,↓reduceIte,Nat.reduceEqDiff,reduceCtorEq,Int.reduceEq,Int.reduceNeg,Nat.reduceAdd,Nat.reduceLeDiff,g0,g1,g7,g8,lt_false hlt,hc];first|exact ⟨rfl,rfl⟩|exact rfl)) ?_|refine w_12 ?_|simp (maxDischargeDepth:=12) only [viz,↓reduceIte,Nat.reduceEqDiff,reduceCtorEq,Int.reduceEq,Int.reduceNeg,Nat.reduceAdd,Nat.reduceLeDiff,g0,g1,g7,g8,lt_false hlt]))
    unfold idx at hK
    rw [idx_no fun j x hj => hno j x (by omega)] at hK
    exact hK _ hi
theorem takenF : FnP (fun _ => True) 28 [] (fun x => !(x.known && decide (x.call.kind = 1) && decide (x.reply.code = 0))) := by
  intro c x M K _ _ hc hK
  obtain ⟨k, w, rfl, hk, hw⟩ := hc
  refine C_enter (cf := cf28) rfl (Nat.le_of_ble_eq_true rfl) ?_
  simp only [cf28, oo, on, om, og, oc, ou]
  (repeat' (with_reducible first|refine w_1 ?_|refine w_2 ?_|refine w_3 ?_|refine w_4 ?_|refine w_5 ?_|refine w_6 ?_|refine w_7 ?_|(refine w_8 (fun hb=>?_) (fun hb=>?_)<;>(try simp only [Bool.not_eq_true',Bool.not_eq_false'] at hb)<;>try simp only [hb])|(refine w_9 ?_;simp (maxDischargeDepth:=12) only [viz,↓reduceIte,Nat.reduceEqDiff,reduceCtorEq,Int.reduceEq,Int.reduceNeg,Nat.reduceAdd,Nat.reduceLeDiff,hk.cell,hw.cell])|refine w_10 (fun hc=>(by (try simp only [Bool.and_eq_true] at hc);simp (maxDischargeDepth:=12) only [viz,↓reduceIte,Nat.reduceEqDiff,reduceCtorEq,Int.reduceEq,Int.reduceNeg,Nat.reduceAdd,Nat.reduceLeDiff,hk.cell,hw.cell,hc];first|exact ⟨rfl,rfl⟩|exact rfl)) ?_|refine w_11 (fun hc=>(by (try simp only [Bool.and_eq_true] at hc);simp (maxDischargeDepth:=12) only [viz,↓reduceIte,Nat.reduceEqDiff,reduceCtorEq,Int.reduceEq,Int.reduceNeg,Nat.reduceAdd,Nat.reduceLeDiff,hk.cell,hw.cell,hc];first|exact ⟨rfl,rfl⟩|exact rfl)) ?_|refine w_12 ?_|simp (maxDischargeDepth:=12) only [viz,↓reduceIte,Nat.reduceEqDiff,reduceCtorEq,Int.reduceEq,Int.reduceNeg,Nat.reduceAdd,Nat.reduceLeDiff,hk.cell,hw.cell]))
  exact K_of hK (pushes _ _) (by grind)
theorem take_set_next {α : Type} {l : List α} {i : Nat} {x : α} (h : i < l.length) : (l.set i x).take (i + 1) = l.take i ++ [x] := by
  rw [List.take_add_one, List.getElem?_set_self (by omega), Option.toList_some, List.take_set_of_le (Nat.le_refl _)]
theorem clr_own {s : Mem} {r i n ty : Nat} {els : List (List AV)} {z : List AV} (h : s.get r = some ⟨ty, 12, els⟩) (hn : i + n ≤ els.length) (hz : z.length = 12) (hf : s.floor ≤ r) :
    ∃ s' els', clrA s 12 z (.own r i n 12) = some s' ∧ s'.get r = some ⟨ty, 12, els'⟩ ∧ els'.take i = els.take i ∧ els'.length = els.length ∧ Turn r s s' := by
  by_cases h0 : n = 0
  · exact ⟨s, els, by simp [clrA, h0], h, rfl, rfl, Turn.refl _ _⟩
  · refine ⟨_, els.take i ++ List.replicate n z ++ els.drop (i + n), ?_, by rw [Mem.get_put, if_pos rfl], ?_, ?_, Turn.put r s _⟩
    · simp [clrA, h0, h, hn, hz, hf]
    · rw [List.append_assoc, List.take_append_of_le_length (by rw [List.length_take]; omega), List.take_take, Nat.min_self]
    · simp only [List.length_append, List.length_take, List.length_replicate, List.length_drop]; omega
theorem load_own {M : Mem} {r i ty : Nat} {els : List (List AV)} {c : List AV} {x : Sp} (h : M.get r = some ⟨ty, 12, els⟩) (hc : els[i]? = some c) (hx : SpC c x) : loadA M true 12 (.ptr r i 0) = some (.agg c) := by
  simp only [loadA, h, Option.bind_eq_bind, Option.bind_some, hc]
  exact hx.one
theorem store_own {M : Mem} {r i ty : Nat} {els : List (List AV)} {c d : List AV} {y : Sp} (h : M.get r = some ⟨ty, 12, els⟩) (hc : els[i]? = some c) (hx : c.length = 12) (hy : SpC d y) (hf : M.floor ≤ r) :
    storeA M 12 (.ptr r i 0) (.agg d) = some (M.put r (some ⟨ty, 12, els.set i d⟩)) := by
  obtain ⟨k2, w2, rfl, hk2, hw2⟩ := hy
  have a := hk2.cell
  have b := hw2.cell
  match c, hx with
  | [c0, c1, c2, c3, c4, c5, c6, c7, c8, c9, c10, c11], _ =>
    simp only [viz,↓reduceIte,Nat.reduceEqDiff,reduceCtorEq,Int.reduceEq,Int.reduceNeg,Nat.reduceAdd,Nat.reduceLeDiff, h, hc, a, b, hf]
theorem spDel_c {l : List Sp} {v : AV} {ys : List (List AV)} {b f : Nat} {p : Sp → Bool} {s : Mem} {K : AV → Mem → Prop} (hfl : s.floor ≤ s.next) (hb : s.floor ≤ b) (hbn : b ≤ s.next) (hv : OwnL s b v 46 12 ys) (hy : LsC SpC ys l) (h64 : l.length ≤ 64) (h16 : ∀ x ∈ l, x.call.keys.length ≤ 16)
    (hp : FnP (fun _ => True) f [] p)
    (hK : ∀ v' s' zs, Keep b s s' → Sl s' (fun q => b ≤ q ∧ q < s'.next) v' 12 zs → LsC SpC zs (l.filter fun x => !p x) → K v' s') : C tab 27 [v, .fn f []] s K := by
  refine C_enter (cf := cf27) rfl (Nat.le_of_ble_eq_true rfl) ?_
  simp only [cf27, oo, on, om, og, oc, ou]
  (repeat' (with_reducible first|refine w_1 ?_|refine w_2 ?_|refine w_3 ?_|refine w_4 ?_|refine w_5 ?_|refine w_6 ?_|refine w_7 ?_|(refine w_8 (fun hb=>?_) (fun hb=>?_)<;>(try simp only [Bool.not_eq_true',Bool.not_eq_false'] at hb)<;>try simp only [hb])|(refine w_9 ?_;simp (maxDischargeDepth:=12) only [viz,↓reduceIte,Nat.reduceEqDiff,reduceCtorEq,Int.reduceEq,Int.reduceNeg,Nat.reduceAdd,Nat.reduceLeDiff])|refine w_10 (fun hc=>(by (try simp only [Bool.and_eq_true] at hc);simp (maxDischargeDepth:=12) only [viz,↓reduceIte,Nat.reduceEqDiff,reduceCtorEq,Int.reduceEq,Int.reduceNeg,Nat.reduceAdd,Nat.reduceLeDiff,hc];first|exact ⟨rfl,rfl⟩|exact rfl)) ?_|refine w_11 (fun hc=>(by (try simp only [Bool.and_eq_true] at hc);simp (maxDischargeDepth:=12) only [viz,↓reduceIte,Nat.reduceEqDiff,reduceCtorEq,Int.reduceEq,Int.reduceNeg,Nat.reduceAdd,Nat.reduceLeDiff,hc];first|exact ⟨rfl,rfl⟩|exact rfl)) ?_|refine w_12 ?_|simp (maxDischargeDepth:=12) only [viz,↓reduceIte,Nat.reduceEqDiff,reduceCtorEq,Int.reduceEq,Int.reduceNeg,Nat.reduceAdd,Nat.reduceLeDiff]))
  have hsl : Sl s (fun q => b ≤ q ∧ q < s.next) v 12 ys := hv.sl (fun c hc => by obtain ⟨x, hx⟩ := hy.mem hc; exact hx.len) fun q n h => hv.row q _ _ _ h
  refine spIx_c (fun q hq => hq.2) hsl hy h64 h16 (fun _ _ => trivial) hp fun s1 h1 => ?_
  unfold idx
  rcases hE : l.findIdx? p with _ | k0
  · (repeat' (with_reducible first|refine w_1 ?_|refine w_2 ?_|refine w_3 ?_|refine w_4 ?_|refine w_5 ?_|refine w_6 ?_|refine w_7 ?_|(refine w_8 (fun hb=>?_) (fun hb=>?_)<;>(try simp only [Bool.not_eq_true',Bool.not_eq_false'] at hb)<;>try simp only [hb])|(refine w_9 ?_;simp (maxDischargeDepth:=12) only [viz,↓reduceIte,Nat.reduceEqDiff,reduceCtorEq,Int.reduceEq,Int.reduceNeg,Nat.reduceAdd,Nat.reduceLeDiff,bne_self_eq_false, Int.reduceBEq, Int.reduceBNe, Int.reduceLT, Int.reduceLE, Int.reduceGT, Int.reduceGE])|refine w_10 (fun hc=>(by (try simp only [Bool.and_eq_true] at hc);simp (maxDischargeDepth:=12) only [viz,↓reduceIte,Nat.reduceEqDiff,reduceCtorEq,Int.reduceEq,Int.reduceNeg,Nat.reduceAdd,Nat.reduceLeDiff,bne_self_eq_false, Int.reduceBEq, Int.reduceBNe, Int.reduceLT, Int.reduceLE, Int.reduceGT, Int.reduceGE,hc];first|exact ⟨rfl,rfl⟩|exact rfl)) ?_|refine w_11 (fun hc=>(by (try simp only [Bool.and_eq_true] at hc);simp (maxDischargeDepth:=12) only [viz,↓reduceIte,Nat.reduceEqDiff,reduceCtorEq,Int.reduceEq,Int.reduceNeg,Nat.reduceAdd,Nat.reduceLeDiff,bne_self_eq_false, Int.reduceBEq, Int.reduceBNe, Int.reduceLT, Int.reduceLE, Int.reduceGT, Int.reduceGE,hc];first|exact ⟨rfl,rfl⟩|exact rfl)) ?_|refine w_12 ?_|simp (maxDischargeDepth:=12) only [viz,↓reduceIte,Nat.reduceEqDiff,reduceCtorEq,Int.reduceEq,Int.reduceNeg,Nat.reduceAdd,Nat.reduceLeDiff,bne_self_eq_false, Int.reduceBEq, Int.reduceBNe, Int.reduceLT, Int.reduceLE, Int.reduceGT, Int.reduceGE]))
    have : l.filter (fun x => !p x) = l := by
      rw [List.filter_eq_self]
      intro a ha
      have := List.findIdx?_eq_none_iff.mp hE a ha
      simp [this]
    rw [this] at hK
    refine hK v s1 ys (h1.le hbn) ?_ hy
    exact (hsl.keep fun q hq => h1.get q hq.2).mono fun q hq => ⟨hq.1, Nat.lt_of_lt_of_le hq.2 h1.next⟩
  · have hk0 : ((k0 : Int) == -1) = false := by rw [beq_eq_false_iff_ne]; omega
    have hw0 : IntKind.i64.wrap ((k0 : Int) + 1) = ((k0 + 1 : Nat) : Int) := succ_cast (by have := (List.findIdx?_eq_some_iff_getElem.mp hE).1; omega)
    (repeat' (with_reducible first|refine w_1 ?_|refine w_2 ?_|refine w_3 ?_|refine w_4 ?_|refine w_5 ?_|refine w_6 ?_|refine w_7 ?_|(refine w_8 (fun hb=>?_) (fun hb=>?_)<;>(try simp only [Bool.not_eq_true',Bool.not_eq_false'] at hb)<;>try simp only [hb])|(refine w_9 ?_;simp (maxDischargeDepth:=12) only [viz,↓reduceIte,Nat.reduceEqDiff,reduceCtorEq,Int.reduceEq,Int.reduceNeg,Nat.reduceAdd,Nat.reduceLeDiff,hk0,hw0])|refine w_10 (fun hc=>(by (try simp only [Bool.and_eq_true] at hc);simp (maxDischargeDepth:=12) only [viz,↓reduceIte,Nat.reduceEqDiff,reduceCtorEq,Int.reduceEq,Int.reduceNeg,Nat.reduceAdd,Nat.reduceLeDiff,hk0,hw0,hc];first|exact ⟨rfl,rfl⟩|exact rfl)) ?_|refine w_11 (fun hc=>(by (try simp only [Bool.and_eq_true] at hc);simp (maxDischargeDepth:=12) only [viz,↓reduceIte,Nat.reduceEqDiff,reduceCtorEq,Int.reduceEq,Int.reduceNeg,Nat.reduceAdd,Nat.reduceLeDiff,hk0,hw0,hc];first|exact ⟨rfl,rfl⟩|exact rfl)) ?_|refine w_12 ?_|simp (maxDischargeDepth:=12) only [viz,↓reduceIte,Nat.reduceEqDiff,reduceCtorEq,Int.reduceEq,Int.reduceNeg,Nat.reduceAdd,Nat.reduceLeDiff,hk0,hw0]))
    obtain ⟨hklt, hpk, hpn⟩ := List.findIdx?_eq_some_iff_getElem.mp hE
    obtain ⟨r, rfl, hr, hbr, hrn⟩ : ∃ r, v = .own r 0 l.length 12 ∧ s.get r = some ⟨46, 12, ys⟩ ∧ b ≤ r ∧ r < s.next := by
      rcases hv with ⟨_, rfl⟩ | ⟨r, rfl, g1, _, g3, g4⟩
      · have := hy.1; simp at this; omega
      · exact ⟨r, by rw [hy.1], g1, g3, g4⟩
    have hz : ∀ c ∈ ys, c.length = 12 := fun c hc => by obtain ⟨x, hx⟩ := hy.mem hc; exact hx.len
    have hpre : (l.take (k0 + 1)).filter (fun x => !p x) = l.take k0 := by
      rw [List.take_add_one, List.getElem?_eq_getElem hklt, Option.toList_some, List.filter_append]
      have e1 : [l[k0]].filter (fun x => !p x) = [] := by simp [hpk]
      rw [e1, List.append_nil, List.filter_eq_self]
      intro a ha
      obtain ⟨q, hq⟩ := List.mem_iff_getElem?.mp ha
      rw [List.getElem?_take] at hq
      split at hq
      · rename_i hqk
        obtain ⟨hql, rfl⟩ := List.getElem?_eq_some_iff.mp hq
        have := hpn q hqk
        simpa using this
      · cases hq
    refine W_inv (l.length - (k0 + 1)) (fun m E s' => ∃ cur i, Keep b s s' ∧ s.next ≤ s'.next ∧ s'.get r = some ⟨46, 12, cur⟩ ∧ cur.length = l.length ∧ (∀ c ∈ cur, c.length = 12) ∧ i ≤ k0 + m ∧ LsC SpC (cur.take i) ((l.take (k0 + 1 + m)).filter fun x => !p x) ∧ (∀ q, k0 + 1 + m ≤ q → cur[q]? = ys[q]?) ∧ E.get 0 = .own r 0 l.length 12 ∧ E.get 1 = .fn f [] ∧ E.get 5 = .int .i64 i ∧ E.get 6 = .int .i64 ((k0 + 1 + m : Nat) : Int)) (by delta cf27l0 oo on om og oc ou; exact rfl) ?_ ?_
    · refine ⟨ys, k0, h1.le hbn, h1.next, by rw [h1.get r hrn, hr], hy.1, hz, by omega, ?_, fun _ _ => rfl, (by simp only [ev, Env.get_set, ↓reduceIte, Nat.reduceEqDiff]), (by simp only [ev, Env.get_set, ↓reduceIte, Nat.reduceEqDiff]), (by simp only [ev, Env.get_set, ↓reduceIte, Nat.reduceEqDiff]), (by simp only [ev, Env.get_set, ↓reduceIte, Nat.reduceEqDiff])⟩
      rw [Nat.add_zero, hpre]
      refine ⟨by rw [List.length_take, List.length_take, hy.1], fun i c x g1 g2 => ?_⟩
      rw [List.getElem?_take] at g1 g2
      split at g1
      · rename_i hh; rw [if_pos hh] at g2; exact hy.2 i c x g1 g2
      · cases g1
    rintro m E s' hmle _ ⟨cur, i, hk, hn, hg, hcl, hcz, him, hls, hcur, g0, g1, g5, g6⟩
    by_cases hlt : k0 + 1 + m < l.length
    · obtain ⟨x, hx⟩ := get_of hlt
      obtain ⟨c, hc, hcx⟩ := hy.get hx
      have hc' := (hcur _ (Nat.le_refl _)).trans hc
      have hat : atA 12 (.own r 0 l.length 12) (.int .i64 ((k0 + 1 + m : Nat) : Int)) = some (.ptr r (k0 + 1 + m) 0) := at0 hlt
      have hld := load_own hg hc' hcx
      have hfl2 := hk.ok hfl
      obtain ⟨kk, ww, rfl, hkk, hww⟩ := hcx
      obtain ⟨c2, hc2⟩ := get_of (l := cur) (i := i) (by omega)
      have hz2 := hcz c2 (List.mem_of_getElem? hc2)
      have hrn' : r < s'.next := by omega
      have hfn : s'.floor ≤ r := by rw [hk.floor]; omega
      have hne : (r = s'.next) = False := by simp; omega
      have ht1 : k0 + 1 + (m + 1) = k0 + 1 + m + 1 := rfl
      have htk : (l.take (k0 + 1 + m + 1)).filter (fun x => !p x) = (l.take (k0 + 1 + m)).filter (fun x => !p x) ++ (if p x then [] else [x]) := by
        rw [List.take_add_one, hx, Option.toList_some, List.filter_append]
        congr 1
        cases hq : p x <;> simp [hq]
      (repeat' (with_reducible first|refine w_1 ?_|refine w_2 ?_|refine w_3 ?_|refine w_4 ?_|refine w_5 ?_|refine w_6 ?_|refine w_7 ?_|(refine w_8 (fun hb=>?_) (fun hb=>?_)<;>(try simp only [Bool.not_eq_true',Bool.not_eq_false'] at hb)<;>try simp only [hb])|(refine w_9 ?_;simp (maxDischargeDepth:=12) only [viz,↓reduceIte,Nat.reduceEqDiff,reduceCtorEq,Int.reduceEq,Int.reduceNeg,Nat.reduceAdd,Nat.reduceLeDiff,g0,g1,g5,g6,lt_true hlt,hat,hld,hkk.cell,hww.cell,hfl2])|refine w_10 (fun hc=>(by (try simp only [Bool.and_eq_true] at hc);simp (maxDischargeDepth:=12) only [viz,↓reduceIte,Nat.reduceEqDiff,reduceCtorEq,Int.reduceEq,Int.reduceNeg,Nat.reduceAdd,Nat.reduceLeDiff,g0,g1,g5,g6,lt_true hlt,hat,hld,hkk.cell,hww.cell,hfl2,hc];first|exact ⟨rfl,rfl⟩|exact rfl)) ?_|refine w_11 (fun hc=>(by (try simp only [Bool.and_eq_true] at hc);simp (maxDischargeDepth:=12) only [viz,↓reduceIte,Nat.reduceEqDiff,reduceCtorEq,Int.reduceEq,Int.reduceNeg,Nat.reduceAdd,Nat.reduceLeDiff,g0,g1,g5,g6,lt_true hlt,hat,hld,hkk.cell,hww.cell,hfl2,hc];first|exact ⟨rfl,rfl⟩|exact rfl)) ?_|refine w_12 ?_|simp (maxDischargeDepth:=12) only [viz,↓reduceIte,Nat.reduceEqDiff,reduceCtorEq,Int.reduceEq,Int.reduceNeg,Nat.reduceAdd,Nat.reduceLeDiff,g0,g1,g5,g6,lt_true hlt,hat,hld,hkk.cell,hww.cell,hfl2]))
      refine hp _ x _ _ trivial (h16 x (List.mem_of_getElem? hx)) ⟨kk, ww, rfl, hkk, hww⟩ fun s2 h2 => ?_
      have hk2 := (pushes s' _).then h2
      have hg2 : s2.get r = some ⟨46, 12, cur⟩ := by rw [hk2.get r hrn']; exact hg
      have hg7 := (h2.get s'.next (by simp only [next_push']; omega)).trans (by simp only [Mem.get_push]; rw [if_pos trivial])
      have hat2 : atA 12 (.own r 0 l.length 12) (.int .i64 (i : Int)) = some (.ptr r i 0) := at0 (by omega)
      have hst := store_own (d := [.int .i64 x.call.kind, kk, .int .u64 x.call.token, .int .i64 x.call.ttl, .int .i64 x.frm, .int .i64 x.to, .bool x.known, .int .i64 x.reply.code, .int .u64 x.reply.token, ww, .int .i64 x.start, .int .i64 x.stop]) hg2 hc2 hz2 ⟨kk, ww, rfl, hkk, hww⟩ (by rw [hk2.floor]; exact hfn)
      have hkb : Keep b s s2 := hk.trans (hk2.le (by omega))
      have hn2 := hk2.next
      cases hpx : p x
      · rw [hpx] at htk
        (repeat' (with_reducible first|refine w_1 ?_|refine w_2 ?_|refine w_3 ?_|refine w_4 ?_|refine w_5 ?_|refine w_6 ?_|refine w_7 ?_|(refine w_8 (fun hb=>?_) (fun hb=>?_)<;>(try simp only [Bool.not_eq_true',Bool.not_eq_false'] at hb)<;>try simp only [hb])|(refine w_9 ?_;simp (maxDischargeDepth:=12) only [vis,↓reduceIte,Nat.reduceEqDiff,reduceCtorEq,Int.reduceEq,Int.reduceNeg,Nat.reduceAdd,Nat.reduceLeDiff,g0,g1,g5,g6,hg7,hat2,hst,loadA_ptr])|refine w_10 (fun hc=>(by (try simp only [Bool.and_eq_true] at hc);simp (maxDischargeDepth:=12) only [vis,↓reduceIte,Nat.reduceEqDiff,reduceCtorEq,Int.reduceEq,Int.reduceNeg,Nat.reduceAdd,Nat.reduceLeDiff,g0,g1,g5,g6,hg7,hat2,hst,loadA_ptr,hc];first|exact ⟨rfl,rfl⟩|exact rfl)) ?_|refine w_11 (fun hc=>(by (try simp only [Bool.and_eq_true] at hc);simp (maxDischargeDepth:=12) only [vis,↓reduceIte,Nat.reduceEqDiff,reduceCtorEq,Int.reduceEq,Int.reduceNeg,Nat.reduceAdd,Nat.reduceLeDiff,g0,g1,g5,g6,hg7,hat2,hst,loadA_ptr,hc];first|exact ⟨rfl,rfl⟩|exact rfl)) ?_|refine w_12 ?_|simp (maxDischargeDepth:=12) only [vis,↓reduceIte,Nat.reduceEqDiff,reduceCtorEq,Int.reduceEq,Int.reduceNeg,Nat.reduceAdd,Nat.reduceLeDiff,g0,g1,g5,g6,hg7,hat2,hst,loadA_ptr]))
        refine ⟨by omega, cur.set i [.int .i64 x.call.kind, kk, .int .u64 x.call.token, .int .i64 x.call.ttl, .int .i64 x.frm, .int .i64 x.to, .bool x.known, .int .i64 x.reply.code, .int .u64 x.reply.token, ww, .int .i64 x.start, .int .i64 x.stop], i + 1, ?_, ?_, ?_, ?_, ?_, ?_, ?_, ?_, ?_⟩
        · exact hkb.trans (Keep.put hbr _)
        · omega
        · rfl
        · rw [List.length_set]; exact hcl
        · intro c hc
          rcases List.mem_or_eq_of_mem_set hc with h | rfl
          · exact hcz c h
          · rfl
        · omega
        · rw [ht1, htk, take_set_next (by omega)]
          exact hls.append (LsC.one ⟨kk, ww, rfl, hkk, hww⟩)
        · intro q hq
          rw [List.getElem?_set, if_neg (by omega)]
          exact hcur q (by omega)
        · exact ⟨succ_av (by omega), succ_av (by omega)⟩
      · rw [hpx] at htk
        (repeat' (with_reducible first|refine w_1 ?_|refine w_2 ?_|refine w_3 ?_|refine w_4 ?_|refine w_5 ?_|refine w_6 ?_|refine w_7 ?_|(refine w_8 (fun hb=>?_) (fun hb=>?_)<;>(try simp only [Bool.not_eq_true',Bool.not_eq_false'] at hb)<;>try simp only [hb])|(refine w_9 ?_;simp (maxDischargeDepth:=12) only [viz,↓reduceIte,Nat.reduceEqDiff,reduceCtorEq,Int.reduceEq,Int.reduceNeg,Nat.reduceAdd,Nat.reduceLeDiff,g0,g1,g5,g6])|refine w_10 (fun hc=>(by (try simp only [Bool.and_eq_true] at hc);simp (maxDischargeDepth:=12) only [viz,↓reduceIte,Nat.reduceEqDiff,reduceCtorEq,Int.reduceEq,Int.reduceNeg,Nat.reduceAdd,Nat.reduceLeDiff,g0,g1,g5,g6,hc];first|exact ⟨rfl,rfl⟩|exact rfl)) ?_|refine w_11 (fun hc=>(by (try simp only [Bool.and_eq_true] at hc);simp (maxDischargeDepth:=12) only [viz,↓reduceIte,Nat.reduceEqDiff,reduceCtorEq,Int.reduceEq,Int.reduceNeg,Nat.reduceAdd,Nat.reduceLeDiff,g0,g1,g5,g6,hc];first|exact ⟨rfl,rfl⟩|exact rfl)) ?_|refine w_12 ?_|simp (maxDischargeDepth:=12) only [viz,↓reduceIte,Nat.reduceEqDiff,reduceCtorEq,Int.reduceEq,Int.reduceNeg,Nat.reduceAdd,Nat.reduceLeDiff,g0,g1,g5,g6]))
        refine ⟨by omega, cur, i, hkb, by omega, hg2, hcl, hcz, by omega, by rw [ht1, htk]; simpa using hls, fun q hq => hcur q (by omega), rfl, succ_av (by omega)⟩
    · have hi : i ≤ l.length := by omega
      obtain ⟨s2, els', hclr, hg2, htk, hln, htn⟩ := clr_own (i := i) (n := l.length - i) (z := [.int .i64 0, .nilS, .int .u64 0, .int .i64 0, .int .i64 0, .int .i64 0, .bool false, .int .i64 0, .int .u64 0, .nilS, .int .i64 0, .int .i64 0]) hg (by omega) rfl (by rw [hk.floor]; omega)
      have hc1 : cutA 12 (.own r 0 l.length 12) (some i) none = some (.own r i (l.length - i) 12) := by simp [cutA]; omega
      have hc2 : cutA 12 (.own r 0 l.length 12) none (some i) = some (.own r 0 i 12) := by simp [cutA]; omega
      (repeat' (with_reducible first|refine w_1 ?_|refine w_2 ?_|refine w_3 ?_|refine w_4 ?_|refine w_5 ?_|refine w_6 ?_|refine w_7 ?_|(refine w_8 (fun hb=>?_) (fun hb=>?_)<;>(try simp only [Bool.not_eq_true',Bool.not_eq_false'] at hb)<;>try simp only [hb])|(refine w_9 ?_;simp (maxDischargeDepth:=12) only [viz,↓reduceIte,Nat.reduceEqDiff,reduceCtorEq,Int.reduceEq,Int.reduceNeg,Nat.reduceAdd,Nat.reduceLeDiff,g0,g1,g5,g6,lt_false hlt,bdA_some,bdV_nat,hc1,hc2,hclr])|refine w_10 (fun hc=>(by (try simp only [Bool.and_eq_true] at hc);simp (maxDischargeDepth:=12) only [viz,↓reduceIte,Nat.reduceEqDiff,reduceCtorEq,Int.reduceEq,Int.reduceNeg,Nat.reduceAdd,Nat.reduceLeDiff,g0,g1,g5,g6,lt_false hlt,bdA_some,bdV_nat,hc1,hc2,hclr,hc];first|exact ⟨rfl,rfl⟩|exact rfl)) ?_|refine w_11 (fun hc=>(by (try simp only [Bool.and_eq_true] at hc);simp (maxDischargeDepth:=12) only [viz,↓reduceIte,Nat.reduceEqDiff,reduceCtorEq,Int.reduceEq,Int.reduceNeg,Nat.reduceAdd,Nat.reduceLeDiff,g0,g1,g5,g6,lt_false hlt,bdA_some,bdV_nat,hc1,hc2,hclr,hc];first|exact ⟨rfl,rfl⟩|exact rfl)) ?_|refine w_12 ?_|simp (maxDischargeDepth:=12) only [viz,↓reduceIte,Nat.reduceEqDiff,reduceCtorEq,Int.reduceEq,Int.reduceNeg,Nat.reduceAdd,Nat.reduceLeDiff,g0,g1,g5,g6,lt_false hlt,bdA_some,bdV_nat,hc1,hc2,hclr]))
      have hall : l.take (k0 + 1 + m) = l := List.take_of_length_le (by omega)
      rw [hall] at hls
      refine hK _ s2 (cur.take i) (hk.trans (htn.keep hbr)) ⟨fun c hc => hcz c (List.mem_of_mem_take hc), .inr (.inr (.inr ⟨r, 0, i, _, rfl, ⟨hbr, by have := htn.next; omega⟩, hg2, by simp only [hln]; omega, by simp only [List.drop_zero, htk]⟩))⟩ hls
def took (x : Sp) : Bool := x.known && decide (x.call.kind = 1) && decide (x.reply.code = 0)
theorem spans_len (l : List Event) : (spans l).length ≤ l.length := spansTo_len l _
theorem taken_c {l : List Event} {v : AV} {s : Mem} {K : AV → Mem → Prop} (hf : s.floor ≤ s.next) (hv : Evs v l) (h64 : l.length ≤ 64) (h16 : ∀ x ∈ spans l, x.call.keys.length ≤ 16)
    (hK : ∀ v' s' zs, Keep s.next s s' → Sl s' (fun q => s.next ≤ q ∧ q < s'.next) v' 12 zs → LsC SpC zs ((spans l).filter took) → K v' s') : C tab 14 [v] s K := by
  refine C_enter (cf := cf14) rfl (Nat.le_of_ble_eq_true rfl) ?_
  simp only [cf14, oo, on, om, og, oc, ou]
  (repeat' (with_reducible first|refine w_1 ?_|refine w_2 ?_|refine w_3 ?_|refine w_4 ?_|refine w_5 ?_|refine w_6 ?_|refine w_7 ?_|(refine w_8 (fun hb=>?_) (fun hb=>?_)<;>(try simp only [Bool.not_eq_true',Bool.not_eq_false'] at hb)<;>try simp only [hb])|(refine w_9 ?_;simp (maxDischargeDepth:=12) only [viz,↓reduceIte,Nat.reduceEqDiff,reduceCtorEq,Int.reduceEq,Int.reduceNeg,Nat.reduceAdd,Nat.reduceLeDiff])|refine w_10 (fun hc=>(by (try simp only [Bool.and_eq_true] at hc);simp (maxDischargeDepth:=12) only [viz,↓reduceIte,Nat.reduceEqDiff,reduceCtorEq,Int.reduceEq,Int.reduceNeg,Nat.reduceAdd,Nat.reduceLeDiff,hc];first|exact ⟨rfl,rfl⟩|exact rfl)) ?_|refine w_11 (fun hc=>(by (try simp only [Bool.and_eq_true] at hc);simp (maxDischargeDepth:=12) only [viz,↓reduceIte,Nat.reduceEqDiff,reduceCtorEq,Int.reduceEq,Int.reduceNeg,Nat.reduceAdd,Nat.reduceLeDiff,hc];first|exact ⟨rfl,rfl⟩|exact rfl)) ?_|refine w_12 ?_|simp (maxDischargeDepth:=12) only [viz,↓reduceIte,Nat.reduceEqDiff,reduceCtorEq,Int.reduceEq,Int.reduceNeg,Nat.reduceAdd,Nat.reduceLeDiff]))
  refine spans_c hf hv h64 fun w s1 ys h1 ho hy => ?_
  (repeat' (with_reducible first|refine w_1 ?_|refine w_2 ?_|refine w_3 ?_|refine w_4 ?_|refine w_5 ?_|refine w_6 ?_|refine w_7 ?_|(refine w_8 (fun hb=>?_) (fun hb=>?_)<;>(try simp only [Bool.not_eq_true',Bool.not_eq_false'] at hb)<;>try simp only [hb])|(refine w_9 ?_;simp (maxDischargeDepth:=12) only [viz,↓reduceIte,Nat.reduceEqDiff,reduceCtorEq,Int.reduceEq,Int.reduceNeg,Nat.reduceAdd,Nat.reduceLeDiff])|refine w_10 (fun hc=>(by (try simp only [Bool.and_eq_true] at hc);simp (maxDischargeDepth:=12) only [viz,↓reduceIte,Nat.reduceEqDiff,reduceCtorEq,Int.reduceEq,Int.reduceNeg,Nat.reduceAdd,Nat.reduceLeDiff,hc];first|exact ⟨rfl,rfl⟩|exact rfl)) ?_|refine w_11 (fun hc=>(by (try simp only [Bool.and_eq_true] at hc);simp (maxDischargeDepth:=12) only [viz,↓reduceIte,Nat.reduceEqDiff,reduceCtorEq,Int.reduceEq,Int.reduceNeg,Nat.reduceAdd,Nat.reduceLeDiff,hc];first|exact ⟨rfl,rfl⟩|exact rfl)) ?_|refine w_12 ?_|simp (maxDischargeDepth:=12) only [viz,↓reduceIte,Nat.reduceEqDiff,reduceCtorEq,Int.reduceEq,Int.reduceNeg,Nat.reduceAdd,Nat.reduceLeDiff]))
  have hsl := spans_len l
  refine spDel_c (b := s.next) (p := fun x => !took x) (h1.ok hf) (by rw [h1.floor]; exact hf) h1.next ho hy (by omega) h16 takenF fun v2 s2 zs h2 hz hl => ?_
  (repeat' (with_reducible first|refine w_1 ?_|refine w_2 ?_|refine w_3 ?_|refine w_4 ?_|refine w_5 ?_|refine w_6 ?_|refine w_7 ?_|(refine w_8 (fun hb=>?_) (fun hb=>?_)<;>(try simp only [Bool.not_eq_true',Bool.not_eq_false'] at hb)<;>try simp only [hb])|(refine w_9 ?_;simp (maxDischargeDepth:=12) only [viz,↓reduceIte,Nat.reduceEqDiff,reduceCtorEq,Int.reduceEq,Int.reduceNeg,Nat.reduceAdd,Nat.reduceLeDiff])|refine w_10 (fun hc=>(by (try simp only [Bool.and_eq_true] at hc);simp (maxDischargeDepth:=12) only [viz,↓reduceIte,Nat.reduceEqDiff,reduceCtorEq,Int.reduceEq,Int.reduceNeg,Nat.reduceAdd,Nat.reduceLeDiff,hc];first|exact ⟨rfl,rfl⟩|exact rfl)) ?_|refine w_11 (fun hc=>(by (try simp only [Bool.and_eq_true] at hc);simp (maxDischargeDepth:=12) only [viz,↓reduceIte,Nat.reduceEqDiff,reduceCtorEq,Int.reduceEq,Int.reduceNeg,Nat.reduceAdd,Nat.reduceLeDiff,hc];first|exact ⟨rfl,rfl⟩|exact rfl)) ?_|refine w_12 ?_|simp (maxDischargeDepth:=12) only [viz,↓reduceIte,Nat.reduceEqDiff,reduceCtorEq,Int.reduceEq,Int.reduceNeg,Nat.reduceAdd,Nat.reduceLeDiff]))
  refine hK v2 s2 zs (h1.trans h2) hz ?_
  have : (fun x => !(fun x => !took x) x) = took := by funext x; simp
  simpa only [this] using hl
end Go.Proofs.YtmjgakhnhjpclaaGreat
/- What is freed. No statement of the seat is proved here. -/
namespace Go.Proofs.YtmjgakhnhjpclaaGreat
open Go Go.VI
set_option linter.unusedSimpArgs false
attribute [local irreducible] Ws Wp W C
set_option maxHeartbeats 4000000
theorem any_idx {α : Type} (l : List α) (p : α → Bool) : decide (idx l p ≥ 0) = l.any p := by
  unfold idx
  cases h : l.findIdx? p with
  | none =>
    have : l.any p = false := by
      rw [List.any_eq_false]
      intro x hx
      simpa using List.findIdx?_eq_none_iff.mp h x hx
    rw [this]; rfl
  | some k =>
    obtain ⟨h1, h2, _⟩ := List.findIdx?_eq_some_iff_getElem.mp h
    have : l.any p = true := List.any_eq_true.mpr ⟨_, List.getElem_mem h1, h2⟩
    rw [this]; simp
theorem strIx_c {l : List Txt} {x : Txt} {v : AV} {s : Mem} {K : AV → Mem → Prop} (hv : isSl v (l.map txtC)) (hl : l.length < 1000000000)
    (hK : K (.int .i64 (idx l fun y => x == y)) s) : C tab 31 [v, .str x] s K := by
  refine C_enter (cf := cf31) rfl (Nat.le_of_ble_eq_true rfl) ?_
  simp only [cf31, oo, on, om, og, oc, ou]
  have hlen : lenA false v = some l.length := by rw [hv.lenA, List.length_map]
  (repeat' (with_reducible first|refine w_1 ?_|refine w_2 ?_|refine w_3 ?_|refine w_4 ?_|refine w_5 ?_|refine w_6 ?_|refine w_7 ?_|(refine w_8 (fun hb=>?_) (fun hb=>?_)<;>(try simp only [Bool.not_eq_true',Bool.not_eq_false'] at hb)<;>try simp only [hb])|(refine w_9 ?_;simp (maxDischargeDepth:=12) only [viz,↓reduceIte,Nat.reduceEqDiff,reduceCtorEq,Int.reduceEq,Int.reduceNeg,Nat.reduceAdd,Nat.reduceLeDiff,hlen])|refine w_10 (fun hc=>(by (try simp only [Bool.and_eq_true] at hc);simp (maxDischargeDepth:=12) only [viz,↓reduceIte,Nat.reduceEqDiff,reduceCtorEq,Int.reduceEq,Int.reduceNeg,Nat.reduceAdd,Nat.reduceLeDiff,hlen,hc];first|exact ⟨rfl,rfl⟩|exact rfl)) ?_|refine w_11 (fun hc=>(by (try simp only [Bool.and_eq_true] at hc);simp (maxDischargeDepth:=12) only [viz,↓reduceIte,Nat.reduceEqDiff,reduceCtorEq,Int.reduceEq,Int.reduceNeg,Nat.reduceAdd,Nat.reduceLeDiff,hlen,hc];first|exact ⟨rfl,rfl⟩|exact rfl)) ?_|refine w_12 ?_|simp (maxDischargeDepth:=12) only [viz,↓reduceIte,Nat.reduceEqDiff,reduceCtorEq,Int.reduceEq,Int.reduceNeg,Nat.reduceAdd,Nat.reduceLeDiff,hlen]))
  refine W_inv l.length (fun i E s' => s' = s ∧ E.get 0 = v ∧ E.get 1 = .str x ∧ E.get 7 = .int .i64 l.length ∧ E.get 8 = .int .i64 i ∧ ∀ j y, j < i → l[j]? = some y → (x == y) = false) (by delta cf31l0 oo on om og oc ou; exact rfl) ?_ ?_
  · (repeat' (with_reducible first|refine w_1 ?_|refine w_2 ?_|refine w_3 ?_|refine w_4 ?_|refine w_5 ?_|refine w_6 ?_|refine w_7 ?_|(refine w_8 (fun hb=>?_) (fun hb=>?_)<;>(try simp only [Bool.not_eq_true',Bool.not_eq_false'] at hb)<;>try simp only [hb])|(refine w_9 ?_;simp (maxDischargeDepth:=12) only [viz,↓reduceIte,Nat.reduceEqDiff,reduceCtorEq,Int.reduceEq,Int.reduceNeg,Nat.reduceAdd,Nat.reduceLeDiff])|refine w_10 (fun hc=>(by (try simp only [Bool.and_eq_true] at hc);simp (maxDischargeDepth:=12) only [viz,↓reduceIte,Nat.reduceEqDiff,reduceCtorEq,Int.reduceEq,Int.reduceNeg,Nat.reduceAdd,Nat.reduceLeDiff,hc];first|exact ⟨rfl,rfl⟩|exact rfl)) ?_|refine w_11 (fun hc=>(by (try simp only [Bool.and_eq_true] at hc);simp (maxDischargeDepth:=12) only [viz,↓reduceIte,Nat.reduceEqDiff,reduceCtorEq,Int.reduceEq,Int.reduceNeg,Nat.reduceAdd,Nat.reduceLeDiff,hc];first|exact ⟨rfl,rfl⟩|exact rfl)) ?_|refine w_12 ?_|simp (maxDischargeDepth:=12) only [viz,↓reduceIte,Nat.reduceEqDiff,reduceCtorEq,Int.reduceEq,Int.reduceNeg,Nat.reduceAdd,Nat.reduceLeDiff]))
    exact ⟨rfl, by omega⟩
  rintro i E s' hile _ ⟨rfl, g0, g1, g7, g8, hno⟩
  by_cases hlt : i < l.length
  · obtain ⟨y, hy⟩ := get_of hlt
    have hp : ∀ j, atA 1 v (.int j (i : Int)) = some (.ref [.str y]) := hv.pt (c := txtC y) (i := i) (by rw [List.getElem?_map, hy]; rfl)
    (repeat' (with_reducible first|refine w_1 ?_|refine w_2 ?_|refine w_3 ?_|refine w_4 ?_|refine w_5 ?_|refine w_6 ?_|refine w_7 ?_|(refine w_8 (fun hb=>?_) (fun hb=>?_)<;>(try simp only [Bool.not_eq_true',Bool.not_eq_false'] at hb)<;>try simp only [hb])|(refine w_9 ?_;simp (maxDischargeDepth:=12) only [viz,↓reduceIte,Nat.reduceEqDiff,reduceCtorEq,Int.reduceEq,Int.reduceNeg,Nat.reduceAdd,Nat.reduceLeDiff,g0,g1,g7,g8,lt_true hlt,hp])|refine w_10 (fun hc=>(by (try simp only [Bool.and_eq_true] at hc);simp (maxDischargeDepth:=12) only [viz,↓reduceIte,Nat.reduceEqDiff,reduceCtorEq,Int.reduceEq,Int.reduceNeg,Nat.reduceAdd,Nat.reduceLeDiff,g0,g1,g7,g8,lt_true hlt,hp,hc];first|exact ⟨rfl,rfl⟩|exact rfl)) ?_|refine w_11 (fun hc=>(by (try simp only [Bool.and_eq_true] at hc);simp (maxDischargeDepth:=12) only [viz,↓reduceIte,Nat.reduceEqDiff,reduceCtorEq,Int.reduceEq,Int.reduceNeg,Nat.reduceAdd,Nat.reduceLeDiff,g0,g1,g7,g8,lt_true hlt,hp,hc];first|exact ⟨rfl,rfl⟩|exact rfl)) ?_|refine w_12 ?_|simp (maxDischargeDepth:=12) only [viz,↓reduceIte,Nat.reduceEqDiff,reduceCtorEq,Int.reduceEq,Int.reduceNeg,Nat.reduceAdd,Nat.reduceLeDiff,g0,g1,g7,g8,lt_true hlt,hp]))
    · unfold idx at hK
      rw [idx_at hy hb hno] at hK
      exact hK
    · refine ⟨hlt, succ_av (by omega), fun j z hj hz => ?_⟩
      by_cases hji : j = i
      · rw [hji, hy] at hz; obtain rfl := Option.some.inj hz; exact hb
      · exact hno j z (by omega) hz
  · (repeat' (with_reducible first|refine w_1 ?_|refine w_2 ?_|refine w_3 ?_|refine w_4 ?_|refine w_5 ?_|refine w_6 ?_|refine w_7 ?_|(refine w_8 (fun hb=>?_) (fun hb=>?_)<;>(try simp only [Bool.not_eq_true',Bool.not_eq_false'] at hb)<;>try simp only [hb])|(refine w_9 ?_;simp (maxDischargeDepth:=12) only [viz,↓reduceIte,Nat.reduceEqDiff,reduceCtorEq,Int.reduceEq,Int.reduceNeg,Nat.reduceAdd,Nat.reduceLeDiff,g0,g1,g7,g8,lt_false hlt])|refine w_10 (fun hc=>(by (try simp only [Bool.and_eq_true] at hc);simp (maxDischargeDepth:=12) only [viz,↓reduceIte,Nat.reduceEqDiff,reduceCtorEq,Int.reduceEq,Int.reduceNeg,Nat.reduceAdd,Nat.reduceLeDiff,g0,g1,g7,g8,lt_false hlt,hc];first|exact ⟨rfl,rfl⟩|exact rfl)) ?_|refine w_11 (fun hc=>(by (try simp only [Bool.and_eq_true] at hc);simp (maxDischargeDepth:=12) only [viz,↓reduceIte,Nat.reduceEqDiff,reduceCtorEq,Int.reduceEq,Int.reduceNeg,Nat.reduceAdd,Nat.reduceLeDiff,g0,g1,g7,g8,lt_false hlt,hc];first|exact ⟨rfl,rfl⟩|exact rfl)) ?_|refine w_12 ?_|simp (maxDischargeDepth:=12) only [viz,↓reduceIte,Nat.reduceEqDiff,reduceCtorEq,Int.reduceEq,Int.reduceNeg,Nat.reduceAdd,Nat.reduceLeDiff,g0,g1,g7,g8,lt_false hlt]))
    unfold idx at hK
    rw [idx_no fun j z hj => hno j z (by omega)] at hK
    exact hK
theorem strIn_c {l : List Txt} {x : Txt} {v : AV} {s : Mem} {K : AV → Mem → Prop} (hv : isSl v (l.map txtC)) (hl : l.length < 1000000000)
    (hK : K (.bool (l.contains x)) s) : C tab 16 [v, .str x] s K := by
  refine C_enter (cf := cf16) rfl (Nat.le_of_ble_eq_true rfl) ?_
  simp only [cf16, oo, on, om, og, oc, ou]
  (repeat' (with_reducible first|refine w_1 ?_|refine w_2 ?_|refine w_3 ?_|refine w_4 ?_|refine w_5 ?_|refine w_6 ?_|refine w_7 ?_|(refine w_8 (fun hb=>?_) (fun hb=>?_)<;>(try simp only [Bool.not_eq_true',Bool.not_eq_false'] at hb)<;>try simp only [hb])|(refine w_9 ?_;simp (maxDischargeDepth:=12) only [viz,↓reduceIte,Nat.reduceEqDiff,reduceCtorEq,Int.reduceEq,Int.reduceNeg,Nat.reduceAdd,Nat.reduceLeDiff])|refine w_10 (fun hc=>(by (try simp only [Bool.and_eq_true] at hc);simp (maxDischargeDepth:=12) only [viz,↓reduceIte,Nat.reduceEqDiff,reduceCtorEq,Int.reduceEq,Int.reduceNeg,Nat.reduceAdd,Nat.reduceLeDiff,hc];first|exact ⟨rfl,rfl⟩|exact rfl)) ?_|refine w_11 (fun hc=>(by (try simp only [Bool.and_eq_true] at hc);simp (maxDischargeDepth:=12) only [viz,↓reduceIte,Nat.reduceEqDiff,reduceCtorEq,Int.reduceEq,Int.reduceNeg,Nat.reduceAdd,Nat.reduceLeDiff,hc];first|exact ⟨rfl,rfl⟩|exact rfl)) ?_|refine w_12 ?_|simp (maxDischargeDepth:=12) only [viz,↓reduceIte,Nat.reduceEqDiff,reduceCtorEq,Int.reduceEq,Int.reduceNeg,Nat.reduceAdd,Nat.reduceLeDiff]))
  refine strIx_c hv hl ?_
  (repeat' (with_reducible first|refine w_1 ?_|refine w_2 ?_|refine w_3 ?_|refine w_4 ?_|refine w_5 ?_|refine w_6 ?_|refine w_7 ?_|(refine w_8 (fun hb=>?_) (fun hb=>?_)<;>(try simp only [Bool.not_eq_true',Bool.not_eq_false'] at hb)<;>try simp only [hb])|(refine w_9 ?_;simp (maxDischargeDepth:=12) only [viz,↓reduceIte,Nat.reduceEqDiff,reduceCtorEq,Int.reduceEq,Int.reduceNeg,Nat.reduceAdd,Nat.reduceLeDiff])|refine w_10 (fun hc=>(by (try simp only [Bool.and_eq_true] at hc);simp (maxDischargeDepth:=12) only [viz,↓reduceIte,Nat.reduceEqDiff,reduceCtorEq,Int.reduceEq,Int.reduceNeg,Nat.reduceAdd,Nat.reduceLeDiff,hc];first|exact ⟨rfl,rfl⟩|exact rfl)) ?_|refine w_11 (fun hc=>(by (try simp only [Bool.and_eq_true] at hc);simp (maxDischargeDepth:=12) only [viz,↓reduceIte,Nat.reduceEqDiff,reduceCtorEq,Int.reduceEq,Int.reduceNeg,Nat.reduceAdd,Nat.reduceLeDiff,hc];first|exact ⟨rfl,rfl⟩|exact rfl)) ?_|refine w_12 ?_|simp (maxDischargeDepth:=12) only [viz,↓reduceIte,Nat.reduceEqDiff,reduceCtorEq,Int.reduceEq,Int.reduceNeg,Nat.reduceAdd,Nat.reduceLeDiff]))
  rw [any_idx, ← List.contains_eq_any_beq]
  exact hK
def frees (tok : Int) (key : Txt) (ahead : Int) (x : Sp) : Bool := decide (x.call.kind = 2) && decide (x.call.token = tok) && x.call.keys.contains key && decide ((x.frm : Int) < ahead) && (!x.known || decide (x.reply.code = 0))
def FG (r1 r2 r3 : Nat) (tok : Int) (key : Txt) (ahead : Int) (M : Mem) : Prop := (∃ t, M.get r1 = some ⟨t, 1, [[.int .u64 tok]]⟩) ∧ (∃ t, M.get r2 = some ⟨t, 1, [[.str key]]⟩) ∧ (∃ t, M.get r3 = some ⟨t, 1, [[.int .i64 ahead]]⟩) ∧ r1 < M.next ∧ r2 < M.next ∧ r3 < M.next
theorem freedF (r1 r2 r3 : Nat) (tok : Int) (key : Txt) (ahead : Int) : FnP (fun M => FG r1 r2 r3 tok key ahead M) 33 [.ptr r1 0 0, .ptr r2 0 0, .ptr r3 0 0] (frees tok key ahead) := by
  intro c x M K hG h16 hc hK
  obtain ⟨k, w, rfl, hk, hw⟩ := hc
  obtain ⟨⟨t1, g1⟩, ⟨t2, g2⟩, ⟨t3, g3⟩, l1, l2, l3⟩ := hG
  have n1 : (r1 = M.next) = False := by simp; omega
  have n2 : (r2 = M.next) = False := by simp; omega
  have n3 : (r3 = M.next) = False := by simp; omega
  refine C_enter (cf := cf33) rfl (Nat.le_of_ble_eq_true rfl) ?_
  simp only [cf33, oo, on, om, og, oc, ou]
  (repeat' (with_reducible first|refine w_1 ?_|refine w_2 ?_|refine w_3 ?_|refine w_4 ?_|refine w_5 ?_|refine w_6 ?_|refine w_7 ?_|(refine w_8 (fun hb=>?_) (fun hb=>?_)<;>(try simp only [Bool.not_eq_true',Bool.not_eq_false'] at hb)<;>try simp only [hb])|(refine w_9 ?_;simp (maxDischargeDepth:=12) only [viz,↓reduceIte,Nat.reduceEqDiff,reduceCtorEq,Int.reduceEq,Int.reduceNeg,Nat.reduceAdd,Nat.reduceLeDiff,hk.cell,hw.cell,g1,g2,g3,n1,n2,n3])|refine w_10 (fun hc=>(by (try simp only [Bool.and_eq_true] at hc);simp (maxDischargeDepth:=12) only [viz,↓reduceIte,Nat.reduceEqDiff,reduceCtorEq,Int.reduceEq,Int.reduceNeg,Nat.reduceAdd,Nat.reduceLeDiff,hk.cell,hw.cell,g1,g2,g3,n1,n2,n3,hc];first|exact ⟨rfl,rfl⟩|exact rfl)) ?_|refine w_11 (fun hc=>(by (try simp only [Bool.and_eq_true] at hc);simp (maxDischargeDepth:=12) only [viz,↓reduceIte,Nat.reduceEqDiff,reduceCtorEq,Int.reduceEq,Int.reduceNeg,Nat.reduceAdd,Nat.reduceLeDiff,hk.cell,hw.cell,g1,g2,g3,n1,n2,n3,hc];first|exact ⟨rfl,rfl⟩|exact rfl)) ?_|refine w_12 ?_|simp (maxDischargeDepth:=12) only [viz,↓reduceIte,Nat.reduceEqDiff,reduceCtorEq,Int.reduceEq,Int.reduceNeg,Nat.reduceAdd,Nat.reduceLeDiff,hk.cell,hw.cell,g1,g2,g3,n1,n2,n3]))
  · refine strIn_c hk (by omega) ?_
    (repeat' (with_reducible first|refine w_1 ?_|refine w_2 ?_|refine w_3 ?_|refine w_4 ?_|refine w_5 ?_|refine w_6 ?_|refine w_7 ?_|(refine w_8 (fun hb=>?_) (fun hb=>?_)<;>(try simp only [Bool.not_eq_true',Bool.not_eq_false'] at hb)<;>try simp only [hb])|(refine w_9 ?_;simp (maxDischargeDepth:=12) only [viz,↓reduceIte,Nat.reduceEqDiff,reduceCtorEq,Int.reduceEq,Int.reduceNeg,Nat.reduceAdd,Nat.reduceLeDiff,g1,g2,g3,n1,n2,n3])|refine w_10 (fun hc=>(by (try simp only [Bool.and_eq_true] at hc);simp (maxDischargeDepth:=12) only [viz,↓reduceIte,Nat.reduceEqDiff,reduceCtorEq,Int.reduceEq,Int.reduceNeg,Nat.reduceAdd,Nat.reduceLeDiff,g1,g2,g3,n1,n2,n3,hc];first|exact ⟨rfl,rfl⟩|exact rfl)) ?_|refine w_11 (fun hc=>(by (try simp only [Bool.and_eq_true] at hc);simp (maxDischargeDepth:=12) only [viz,↓reduceIte,Nat.reduceEqDiff,reduceCtorEq,Int.reduceEq,Int.reduceNeg,Nat.reduceAdd,Nat.reduceLeDiff,g1,g2,g3,n1,n2,n3,hc];first|exact ⟨rfl,rfl⟩|exact rfl)) ?_|refine w_12 ?_|simp (maxDischargeDepth:=12) only [viz,↓reduceIte,Nat.reduceEqDiff,reduceCtorEq,Int.reduceEq,Int.reduceNeg,Nat.reduceAdd,Nat.reduceLeDiff,g1,g2,g3,n1,n2,n3]))
    exact K_of hK (pushes _ _) (by grind [frees])
  · exact K_of hK (pushes _ _) (by grind [frees])
theorem freed_c {l : List Sp} {v : AV} {ys : List (List AV)} {D : Nat → Prop} {tok ahead : Int} {key : Txt} {s : Mem} {K : AV → Mem → Prop} (hf : s.floor ≤ s.next) (hI : In D s) (hv : Sl s D v 12 ys) (hy : LsC SpC ys l) (h64 : l.length ≤ 64) (h16 : ∀ x ∈ l, x.call.keys.length ≤ 16)
    (hK : ∀ s', Keep s.next s s' → K (.bool (l.any (frees tok key ahead))) s') : C tab 17 [v, .int .u64 tok, .str key, .int .i64 ahead] s K := by
  refine C_enter (cf := cf17) rfl (Nat.le_of_ble_eq_true rfl) ?_
  simp only [cf17, oo, on, om, og, oc, ou]
  (repeat' (with_reducible first|refine w_1 ?_|refine w_2 ?_|refine w_3 ?_|refine w_4 ?_|refine w_5 ?_|refine w_6 ?_|refine w_7 ?_|(refine w_8 (fun hb=>?_) (fun hb=>?_)<;>(try simp only [Bool.not_eq_true',Bool.not_eq_false'] at hb)<;>try simp only [hb])|(refine w_9 ?_;simp (maxDischargeDepth:=12) only [viz,↓reduceIte,Nat.reduceEqDiff,reduceCtorEq,Int.reduceEq,Int.reduceNeg,Nat.reduceAdd,Nat.reduceLeDiff,hf])|refine w_10 (fun hc=>(by (try simp only [Bool.and_eq_true] at hc);simp (maxDischargeDepth:=12) only [viz,↓reduceIte,Nat.reduceEqDiff,reduceCtorEq,Int.reduceEq,Int.reduceNeg,Nat.reduceAdd,Nat.reduceLeDiff,hf,hc];first|exact ⟨rfl,rfl⟩|exact rfl)) ?_|refine w_11 (fun hc=>(by (try simp only [Bool.and_eq_true] at hc);simp (maxDischargeDepth:=12) only [viz,↓reduceIte,Nat.reduceEqDiff,reduceCtorEq,Int.reduceEq,Int.reduceNeg,Nat.reduceAdd,Nat.reduceLeDiff,hf,hc];first|exact ⟨rfl,rfl⟩|exact rfl)) ?_|refine w_12 ?_|simp (maxDischargeDepth:=12) only [viz,↓reduceIte,Nat.reduceEqDiff,reduceCtorEq,Int.reduceEq,Int.reduceNeg,Nat.reduceAdd,Nat.reduceLeDiff,hf]))
  refine C_enter (cf := cf32) rfl (Nat.le_of_ble_eq_true rfl) ?_
  simp only [cf32, oo, on, om, og, oc, ou]
  (repeat' (with_reducible first|refine w_1 ?_|refine w_2 ?_|refine w_3 ?_|refine w_4 ?_|refine w_5 ?_|refine w_6 ?_|refine w_7 ?_|(refine w_8 (fun hb=>?_) (fun hb=>?_)<;>(try simp only [Bool.not_eq_true',Bool.not_eq_false'] at hb)<;>try simp only [hb])|(refine w_9 ?_;simp (maxDischargeDepth:=12) only [viz,↓reduceIte,Nat.reduceEqDiff,reduceCtorEq,Int.reduceEq,Int.reduceNeg,Nat.reduceAdd,Nat.reduceLeDiff])|refine w_10 (fun hc=>(by (try simp only [Bool.and_eq_true] at hc);simp (maxDischargeDepth:=12) only [viz,↓reduceIte,Nat.reduceEqDiff,reduceCtorEq,Int.reduceEq,Int.reduceNeg,Nat.reduceAdd,Nat.reduceLeDiff,hc];first|exact ⟨rfl,rfl⟩|exact rfl)) ?_|refine w_11 (fun hc=>(by (try simp only [Bool.and_eq_true] at hc);simp (maxDischargeDepth:=12) only [viz,↓reduceIte,Nat.reduceEqDiff,reduceCtorEq,Int.reduceEq,Int.reduceNeg,Nat.reduceAdd,Nat.reduceLeDiff,hc];first|exact ⟨rfl,rfl⟩|exact rfl)) ?_|refine w_12 ?_|simp (maxDischargeDepth:=12) only [viz,↓reduceIte,Nat.reduceEqDiff,reduceCtorEq,Int.reduceEq,Int.reduceNeg,Nat.reduceAdd,Nat.reduceLeDiff]))
  have hk3 := (pushes s ⟨29, 1, [[.int .u64 tok]]⟩).then ((pushes _ ⟨9, 1, [[.str key]]⟩).then (pushes _ ⟨3, 1, [[.int .i64 ahead]]⟩))
  refine spIx_c (p := frees tok key ahead) (fun q hq => Nat.lt_of_lt_of_le (hI q hq) hk3.next) (hv.keep fun q hq => hk3.get q (hI q hq)) hy h64 h16 (fun M hM => ?_) (freedF s.next (s.next + 1) (s.next + 1 + 1) tok key ahead) fun s1 h1 => ?_
  · have hn := hM.next
    simp only [next_push'] at hn
    refine ⟨⟨29, ?_⟩, ⟨9, ?_⟩, ⟨3, ?_⟩, by omega, by omega, by omega⟩
    · rw [hM.get _ (by simp only [next_push']; omega)]
      simp only [Mem.get_push, next_push']
      rw [if_neg (by omega), if_neg (by omega), if_pos trivial]
    · rw [hM.get _ (by simp only [next_push']; omega)]
      simp only [Mem.get_push, next_push']
      rw [if_neg (by omega), if_pos trivial]
    · rw [hM.get _ (by simp only [next_push']; omega)]
      simp only [Mem.get_push, next_push']
      rw [if_pos trivial]
  · (repeat' (with_reducible first|refine w_1 ?_|refine w_2 ?_|refine w_3 ?_|refine w_4 ?_|refine w_5 ?_|refine w_6 ?_|refine w_7 ?_|(refine w_8 (fun hb=>?_) (fun hb=>?_)<;>(try simp only [Bool.not_eq_true',Bool.not_eq_false'] at hb)<;>try simp only [hb])|(refine w_9 ?_;simp (maxDischargeDepth:=12) only [viz,↓reduceIte,Nat.reduceEqDiff,reduceCtorEq,Int.reduceEq,Int.reduceNeg,Nat.reduceAdd,Nat.reduceLeDiff])|refine w_10 (fun hc=>(by (try simp only [Bool.and_eq_true] at hc);simp (maxDischargeDepth:=12) only [viz,↓reduceIte,Nat.reduceEqDiff,reduceCtorEq,Int.reduceEq,Int.reduceNeg,Nat.reduceAdd,Nat.reduceLeDiff,hc];first|exact ⟨rfl,rfl⟩|exact rfl)) ?_|refine w_11 (fun hc=>(by (try simp only [Bool.and_eq_true] at hc);simp (maxDischargeDepth:=12) only [viz,↓reduceIte,Nat.reduceEqDiff,reduceCtorEq,Int.reduceEq,Int.reduceNeg,Nat.reduceAdd,Nat.reduceLeDiff,hc];first|exact ⟨rfl,rfl⟩|exact rfl)) ?_|refine w_12 ?_|simp (maxDischargeDepth:=12) only [viz,↓reduceIte,Nat.reduceEqDiff,reduceCtorEq,Int.reduceEq,Int.reduceNeg,Nat.reduceAdd,Nat.reduceLeDiff]))
    rw [any_idx]
    exact hK _ (hk3.then h1)
end Go.Proofs.YtmjgakhnhjpclaaGreat

