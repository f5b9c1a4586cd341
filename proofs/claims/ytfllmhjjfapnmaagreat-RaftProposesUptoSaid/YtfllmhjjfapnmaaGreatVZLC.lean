/- What is appended. No statement of the seat is proved here. -/
import Derived.Test.YtfllmhjjfapnmaaGreatVZLB
import Derived.Test.YtfllmhjjfapnmaaGreatVZVE
namespace Go.Proofs.YtfllmhjjfapnmaaGreat
open Go Go.VI
set_option linter.unusedSimpArgs false
attribute [local irreducible] Ws Wp W C
set_option maxHeartbeats 4000000
def newE (l : Log) (tm k : Int) (bs : List UInt8) : Entry := ⟨IntKind.u64.wrap ((lastE l).index + 1), tm, k, bs⟩
def zeroL : Log := ⟨⟨0, 0, 0, []⟩, []⟩
def appOut (l : Log) (tm k : Int) (bs : List UInt8) : Log × Int :=
  if !logOk l || decide (tm < (lastE l).term) || !entOk (newE l tm k bs) then (zeroL, 1)
  else if decide (4096 ≤ l.l.length) || decide (4611686018427387904 ≤ (lastE l).index) then (zeroL, 2)
  else (⟨l.base, l.l ++ [newE l tm k bs]⟩, 0)
theorem lastE_wf {l : Log} (h : l.Wf) : (lastE l).Wf := by
  simp only [lastE]
  cases hl : l.l.getLast? with
  | none => exact h.base
  | some x => exact h.all x (List.mem_of_getLast? hl)
theorem zero_ent (s : Mem) (D : Nat → Prop) : LogV s D (.agg [.int .u64 0, .int .u64 0, .int .i64 0, .nilS, .nilS]) zeroL := ⟨.nilS, .nilS, rfl, Sl.nil _ _ _, [], Sl.nil _ _ _, EntsC.nil _ _⟩
structure AppIn (l : Log) (tm k : Int) (bs : List UInt8) : Prop where
  w : l.Wf
  tm : 0 ≤ tm ∧ tm ≤ 18446744073709551615
  k : -9223372036854775808 ≤ k ∧ k ≤ 9223372036854775807
  bs : Fit bs.length
theorem AppIn.e {l : Log} {tm k : Int} {bs : List UInt8} (h : AppIn l tm k bs) : (newE l tm k bs).Wf := by
  refine ⟨?_, h.tm, h.k, h.bs⟩
  have h1 := (lastE_wf h.w).index
  simp only [newE]
  rw [next_u64 h1]
  split <;> omega
theorem appendN_c {l : Log} {tm k : Int} {bs : List UInt8} {D : Nat → Prop} {s : Mem} {v dv : AV} {K : AV → Mem → Prop} (hf : s.floor ≤ s.next) (hI : In D s) (hv : LogV s D v l) (hb : Byt s D dv bs) (hA : AppIn l tm k bs)
    (hK : ∀ v' s', LogV s' (NewD D s.next s'.next) v' (appOut l tm k bs).1 → Keep s.next s s' → K (.tup [v', .int .i64 (appOut l tm k bs).2]) s') : C tab 65 [v, .int .u64 tm, .int .i64 k, dv] s K := by
  obtain ⟨d, w, rfl, hd, hes⟩ := hv
  have hw := hA.w
  refine C_enter (cf := cf65) rfl (Nat.le_of_ble_eq_true rfl) ?_
  simp only [cf65, oo, on, om, og, oc, ou]
  (repeat' (with_reducible first|refine w_1 ?_|refine w_2 ?_|refine w_3 ?_|refine w_4 ?_|refine w_5 ?_|refine w_6 ?_|refine w_7 ?_|(refine w_8 (fun hb=>?_) (fun hb=>?_)<;>try simp only [hb])|refine w_9 ?_|simp (maxDischargeDepth:=12) only [viz,↓reduceIte,Nat.reduceEqDiff,reduceCtorEq,Int.reduceEq,Int.reduceNeg,Nat.reduceAdd,Nat.reduceLeDiff,hd.cell,hes.cell,hf]))
  have hk0 := (pushes s ⟨28, 5, [[.int .u64 l.base.index, .int .u64 l.base.term, .int .i64 l.base.kind, d, w]]⟩).then (pushes _ ⟨28, 5, [[.int .u64 0, .int .u64 0, .int .i64 0, .nilS, .nilS]]⟩)
  refine last_c (l := l) (D := D) (hk0.ok hf) (hI.keep hk0) ⟨d, w, rfl, hd.keep (keep_old hI hk0), hes.keep (keep_old hI hk0)⟩ hw fun s1 hk1 => ?_
  have hk01 := hk0.then hk1
  have a1 : s.next + 1 < s1.next := hk1.next
  (repeat' (with_reducible first|refine w_1 ?_|refine w_2 ?_|refine w_3 ?_|refine w_4 ?_|refine w_5 ?_|refine w_6 ?_|refine w_7 ?_|(refine w_8 (fun hb=>?_) (fun hb=>?_)<;>try simp only [hb])|refine w_9 ?_|simp (maxDischargeDepth:=12) only [viz,↓reduceIte,Nat.reduceEqDiff,reduceCtorEq,Int.reduceEq,Int.reduceNeg,Nat.reduceAdd,Nat.reduceLeDiff]))
  refine cloneB_c (D := D) (hk01.ok hf) (hI.keep hk01) (hb.keep (keep_old hI hk01)) hA.bs fun d2 s2 ho2 hk2 => ?_
  have hk02 := hk01.then hk2
  have hc2 : isCell d2 = true := (ho2.sl (byteC_len _) (D := fun _ => True) (fun _ _ _ => trivial)).cell
  have a2 : s1.next ≤ s2.next := hk2.next
  have b1 : s.next < s1.next := by omega
  have b2 : s.next < s2.next := by omega
  have b3 : s.next + 1 < s2.next := by omega
  have f2 : s2.floor ≤ s2.next := hk02.ok hf
  (repeat' (with_reducible first|refine w_1 ?_|refine w_2 ?_|refine w_3 ?_|refine w_4 ?_|refine w_5 ?_|refine w_6 ?_|refine w_7 ?_|(refine w_8 (fun hb=>?_) (fun hb=>?_)<;>try simp only [hb])|refine w_9 ?_|simp (maxDischargeDepth:=12) only [viz,↓reduceIte,Nat.reduceEqDiff,reduceCtorEq,Int.reduceEq,Int.reduceNeg,Nat.reduceAdd,Nat.reduceLeDiff,hk1.get,hk2.get,hc2,cells_cell hc2,b1,b2,b3,f2]))
  have hk23 := hk02.then (pushes s2 ⟨25, 4, [[.int .u64 (IntKind.u64.wrap ((lastE l).index + 1)), .int .u64 tm, .int .i64 k, d2]]⟩)
  refine rlogCheck_c (l := l) (D := D) (hk23.ok hf) (hI.keep hk23) ⟨d, w, rfl, hd.keep (keep_old hI hk23), hes.keep (keep_old hI hk23)⟩ hw fun s4 hk4 => ?_
  have hk04 := hk23.then hk4
  have a4 : s2.next < s4.next := hk4.next
  have b4 : s.next < s4.next := by omega
  have b5 : s.next + 1 < s4.next := by omega
  have f4 : s4.floor ≤ s4.next := hk04.ok hf
  have f0 : s4.floor ≤ s.next := by rw [hk04.floor]; exact hf
  have P0 : ∀ v' s', LogV s' (NewD D s.next s'.next) v' zeroL → Keep s.next s s' → ∀ c, appOut l tm k bs = (zeroL, c) → K (.tup [v', .int .i64 c]) s' := fun v' s' h1 h2 c h3 => by have := hK v' s'; rw [h3] at this; exact this h1 h2
  (repeat' (with_reducible first|refine w_1 ?_|refine w_2 ?_|refine w_3 ?_|refine w_4 ?_|refine w_5 ?_|refine w_6 ?_|refine w_7 ?_|(refine w_8 (fun hb=>?_) (fun hb=>?_)<;>try simp only [hb])|refine w_9 ?_|simp (maxDischargeDepth:=12) only [viz,↓reduceIte,Nat.reduceEqDiff,reduceCtorEq,Int.reduceEq,Int.reduceNeg,Nat.reduceAdd,Nat.reduceLeDiff,hk1.get,hk2.get,hk4.get,hc2,cells_cell hc2,a1,a4,b1,b2,b3,b4,b5,f4,f0,le_s1 f0]))
  · refine P0 _ _ (zero_ent _ _) (hk04.trans (Keep.put (Nat.le_succ _) _)) 1 ?_
    have h : logOk l = false := by
      cases h : logOk l with
      | false => rfl
      | true => rw [h] at hb; simp at hb
    simp [appOut, h]
  · refine P0 _ _ (zero_ent _ _) (hk04.trans (Keep.put (Nat.le_succ _) _)) 1 ?_
    have h : tm < (lastE l).term := by simpa using hb
    simp [appOut, h]
  · rename_i hb1
    have g1 : logOk l = true := by
      cases h : logOk l with
      | true => rfl
      | false => rw [h] at hb1; simp at hb1
    have g2 : decide (tm < (lastE l).term) = false := hb
    have hk41 : ∀ r, D r → s4.get r = s.get r := keep_old hI hk04
    refine entry_c (e := newE l tm k bs) (D := fun r => s1.next ≤ r ∧ r < s2.next) (hk04.ok hf) (fun r hr => by omega) ?_ hA.e fun s5 hk5 => ?_
    · exact (ho2.sl (D := fun r => s1.next ≤ r ∧ r < s2.next) (byteC_len _) fun q n h => ho2.row q 0 n 1 h).keep fun r hr => by rw [hk4.get r (by simp only [next_push']; omega), Mem.get_push, if_neg (by omega)]
    have hk05 := hk04.then hk5
    have a5 : s4.next ≤ s5.next := hk5.next
    have f5 : s5.floor ≤ s.next := by rw [hk05.floor]; exact hf
    (repeat' (with_reducible first|refine w_1 ?_|refine w_2 ?_|refine w_3 ?_|refine w_4 ?_|refine w_5 ?_|refine w_6 ?_|refine w_7 ?_|(refine w_8 (fun hb=>?_) (fun hb=>?_)<;>try simp only [hb])|refine w_9 ?_|simp (maxDischargeDepth:=12) only [viz,↓reduceIte,Nat.reduceEqDiff,reduceCtorEq,Int.reduceEq,Int.reduceNeg,Nat.reduceAdd,Nat.reduceLeDiff,hk1.get,hk2.get,hk4.get,hk5.get,hc2,cells_cell hc2,a1,a4,b1,b2,b3,b4,b5,f4,f5,le_s1 f5,hd.cell,hes.len]))
    · refine P0 _ _ (zero_ent _ _) (hk05.trans (Keep.put (Nat.le_succ _) _)) 1 ?_
      have h : entOk (newE l tm k bs) = false := by simpa using hb
      simp [appOut, h]
    · rename_i hb2
      have g3 : entOk (newE l tm k bs) = true := by simpa using hb2
      refine P0 _ _ (zero_ent _ _) (hk05.trans (Keep.put (Nat.le_succ _) _)) 2 ?_
      have h : 4096 ≤ l.l.length := by simp only [decide_eq_true_eq] at hb; omega
      simp [appOut, g1, g2, g3, h]
    · rename_i hb2 hb3
      have g3 : entOk (newE l tm k bs) = true := by simpa using hb2
      refine P0 _ _ (zero_ent _ _) (hk05.trans (Keep.put (Nat.le_succ _) _)) 2 ?_
      have h : 4611686018427387904 ≤ (lastE l).index := by simpa using hb
      simp [appOut, g1, g2, g3, h]
    · rename_i hb2 hb3
      have g3 : entOk (newE l tm k bs) = true := by simpa using hb2
      have g4 : ¬ 4096 ≤ l.l.length := by simp only [decide_eq_false_iff_not] at hb3; omega
      have g5 : ¬ 4611686018427387904 ≤ (lastE l).index := by simpa using hb
      have out : appOut l tm k bs = (⟨l.base, l.l ++ [newE l tm k bs]⟩, 0) := by simp [appOut, g1, g2, g3, g4, g5]
      rw [out] at hK
      refine copied_c (l := l) (D := D) (hk05.ok hf) (hI.keep hk05) ⟨d, w, rfl, hd.keep (keep_old hI hk05), hes.keep (keep_old hI hk05)⟩ hw fun v6 s6 ho6 hk6 => ?_
      obtain ⟨d6, w6, rfl, hd6, ho6⟩ := ho6
      have hk06 := hk05.then hk6
      have a6 : s5.next ≤ s6.next := hk6.next
      have f6 : s6.floor ≤ s.next := by rw [hk06.floor]; exact hf
      have f66 : s6.floor ≤ s6.next := hk06.ok hf
      have c1 : s.next < s5.next := by omega
      have c2 : s2.next < s5.next := by omega
      have c3 : s.next < s6.next := by omega
      have c4 : s2.next < s6.next := by omega
      have c5 : s.next + 1 < s6.next := by omega
      (repeat' (with_reducible first|refine w_1 ?_|refine w_2 ?_|refine w_3 ?_|refine w_4 ?_|refine w_5 ?_|refine w_6 ?_|refine w_7 ?_|(refine w_8 (fun hb=>?_) (fun hb=>?_)<;>try simp only [hb])|refine w_9 ?_|simp (maxDischargeDepth:=12) only [viz,↓reduceIte,Nat.reduceEqDiff,reduceCtorEq,Int.reduceEq,Int.reduceNeg,Nat.reduceAdd,Nat.reduceLeDiff,hk1.get,hk2.get,hk4.get,hk5.get,hk6.get,hc2,cells_cell hc2,a1,a4,b1,b2,b3,b4,b5,c1,c2,c3,c4,c5,f4,f6,f66,le_s1 f6,hd6.cell,ho6.cell]))
      have hp6 := ho6.to (s' := s6.put s.next (some ⟨28, 5, [[.int .u64 l.base.index, .int .u64 l.base.term, .int .i64 l.base.kind, d6, w6]]⟩)) (b' := s5.next) (fun q h1 h2 => by rw [Mem.get_put, if_neg (by omega)]) (Nat.le_refl _) (Nat.le_refl _) (Nat.le_refl _)
      obtain ⟨xs, hx, hxe⟩ := hp6
      have hxl := hxe.1
      have hn := hw.len
      refine app_lit (k := 1) (b := s5.next) (xs := xs) (show s6.floor ≤ s5.next by omega) a6 hx (by simp only [ev, Env.get_set, ↓reduceIte, Nat.reduceEqDiff]) (by simp only [ev, Env.get_set, ↓reduceIte, Nat.reduceEqDiff]; rfl) rfl rfl (room (by simp only [List.length_cons, List.length_nil]; omega) (by simp only [List.length_cons, List.length_nil]; omega)) ?_
      intro v7 s7 ho7 hx7 hr7 _
      have hk67 := hx7.keep (b := s5.next) a6 fun r i n z h => (hx.row r i n z h).1
      have hk07 : Keep s.next s s7 := (hk06.trans (Keep.put (Nat.le_refl _) _)).trans (hk67.le (by omega))
      have a7 : s6.next ≤ s7.next := hx7.next
      have f7 : s7.floor ≤ s.next := by rw [hk07.floor]; exact hf
      have d1 : s.next < s7.next := by omega
      have d2' : s.next + 1 < s7.next := by omega
      have d3 : s.next + 1 < s5.next := by omega
      have hc7 : isCell v7 = true := (ho7.sl (D := fun _ => True) (by
        intro c hc
        rcases List.mem_append.mp hc with hc | hc
        · exact hxe.sizes c hc
        · simp only [List.mem_singleton] at hc; subst hc; rfl) fun _ _ _ => trivial).cell
      (repeat' (with_reducible first|refine w_1 ?_|refine w_2 ?_|refine w_3 ?_|refine w_4 ?_|refine w_5 ?_|refine w_6 ?_|refine w_7 ?_|(refine w_8 (fun hb=>?_) (fun hb=>?_)<;>try simp only [hb])|refine w_9 ?_|simp (maxDischargeDepth:=12) only [viz,↓reduceIte,Nat.reduceEqDiff,reduceCtorEq,Int.reduceEq,Int.reduceNeg,Nat.reduceAdd,Nat.reduceLeDiff,hk1.get,hk2.get,hk4.get,hk5.get,hk6.get,hk67.get,hc2,cells_cell hc2,hc7,cells_cell hc7,hd6.cell,a1,a4,b1,b2,b3,b4,b5,c1,c2,c3,c4,c5,f4,f7,d1,d2',d3,le_s1 f7]))
      have e1 : ∀ q y z, s.next + 1 < q → (((s7.put s.next y).put (s.next + 1) z).get q) = s7.get q := fun q y z h => by rw [Mem.get_put, if_neg (by omega), Mem.get_put, if_neg (by omega)]
      have e2 : ∀ q, s5.next ≤ q → q < s6.next → (∀ i n z, w6 ≠ .own q i n z) → s7.get q = s6.get q := fun q h1 h2 h3 => by rw [hx7.get q h2 h3, Mem.get_put, if_neg (by omega)]
      refine hK _ _ ⟨d6, v7, rfl, ?_, xs ++ [[.int .u64 (IntKind.u64.wrap ((lastE l).index + 1)), .int .u64 tm, .int .i64 k, d2]], ?_, ?_⟩ ((hk07.trans (Keep.put (Nat.le_refl _) _)).trans (Keep.put (Nat.le_succ _) _))
      · refine (hd6.keep fun q hq => ?_).mono fun q hq => ?_
        · rw [e1 q _ _ (by omega), e2 q hq.1 hq.2.1 hq.2.2]
        · exact .inr ⟨by omega, show q < s7.next by omega⟩
      · refine ((ho7.sl (D := fun q => s5.next ≤ q ∧ q < s7.next) ?_ fun q n h => ho7.row q 0 n 4 h).keep fun q hq => ?_).mono fun q hq => ?_
        · intro c hc
          rcases List.mem_append.mp hc with hc | hc
          · exact hxe.sizes c hc
          · simp only [List.mem_singleton] at hc; subst hc; rfl
        · exact e1 q _ _ (by omega)
        · exact .inr ⟨by omega, show q < s7.next by omega⟩
      · refine EntsC.append ?_ (EntsC.one ⟨d2, rfl, ?_⟩)
        · refine (hxe.keep fun q hq => ?_).mono fun q hq => ?_
          · have h2 : q < s6.next := hq.2.1
            rw [e1 q _ _ (by omega), e2 q hq.1 h2 hq.2.2, Mem.get_put, if_neg (by omega)]
          · have h2 : q < s6.next := hq.2.1
            exact .inr ⟨by omega, show q < s7.next by omega⟩
        · refine ((ho2.sl (D := fun q => s1.next ≤ q ∧ q < s2.next) (byteC_len _) fun q n h => ho2.row q 0 n 1 h).keep fun q hq => ?_).mono fun q hq => ?_
          · rw [e1 q _ _ (by omega), hk67.get q (by omega), Mem.get_put, if_neg (by omega), hk6.get q (by omega), hk5.get q (by omega), hk4.get q (by simp only [next_push']; omega), Mem.get_push, if_neg (by omega)]
          · exact .inr ⟨by omega, show q < s7.next by omega⟩
end Go.Proofs.YtfllmhjjfapnmaaGreat
/- What is appended, the other way. No statement of the seat is proved here. -/
namespace Go.Proofs.YtfllmhjjfapnmaaGreat
open Go Go.VI
set_option linter.unusedSimpArgs false
attribute [local irreducible] Ws Wp W C
set_option maxHeartbeats 4000000
theorem logOk_len {l : Log} (h : logOk l = true) : l.l.length ≤ 4096 := by
  simp only [logOk, Bool.and_eq_true, decide_eq_true_eq] at h
  exact h.1.2
theorem rappendN_c {l : Log} {tm k : Int} {bs : List UInt8} {D : Nat → Prop} {s : Mem} {v dv : AV} {K : AV → Mem → Prop} (hf : s.floor ≤ s.next) (hI : In D s) (hv : LogV s D v l) (hb : Byt s D dv bs) (hA : AppIn l tm k bs)
    (hK : ∀ v' s', LogV s' (NewD D s.next s'.next) v' (appOut l tm k bs).1 → Keep s.next s s' → K (.tup [v', .int .i64 (appOut l tm k bs).2]) s') : C tab 70 [v, .int .u64 tm, .int .i64 k, dv] s K := by
  obtain ⟨d, w, rfl, hd, hes⟩ := hv
  have hw := hA.w
  refine C_enter (cf := cf70) rfl (Nat.le_of_ble_eq_true rfl) ?_
  simp only [cf70, oo, on, om, og, oc, ou]
  have P0 : ∀ v' s', LogV s' (NewD D s.next s'.next) v' zeroL → Keep s.next s s' → ∀ c, appOut l tm k bs = (zeroL, c) → K (.tup [v', .int .i64 c]) s' := fun v' s' h1 h2 c h3 => by have := hK v' s'; rw [h3] at this; exact this h1 h2
  (repeat' (with_reducible first|refine w_1 ?_|refine w_2 ?_|refine w_3 ?_|refine w_4 ?_|refine w_5 ?_|refine w_6 ?_|refine w_7 ?_|(refine w_8 (fun hb=>?_) (fun hb=>?_)<;>try simp only [hb])|refine w_9 ?_|simp (maxDischargeDepth:=12) only [viz,↓reduceIte,Nat.reduceEqDiff,reduceCtorEq,Int.reduceEq,Int.reduceNeg,Nat.reduceAdd,Nat.reduceLeDiff,hd.cell,hes.cell,hf]))
  have hk0 := (pushes s ⟨28, 5, [[.int .u64 l.base.index, .int .u64 l.base.term, .int .i64 l.base.kind, d, w]]⟩).then (pushes _ ⟨28, 5, [[.int .u64 0, .int .u64 0, .int .i64 0, .nilS, .nilS]]⟩)
  refine may_c (l := l) (D := D) (hk0.ok hf) (hI.keep hk0) ⟨d, w, rfl, hd.keep (keep_old hI hk0), hes.keep (keep_old hI hk0)⟩ hw fun s1 hk1 => ?_
  have hk01 := hk0.then hk1
  have a1 : s.next + 1 < s1.next := hk1.next
  have b1 : s.next < s1.next := by omega
  have f1 : s1.floor ≤ s.next := by rw [hk01.floor]; exact hf
  (repeat' (with_reducible first|refine w_1 ?_|refine w_2 ?_|refine w_3 ?_|refine w_4 ?_|refine w_5 ?_|refine w_6 ?_|refine w_7 ?_|(refine w_8 (fun hb=>?_) (fun hb=>?_)<;>try simp only [hb])|refine w_9 ?_|simp (maxDischargeDepth:=12) only [viz,↓reduceIte,Nat.reduceEqDiff,reduceCtorEq,Int.reduceEq,Int.reduceNeg,Nat.reduceAdd,Nat.reduceLeDiff,hk1.get,b1,a1,f1,le_s1 f1]))
  · refine P0 _ _ (zero_ent _ _) (hk01.trans (Keep.put (Nat.le_succ _) _)) 1 ?_
    have h : logOk l = false := by simpa using hb
    simp [appOut, h]
  · have g1 : logOk l = true := by simpa using hb
    refine rlast_c (l := l) (D := D) (hk01.ok hf) (hI.keep hk01) ⟨d, w, rfl, hd.keep (keep_old hI hk01), hes.keep (keep_old hI hk01)⟩ hw fun s2 hk2 => ?_
    have hk02 := hk01.then hk2
    have a2 : s1.next ≤ s2.next := hk2.next
    have b2 : s.next < s2.next := by omega
    have b3 : s.next + 1 < s2.next := by omega
    have f2 : s2.floor ≤ s.next := by rw [hk02.floor]; exact hf
    have f22 : s2.floor ≤ s2.next := hk02.ok hf
    have hcb := Sl.cell (by assumption : Byt s D dv bs)
    (repeat' (with_reducible first|refine w_1 ?_|refine w_2 ?_|refine w_3 ?_|refine w_4 ?_|refine w_5 ?_|refine w_6 ?_|refine w_7 ?_|(refine w_8 (fun hb=>?_) (fun hb=>?_)<;>try simp only [hb])|refine w_9 ?_|simp (maxDischargeDepth:=12) only [viz,↓reduceIte,Nat.reduceEqDiff,reduceCtorEq,Int.reduceEq,Int.reduceNeg,Nat.reduceAdd,Nat.reduceLeDiff,hk1.get,hk2.get,hcb,cells_cell hcb,b1,a1,b2,b3,f2,f22,le_s1 f2]))
    · refine P0 _ _ (zero_ent _ _) ((hk02.then (pushes _ _)).trans (Keep.put (Nat.le_succ _) _)) 1 ?_
      have h : tm < (lastE l).term := by simpa using hb
      simp [appOut, h]
    · have g2 : decide (tm < (lastE l).term) = false := hb
      have hk23 := hk02.then (pushes s2 ⟨25, 4, [[.int .u64 (IntKind.u64.wrap ((lastE l).index + 1)), .int .u64 tm, .int .i64 k, dv]]⟩)
      refine rentry_c (e := newE l tm k bs) (D := D) (hk23.ok hf) (hI.keep hk23) (Sl.keep (by assumption : Byt s D dv bs) (keep_old hI hk23)) hA.e fun s5 hk5 => ?_
      have hk05 := hk23.then hk5
      have a5 : s2.next < s5.next := hk5.next
      have f5 : s5.floor ≤ s.next := by rw [hk05.floor]; exact hf
      have f55 : s5.floor ≤ s5.next := hk05.ok hf
      have c1 : s.next < s5.next := by omega
      have c2 : s.next + 1 < s5.next := by omega
      (repeat' (with_reducible first|refine w_1 ?_|refine w_2 ?_|refine w_3 ?_|refine w_4 ?_|refine w_5 ?_|refine w_6 ?_|refine w_7 ?_|(refine w_8 (fun hb=>?_) (fun hb=>?_)<;>try simp only [hb])|refine w_9 ?_|simp (maxDischargeDepth:=12) only [viz,↓reduceIte,Nat.reduceEqDiff,reduceCtorEq,Int.reduceEq,Int.reduceNeg,Nat.reduceAdd,Nat.reduceLeDiff,hk1.get,hk2.get,hk5.get,hcb,cells_cell hcb,b1,a1,b2,b3,c1,c2,a5,f5,f55,le_s1 f5,hd.cell,hes.len,hes.cell]))
      · refine P0 _ _ (zero_ent _ _) (hk05.trans (Keep.put (Nat.le_succ _) _)) 1 ?_
        have h : entOk (newE l tm k bs) = false := by simpa using hb
        simp [appOut, h]
      · rename_i hb2
        have g3 : entOk (newE l tm k bs) = true := by simpa using hb2
        refine P0 _ _ (zero_ent _ _) (hk05.trans (Keep.put (Nat.le_succ _) _)) 2 ?_
        have h : 4096 ≤ l.l.length := by simp only [beq_iff_eq] at hb; omega
        simp [appOut, g1, g2, g3, h]
      · rename_i hb2 hb3
        have g3 : entOk (newE l tm k bs) = true := by simpa using hb2
        refine P0 _ _ (zero_ent _ _) (hk05.trans (Keep.put (Nat.le_succ _) _)) 2 ?_
        have h : 4611686018427387904 ≤ (lastE l).index := by simpa using hb
        simp [appOut, g1, g2, g3, h]
      · rename_i hb2 hb3
        have g3 : entOk (newE l tm k bs) = true := by simpa using hb2
        have g6 := logOk_len g1
        have g4 : ¬ 4096 ≤ l.l.length := by simp only [beq_eq_false_iff_ne] at hb3; omega
        have g5 : ¬ 4611686018427387904 ≤ (lastE l).index := by simpa using hb
        have out : appOut l tm k bs = (⟨l.base, l.l ++ [newE l tm k bs]⟩, 0) := by simp [appOut, g1, g2, g3, g4, g5]
        rw [out] at hK
        obtain ⟨ys, hs, hse⟩ := hes.keep (keep_old hI hk05)
        have hsl := hse.1
        refine app_x (b := s5.next + 1) (xs := []) (ys := ys) (Nat.le_refl _) (Nat.le_refl _) (OwnL.emp _ _ _ _) ?_ hs.uni (room (by simp only [List.length_nil]; omega) (by simp only [List.length_nil]; omega)) ?_
        · exact (mat_read (s5.push _) _ _).trans (hs.readk (hI.keep hk05) _ (pushes s5 _))
        · intro v6 s6 ho6 hx6 _ hr6
          have hk56 : Keep (s5.next + 1) ((s5.at (s5.next + 1)).push ⟨25, 4, []⟩) s6 := hx6.keep (Nat.le_refl _) fun r i n z h => by simp only [ev, Env.get_set, ↓reduceIte, Nat.reduceEqDiff, reduceCtorEq] at h
          have hk5' : Keep s5.next s5 (s6.at s5.floor) := (pushes s5 ⟨25, 4, []⟩).then (Keep.of_at (s := s5.push ⟨25, 4, []⟩) hk56)
          have a6 : s5.next + 1 ≤ s6.next := hk56.next
          have hg6 : ∀ q, q < s5.next → s6.get q = s5.get q := fun q h => hk5'.get q h
          have ho6' : OwnL (s6.at s5.floor) (s5.next + 1) v6 25 4 ys := ho6.at (by omega)
          (repeat' (with_reducible first|refine w_1 ?_|refine w_2 ?_|refine w_3 ?_|refine w_4 ?_|refine w_5 ?_|refine w_6 ?_|refine w_7 ?_|(refine w_8 (fun hb=>?_) (fun hb=>?_)<;>try simp only [hb])|refine w_9 ?_|simp (maxDischargeDepth:=12) only [viz,↓reduceIte,Nat.reduceEqDiff,reduceCtorEq,Int.reduceEq,Int.reduceNeg,Nat.reduceAdd,Nat.reduceLeDiff,hk1.get,hk2.get,hk5.get,hg6,hcb,cells_cell hcb,b1,a1,b2,b3,c1,c2,a5,f5,f55,le_s1 f5,hd.cell,hes.len,hes.cell]))
          refine app_lit (k := 1) (b := s5.next + 1) (xs := ys) (s := s6.at s5.floor) (show s5.floor ≤ s5.next + 1 by omega) a6 ho6' (by simp only [ev, Env.get_set, ↓reduceIte, Nat.reduceEqDiff]) (by simp only [ev, Env.get_set, ↓reduceIte, Nat.reduceEqDiff]; rfl) rfl rfl (room (by simp only [List.length_cons, List.length_nil]; omega) (by simp only [List.length_cons, List.length_nil]; omega)) ?_
          intro v7 s7 ho7 hx7 hr7 _
          have hk67 : Keep (s5.next + 1) (s6.at s5.floor) s7 := hx7.keep a6 fun r i n z h => (ho6'.row r i n z h).1
          have hk57 : Keep s5.next s5 s7 := hk5'.trans (hk67.le (Nat.le_succ _))
          have hk07 := hk05.then hk57
          have a7 : s6.next ≤ s7.next := hx7.next
          have hg7 : ∀ q, q < s5.next → s7.get q = s5.get q := fun q h => hk57.get q h
          have f7 : s7.floor ≤ s.next := by rw [hk07.floor]; exact hf
          have hc7 : isCell v7 = true := (ho7.sl (D := fun _ => True) (by
            intro c hc
            rcases List.mem_append.mp hc with hc | hc
            · exact hse.sizes c hc
            · simp only [List.mem_singleton] at hc; subst hc; rfl) fun _ _ _ => trivial).cell
          (repeat' (with_reducible first|refine w_1 ?_|refine w_2 ?_|refine w_3 ?_|refine w_4 ?_|refine w_5 ?_|refine w_6 ?_|refine w_7 ?_|(refine w_8 (fun hb=>?_) (fun hb=>?_)<;>try simp only [hb])|refine w_9 ?_|simp (maxDischargeDepth:=12) only [viz,↓reduceIte,Nat.reduceEqDiff,reduceCtorEq,Int.reduceEq,Int.reduceNeg,Nat.reduceAdd,Nat.reduceLeDiff,hk1.get,hk2.get,hk5.get,hg7,hcb,cells_cell hcb,hc7,cells_cell hc7,b1,a1,b2,b3,c1,c2,a5,f7,le_s1 f7,hd.cell]))
          have e1 : ∀ q y z, s.next + 1 < q → (((s7.put s.next y).put (s.next + 1) z).get q) = s7.get q := fun q y z h => by rw [Mem.get_put, if_neg (by omega), Mem.get_put, if_neg (by omega)]
          have hkM : ∀ y z, Keep s.next s ((s7.put s.next y).put (s.next + 1) z) := fun y z => (hk07.trans (Keep.put (Nat.le_refl _) _)).trans (Keep.put (Nat.le_succ _) _)
          have hlt : ∀ q, D q → NewD D s.next s7.next q := fun q hq => .inl hq
          refine hK _ _ ⟨d, v7, rfl, ?_, ys ++ [[.int .u64 (IntKind.u64.wrap ((lastE l).index + 1)), .int .u64 tm, .int .i64 k, dv]], ?_, ?_⟩ (hkM _ _)
          · exact (hd.keep (keep_old hI (hkM _ _))).mono hlt
          · refine ((ho7.sl (D := fun q => s5.next + 1 ≤ q ∧ q < s7.next) ?_ fun q n h => ho7.row q 0 n 4 h).keep fun q hq => ?_).mono fun q hq => ?_
            · intro c hc
              rcases List.mem_append.mp hc with hc | hc
              · exact hse.sizes c hc
              · simp only [List.mem_singleton] at hc; subst hc; rfl
            · exact e1 q _ _ (by omega)
            · exact .inr ⟨by omega, show q < s7.next by omega⟩
          · refine EntsC.append ((hse.keep fun q hq => ?_).mono hlt) (EntsC.one ⟨dv, rfl, ?_⟩)
            · exact (keep_old hI (hkM _ _) q hq).trans (keep_old hI hk05 q hq).symm
            · exact (Sl.keep (by assumption : Byt s D dv bs) (keep_old hI (hkM _ _))).mono hlt
end Go.Proofs.YtfllmhjjfapnmaaGreat
/- The term at an index. No statement of the seat is proved here. -/
namespace Go.Proofs.YtfllmhjjfapnmaaGreat
open Go Go.VI
set_option linter.unusedSimpArgs false
attribute [local irreducible] Ws Wp W C
set_option maxHeartbeats 4000000
def Cons (b : Int) (es : List Entry) : Prop := ∀ (j : Nat) (e : Entry), es[j]? = some e → e.index = b + 1 + j
theorem beh_cons : ∀ (es : List Entry) (b t : Int), beh b t es = true → Cons b es := by
  intro es
  induction es with
  | nil => intro b t _ j e h; simp at h
  | cons x es ih =>
    intro b t h j e he
    simp only [beh, Bool.and_eq_true, decide_eq_true_eq] at h
    cases j with
    | zero => simp at he; subst he; rw [h.1.1.1]; simp
    | succ j =>
      have := ih _ _ h.2 j e (by simpa using he)
      rw [this, h.1.1.1]; push_cast; omega
theorem Cons.take {b : Int} {es : List Entry} (h : Cons b es) (k : Nat) : Cons b (es.take k) := by
  intro j e he
  rw [List.getElem?_take] at he
  split at he
  · exact h j e he
  · cases he
theorem Cons.snoc {b : Int} {es : List Entry} (h : Cons b es) {e : Entry} (he : e.index = b + 1 + es.length) : Cons b (es ++ [e]) := by
  intro j x hx
  by_cases hj : j < es.length
  · rw [List.getElem?_append_left hj] at hx; exact h j x hx
  · rw [List.getElem?_append_right (by omega)] at hx
    have : j - es.length = 0 := by
      cases hk : j - es.length with
      | zero => rfl
      | succ k => rw [hk] at hx; simp at hx
    rw [this] at hx
    obtain rfl := Option.some.inj (by simpa using hx)
    rw [he]; omega
def termO (b t : Int) (es : List Entry) (ix : Int) : Int × Bool :=
  if ix = b then (t, true) else match es.find? (fun e => decide (e.index = ix)) with
    | some e => (e.term, true)
    | none => (0, false)
theorem find_in {b : Int} : ∀ {es : List Entry} {j : Nat} {e : Entry}, Cons b es → es[j]? = some e → es.find? (fun x => decide (x.index = e.index)) = some e := by
  intro es j e hc hj
  have he := hc j e hj
  rw [List.find?_eq_some_iff_getElem]
  obtain ⟨hlt, hg⟩ := List.getElem?_eq_some_iff.mp hj
  refine ⟨by simp, j, hlt, hg, ?_⟩
  intro i hi
  have := hc i es[i] (List.getElem?_eq_getElem (by omega))
  simp; omega
theorem find_out {b ix : Int} {es : List Entry} (hc : Cons b es) (h : ix ≤ b ∨ b + es.length < ix) : es.find? (fun x => decide (x.index = ix)) = none := by
  rw [List.find?_eq_none]
  intro e he
  obtain ⟨j, hj⟩ := List.mem_iff_getElem?.mp he
  have := hc j e hj
  have hlt := (List.getElem?_eq_some_iff.mp hj).1
  simp; omega
theorem lastE_index {l : Log} (hc : Cons l.base.index l.l) : (lastE l).index = l.base.index + l.l.length := by
  rcases Nat.eq_zero_or_pos l.l.length with h0 | h0
  · rw [lastE_nil h0, h0]; simp
  · obtain ⟨x, hx⟩ := get_of (show l.l.length - 1 < l.l.length by omega)
    rw [lastE_of hx, hc _ x hx]; omega
theorem rterm_c {l : Log} {ix : Int} {D : Nat → Prop} {s : Mem} {v : AV} {K : AV → Mem → Prop} (_hf : s.floor ≤ s.next) (hI : In D s) (hv : LogV s D v l) (hn : Fit l.l.length)
    (hK : ∀ s', Keep s.next s s' → K (.tup [.int .u64 (termO l.base.index l.base.term l.l ix).1, .bool (termO l.base.index l.base.term l.l ix).2]) s') : C tab 71 [v, .int .u64 ix] s K := by
  obtain ⟨d, w, rfl, hd, hes⟩ := hv
  refine C_enter (cf := cf71) rfl (Nat.le_of_ble_eq_true rfl) ?_
  simp only [cf71, oo, on, om, og, oc, ou]
  (repeat' (with_reducible first|refine w_1 ?_|refine w_2 ?_|refine w_3 ?_|refine w_4 ?_|refine w_5 ?_|refine w_6 ?_|refine w_7 ?_|(refine w_8 (fun hb=>?_) (fun hb=>?_)<;>try simp only [hb])|refine w_9 ?_|simp (maxDischargeDepth:=12) only [viz,↓reduceIte,Nat.reduceEqDiff,reduceCtorEq,Int.reduceEq,Int.reduceNeg,Nat.reduceAdd,Nat.reduceLeDiff,hd.cell,hes.cell]))
  · have h : ix = l.base.index := by simpa using hb
    simp only [termO, h, if_true] at hK
    exact hK _ (pushes _ _)
  · have h : ¬ ix = l.base.index := by simpa using hb
    simp only [termO, if_neg h] at hK
    refine W_inv l.l.length (fun i e s' => Keep s.next s s' ∧ s'.get s.next = some ⟨28, 5, [[.int .u64 l.base.index, .int .u64 l.base.term, .int .i64 l.base.kind, d, w]]⟩ ∧ e.get 1 = .int .u64 ix ∧ e.get 2 = .ptr s.next 0 0 ∧ e.get 6 = .int .i64 i ∧ l.l.find? (fun e => decide (e.index = ix)) = (l.l.drop i).find? (fun e => decide (e.index = ix))) (by delta cf71l0 oo on om og oc ou; exact rfl) ?_ ?_
    · (repeat' (with_reducible first|refine w_1 ?_|refine w_2 ?_|refine w_3 ?_|refine w_4 ?_|refine w_5 ?_|refine w_6 ?_|refine w_7 ?_|(refine w_8 (fun hb=>?_) (fun hb=>?_)<;>try simp only [hb])|refine w_9 ?_|simp (maxDischargeDepth:=12) only [viz,↓reduceIte,Nat.reduceEqDiff,reduceCtorEq,Int.reduceEq,Int.reduceNeg,Nat.reduceAdd,Nat.reduceLeDiff]))
      first | rfl | exact ⟨rfl, rfl⟩
    · rintro i e s' hi _ ⟨hk, hg, h1, h2, h6, hfd⟩
      have hes' := hes.keep (keep_old hI hk)
      by_cases hlt : i < l.l.length
      · obtain ⟨x, hx⟩ := get_of hlt
        obtain ⟨d', p, hp, P, hd'⟩ := hes'.atk (hI.keep hk) hx
        rw [drop_cons hx, List.find?_cons] at hfd
        (repeat' (with_reducible first|refine w_1 ?_|refine w_2 ?_|refine w_3 ?_|refine w_4 ?_|refine w_5 ?_|refine w_6 ?_|refine w_7 ?_|(refine w_8 (fun hb=>?_) (fun hb=>?_)<;>try simp only [hb])|refine w_9 ?_|simp (maxDischargeDepth:=12) only [viz,↓reduceIte,Nat.reduceEqDiff,reduceCtorEq,Int.reduceEq,Int.reduceNeg,Nat.reduceAdd,Nat.reduceLeDiff,h1,h2,h6,hg,hes.len,lt_true hlt,hp,P.adr,P.ldf,Nat.le_refl,Nat.zero_le]))
        · have h : x.index = ix := by simpa using hb
          simp only [h, decide_true] at hfd
          rw [hfd] at hK
          exact hK _ hk
        · have h : ¬ x.index = ix := by simpa using hb
          simp only [decide_eq_false h] at hfd
          exact ⟨hlt, hk, succ_av (by omega), hfd⟩
      · (repeat' (with_reducible first|refine w_1 ?_|refine w_2 ?_|refine w_3 ?_|refine w_4 ?_|refine w_5 ?_|refine w_6 ?_|refine w_7 ?_|(refine w_8 (fun hb=>?_) (fun hb=>?_)<;>try simp only [hb])|refine w_9 ?_|simp (maxDischargeDepth:=12) only [viz,↓reduceIte,Nat.reduceEqDiff,reduceCtorEq,Int.reduceEq,Int.reduceNeg,Nat.reduceAdd,Nat.reduceLeDiff,h1,h2,h6,hg,hes.len,lt_false hlt]))
        rw [drop_end hlt] at hfd
        simp only [List.find?_nil] at hfd
        rw [hfd] at hK
        exact hK _ hk
theorem term_c {l : Log} {ix : Int} {D : Nat → Prop} {s : Mem} {v : AV} {K : AV → Mem → Prop} (hf : s.floor ≤ s.next) (hI : In D s) (hv : LogV s D v l) (hw : l.Wf) (hc : Cons l.base.index l.l) (_hb : l.base.index ≤ 4611686018427387904) (hix : 0 ≤ ix ∧ ix ≤ 18446744073709551615)
    (hK : ∀ s', Keep s.next s s' → K (.tup [.int .u64 (termO l.base.index l.base.term l.l ix).1, .bool (termO l.base.index l.base.term l.l ix).2]) s') : C tab 113 [v, .int .u64 ix] s K := by
  obtain ⟨d, w, rfl, hd, hes⟩ := hv
  have hn := hw.len
  have hbi := hw.base.index
  have hl := lastE_index hc
  refine C_enter (cf := cf113) rfl (Nat.le_of_ble_eq_true rfl) ?_
  simp only [cf113, oo, on, om, og, oc, ou]
  (repeat' (with_reducible first|refine w_1 ?_|refine w_2 ?_|refine w_3 ?_|refine w_4 ?_|refine w_5 ?_|refine w_6 ?_|refine w_7 ?_|(refine w_8 (fun hb=>?_) (fun hb=>?_)<;>try simp only [hb])|refine w_9 ?_|simp (maxDischargeDepth:=12) only [viz,↓reduceIte,Nat.reduceEqDiff,reduceCtorEq,Int.reduceEq,Int.reduceNeg,Nat.reduceAdd,Nat.reduceLeDiff,hd.cell,hes.cell,hf]))
  have hk0 := pushes s ⟨28, 5, [[.int .u64 l.base.index, .int .u64 l.base.term, .int .i64 l.base.kind, d, w]]⟩
  refine last_c (l := l) (D := D) (hk0.ok hf) (hI.keep hk0) ⟨d, w, rfl, hd.keep (keep_old hI hk0), hes.keep (keep_old hI hk0)⟩ hw fun s1 hk1 => ?_
  have hk01 := hk0.then hk1
  have a1 : s.next < s1.next := hk1.next
  have out : ix < l.base.index ∨ (lastE l).index < ix → termO l.base.index l.base.term l.l ix = (0, false) := by
    intro h
    rw [hl] at h
    simp only [termO]
    rw [if_neg (by omega), find_out hc (by omega)]
  have w0 : IntKind.u64.wrap (l.l.length : Int) = l.l.length := wrap_u64 (by omega)
  have hes1 := hes.keep (keep_old hI hk01)
  by_cases hin : l.base.index < ix ∧ ix ≤ l.base.index + l.l.length
  · obtain ⟨j, hj⟩ : ∃ j : Nat, ix = l.base.index + 1 + j := ⟨(ix - l.base.index - 1).toNat, by omega⟩
    obtain ⟨x, hx⟩ := get_of (l := l.l) (i := j) (by omega)
    obtain ⟨d', p, hp, P, hd'⟩ := hes1.atk (hI.keep hk01) hx
    have hxi := hc j x hx
    have w1 : IntKind.u64.wrap (ix - l.base.index) = ix - l.base.index := wrap_u64 (by omega)
    have w2 : IntKind.u64.wrap (ix - l.base.index - 1) = (j : Int) := by rw [wrap_u64 (by omega)]; omega
    have c1 : decide (ix < l.base.index) = false := by simp; omega
    have c2 : decide (ix > (lastE l).index) = false := by simp [hl]; omega
    have c3 : decide (ix - l.base.index > (l.l.length : Int)) = false := by simp; omega
    have c4 : (ix == l.base.index) = false := by simp; omega
    have ht : termO l.base.index l.base.term l.l ix = (x.term, true) := by
      simp only [termO]
      rw [if_neg (by omega), show ix = x.index by omega, find_in hc hx]
    rw [ht] at hK
    (repeat' (with_reducible first|refine w_1 ?_|refine w_2 ?_|refine w_3 ?_|refine w_4 ?_|refine w_5 ?_|refine w_6 ?_|refine w_7 ?_|(refine w_8 (fun hb=>?_) (fun hb=>?_)<;>try simp only [hb])|refine w_9 ?_|simp (maxDischargeDepth:=12) only [viz,↓reduceIte,Nat.reduceEqDiff,reduceCtorEq,Int.reduceEq,Int.reduceNeg,Nat.reduceAdd,Nat.reduceLeDiff,hk1.get,a1,hes1.len,w0,w1,w2,c1,c2,c3,c4,hp,P.adr,P.ldf,Nat.le_refl,Nat.zero_le]))
    exact hK _ hk01
  · by_cases heq : ix = l.base.index
    · subst heq
      have w1 : IntKind.u64.wrap (l.base.index - l.base.index) = 0 := by rw [wrap_u64 (by omega)]; omega
      have c1 : decide (l.base.index < l.base.index) = false := by simp
      have c2 : decide (l.base.index > (lastE l).index) = false := by simp [hl]; omega
      have c3 : decide ((0 : Int) > (l.l.length : Int)) = false := by simp
      simp only [termO, if_true] at hK
      (repeat' (with_reducible first|refine w_1 ?_|refine w_2 ?_|refine w_3 ?_|refine w_4 ?_|refine w_5 ?_|refine w_6 ?_|refine w_7 ?_|(refine w_8 (fun hb=>?_) (fun hb=>?_)<;>try simp only [hb])|refine w_9 ?_|simp (maxDischargeDepth:=12) only [viz,↓reduceIte,Nat.reduceEqDiff,reduceCtorEq,Int.reduceEq,Int.reduceNeg,Nat.reduceAdd,Nat.reduceLeDiff,hk1.get,a1,hes1.len,w0,w1,c1,c2,c3,beq_self_eq_true]))
      exact hK _ hk01
    · have ht := out (by omega)
      rw [ht] at hK
      by_cases hlow : ix < l.base.index
      · have c1 : decide (ix < l.base.index) = true := by simp [hlow]
        (repeat' (with_reducible first|refine w_1 ?_|refine w_2 ?_|refine w_3 ?_|refine w_4 ?_|refine w_5 ?_|refine w_6 ?_|refine w_7 ?_|(refine w_8 (fun hb=>?_) (fun hb=>?_)<;>try simp only [hb])|refine w_9 ?_|simp (maxDischargeDepth:=12) only [viz,↓reduceIte,Nat.reduceEqDiff,reduceCtorEq,Int.reduceEq,Int.reduceNeg,Nat.reduceAdd,Nat.reduceLeDiff,hk1.get,a1,hes1.len,w0,c1]))
        exact hK _ hk01
      · have c1 : decide (ix < l.base.index) = false := by simp [hlow]
        have c2 : decide (ix > (lastE l).index) = true := by simp [hl]; omega
        (repeat' (with_reducible first|refine w_1 ?_|refine w_2 ?_|refine w_3 ?_|refine w_4 ?_|refine w_5 ?_|refine w_6 ?_|refine w_7 ?_|(refine w_8 (fun hb=>?_) (fun hb=>?_)<;>try simp only [hb])|refine w_9 ?_|simp (maxDischargeDepth:=12) only [viz,↓reduceIte,Nat.reduceEqDiff,reduceCtorEq,Int.reduceEq,Int.reduceNeg,Nat.reduceAdd,Nat.reduceLeDiff,hk1.get,a1,hes1.len,w0,c1,c2]))
        exact hK _ hk01
end Go.Proofs.YtfllmhjjfapnmaaGreat

