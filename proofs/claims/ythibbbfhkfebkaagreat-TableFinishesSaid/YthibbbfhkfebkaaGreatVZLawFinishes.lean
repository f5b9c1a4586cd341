/- What comes of any table and any transaction that is done with: the law. No statement of the seat is proved here. -/
import Derived.Test.YthibbbfhkfebkaaGreatVZFG
import Derived.Test.YthibbbfhkfebkaaGreatVZTblAwake
import Derived.Test.YthibbbfhkfebkaaGreatVZFF
import Derived.Test.YthibbbfhkfebkaaGreatVZVE
namespace Go.Proofs.YthibbbfhkfebkaaGreat
open Go Go.VI
set_option linter.unusedSimpArgs false
attribute [local irreducible] Ws Wp W C
set_option maxHeartbeats 4000000
theorem turns_good : ∀ (ys : List Intent) (t : Table) (n : Nat), Good n t → (∀ y ∈ ys, GoodI y) → n + ys.length ≤ 900 → Good (n + ys.length) (ys.foldl turnT t)
  | [], t, n, h, _, _ => by simpa using h
  | y :: ys, t, n, h, hy, hn => by
    simp only [List.length_cons] at hn
    have := turns_good ys (turnT t y) (n + 1) (h.turn (hy y (by simp)) (by omega)) (fun z hz => hy z (by simp [hz])) (by omega)
    rw [List.foldl_cons, List.length_cons, show n + (ys.length + 1) = n + 1 + ys.length by omega]
    exact this
theorem fin_small {t : Table} {c q : Int} {commit : Bool} (hs : Small t) (hl : t.holds.length ≤ 100 ∧ t.marks.length ≤ 100) (hli : t.ints.length ≤ 100) (htk : ∀ x ∈ t.ints, 0 ≤ x.token) : Small2 (finP t c q commit).2.2 := by
  have z : Small2 zeroT := ⟨by decide, by decide, by decide, by decide, by decide⟩
  unfold finP
  split
  · exact z
  · rename_i hm
    have hmay : mayT t = true := by simpa using hm
    split
    · exact z
    · have hg := may_good hmay hl
      have hgi := may_goodI hmay htk
      have h1 := List.length_filter_le (isX c q) t.ints
      have h2 := List.length_filter_le (fun x => !isX c q x) t.ints
      have h3 := turns_good (t.ints.filter (isX c q)) t 100 hg (fun y hy => hgi y (List.mem_filter.mp hy).1) (by omega)
      have a1 := hs.sp
      have a2 := hs.fr
      cases commit with
      | false => exact ⟨by show t.spans.length < _; omega, by show t.frozen.length < _; omega, by show t.holds.length < _; omega, by show t.marks.length < _; omega, by show (t.ints.filter fun x => !isX c q x).length < _; omega⟩
      | true =>
        have b1 := h3.lh
        have b2 := h3.lm
        refine ⟨?_, ?_, ?_, ?_, ?_⟩
        · show (((t.ints.filter (isX c q)).foldl turnT t).spans).length < _; rw [turns_sp]; omega
        · show (((t.ints.filter (isX c q)).foldl turnT t).frozen).length < _; rw [turns_fr]; omega
        · show (((t.ints.filter (isX c q)).foldl turnT t).holds).length < _; omega
        · show (((t.ints.filter (isX c q)).foldl turnT t).marks).length < _; omega
        · show (t.ints.filter fun x => !isX c q x).length < _; omega
theorem tableFinishes_c {t : Table} {w : TV} {c q : Int} {commit : Bool} {s : Mem} (hf : s.floor ≤ s.next) (hw : ∀ s D, TabIn s D w t) (h3 : Small3 t) (htk : ∀ x ∈ t.ints, 0 ≤ x.token) : C tab 4 [.agg (tabC t w), .agg [.int .i64 c, .int .u64 q], .bool commit] s (fun v' _ => v' = .bool true) := by
  refine C_enter (cf := cf4) rfl (Nat.le_of_ble_eq_true rfl) ?_
  simp only [cf4, oo, on, om, og, oc, ou, tabC]
  have w0 := hw s fun _ => False
  have c1 := w0.sp.cell
  have c2 := w0.fr.cell
  have c3 := w0.ho.cell
  have c4 := w0.ma.cell
  have c5 := w0.it.cell
  have r0 := R2.of_push s ⟨27, 6, [[.int .i64 t.now, w.sp, w.fr, w.ho, w.ma, w.it]]⟩ ⟨30, 2, [[.int .i64 c, .int .u64 q]]⟩
  have k0 := (pushes s ⟨27, 6, [[.int .i64 t.now, w.sp, w.fr, w.ho, w.ma, w.it]]⟩).then (pushes _ ⟨30, 2, [[.int .i64 c, .int .u64 q]]⟩)
  (repeat' (with_reducible first|refine w_1 ?_|refine w_2 ?_|refine w_3 ?_|refine w_4 ?_|refine w_5 ?_|refine w_6 ?_|refine w_7 ?_|(refine w_8 (fun hb=>?_) (fun hb=>?_)<;>(try simp only [Bool.not_eq_true',Bool.not_eq_false'] at hb)<;>try simp only [hb])|refine w_13 (fun hc=>(by (try simp only [Bool.and_eq_true] at hc);simp (maxDischargeDepth:=12) only [viz,↓reduceIte,Nat.reduceEqDiff,reduceCtorEq,Int.reduceEq,Int.reduceNeg,Nat.reduceAdd,Nat.reduceLeDiff,c1,c2,c3,c4,c5,cond_true,cond_false,hc];first|exact ⟨rfl,rfl⟩|exact rfl)) ?_|refine w_12 ?_|((try refine w_9 ?_);simp (maxDischargeDepth:=12) only [viz,↓reduceIte,Nat.reduceEqDiff,reduceCtorEq,Int.reduceEq,Int.reduceNeg,Nat.reduceAdd,Nat.reduceLeDiff,c1,c2,c3,c4,c5])))
  generalize (s.push _).push _ = S0 at *
  refine light_c (D := fun _ => False) (hw _ _) h3 fun s1 h1 => ?_
  have r1 := r0.then h1
  have k1 := k0.then h1
  (repeat' (with_reducible first|refine w_1 ?_|refine w_2 ?_|refine w_3 ?_|refine w_4 ?_|refine w_5 ?_|refine w_6 ?_|refine w_7 ?_|(refine w_8 (fun hb=>?_) (fun hb=>?_)<;>(try simp only [Bool.not_eq_true',Bool.not_eq_false'] at hb)<;>try simp only [hb])|refine w_13 (fun hc=>(by (try simp only [Bool.and_eq_true] at hc);simp (maxDischargeDepth:=12) only [viz,↓reduceIte,Nat.reduceEqDiff,reduceCtorEq,Int.reduceEq,Int.reduceNeg,Nat.reduceAdd,Nat.reduceLeDiff,r1.a,r1.b,cond_true,cond_false,hc];first|exact ⟨rfl,rfl⟩|exact rfl)) ?_|refine w_12 ?_|((try refine w_9 ?_);simp (maxDischargeDepth:=12) only [viz,↓reduceIte,Nat.reduceEqDiff,reduceCtorEq,Int.reduceEq,Int.reduceNeg,Nat.reduceAdd,Nat.reduceLeDiff,r1.a,r1.b])))
  · refine awake19_c _ ?_
    (repeat' (with_reducible first|refine w_1 ?_|refine w_2 ?_|refine w_3 ?_|refine w_4 ?_|refine w_5 ?_|refine w_6 ?_|refine w_7 ?_|(refine w_8 (fun hb=>?_) (fun hb=>?_)<;>(try simp only [Bool.not_eq_true',Bool.not_eq_false'] at hb)<;>try simp only [hb])|refine w_13 (fun hc=>(by (try simp only [Bool.and_eq_true] at hc);simp (maxDischargeDepth:=12) only [viz,↓reduceIte,Nat.reduceEqDiff,reduceCtorEq,Int.reduceEq,Int.reduceNeg,Nat.reduceAdd,Nat.reduceLeDiff,cond_true,cond_false,hc];first|exact ⟨rfl,rfl⟩|exact rfl)) ?_|refine w_12 ?_|((try refine w_9 ?_);simp (maxDischargeDepth:=12) only [viz,↓reduceIte,Nat.reduceEqDiff,reduceCtorEq,Int.reduceEq,Int.reduceNeg,Nat.reduceAdd,Nat.reduceLeDiff])))
  have hb' : lightS t = true := hb
  simp only [lightS, Bool.and_eq_true, decide_eq_true_eq] at hb'
  have hsm : Small t := ⟨by omega, by omega, by omega, by omega, by omega⟩
  have hl : t.holds.length ≤ 100 ∧ t.marks.length ≤ 100 := ⟨by omega, by omega⟩
  have hli : t.ints.length ≤ 100 := by omega
  have hP2 := fin_small (c := c) (q := q) (commit := commit) hsm hl hli htk
  refine finish_c (t := t) (w := w) (commit := commit) (D := fun _ => False) (k1.ok hf) (fun _ h => h.elim) (hw _ _) hsm hl hli htk fun w2 s2 h2 t2 => ?_
  have r2 := r1.then h2
  have k2 := k1.then h2
  have f2 : s2.floor ≤ s2.next := k2.ok hf
  have q2 := Kp.of_push s2 ⟨27, 6, [tabC (finP t c q commit).2.2 w2]⟩
  simp only [tabC] at q2 ⊢
  have r2' := r2.then q2.k
  have k2' := k2.then q2.k
  (repeat' (with_reducible first|refine w_1 ?_|refine w_2 ?_|refine w_3 ?_|refine w_4 ?_|refine w_5 ?_|refine w_6 ?_|refine w_7 ?_|(refine w_8 (fun hb=>?_) (fun hb=>?_)<;>(try simp only [Bool.not_eq_true',Bool.not_eq_false'] at hb)<;>try simp only [hb])|refine w_13 (fun hc=>(by (try simp only [Bool.and_eq_true] at hc);simp (maxDischargeDepth:=12) only [viz,↓reduceIte,Nat.reduceEqDiff,reduceCtorEq,Int.reduceEq,Int.reduceNeg,Nat.reduceAdd,Nat.reduceLeDiff,t2.sp.cell,t2.fr.cell,t2.ho.cell,t2.ma.cell,t2.it.cell,f2,r2'.a,r2'.b,cond_true,cond_false,hc];first|exact ⟨rfl,rfl⟩|exact rfl)) ?_|refine w_12 ?_|((try refine w_9 ?_);simp (maxDischargeDepth:=12) only [viz,↓reduceIte,Nat.reduceEqDiff,reduceCtorEq,Int.reduceEq,Int.reduceNeg,Nat.reduceAdd,Nat.reduceLeDiff,t2.sp.cell,t2.fr.cell,t2.ho.cell,t2.ma.cell,t2.it.cell,f2,r2'.a,r2'.b])))
  generalize hS2 : s2.push _ = S2 at *
  have n2 : S2.next = s2.next + 1 := by rw [← hS2]; rfl
  refine rfinish_c (t := t) (w := w) (commit := commit) (D := fun _ => False) (k2'.ok hf) (fun _ h => h.elim) (hw _ _) hsm hl hli htk fun w3 s3 h3 t3 => ?_
  have r3 := r2'.then h3
  have k3 := k2'.then h3
  have f3 : s3.floor ≤ s3.next := k3.ok hf
  have q3 := q2.then h3
  have n3 := h3.next
  have q4 := Kp.of_push s3 ⟨27, 6, [tabC (finP t c q commit).2.2 w3]⟩
  simp only [tabC] at q4 ⊢
  have k4 := k3.then q4.k
  have ne : (s2.next = s3.next) = False := by simp; omega
  have ne' : (s3.next = s2.next) = False := by simp; omega
  (repeat' (with_reducible first|refine w_1 ?_|refine w_2 ?_|refine w_3 ?_|refine w_4 ?_|refine w_5 ?_|refine w_6 ?_|refine w_7 ?_|(refine w_8 (fun hb=>?_) (fun hb=>?_)<;>(try simp only [Bool.not_eq_true',Bool.not_eq_false'] at hb)<;>try simp only [hb])|refine w_13 (fun hc=>(by (try simp only [Bool.and_eq_true] at hc);simp (maxDischargeDepth:=12) only [viz,↓reduceIte,Nat.reduceEqDiff,reduceCtorEq,Int.reduceEq,Int.reduceNeg,Nat.reduceAdd,Nat.reduceLeDiff,t3.sp.cell,t3.fr.cell,t3.ho.cell,t3.ma.cell,t3.it.cell,f3,q3.g,ne,ne',cond_true,cond_false,hc];first|exact ⟨rfl,rfl⟩|exact rfl)) ?_|refine w_12 ?_|((try refine w_9 ?_);simp (maxDischargeDepth:=12) only [viz,↓reduceIte,Nat.reduceEqDiff,reduceCtorEq,Int.reduceEq,Int.reduceNeg,Nat.reduceAdd,Nat.reduceLeDiff,t3.sp.cell,t3.fr.cell,t3.ho.cell,t3.ma.cell,t3.it.cell,f3,q3.g,ne,ne'])))
  have kk := q2.k.then (h3.then q4.k)
  have hn4 := q4.n
  refine lsame_c (t := (finP t c q commit).2.2) (w := w2) (u := w3) (D := fun r => r < s3.next) (fun r hr => Nat.lt_trans hr hn4) ((t2.keep fun r hr => kk.get r ?_).mono fun r hr => ?_) ((t3.keep fun r hr => q4.k.get r ?_).mono fun r hr => ?_) hP2 fun s5 h5 => ?_
  · rcases hr with hr | hr
    · exact hr.elim
    · exact hr.2
  · rcases hr with hr | hr
    · exact hr.elim
    · exact Nat.lt_of_lt_of_le hr.2 (by omega)
  · rcases hr with hr | hr
    · exact hr.elim
    · exact hr.2
  · rcases hr with hr | hr
    · exact hr.elim
    · exact hr.2
  (repeat' (with_reducible first|refine w_1 ?_|refine w_2 ?_|refine w_3 ?_|refine w_4 ?_|refine w_5 ?_|refine w_6 ?_|refine w_7 ?_|(refine w_8 (fun hb=>?_) (fun hb=>?_)<;>(try simp only [Bool.not_eq_true',Bool.not_eq_false'] at hb)<;>try simp only [hb])|refine w_13 (fun hc=>(by (try simp only [Bool.and_eq_true] at hc);simp (maxDischargeDepth:=12) only [viz,↓reduceIte,Nat.reduceEqDiff,reduceCtorEq,Int.reduceEq,Int.reduceNeg,Nat.reduceAdd,Nat.reduceLeDiff,cond_true,cond_false,hc];first|exact ⟨rfl,rfl⟩|exact rfl)) ?_|refine w_12 ?_|((try refine w_9 ?_);simp (maxDischargeDepth:=12) only [viz,↓reduceIte,Nat.reduceEqDiff,reduceCtorEq,Int.reduceEq,Int.reduceNeg,Nat.reduceAdd,Nat.reduceLeDiff])))
  refine awake19_c _ ?_
  (repeat' (with_reducible first|refine w_1 ?_|refine w_2 ?_|refine w_3 ?_|refine w_4 ?_|refine w_5 ?_|refine w_6 ?_|refine w_7 ?_|(refine w_8 (fun hb=>?_) (fun hb=>?_)<;>(try simp only [Bool.not_eq_true',Bool.not_eq_false'] at hb)<;>try simp only [hb])|refine w_13 (fun hc=>(by (try simp only [Bool.and_eq_true] at hc);simp (maxDischargeDepth:=12) only [viz,↓reduceIte,Nat.reduceEqDiff,reduceCtorEq,Int.reduceEq,Int.reduceNeg,Nat.reduceAdd,Nat.reduceLeDiff,cond_true,cond_false,hc];first|exact ⟨rfl,rfl⟩|exact rfl)) ?_|refine w_12 ?_|((try refine w_9 ?_);simp (maxDischargeDepth:=12) only [viz,↓reduceIte,Nat.reduceEqDiff,reduceCtorEq,Int.reduceEq,Int.reduceNeg,Nat.reduceAdd,Nat.reduceLeDiff])))
theorem tableFinishes_walk : ∀ avs, TyVs Tryz.prog reachBytes 9 Tryz.f4.params.toList avs → ∃ k s', run (compX Tryz.prog xs) k 4 avs Mem.zero = some (.bool true, s') := by
  intro avs h
  obtain ⟨c, _, rfl, h1, c2, _, rfl, h2, c3, _, rfl, h3, rfl⟩ := h
  obtain ⟨t, w, rfl, hw, g3, g4⟩ := tyV_table2 (by exact h1)
  obtain ⟨a, b, rfl⟩ := tyV_id (by exact h2)
  obtain ⟨bb, rfl⟩ := TyV.bool (t := 4) (by kernel_rfl) (by exact h3)
  exact C_run (tableFinishes_c (by exact Nat.zero_le _) hw g3 g4) tab_le
end Go.Proofs.YthibbbfhkfebkaaGreat

