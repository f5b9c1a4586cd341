/- What comes of any table and any call that is to be prepared: the law. No statement of the seat is proved here. -/
import Derived.Test.YthibbbfhkfebkaaGreatVZTblArgs
import Derived.Test.YthibbbfhkfebkaaGreatVZTblAwake
import Derived.Test.YthibbbfhkfebkaaGreatVZVE
namespace Go.Proofs.YthibbbfhkfebkaaGreat
open Go Go.VI
set_option linter.unusedSimpArgs false
attribute [local irreducible] Ws Wp W C
set_option maxHeartbeats 4000000
theorem prep_small {t : Table} {c q : Int} {k : Call} {token : Int} (hs : Small t) (hk : k.keys.length ≤ 40) : Small2 (prepP t c q k token).2 := by
  obtain ⟨a1, a2, a3, a4, a5⟩ := hs
  have z : Small2 zeroT := ⟨by decide, by decide, by decide, by decide, by decide⟩
  have y : Small2 t := ⟨by omega, by omega, by omega, by omega, by omega⟩
  unfold prepP
  split
  · exact z
  · split
    · split
      · exact y
      · exact z
    · split
      · exact z
      · split
        · exact z
        · refine ⟨by show t.spans.length < _; omega, by show t.frozen.length < _; omega, by show t.holds.length < _; omega, by show t.marks.length < _; omega, ?_⟩
          show (mg (k.keys.map (newI c q k token)) t.ints).length < _
          rw [mg_len, List.length_map]; omega
theorem tablePrepares_c {t : Table} {w : TV} {x : Txn} {v : AV} {s : Mem} (hf : s.floor ≤ s.next) (hw : ∀ s D, TabIn s D w t) (h3 : Small3 t) (hk : isSl v (x.call.keys.map txtC)) (hkl : x.call.keys.length < 1000000000000000000) : C tab 3 [.agg (tabC t w), .agg (txnC v x)] s (fun v' _ => v' = .bool true) := by
  refine C_enter (cf := cf3) rfl (Nat.le_of_ble_eq_true rfl) ?_
  simp only [cf3, oo, on, om, og, oc, ou, tabC, txnC]
  have hkc : isCell v = true := by rcases hk with ⟨rfl, _⟩ | rfl <;> rfl
  have hlk : lenA false v = some x.call.keys.length := (Sl.of_isSl (s := s) (D := fun _ => False) hk (txt_cells _)).lenB
  have w0 := hw s fun _ => False
  have c1 := w0.sp.cell
  have c2 := w0.fr.cell
  have c3 := w0.ho.cell
  have c4 := w0.ma.cell
  have c5 := w0.it.cell
  have r0 := R2.of_push s ⟨27, 6, [[.int .i64 t.now, w.sp, w.fr, w.ho, w.ma, w.it]]⟩ ⟨35, 7, [[.int .i64 x.c, .int .u64 x.q, .int .i64 x.call.kind, v, .int .u64 x.call.token, .int .i64 x.call.ttl, .int .u64 x.token]]⟩
  have k0 := (pushes s ⟨27, 6, [[.int .i64 t.now, w.sp, w.fr, w.ho, w.ma, w.it]]⟩).then (pushes _ ⟨35, 7, [[.int .i64 x.c, .int .u64 x.q, .int .i64 x.call.kind, v, .int .u64 x.call.token, .int .i64 x.call.ttl, .int .u64 x.token]]⟩)
  (repeat' (with_reducible first|refine w_1 ?_|refine w_2 ?_|refine w_3 ?_|refine w_4 ?_|refine w_5 ?_|refine w_6 ?_|refine w_7 ?_|(refine w_8 (fun hb=>?_) (fun hb=>?_)<;>(try simp only [Bool.not_eq_true',Bool.not_eq_false'] at hb)<;>try simp only [hb])|(refine w_9 ?_;simp (maxDischargeDepth:=12) only [viz,↓reduceIte,Nat.reduceEqDiff,reduceCtorEq,Int.reduceEq,Int.reduceNeg,Nat.reduceAdd,Nat.reduceLeDiff,c1,c2,c3,c4,c5,hkc])|refine w_10 (fun hc=>(by (try simp only [Bool.and_eq_true] at hc);simp (maxDischargeDepth:=12) only [viz,↓reduceIte,Nat.reduceEqDiff,reduceCtorEq,Int.reduceEq,Int.reduceNeg,Nat.reduceAdd,Nat.reduceLeDiff,c1,c2,c3,c4,c5,hkc,hc];first|exact ⟨rfl,rfl⟩|exact rfl)) ?_|refine w_11 (fun hc=>(by (try simp only [Bool.and_eq_true] at hc);simp (maxDischargeDepth:=12) only [viz,↓reduceIte,Nat.reduceEqDiff,reduceCtorEq,Int.reduceEq,Int.reduceNeg,Nat.reduceAdd,Nat.reduceLeDiff,c1,c2,c3,c4,c5,hkc,hc];first|exact ⟨rfl,rfl⟩|exact rfl)) ?_|refine w_12 ?_|simp (maxDischargeDepth:=12) only [viz,↓reduceIte,Nat.reduceEqDiff,reduceCtorEq,Int.reduceEq,Int.reduceNeg,Nat.reduceAdd,Nat.reduceLeDiff,c1,c2,c3,c4,c5,hkc]))
  generalize (s.push _).push _ = S0 at *
  refine light_c (D := fun _ => False) (hw _ _) h3 fun s1 h1 => ?_
  have r1 := r0.then h1
  have k1 := k0.then h1
  (repeat' (with_reducible first|refine w_1 ?_|refine w_2 ?_|refine w_3 ?_|refine w_4 ?_|refine w_5 ?_|refine w_6 ?_|refine w_7 ?_|(refine w_8 (fun hb=>?_) (fun hb=>?_)<;>(try simp only [Bool.not_eq_true',Bool.not_eq_false'] at hb)<;>try simp only [hb])|(refine w_9 ?_;simp (maxDischargeDepth:=12) only [viz,↓reduceIte,Nat.reduceEqDiff,reduceCtorEq,Int.reduceEq,Int.reduceNeg,Nat.reduceAdd,Nat.reduceLeDiff,r1.a,r1.b,hlk])|refine w_10 (fun hc=>(by (try simp only [Bool.and_eq_true] at hc);simp (maxDischargeDepth:=12) only [viz,↓reduceIte,Nat.reduceEqDiff,reduceCtorEq,Int.reduceEq,Int.reduceNeg,Nat.reduceAdd,Nat.reduceLeDiff,r1.a,r1.b,hlk,hc];first|exact ⟨rfl,rfl⟩|exact rfl)) ?_|refine w_11 (fun hc=>(by (try simp only [Bool.and_eq_true] at hc);simp (maxDischargeDepth:=12) only [viz,↓reduceIte,Nat.reduceEqDiff,reduceCtorEq,Int.reduceEq,Int.reduceNeg,Nat.reduceAdd,Nat.reduceLeDiff,r1.a,r1.b,hlk,hc];first|exact ⟨rfl,rfl⟩|exact rfl)) ?_|refine w_12 ?_|simp (maxDischargeDepth:=12) only [viz,↓reduceIte,Nat.reduceEqDiff,reduceCtorEq,Int.reduceEq,Int.reduceNeg,Nat.reduceAdd,Nat.reduceLeDiff,r1.a,r1.b,hlk]))
  · refine awake19_c _ ?_
    (repeat' (with_reducible first|refine w_1 ?_|refine w_2 ?_|refine w_3 ?_|refine w_4 ?_|refine w_5 ?_|refine w_6 ?_|refine w_7 ?_|(refine w_8 (fun hb=>?_) (fun hb=>?_)<;>(try simp only [Bool.not_eq_true',Bool.not_eq_false'] at hb)<;>try simp only [hb])|(refine w_9 ?_;simp (maxDischargeDepth:=12) only [viz,↓reduceIte,Nat.reduceEqDiff,reduceCtorEq,Int.reduceEq,Int.reduceNeg,Nat.reduceAdd,Nat.reduceLeDiff])|refine w_10 (fun hc=>(by (try simp only [Bool.and_eq_true] at hc);simp (maxDischargeDepth:=12) only [viz,↓reduceIte,Nat.reduceEqDiff,reduceCtorEq,Int.reduceEq,Int.reduceNeg,Nat.reduceAdd,Nat.reduceLeDiff,hc];first|exact ⟨rfl,rfl⟩|exact rfl)) ?_|refine w_11 (fun hc=>(by (try simp only [Bool.and_eq_true] at hc);simp (maxDischargeDepth:=12) only [viz,↓reduceIte,Nat.reduceEqDiff,reduceCtorEq,Int.reduceEq,Int.reduceNeg,Nat.reduceAdd,Nat.reduceLeDiff,hc];first|exact ⟨rfl,rfl⟩|exact rfl)) ?_|refine w_12 ?_|simp (maxDischargeDepth:=12) only [viz,↓reduceIte,Nat.reduceEqDiff,reduceCtorEq,Int.reduceEq,Int.reduceNeg,Nat.reduceAdd,Nat.reduceLeDiff]))
  have hsm : Small t := by
    simp only [lightS, Bool.or_eq_false_iff, Bool.not_eq_false', Bool.and_eq_true, decide_eq_true_eq] at hb
    obtain ⟨⟨b1, b2⟩, _⟩ := hb
    exact ⟨by omega, by omega, by omega, by omega, by omega⟩
  have hk40 : x.call.keys.length ≤ 40 := by
    simp only [Bool.or_eq_false_iff, decide_eq_false_iff_not] at hb
    omega
  have hP2 := prep_small (c := x.c) (q := x.q) (k := x.call) (token := x.token) hsm hk40
  refine prepare_c (t := t) (w := w) (k := x.call) (D := fun _ => False) (k1.ok hf) (fun _ h => h.elim) (hw _ _) hsm hk hk40 fun w2 s2 h2 t2 => ?_
  have r2 := r1.then h2
  have k2 := k1.then h2
  have f2 : s2.floor ≤ s2.next := k2.ok hf
  have q2 := Kp.of_push s2 ⟨27, 6, [tabC (prepP t x.c x.q x.call x.token).2 w2]⟩
  simp only [tabC] at q2 ⊢
  have r2' := r2.then q2.k
  have k2' := k2.then q2.k
  (repeat' (with_reducible first|refine w_1 ?_|refine w_2 ?_|refine w_3 ?_|refine w_4 ?_|refine w_5 ?_|refine w_6 ?_|refine w_7 ?_|(refine w_8 (fun hb=>?_) (fun hb=>?_)<;>(try simp only [Bool.not_eq_true',Bool.not_eq_false'] at hb)<;>try simp only [hb])|(refine w_9 ?_;simp (maxDischargeDepth:=12) only [viz,↓reduceIte,Nat.reduceEqDiff,reduceCtorEq,Int.reduceEq,Int.reduceNeg,Nat.reduceAdd,Nat.reduceLeDiff,t2.sp.cell,t2.fr.cell,t2.ho.cell,t2.ma.cell,t2.it.cell,f2,r2'.a,r2'.b])|refine w_10 (fun hc=>(by (try simp only [Bool.and_eq_true] at hc);simp (maxDischargeDepth:=12) only [viz,↓reduceIte,Nat.reduceEqDiff,reduceCtorEq,Int.reduceEq,Int.reduceNeg,Nat.reduceAdd,Nat.reduceLeDiff,t2.sp.cell,t2.fr.cell,t2.ho.cell,t2.ma.cell,t2.it.cell,f2,r2'.a,r2'.b,hc];first|exact ⟨rfl,rfl⟩|exact rfl)) ?_|refine w_11 (fun hc=>(by (try simp only [Bool.and_eq_true] at hc);simp (maxDischargeDepth:=12) only [viz,↓reduceIte,Nat.reduceEqDiff,reduceCtorEq,Int.reduceEq,Int.reduceNeg,Nat.reduceAdd,Nat.reduceLeDiff,t2.sp.cell,t2.fr.cell,t2.ho.cell,t2.ma.cell,t2.it.cell,f2,r2'.a,r2'.b,hc];first|exact ⟨rfl,rfl⟩|exact rfl)) ?_|refine w_12 ?_|simp (maxDischargeDepth:=12) only [viz,↓reduceIte,Nat.reduceEqDiff,reduceCtorEq,Int.reduceEq,Int.reduceNeg,Nat.reduceAdd,Nat.reduceLeDiff,t2.sp.cell,t2.fr.cell,t2.ho.cell,t2.ma.cell,t2.it.cell,f2,r2'.a,r2'.b]))
  generalize hS2 : s2.push _ = S2 at *
  have n2 : S2.next = s2.next + 1 := by rw [← hS2]; rfl
  refine rprepare_c (t := t) (w := w) (k := x.call) (D := fun _ => False) (k2'.ok hf) (fun _ h => h.elim) (hw _ _) hsm hk hk40 fun w3 s3 h3 t3 => ?_
  have r3 := r2'.then h3
  have k3 := k2'.then h3
  have f3 : s3.floor ≤ s3.next := k3.ok hf
  have q3 := q2.then h3
  have n3 := h3.next
  have q4 := Kp.of_push s3 ⟨27, 6, [tabC (prepP t x.c x.q x.call x.token).2 w3]⟩
  simp only [tabC] at q4 ⊢
  have q3' := q3.then q4.k
  have k4 := k3.then q4.k
  have ne : (s2.next = s3.next) = False := by simp; omega
  have ne' : (s3.next = s2.next) = False := by simp; omega
  (repeat' (with_reducible first|refine w_1 ?_|refine w_2 ?_|refine w_3 ?_|refine w_4 ?_|refine w_5 ?_|refine w_6 ?_|refine w_7 ?_|(refine w_8 (fun hb=>?_) (fun hb=>?_)<;>(try simp only [Bool.not_eq_true',Bool.not_eq_false'] at hb)<;>try simp only [hb])|(refine w_9 ?_;simp (maxDischargeDepth:=12) only [viz,↓reduceIte,Nat.reduceEqDiff,reduceCtorEq,Int.reduceEq,Int.reduceNeg,Nat.reduceAdd,Nat.reduceLeDiff,t3.sp.cell,t3.fr.cell,t3.ho.cell,t3.ma.cell,t3.it.cell,f3,q3.g,ne,ne'])|refine w_10 (fun hc=>(by (try simp only [Bool.and_eq_true] at hc);simp (maxDischargeDepth:=12) only [viz,↓reduceIte,Nat.reduceEqDiff,reduceCtorEq,Int.reduceEq,Int.reduceNeg,Nat.reduceAdd,Nat.reduceLeDiff,t3.sp.cell,t3.fr.cell,t3.ho.cell,t3.ma.cell,t3.it.cell,f3,q3.g,ne,ne',hc];first|exact ⟨rfl,rfl⟩|exact rfl)) ?_|refine w_11 (fun hc=>(by (try simp only [Bool.and_eq_true] at hc);simp (maxDischargeDepth:=12) only [viz,↓reduceIte,Nat.reduceEqDiff,reduceCtorEq,Int.reduceEq,Int.reduceNeg,Nat.reduceAdd,Nat.reduceLeDiff,t3.sp.cell,t3.fr.cell,t3.ho.cell,t3.ma.cell,t3.it.cell,f3,q3.g,ne,ne',hc];first|exact ⟨rfl,rfl⟩|exact rfl)) ?_|refine w_12 ?_|simp (maxDischargeDepth:=12) only [viz,↓reduceIte,Nat.reduceEqDiff,reduceCtorEq,Int.reduceEq,Int.reduceNeg,Nat.reduceAdd,Nat.reduceLeDiff,t3.sp.cell,t3.fr.cell,t3.ho.cell,t3.ma.cell,t3.it.cell,f3,q3.g,ne,ne']))
  have kk := q2.k.then (h3.then q4.k)
  have hn4 := q4.n
  refine lsame_c (t := (prepP t x.c x.q x.call x.token).2) (w := w2) (u := w3) (D := fun r => r < s3.next) (fun r hr => Nat.lt_trans hr hn4) ((t2.keep fun r hr => kk.get r ?_).mono fun r hr => ?_) ((t3.keep fun r hr => q4.k.get r ?_).mono fun r hr => ?_) hP2 fun s5 h5 => ?_
  · rcases hr with hr | hr
    · exact hr.elim
    · exact hr.2
  · rcases hr with hr | hr
    · exact hr.elim
    · exact Nat.lt_of_lt_of_le hr.2 (by omega)
  · rcases hr with hr | hr
    · exact hr.elim
    · exact hr.2
  · rcases hr with hr | hr
    · exact hr.elim
    · exact hr.2
  (repeat' (with_reducible first|refine w_1 ?_|refine w_2 ?_|refine w_3 ?_|refine w_4 ?_|refine w_5 ?_|refine w_6 ?_|refine w_7 ?_|(refine w_8 (fun hb=>?_) (fun hb=>?_)<;>(try simp only [Bool.not_eq_true',Bool.not_eq_false'] at hb)<;>try simp only [hb])|(refine w_9 ?_;simp (maxDischargeDepth:=12) only [viz,↓reduceIte,Nat.reduceEqDiff,reduceCtorEq,Int.reduceEq,Int.reduceNeg,Nat.reduceAdd,Nat.reduceLeDiff])|refine w_10 (fun hc=>(by (try simp only [Bool.and_eq_true] at hc);simp (maxDischargeDepth:=12) only [viz,↓reduceIte,Nat.reduceEqDiff,reduceCtorEq,Int.reduceEq,Int.reduceNeg,Nat.reduceAdd,Nat.reduceLeDiff,hc];first|exact ⟨rfl,rfl⟩|exact rfl)) ?_|refine w_11 (fun hc=>(by (try simp only [Bool.and_eq_true] at hc);simp (maxDischargeDepth:=12) only [viz,↓reduceIte,Nat.reduceEqDiff,reduceCtorEq,Int.reduceEq,Int.reduceNeg,Nat.reduceAdd,Nat.reduceLeDiff,hc];first|exact ⟨rfl,rfl⟩|exact rfl)) ?_|refine w_12 ?_|simp (maxDischargeDepth:=12) only [viz,↓reduceIte,Nat.reduceEqDiff,reduceCtorEq,Int.reduceEq,Int.reduceNeg,Nat.reduceAdd,Nat.reduceLeDiff]))
  refine awake19_c _ ?_
  (repeat' (with_reducible first|refine w_1 ?_|refine w_2 ?_|refine w_3 ?_|refine w_4 ?_|refine w_5 ?_|refine w_6 ?_|refine w_7 ?_|(refine w_8 (fun hb=>?_) (fun hb=>?_)<;>(try simp only [Bool.not_eq_true',Bool.not_eq_false'] at hb)<;>try simp only [hb])|(refine w_9 ?_;simp (maxDischargeDepth:=12) only [viz,↓reduceIte,Nat.reduceEqDiff,reduceCtorEq,Int.reduceEq,Int.reduceNeg,Nat.reduceAdd,Nat.reduceLeDiff])|refine w_10 (fun hc=>(by (try simp only [Bool.and_eq_true] at hc);simp (maxDischargeDepth:=12) only [viz,↓reduceIte,Nat.reduceEqDiff,reduceCtorEq,Int.reduceEq,Int.reduceNeg,Nat.reduceAdd,Nat.reduceLeDiff,hc];first|exact ⟨rfl,rfl⟩|exact rfl)) ?_|refine w_11 (fun hc=>(by (try simp only [Bool.and_eq_true] at hc);simp (maxDischargeDepth:=12) only [viz,↓reduceIte,Nat.reduceEqDiff,reduceCtorEq,Int.reduceEq,Int.reduceNeg,Nat.reduceAdd,Nat.reduceLeDiff,hc];first|exact ⟨rfl,rfl⟩|exact rfl)) ?_|refine w_12 ?_|simp (maxDischargeDepth:=12) only [viz,↓reduceIte,Nat.reduceEqDiff,reduceCtorEq,Int.reduceEq,Int.reduceNeg,Nat.reduceAdd,Nat.reduceLeDiff]))
theorem tablePrepares_walk : ∀ avs, TyVs Tryz.prog reachBytes 9 Tryz.f3.params.toList avs → ∃ k s', run (compX Tryz.prog xs) k 3 avs Mem.zero = some (.bool true, s') := by
  intro avs h
  obtain ⟨c, _, rfl, h1, c2, _, rfl, h2, rfl⟩ := h
  obtain ⟨t, w, rfl, hw, h3⟩ := tyV_table (by exact h1)
  obtain ⟨x, v, rfl, hk, hl⟩ := tyV_txn (by exact h2)
  exact C_run (tablePrepares_c (by exact Nat.zero_le _) hw h3 hk hl) tab_le
end Go.Proofs.YthibbbfhkfebkaaGreat

