/- Which histories may be: the program's answer. No statement of the seat is proved here. -/
import Derived.Test.YtmjgakhnhjpclaaGreatVZHB
import Derived.Test.YtmjgakhnhjpclaaGreatVZVE
namespace Go.Proofs.YtmjgakhnhjpclaaGreat
open Go Go.VI
set_option linter.unusedSimpArgs false
attribute [local irreducible] Ws Wp W C
set_option maxHeartbeats 4000000
structure HI (s s' : Mem) (l : List Event) (i : Nat) : Prop where
  k : Keep s.next s s'
  n : s.next + 1 < s'.next
  b : s'.get s.next = some ⟨53, 0, idEs (ids false (l.take i))⟩
  d : s'.get (s.next + 1) = some ⟨53, 0, idEs (ids true (l.take i))⟩
section
variable {s s' M : Mem} {l : List Event} {i : Nat} {x : Event}
theorem HI.gb (h : HI s s' l i) (hM : Keep s'.next s' M) (c q : Int) : mapGetA M [.i, .i] true (.bool false) (.mapv s.next) (.agg [.int .i64 c, .int .u64 q]) = some (.bool ((ids false (l.take i)).contains (c, q)), (ids false (l.take i)).contains (c, q)) :=
  get_id (by rw [hM.get _ (by have := h.n; omega)]; exact h.b) c q
theorem HI.gd (h : HI s s' l i) (hM : Keep s'.next s' M) (c q : Int) : mapGetA M [.i, .i] true (.bool false) (.mapv (s.next + 1)) (.agg [.int .i64 c, .int .u64 q]) = some (.bool ((ids true (l.take i)).contains (c, q)), (ids true (l.take i)).contains (c, q)) :=
  get_id (by rw [hM.get _ (by have := h.n; omega)]; exact h.d) c q
theorem HI.pb (h : HI s s' l i) (hf : s.floor ≤ s.next) (hM : Keep s'.next s' M) (c q : Int) : mapPutA M [.i, .i] true (.mapv s.next) (.agg [.int .i64 c, .int .u64 q]) (.bool true) = some (M.put s.next (some ⟨53, 0, idEs (insId (ids false (l.take i)) (c, q))⟩)) :=
  put_id (by rw [hM.get _ (by have := h.n; omega)]; exact h.b) (by rw [hM.floor, h.k.floor]; exact hf) c q
theorem HI.pd (h : HI s s' l i) (hf : s.floor ≤ s.next) (hM : Keep s'.next s' M) (c q : Int) : mapPutA M [.i, .i] true (.mapv (s.next + 1)) (.agg [.int .i64 c, .int .u64 q]) (.bool true) = some (M.put (s.next + 1) (some ⟨53, 0, idEs (insId (ids true (l.take i)) (c, q))⟩)) :=
  put_id (by rw [hM.get _ (by have := h.n; omega)]; exact h.d) (by rw [hM.floor, h.k.floor]; omega) c q
theorem HI.kb (h : HI s s' l i) (hM : Keep s'.next s' M) {r : Nat} (hr : s.next ≤ r) (y : Option Row) : Keep s.next s (M.put r y) :=
  (h.k.then hM).trans (Keep.put hr y)
theorem HI.nb (h : HI s s' l i) (hM : Keep s'.next s' M) (hx : l[i]? = some x) (hd : x.done = false) (hn : (ids false (l.take i)).contains (x.client, x.seq) = false) :
    HI s (M.put s.next (some ⟨53, 0, idEs (insId (ids false (l.take i)) (x.client, x.seq))⟩)) l (i + 1) := by
  have h1 := h.n
  refine ⟨h.kb hM (Nat.le_refl _) _, by have := hM.next; rw [Mem.next_put]; omega, ?_, ?_⟩
  · rw [Mem.get_put, if_pos rfl, ids_snoc _ hx, if_pos hd, insId, hn]; rfl
  · rw [Mem.get_put, if_neg (by omega), hM.get _ h1, h.d, ids_snoc _ hx, if_neg (by simp [hd])]
theorem HI.nd (h : HI s s' l i) (hM : Keep s'.next s' M) (hx : l[i]? = some x) (hd : x.done = true) (hn : (ids true (l.take i)).contains (x.client, x.seq) = false) :
    HI s (M.put (s.next + 1) (some ⟨53, 0, idEs (insId (ids true (l.take i)) (x.client, x.seq))⟩)) l (i + 1) := by
  have h1 := h.n
  refine ⟨h.kb hM (Nat.le_succ _) _, by have := hM.next; rw [Mem.next_put]; omega, ?_, ?_⟩
  · rw [Mem.get_put, if_neg (by omega), hM.get _ (by omega), h.b, ids_snoc _ hx, if_neg (by simp [hd])]
  · rw [Mem.get_put, if_pos rfl, ids_snoc _ hx, if_pos hd, insId, hn]; rfl
end
theorem hcheck_c {l : List Event} {v : AV} {s : Mem} {K : AV → Mem → Prop} (hf : s.floor ≤ s.next) (hv : Evs v l) (hK : ∀ s', Keep s.next s s' → K (.int .i64 (chk l)) s') : C tab 13 [v] s K := by
  refine C_enter (cf := cf13) rfl (Nat.le_of_ble_eq_true rfl) ?_
  simp only [cf13, oo, on, om, og, oc, ou]
  (repeat' (with_reducible first|refine w_1 ?_|refine w_2 ?_|refine w_3 ?_|refine w_4 ?_|refine w_5 ?_|refine w_6 ?_|refine w_7 ?_|(refine w_8 (fun hb=>?_) (fun hb=>?_)<;>(try simp only [Bool.not_eq_true',Bool.not_eq_false'] at hb)<;>try simp only [hb])|(refine w_9 ?_;simp (maxDischargeDepth:=12) only [viz,↓reduceIte,Nat.reduceEqDiff,reduceCtorEq,Int.reduceEq,Int.reduceNeg,Nat.reduceAdd,Nat.reduceLeDiff,hv.len])|refine w_10 (fun hc=>(by (try simp only [Bool.and_eq_true] at hc);simp (maxDischargeDepth:=12) only [viz,↓reduceIte,Nat.reduceEqDiff,reduceCtorEq,Int.reduceEq,Int.reduceNeg,Nat.reduceAdd,Nat.reduceLeDiff,hv.len,hc];first|exact ⟨rfl,rfl⟩|exact rfl)) ?_|refine w_11 (fun hc=>(by (try simp only [Bool.and_eq_true] at hc);simp (maxDischargeDepth:=12) only [viz,↓reduceIte,Nat.reduceEqDiff,reduceCtorEq,Int.reduceEq,Int.reduceNeg,Nat.reduceAdd,Nat.reduceLeDiff,hv.len,hc];first|exact ⟨rfl,rfl⟩|exact rfl)) ?_|refine w_12 ?_|simp (maxDischargeDepth:=12) only [viz,↓reduceIte,Nat.reduceEqDiff,reduceCtorEq,Int.reduceEq,Int.reduceNeg,Nat.reduceAdd,Nat.reduceLeDiff,hv.len]))
  · have hb := of_decide_eq_true hb
    rw [chk_long (by omega)] at hK
    exact hK _ (Keep.refl _ _)
  have h64 : ¬ l.length > 64 := by have := of_decide_eq_false hb; omega
  refine W_inv l.length (fun i e s' => HI s s' l i ∧ e.get 0 = v ∧ e.get 3 = .mapv s.next ∧ e.get 4 = .mapv (s.next + 1) ∧ e.get 13 = v ∧ e.get 14 = .int .i64 l.length ∧ e.get 15 = .int .i64 i ∧ ∀ j, j < i → okAt l j = true) (by delta cf13l0 oo on om og oc ou; exact rfl) ?_ ?_
  · (repeat' (with_reducible first|refine w_1 ?_|refine w_2 ?_|refine w_3 ?_|refine w_4 ?_|refine w_5 ?_|refine w_6 ?_|refine w_7 ?_|(refine w_8 (fun hb=>?_) (fun hb=>?_)<;>(try simp only [Bool.not_eq_true',Bool.not_eq_false'] at hb)<;>try simp only [hb])|(refine w_9 ?_;simp (maxDischargeDepth:=12) only [viz,↓reduceIte,Nat.reduceEqDiff,reduceCtorEq,Int.reduceEq,Int.reduceNeg,Nat.reduceAdd,Nat.reduceLeDiff])|refine w_10 (fun hc=>(by (try simp only [Bool.and_eq_true] at hc);simp (maxDischargeDepth:=12) only [viz,↓reduceIte,Nat.reduceEqDiff,reduceCtorEq,Int.reduceEq,Int.reduceNeg,Nat.reduceAdd,Nat.reduceLeDiff,hc];first|exact ⟨rfl,rfl⟩|exact rfl)) ?_|refine w_11 (fun hc=>(by (try simp only [Bool.and_eq_true] at hc);simp (maxDischargeDepth:=12) only [viz,↓reduceIte,Nat.reduceEqDiff,reduceCtorEq,Int.reduceEq,Int.reduceNeg,Nat.reduceAdd,Nat.reduceLeDiff,hc];first|exact ⟨rfl,rfl⟩|exact rfl)) ?_|refine w_12 ?_|simp (maxDischargeDepth:=12) only [viz,↓reduceIte,Nat.reduceEqDiff,reduceCtorEq,Int.reduceEq,Int.reduceNeg,Nat.reduceAdd,Nat.reduceLeDiff]))
    refine ⟨⟨(pushes _ _).then (pushes _ _), by simp only [Mem.next_push]; omega, ?_, ?_⟩, rfl, by omega⟩
    · simp only [Mem.get_push, Mem.next_push]
      rw [if_neg (by omega), if_pos trivial]
      rfl
    · simp only [Mem.get_push, Mem.next_push]
      rfl
  rintro i e s' hile _ ⟨hi, g0, h3, h4, h13, h14, h15, hok⟩
  by_cases hlt : i < l.length
  · obtain ⟨x, hx⟩ := get_of hlt
    obtain ⟨k, w, hp, hk, hw⟩ := hv.at hx
    have hlx := lt_true hlt
    have hfl := hi.k.ok hf
    have bad : (evOk (prevOf l i) (ids false (l.take i)) (ids true (l.take i)) x = false) → ∀ s', Keep s.next s s' → K (.int .i64 1) s' := fun h => chk_bad h64 hx h ▸ hK
    have good : (evOk (prevOf l i) (ids false (l.take i)) (ids true (l.take i)) x = true) → ∀ j, j < i + 1 → okAt l j = true := fun h j hj => by
      by_cases hji : j = i
      · rw [hji, okAt_some hx, h]
      · exact hok j (by omega)
    have hgb : ∀ M, Keep s'.next s' M → ∀ c q, mapGetA M [.i, .i] true (.bool false) (.mapv s.next) (.agg [.int .i64 c, .int .u64 q]) = some (.bool ((ids false (l.take i)).contains (c, q)), (ids false (l.take i)).contains (c, q)) := fun M hM => hi.gb hM
    have hgd : ∀ M, Keep s'.next s' M → ∀ c q, mapGetA M [.i, .i] true (.bool false) (.mapv (s.next + 1)) (.agg [.int .i64 c, .int .u64 q]) = some (.bool ((ids true (l.take i)).contains (c, q)), (ids true (l.take i)).contains (c, q)) := fun M hM => hi.gd hM
    have hpb : ∀ M, Keep s'.next s' M → ∀ c q, mapPutA M [.i, .i] true (.mapv s.next) (.agg [.int .i64 c, .int .u64 q]) (.bool true) = some (M.put s.next (some ⟨53, 0, idEs (insId (ids false (l.take i)) (c, q))⟩)) := fun M hM => hi.pb hf hM
    have hpd : ∀ M, Keep s'.next s' M → ∀ c q, mapPutA M [.i, .i] true (.mapv (s.next + 1)) (.agg [.int .i64 c, .int .u64 q]) (.bool true) = some (M.put (s.next + 1) (some ⟨53, 0, idEs (insId (ids true (l.take i)) (c, q))⟩)) := fun M hM => hi.pd hf hM
    rcases i with _ | j
    all_goals first
      | (have h0 : ((0 : Nat) : Int) = 0 := rfl
         rw [h0] at hp hlx
         (repeat' (with_reducible first|refine w_1 ?_|refine w_2 ?_|refine w_3 ?_|refine w_4 ?_|refine w_5 ?_|refine w_6 ?_|refine w_7 ?_|(refine w_8 (fun hb=>?_) (fun hb=>?_)<;>(try simp only [Bool.not_eq_true',Bool.not_eq_false'] at hb)<;>try simp only [hb])|(refine w_9 ?_;simp (maxDischargeDepth:=12) only [viz,↓reduceIte,Nat.reduceEqDiff,reduceCtorEq,Int.reduceEq,Int.reduceNeg,Nat.reduceAdd,Nat.reduceLeDiff,List.drop_succ_cons,List.drop_zero,g0,h3,h4,h13,h14,h15,h0,hlx,hp,hk.cell,hw.cell,hgb,hgd,hpb,hpd,hfl,bne_self_eq_false, Int.reduceBEq, Int.reduceBNe, Int.reduceLT, Int.reduceLE, Int.reduceGT, Int.reduceGE])|refine w_10 (fun hc=>(by (try simp only [Bool.and_eq_true] at hc);simp (maxDischargeDepth:=12) only [viz,↓reduceIte,Nat.reduceEqDiff,reduceCtorEq,Int.reduceEq,Int.reduceNeg,Nat.reduceAdd,Nat.reduceLeDiff,List.drop_succ_cons,List.drop_zero,g0,h3,h4,h13,h14,h15,h0,hlx,hp,hk.cell,hw.cell,hgb,hgd,hpb,hpd,hfl,bne_self_eq_false, Int.reduceBEq, Int.reduceBNe, Int.reduceLT, Int.reduceLE, Int.reduceGT, Int.reduceGE,hc];first|exact ⟨rfl,rfl⟩|exact rfl)) ?_|refine w_11 (fun hc=>(by (try simp only [Bool.and_eq_true] at hc);simp (maxDischargeDepth:=12) only [viz,↓reduceIte,Nat.reduceEqDiff,reduceCtorEq,Int.reduceEq,Int.reduceNeg,Nat.reduceAdd,Nat.reduceLeDiff,List.drop_succ_cons,List.drop_zero,g0,h3,h4,h13,h14,h15,h0,hlx,hp,hk.cell,hw.cell,hgb,hgd,hpb,hpd,hfl,bne_self_eq_false, Int.reduceBEq, Int.reduceBNe, Int.reduceLT, Int.reduceLE, Int.reduceGT, Int.reduceGE,hc];first|exact ⟨rfl,rfl⟩|exact rfl)) ?_|refine w_12 ?_|simp (maxDischargeDepth:=12) only [viz,↓reduceIte,Nat.reduceEqDiff,reduceCtorEq,Int.reduceEq,Int.reduceNeg,Nat.reduceAdd,Nat.reduceLeDiff,List.drop_succ_cons,List.drop_zero,g0,h3,h4,h13,h14,h15,h0,hlx,hp,hk.cell,hw.cell,hgb,hgd,hpb,hpd,hfl,bne_self_eq_false, Int.reduceBEq, Int.reduceBNe, Int.reduceLT, Int.reduceLE, Int.reduceGT, Int.reduceGE])))
      | (obtain ⟨y, hy⟩ := get_of (l := l) (i := j) (by omega)
         obtain ⟨k2, w2, hp2, hk2, hw2⟩ := hv.at hy
         have hj : (((j + 1 : Nat) : Int) == 0) = false := by rw [beq_eq_false_iff_ne]; omega
         have hpj := pred_cast j (by omega)
         (repeat' (with_reducible first|refine w_1 ?_|refine w_2 ?_|refine w_3 ?_|refine w_4 ?_|refine w_5 ?_|refine w_6 ?_|refine w_7 ?_|(refine w_8 (fun hb=>?_) (fun hb=>?_)<;>(try simp only [Bool.not_eq_true',Bool.not_eq_false'] at hb)<;>try simp only [hb])|(refine w_9 ?_;simp (maxDischargeDepth:=12) only [viz,↓reduceIte,Nat.reduceEqDiff,reduceCtorEq,Int.reduceEq,Int.reduceNeg,Nat.reduceAdd,Nat.reduceLeDiff,List.drop_succ_cons,List.drop_zero,g0,h3,h4,h13,h14,h15,hlx,hp,hp2,hj,hpj,hk.cell,hw.cell,hgb,hgd,hpb,hpd,hfl])|refine w_10 (fun hc=>(by (try simp only [Bool.and_eq_true] at hc);simp (maxDischargeDepth:=12) only [viz,↓reduceIte,Nat.reduceEqDiff,reduceCtorEq,Int.reduceEq,Int.reduceNeg,Nat.reduceAdd,Nat.reduceLeDiff,List.drop_succ_cons,List.drop_zero,g0,h3,h4,h13,h14,h15,hlx,hp,hp2,hj,hpj,hk.cell,hw.cell,hgb,hgd,hpb,hpd,hfl,hc];first|exact ⟨rfl,rfl⟩|exact rfl)) ?_|refine w_11 (fun hc=>(by (try simp only [Bool.and_eq_true] at hc);simp (maxDischargeDepth:=12) only [viz,↓reduceIte,Nat.reduceEqDiff,reduceCtorEq,Int.reduceEq,Int.reduceNeg,Nat.reduceAdd,Nat.reduceLeDiff,List.drop_succ_cons,List.drop_zero,g0,h3,h4,h13,h14,h15,hlx,hp,hp2,hj,hpj,hk.cell,hw.cell,hgb,hgd,hpb,hpd,hfl,hc];first|exact ⟨rfl,rfl⟩|exact rfl)) ?_|refine w_12 ?_|simp (maxDischargeDepth:=12) only [viz,↓reduceIte,Nat.reduceEqDiff,reduceCtorEq,Int.reduceEq,Int.reduceNeg,Nat.reduceAdd,Nat.reduceLeDiff,List.drop_succ_cons,List.drop_zero,g0,h3,h4,h13,h14,h15,hlx,hp,hp2,hj,hpj,hk.cell,hw.cell,hgb,hgd,hpb,hpd,hfl])))
    all_goals try exact bad (by grind [evOk, baseOk, idOf, prevOf]) _ (hi.kb (pushes _ _) (by omega) _)
    all_goals first
      | (refine none_c hk fun s2 hk2 => ?_
         have q2 := (Kp.of_push s' _).then hk2
         have qk := q2.k
         have qg := q2.g
         (repeat' (with_reducible first|refine w_1 ?_|refine w_2 ?_|refine w_3 ?_|refine w_4 ?_|refine w_5 ?_|refine w_6 ?_|refine w_7 ?_|(refine w_8 (fun hb=>?_) (fun hb=>?_)<;>(try simp only [Bool.not_eq_true',Bool.not_eq_false'] at hb)<;>try simp only [hb])|(refine w_9 ?_;simp (maxDischargeDepth:=12) only [viz,↓reduceIte,Nat.reduceEqDiff,reduceCtorEq,Int.reduceEq,Int.reduceNeg,Nat.reduceAdd,Nat.reduceLeDiff,g0,h3,h4,h13,h14,h15,hgb,hgd,hpb,hpd,qk,qg])|refine w_10 (fun hc=>(by (try simp only [Bool.and_eq_true] at hc);simp (maxDischargeDepth:=12) only [viz,↓reduceIte,Nat.reduceEqDiff,reduceCtorEq,Int.reduceEq,Int.reduceNeg,Nat.reduceAdd,Nat.reduceLeDiff,g0,h3,h4,h13,h14,h15,hgb,hgd,hpb,hpd,qk,qg,hc];first|exact ⟨rfl,rfl⟩|exact rfl)) ?_|refine w_11 (fun hc=>(by (try simp only [Bool.and_eq_true] at hc);simp (maxDischargeDepth:=12) only [viz,↓reduceIte,Nat.reduceEqDiff,reduceCtorEq,Int.reduceEq,Int.reduceNeg,Nat.reduceAdd,Nat.reduceLeDiff,g0,h3,h4,h13,h14,h15,hgb,hgd,hpb,hpd,qk,qg,hc];first|exact ⟨rfl,rfl⟩|exact rfl)) ?_|refine w_12 ?_|simp (maxDischargeDepth:=12) only [viz,↓reduceIte,Nat.reduceEqDiff,reduceCtorEq,Int.reduceEq,Int.reduceNeg,Nat.reduceAdd,Nat.reduceLeDiff,g0,h3,h4,h13,h14,h15,hgb,hgd,hpb,hpd,qk,qg])))
      | (refine silent_c hw fun s2 hk2 => ?_
         have q2 := (Kp.of_push s' _).then hk2
         have qk := q2.k
         have qg := q2.g
         (repeat' (with_reducible first|refine w_1 ?_|refine w_2 ?_|refine w_3 ?_|refine w_4 ?_|refine w_5 ?_|refine w_6 ?_|refine w_7 ?_|(refine w_8 (fun hb=>?_) (fun hb=>?_)<;>(try simp only [Bool.not_eq_true',Bool.not_eq_false'] at hb)<;>try simp only [hb])|(refine w_9 ?_;simp (maxDischargeDepth:=12) only [viz,↓reduceIte,Nat.reduceEqDiff,reduceCtorEq,Int.reduceEq,Int.reduceNeg,Nat.reduceAdd,Nat.reduceLeDiff,g0,h3,h4,h13,h14,h15,hgb,hgd,hpb,hpd,qk,qg])|refine w_10 (fun hc=>(by (try simp only [Bool.and_eq_true] at hc);simp (maxDischargeDepth:=12) only [viz,↓reduceIte,Nat.reduceEqDiff,reduceCtorEq,Int.reduceEq,Int.reduceNeg,Nat.reduceAdd,Nat.reduceLeDiff,g0,h3,h4,h13,h14,h15,hgb,hgd,hpb,hpd,qk,qg,hc];first|exact ⟨rfl,rfl⟩|exact rfl)) ?_|refine w_11 (fun hc=>(by (try simp only [Bool.and_eq_true] at hc);simp (maxDischargeDepth:=12) only [viz,↓reduceIte,Nat.reduceEqDiff,reduceCtorEq,Int.reduceEq,Int.reduceNeg,Nat.reduceAdd,Nat.reduceLeDiff,g0,h3,h4,h13,h14,h15,hgb,hgd,hpb,hpd,qk,qg,hc];first|exact ⟨rfl,rfl⟩|exact rfl)) ?_|refine w_12 ?_|simp (maxDischargeDepth:=12) only [viz,↓reduceIte,Nat.reduceEqDiff,reduceCtorEq,Int.reduceEq,Int.reduceNeg,Nat.reduceAdd,Nat.reduceLeDiff,g0,h3,h4,h13,h14,h15,hgb,hgd,hpb,hpd,qk,qg])))
    all_goals try exact bad (by grind [evOk, baseOk, idOf, prevOf]) _ (hi.kb qk (by omega) _)
    all_goals first
      | (refine silent_c hw fun s3 hk3 => ?_
         have q3 := q2.then hk3
         have qk := q3.k
         have qg := q3.g
         (repeat' (with_reducible first|refine w_1 ?_|refine w_2 ?_|refine w_3 ?_|refine w_4 ?_|refine w_5 ?_|refine w_6 ?_|refine w_7 ?_|(refine w_8 (fun hb=>?_) (fun hb=>?_)<;>(try simp only [Bool.not_eq_true',Bool.not_eq_false'] at hb)<;>try simp only [hb])|(refine w_9 ?_;simp (maxDischargeDepth:=12) only [viz,↓reduceIte,Nat.reduceEqDiff,reduceCtorEq,Int.reduceEq,Int.reduceNeg,Nat.reduceAdd,Nat.reduceLeDiff,g0,h3,h4,h13,h14,h15,hgb,hgd,hpb,hpd,qk,qg])|refine w_10 (fun hc=>(by (try simp only [Bool.and_eq_true] at hc);simp (maxDischargeDepth:=12) only [viz,↓reduceIte,Nat.reduceEqDiff,reduceCtorEq,Int.reduceEq,Int.reduceNeg,Nat.reduceAdd,Nat.reduceLeDiff,g0,h3,h4,h13,h14,h15,hgb,hgd,hpb,hpd,qk,qg,hc];first|exact ⟨rfl,rfl⟩|exact rfl)) ?_|refine w_11 (fun hc=>(by (try simp only [Bool.and_eq_true] at hc);simp (maxDischargeDepth:=12) only [viz,↓reduceIte,Nat.reduceEqDiff,reduceCtorEq,Int.reduceEq,Int.reduceNeg,Nat.reduceAdd,Nat.reduceLeDiff,g0,h3,h4,h13,h14,h15,hgb,hgd,hpb,hpd,qk,qg,hc];first|exact ⟨rfl,rfl⟩|exact rfl)) ?_|refine w_12 ?_|simp (maxDischargeDepth:=12) only [viz,↓reduceIte,Nat.reduceEqDiff,reduceCtorEq,Int.reduceEq,Int.reduceNeg,Nat.reduceAdd,Nat.reduceLeDiff,g0,h3,h4,h13,h14,h15,hgb,hgd,hpb,hpd,qk,qg]))
         all_goals first
           | exact bad (by grind [evOk, baseOk, idOf, prevOf]) _ (hi.kb qk (by omega) _)
           | exact ⟨hlt, hi.nd qk hx (by assumption) (by grind), (by first | rfl | exact succ_av (by omega)), good (by grind [evOk, baseOk, idOf, prevOf])⟩
           | exact ⟨hlt, hi.nb qk hx (by assumption) (by grind), (by first | rfl | exact succ_av (by omega)), good (by grind [evOk, baseOk, idOf, prevOf])⟩
           | skip)
      | (refine mcheck_c hk fun s3 hk3 => ?_
         have q3 := q2.then hk3
         have qk := q3.k
         have qg := q3.g
         (repeat' (with_reducible first|refine w_1 ?_|refine w_2 ?_|refine w_3 ?_|refine w_4 ?_|refine w_5 ?_|refine w_6 ?_|refine w_7 ?_|(refine w_8 (fun hb=>?_) (fun hb=>?_)<;>(try simp only [Bool.not_eq_true',Bool.not_eq_false'] at hb)<;>try simp only [hb])|(refine w_9 ?_;simp (maxDischargeDepth:=12) only [viz,↓reduceIte,Nat.reduceEqDiff,reduceCtorEq,Int.reduceEq,Int.reduceNeg,Nat.reduceAdd,Nat.reduceLeDiff,g0,h3,h4,h13,h14,h15,hgb,hgd,hpb,hpd,qk,qg])|refine w_10 (fun hc=>(by (try simp only [Bool.and_eq_true] at hc);simp (maxDischargeDepth:=12) only [viz,↓reduceIte,Nat.reduceEqDiff,reduceCtorEq,Int.reduceEq,Int.reduceNeg,Nat.reduceAdd,Nat.reduceLeDiff,g0,h3,h4,h13,h14,h15,hgb,hgd,hpb,hpd,qk,qg,hc];first|exact ⟨rfl,rfl⟩|exact rfl)) ?_|refine w_11 (fun hc=>(by (try simp only [Bool.and_eq_true] at hc);simp (maxDischargeDepth:=12) only [viz,↓reduceIte,Nat.reduceEqDiff,reduceCtorEq,Int.reduceEq,Int.reduceNeg,Nat.reduceAdd,Nat.reduceLeDiff,g0,h3,h4,h13,h14,h15,hgb,hgd,hpb,hpd,qk,qg,hc];first|exact ⟨rfl,rfl⟩|exact rfl)) ?_|refine w_12 ?_|simp (maxDischargeDepth:=12) only [viz,↓reduceIte,Nat.reduceEqDiff,reduceCtorEq,Int.reduceEq,Int.reduceNeg,Nat.reduceAdd,Nat.reduceLeDiff,g0,h3,h4,h13,h14,h15,hgb,hgd,hpb,hpd,qk,qg]))
         all_goals first
           | exact bad (by grind [evOk, baseOk, idOf, prevOf]) _ (hi.kb qk (by omega) _)
           | exact ⟨hlt, hi.nd qk hx (by assumption) (by grind), (by first | rfl | exact succ_av (by omega)), good (by grind [evOk, baseOk, idOf, prevOf])⟩
           | exact ⟨hlt, hi.nb qk hx (by assumption) (by grind), (by first | rfl | exact succ_av (by omega)), good (by grind [evOk, baseOk, idOf, prevOf])⟩
           | skip)
      | (cases hcn : callNone x.call
         · simp only [hcn, pk_false, gv_false]
           (repeat' (with_reducible first|refine w_1 ?_|refine w_2 ?_|refine w_3 ?_|refine w_4 ?_|refine w_5 ?_|refine w_6 ?_|refine w_7 ?_|(refine w_8 (fun hb=>?_) (fun hb=>?_)<;>(try simp only [Bool.not_eq_true',Bool.not_eq_false'] at hb)<;>try simp only [hb])|(refine w_9 ?_;simp (maxDischargeDepth:=12) only [viz,↓reduceIte,Nat.reduceEqDiff,reduceCtorEq,Int.reduceEq,Int.reduceNeg,Nat.reduceAdd,Nat.reduceLeDiff,g0,h3,h4,h13,h14,h15])|refine w_10 (fun hc=>(by (try simp only [Bool.and_eq_true] at hc);simp (maxDischargeDepth:=12) only [viz,↓reduceIte,Nat.reduceEqDiff,reduceCtorEq,Int.reduceEq,Int.reduceNeg,Nat.reduceAdd,Nat.reduceLeDiff,g0,h3,h4,h13,h14,h15,hc];first|exact ⟨rfl,rfl⟩|exact rfl)) ?_|refine w_11 (fun hc=>(by (try simp only [Bool.and_eq_true] at hc);simp (maxDischargeDepth:=12) only [viz,↓reduceIte,Nat.reduceEqDiff,reduceCtorEq,Int.reduceEq,Int.reduceNeg,Nat.reduceAdd,Nat.reduceLeDiff,g0,h3,h4,h13,h14,h15,hc];first|exact ⟨rfl,rfl⟩|exact rfl)) ?_|refine w_12 ?_|simp (maxDischargeDepth:=12) only [viz,↓reduceIte,Nat.reduceEqDiff,reduceCtorEq,Int.reduceEq,Int.reduceNeg,Nat.reduceAdd,Nat.reduceLeDiff,g0,h3,h4,h13,h14,h15]))
           all_goals first
             | exact bad (by grind [evOk, baseOk, idOf, prevOf]) _ (hi.kb qk (by omega) _)
             | exact ⟨hlt, hi.nd qk hx (by assumption) (by grind), (by first | rfl | exact succ_av (by omega)), good (by grind [evOk, baseOk, idOf, prevOf])⟩
             | exact ⟨hlt, hi.nb qk hx (by assumption) (by grind), (by first | rfl | exact succ_av (by omega)), good (by grind [evOk, baseOk, idOf, prevOf])⟩
             | skip
         · have hun : x.unknown = false := by grind
           simp only [hcn, hun]
           (repeat' (with_reducible first|refine w_1 ?_|refine w_2 ?_|refine w_3 ?_|refine w_4 ?_|refine w_5 ?_|refine w_6 ?_|refine w_7 ?_|(refine w_8 (fun hb=>?_) (fun hb=>?_)<;>(try simp only [Bool.not_eq_true',Bool.not_eq_false'] at hb)<;>try simp only [hb])|(refine w_9 ?_;simp (maxDischargeDepth:=12) only [viz,↓reduceIte,Nat.reduceEqDiff,reduceCtorEq,Int.reduceEq,Int.reduceNeg,Nat.reduceAdd,Nat.reduceLeDiff,g0,h3,h4,h13,h14,h15])|refine w_10 (fun hc=>(by (try simp only [Bool.and_eq_true] at hc);simp (maxDischargeDepth:=12) only [viz,↓reduceIte,Nat.reduceEqDiff,reduceCtorEq,Int.reduceEq,Int.reduceNeg,Nat.reduceAdd,Nat.reduceLeDiff,g0,h3,h4,h13,h14,h15,hc];first|exact ⟨rfl,rfl⟩|exact rfl)) ?_|refine w_11 (fun hc=>(by (try simp only [Bool.and_eq_true] at hc);simp (maxDischargeDepth:=12) only [viz,↓reduceIte,Nat.reduceEqDiff,reduceCtorEq,Int.reduceEq,Int.reduceNeg,Nat.reduceAdd,Nat.reduceLeDiff,g0,h3,h4,h13,h14,h15,hc];first|exact ⟨rfl,rfl⟩|exact rfl)) ?_|refine w_12 ?_|simp (maxDischargeDepth:=12) only [viz,↓reduceIte,Nat.reduceEqDiff,reduceCtorEq,Int.reduceEq,Int.reduceNeg,Nat.reduceAdd,Nat.reduceLeDiff,g0,h3,h4,h13,h14,h15]))
           all_goals first
             | exact bad (by grind [evOk, baseOk, idOf, prevOf]) _ (hi.kb qk (by omega) _)
             | exact ⟨hlt, hi.nd qk hx (by assumption) (by grind), (by first | rfl | exact succ_av (by omega)), good (by grind [evOk, baseOk, idOf, prevOf])⟩
             | exact ⟨hlt, hi.nb qk hx (by assumption) (by grind), (by first | rfl | exact succ_av (by omega)), good (by grind [evOk, baseOk, idOf, prevOf])⟩
             | skip)
  · have hl := len_id hi.b
    rw [chk_good h64 (fun j hj => hok j (by omega)), ← List.take_length (l := l), show l.length = i by omega] at hK
    (repeat' (with_reducible first|refine w_1 ?_|refine w_2 ?_|refine w_3 ?_|refine w_4 ?_|refine w_5 ?_|refine w_6 ?_|refine w_7 ?_|(refine w_8 (fun hb=>?_) (fun hb=>?_)<;>(try simp only [Bool.not_eq_true',Bool.not_eq_false'] at hb)<;>try simp only [hb])|(refine w_9 ?_;simp (maxDischargeDepth:=12) only [viz,↓reduceIte,Nat.reduceEqDiff,reduceCtorEq,Int.reduceEq,Int.reduceNeg,Nat.reduceAdd,Nat.reduceLeDiff,List.drop_succ_cons,List.drop_zero,g0,h3,h4,h13,h14,h15,hl,lt_false hlt])|refine w_10 (fun hc=>(by (try simp only [Bool.and_eq_true] at hc);simp (maxDischargeDepth:=12) only [viz,↓reduceIte,Nat.reduceEqDiff,reduceCtorEq,Int.reduceEq,Int.reduceNeg,Nat.reduceAdd,Nat.reduceLeDiff,List.drop_succ_cons,List.drop_zero,g0,h3,h4,h13,h14,h15,hl,lt_false hlt,hc];first|exact ⟨rfl,rfl⟩|exact rfl)) ?_|refine w_11 (fun hc=>(by (try simp only [Bool.and_eq_true] at hc);simp (maxDischargeDepth:=12) only [viz,↓reduceIte,Nat.reduceEqDiff,reduceCtorEq,Int.reduceEq,Int.reduceNeg,Nat.reduceAdd,Nat.reduceLeDiff,List.drop_succ_cons,List.drop_zero,g0,h3,h4,h13,h14,h15,hl,lt_false hlt,hc];first|exact ⟨rfl,rfl⟩|exact rfl)) ?_|refine w_12 ?_|simp (maxDischargeDepth:=12) only [viz,↓reduceIte,Nat.reduceEqDiff,reduceCtorEq,Int.reduceEq,Int.reduceNeg,Nat.reduceAdd,Nat.reduceLeDiff,List.drop_succ_cons,List.drop_zero,g0,h3,h4,h13,h14,h15,hl,lt_false hlt]))
    · rw [if_pos (by have := of_decide_eq_true hb; omega)] at hK
      exact hK _ hi.k
    · rw [if_neg (by have := of_decide_eq_false hb; omega)] at hK
      exact hK _ hi.k
end Go.Proofs.YtmjgakhnhjpclaaGreat

