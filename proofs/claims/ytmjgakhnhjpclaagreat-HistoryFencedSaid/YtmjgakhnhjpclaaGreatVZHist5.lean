/- Which histories may be: the document's answer. No statement of the seat is proved here. -/
import Derived.Test.YtmjgakhnhjpclaaGreatVZHB
import Derived.Test.YtmjgakhnhjpclaaGreatVZVE
namespace Go.Proofs.YtmjgakhnhjpclaaGreat
open Go Go.VI
set_option linter.unusedSimpArgs false
attribute [local irreducible] Ws Wp W C
set_option maxHeartbeats 4000000
def cnt (f : Bool) (l : List Event) (k : Nat) (q : Idn) : Nat := (ids f (l.take k)).count q
theorem cnt_succ (f : Bool) {l : List Event} {k : Nat} {x : Event} (h : l[k]? = some x) (q : Idn) : cnt f l (k + 1) q = cnt f l k q + (if x.done = f ∧ idOf x = q then 1 else 0) := by
  unfold cnt
  rw [ids_snoc f h]
  by_cases hd : x.done = f
  · by_cases hq : idOf x = q
    · simp [hd, hq]
    · simp [hd, hq]
  · simp [hd]
theorem cnt_le (f : Bool) (l : List Event) (k : Nat) (q : Idn) : cnt f l k q ≤ l.length := by
  unfold cnt
  refine Nat.le_trans List.count_le_length ?_
  unfold ids
  rw [List.length_map]
  refine Nat.le_trans (List.length_filter_le _ _) ?_
  rw [List.length_take]; omega
theorem cnt_b (f : Bool) (l : List Event) (k : Nat) (q : Idn) : (ids f (l.take k)).contains q = decide (0 < cnt f l k q) := by
  unfold cnt
  by_cases h : q ∈ ids f (l.take k)
  · simp [h]
  · simp [h]
theorem ids_len_le (f : Bool) (l : List Event) (k : Nat) : (ids f (l.take k)).length ≤ l.length := by
  unfold ids
  rw [List.length_map]
  refine Nat.le_trans (List.length_filter_le _ _) ?_
  rw [List.length_take]; omega
theorem rcheck_c {l : List Event} {v : AV} {s : Mem} {K : AV → Mem → Prop} (hf : s.floor ≤ s.next) (hv : Evs v l) (hK : ∀ s', Keep s.next s s' → K (.int .i64 (chk l)) s') : C tab 4 [v] s K := by
  refine C_enter (cf := cf4) rfl (Nat.le_of_ble_eq_true rfl) ?_
  simp only [cf4, oo, on, om, og, oc, ou]
  have hl := hv.len
  (repeat' (with_reducible first|refine w_1 ?_|refine w_2 ?_|refine w_3 ?_|refine w_4 ?_|refine w_5 ?_|refine w_6 ?_|refine w_7 ?_|(refine w_8 (fun hb=>?_) (fun hb=>?_)<;>(try simp only [Bool.not_eq_true',Bool.not_eq_false'] at hb)<;>try simp only [hb])|(refine w_9 ?_;simp (maxDischargeDepth:=12) only [viz,↓reduceIte,Nat.reduceEqDiff,reduceCtorEq,Int.reduceEq,Int.reduceNeg,Nat.reduceAdd,Nat.reduceLeDiff,hl])|refine w_10 (fun hc=>(by (try simp only [Bool.and_eq_true] at hc);simp (maxDischargeDepth:=12) only [viz,↓reduceIte,Nat.reduceEqDiff,reduceCtorEq,Int.reduceEq,Int.reduceNeg,Nat.reduceAdd,Nat.reduceLeDiff,hl,hc];first|exact ⟨rfl,rfl⟩|exact rfl)) ?_|refine w_11 (fun hc=>(by (try simp only [Bool.and_eq_true] at hc);simp (maxDischargeDepth:=12) only [viz,↓reduceIte,Nat.reduceEqDiff,reduceCtorEq,Int.reduceEq,Int.reduceNeg,Nat.reduceAdd,Nat.reduceLeDiff,hl,hc];first|exact ⟨rfl,rfl⟩|exact rfl)) ?_|refine w_12 ?_|simp (maxDischargeDepth:=12) only [viz,↓reduceIte,Nat.reduceEqDiff,reduceCtorEq,Int.reduceEq,Int.reduceNeg,Nat.reduceAdd,Nat.reduceLeDiff,hl]))
  · have hb := of_decide_eq_true hb
    rw [chk_long (by omega)] at hK
    exact hK _ (Keep.refl _ _)
  have h64 : ¬ l.length > 64 := by have := of_decide_eq_false hb; omega
  refine W_inv l.length (fun i e s' => Keep s.next s s' ∧ e.get 0 = v ∧ e.get 3 = .int .i64 (ids false (l.take i)).length ∧ e.get 4 = .int .i64 i ∧ ∀ j, j < i → okAt l j = true) (by delta cf4l0 oo on om og oc ou; exact rfl) ?_ ?_
  · (repeat' (with_reducible first|refine w_1 ?_|refine w_2 ?_|refine w_3 ?_|refine w_4 ?_|refine w_5 ?_|refine w_6 ?_|refine w_7 ?_|(refine w_8 (fun hb=>?_) (fun hb=>?_)<;>(try simp only [Bool.not_eq_true',Bool.not_eq_false'] at hb)<;>try simp only [hb])|(refine w_9 ?_;simp (maxDischargeDepth:=12) only [viz,↓reduceIte,Nat.reduceEqDiff,reduceCtorEq,Int.reduceEq,Int.reduceNeg,Nat.reduceAdd,Nat.reduceLeDiff])|refine w_10 (fun hc=>(by (try simp only [Bool.and_eq_true] at hc);simp (maxDischargeDepth:=12) only [viz,↓reduceIte,Nat.reduceEqDiff,reduceCtorEq,Int.reduceEq,Int.reduceNeg,Nat.reduceAdd,Nat.reduceLeDiff,hc];first|exact ⟨rfl,rfl⟩|exact rfl)) ?_|refine w_11 (fun hc=>(by (try simp only [Bool.and_eq_true] at hc);simp (maxDischargeDepth:=12) only [viz,↓reduceIte,Nat.reduceEqDiff,reduceCtorEq,Int.reduceEq,Int.reduceNeg,Nat.reduceAdd,Nat.reduceLeDiff,hc];first|exact ⟨rfl,rfl⟩|exact rfl)) ?_|refine w_12 ?_|simp (maxDischargeDepth:=12) only [viz,↓reduceIte,Nat.reduceEqDiff,reduceCtorEq,Int.reduceEq,Int.reduceNeg,Nat.reduceAdd,Nat.reduceLeDiff]))
    exact ⟨rfl, rfl, by omega⟩
  rintro i e s' hile _ ⟨hi, h0, h3, h4, hok⟩
  by_cases hlt : i < l.length
  · obtain ⟨x, hx⟩ := get_of hlt
    obtain ⟨k, w, hp, hk, hw⟩ := hv.at hx
    have hlx := lt_true hlt
    have hfl := hi.ok hf
    have bad : (evOk (prevOf l i) (ids false (l.take i)) (ids true (l.take i)) x = false) → ∀ s', Keep s.next s s' → K (.int .i64 1) s' := fun h => chk_bad h64 hx h ▸ hK
    have good : (evOk (prevOf l i) (ids false (l.take i)) (ids true (l.take i)) x = true) → ∀ j, j < i + 1 → okAt l j = true := fun h j hj => by
      by_cases hji : j = i
      · rw [hji, okAt_some hx, h]
      · exact hok j (by omega)
    (repeat' (with_reducible first|refine w_1 ?_|refine w_2 ?_|refine w_3 ?_|refine w_4 ?_|refine w_5 ?_|refine w_6 ?_|refine w_7 ?_|(refine w_8 (fun hb=>?_) (fun hb=>?_)<;>(try simp only [Bool.not_eq_true',Bool.not_eq_false'] at hb)<;>try simp only [hb])|(refine w_9 ?_;simp (maxDischargeDepth:=12) only [viz,↓reduceIte,Nat.reduceEqDiff,reduceCtorEq,Int.reduceEq,Int.reduceNeg,Nat.reduceAdd,Nat.reduceLeDiff,h0,h3,h4,hl,hlx,hp,hk.cell,hw.cell,hfl])|refine w_10 (fun hc=>(by (try simp only [Bool.and_eq_true] at hc);simp (maxDischargeDepth:=12) only [viz,↓reduceIte,Nat.reduceEqDiff,reduceCtorEq,Int.reduceEq,Int.reduceNeg,Nat.reduceAdd,Nat.reduceLeDiff,h0,h3,h4,hl,hlx,hp,hk.cell,hw.cell,hfl,hc];first|exact ⟨rfl,rfl⟩|exact rfl)) ?_|refine w_11 (fun hc=>(by (try simp only [Bool.and_eq_true] at hc);simp (maxDischargeDepth:=12) only [viz,↓reduceIte,Nat.reduceEqDiff,reduceCtorEq,Int.reduceEq,Int.reduceNeg,Nat.reduceAdd,Nat.reduceLeDiff,h0,h3,h4,hl,hlx,hp,hk.cell,hw.cell,hfl,hc];first|exact ⟨rfl,rfl⟩|exact rfl)) ?_|refine w_12 ?_|simp (maxDischargeDepth:=12) only [viz,↓reduceIte,Nat.reduceEqDiff,reduceCtorEq,Int.reduceEq,Int.reduceNeg,Nat.reduceAdd,Nat.reduceLeDiff,h0,h3,h4,hl,hlx,hp,hk.cell,hw.cell,hfl]))
    refine W_inv i (fun k2 e2 s2 => s2 = (s'.push ⟨39, 12, [[.int .i64 x.client, .int .u64 x.seq, .int .i64 x.time, .bool x.done, .bool x.unknown, .int .i64 x.call.kind, k, .int .u64 x.call.token, .int .i64 x.call.ttl, .int .i64 x.reply.code, .int .u64 x.reply.token, w]]⟩) ∧ e2.get 0 = v ∧ e2.get 3 = .int .i64 (ids false (l.take i)).length ∧ e2.get 4 = .int .i64 i ∧ e2.get 5 = .ptr s'.next 0 0 ∧ e2.get 6 = .int .i64 (cnt false l k2 (idOf x)) ∧ e2.get 7 = .int .i64 (cnt true l k2 (idOf x)) ∧ e2.get 8 = .int .i64 k2) (by delta cf4l1 oo on om og oc ou; exact rfl) ?_ ?_
    · (repeat' (with_reducible first|refine w_1 ?_|refine w_2 ?_|refine w_3 ?_|refine w_4 ?_|refine w_5 ?_|refine w_6 ?_|refine w_7 ?_|(refine w_8 (fun hb=>?_) (fun hb=>?_)<;>(try simp only [Bool.not_eq_true',Bool.not_eq_false'] at hb)<;>try simp only [hb])|(refine w_9 ?_;simp (maxDischargeDepth:=12) only [viz,↓reduceIte,Nat.reduceEqDiff,reduceCtorEq,Int.reduceEq,Int.reduceNeg,Nat.reduceAdd,Nat.reduceLeDiff,h0,h3,h4])|refine w_10 (fun hc=>(by (try simp only [Bool.and_eq_true] at hc);simp (maxDischargeDepth:=12) only [viz,↓reduceIte,Nat.reduceEqDiff,reduceCtorEq,Int.reduceEq,Int.reduceNeg,Nat.reduceAdd,Nat.reduceLeDiff,h0,h3,h4,hc];first|exact ⟨rfl,rfl⟩|exact rfl)) ?_|refine w_11 (fun hc=>(by (try simp only [Bool.and_eq_true] at hc);simp (maxDischargeDepth:=12) only [viz,↓reduceIte,Nat.reduceEqDiff,reduceCtorEq,Int.reduceEq,Int.reduceNeg,Nat.reduceAdd,Nat.reduceLeDiff,h0,h3,h4,hc];first|exact ⟨rfl,rfl⟩|exact rfl)) ?_|refine w_12 ?_|simp (maxDischargeDepth:=12) only [viz,↓reduceIte,Nat.reduceEqDiff,reduceCtorEq,Int.reduceEq,Int.reduceNeg,Nat.reduceAdd,Nat.reduceLeDiff,h0,h3,h4]))
      exact ⟨rfl, rfl, rfl⟩
    rintro k2 e2 s2 hk2le _ ⟨rfl, g0, g3, g4, g5, g6, g7, g8⟩
    by_cases hk2 : k2 < i
    · obtain ⟨y, hy⟩ := get_of (l := l) (i := k2) (by omega)
      obtain ⟨ky, wy, hpy, hky, hwy⟩ := hv.at hy
      have c1 := cnt_succ false hy (idOf x)
      have c2 := cnt_succ true hy (idOf x)
      have c3 := cnt_le false l k2 (idOf x)
      have c4 := cnt_le true l k2 (idOf x)
      (repeat' (with_reducible first|refine w_1 ?_|refine w_2 ?_|refine w_3 ?_|refine w_4 ?_|refine w_5 ?_|refine w_6 ?_|refine w_7 ?_|(refine w_8 (fun hb=>?_) (fun hb=>?_)<;>(try simp only [Bool.not_eq_true',Bool.not_eq_false'] at hb)<;>try simp only [hb])|(refine w_9 ?_;simp (maxDischargeDepth:=12) only [viz,↓reduceIte,Nat.reduceEqDiff,reduceCtorEq,Int.reduceEq,Int.reduceNeg,Nat.reduceAdd,Nat.reduceLeDiff,g0,g3,g4,g5,g6,g7,g8,lt_true hk2,hpy,eqA_id,List.drop_zero,List.drop_succ_cons])|refine w_10 (fun hc=>(by (try simp only [Bool.and_eq_true] at hc);simp (maxDischargeDepth:=12) only [viz,↓reduceIte,Nat.reduceEqDiff,reduceCtorEq,Int.reduceEq,Int.reduceNeg,Nat.reduceAdd,Nat.reduceLeDiff,g0,g3,g4,g5,g6,g7,g8,lt_true hk2,hpy,eqA_id,List.drop_zero,List.drop_succ_cons,hc];first|exact ⟨rfl,rfl⟩|exact rfl)) ?_|refine w_11 (fun hc=>(by (try simp only [Bool.and_eq_true] at hc);simp (maxDischargeDepth:=12) only [viz,↓reduceIte,Nat.reduceEqDiff,reduceCtorEq,Int.reduceEq,Int.reduceNeg,Nat.reduceAdd,Nat.reduceLeDiff,g0,g3,g4,g5,g6,g7,g8,lt_true hk2,hpy,eqA_id,List.drop_zero,List.drop_succ_cons,hc];first|exact ⟨rfl,rfl⟩|exact rfl)) ?_|refine w_12 ?_|simp (maxDischargeDepth:=12) only [viz,↓reduceIte,Nat.reduceEqDiff,reduceCtorEq,Int.reduceEq,Int.reduceNeg,Nat.reduceAdd,Nat.reduceLeDiff,g0,g3,g4,g5,g6,g7,g8,lt_true hk2,hpy,eqA_id,List.drop_zero,List.drop_succ_cons]))
      all_goals refine ⟨hk2, ?_, ?_, succ_av (by omega)⟩
      all_goals first
        | (rw [c1, if_pos (by grind [idOf]), wrap_i64 (by omega)]; rfl)
        | (rw [c2, if_pos (by grind [idOf]), wrap_i64 (by omega)]; rfl)
        | (rw [c1, if_neg (by grind [idOf])]; rfl)
        | (rw [c2, if_neg (by grind [idOf])]; rfl)
    · have hs0 : x.done = true → (ids false (l.take (i + 1))).length = (ids false (l.take i)).length := fun h => by rw [ids_snoc false hx, if_neg (by simp [h])]
      have hs1 : x.done = false → (ids false (l.take (i + 1))).length = (ids false (l.take i)).length + 1 := fun h => by rw [ids_snoc false hx, if_pos h, List.length_append]; rfl
      have hsl := ids_len_le false l i
      have e1 := cnt_b false l i (idOf x)
      have e2 := cnt_b true l i (idOf x)
      rcases i with _ | j
      all_goals first
        | (have z0 : ((0 : Nat) : Int) = 0 := rfl
           rw [z0] at g4
           have hk0 : decide ((k2 : Int) < 0) = false := by simp
           (repeat' (with_reducible first|refine w_1 ?_|refine w_2 ?_|refine w_3 ?_|refine w_4 ?_|refine w_5 ?_|refine w_6 ?_|refine w_7 ?_|(refine w_8 (fun hb=>?_) (fun hb=>?_)<;>(try simp only [Bool.not_eq_true',Bool.not_eq_false'] at hb)<;>try simp only [hb])|(refine w_9 ?_;simp (maxDischargeDepth:=12) only [viz,↓reduceIte,Nat.reduceEqDiff,reduceCtorEq,Int.reduceEq,Int.reduceNeg,Nat.reduceAdd,Nat.reduceLeDiff,g0,g3,g4,g5,g6,g7,g8,z0,hk0,bne_self_eq_false, Int.reduceBEq, Int.reduceBNe, Int.reduceLT, Int.reduceLE, Int.reduceGT, Int.reduceGE])|refine w_10 (fun hc=>(by (try simp only [Bool.and_eq_true] at hc);simp (maxDischargeDepth:=12) only [viz,↓reduceIte,Nat.reduceEqDiff,reduceCtorEq,Int.reduceEq,Int.reduceNeg,Nat.reduceAdd,Nat.reduceLeDiff,g0,g3,g4,g5,g6,g7,g8,z0,hk0,bne_self_eq_false, Int.reduceBEq, Int.reduceBNe, Int.reduceLT, Int.reduceLE, Int.reduceGT, Int.reduceGE,hc];first|exact ⟨rfl,rfl⟩|exact rfl)) ?_|refine w_11 (fun hc=>(by (try simp only [Bool.and_eq_true] at hc);simp (maxDischargeDepth:=12) only [viz,↓reduceIte,Nat.reduceEqDiff,reduceCtorEq,Int.reduceEq,Int.reduceNeg,Nat.reduceAdd,Nat.reduceLeDiff,g0,g3,g4,g5,g6,g7,g8,z0,hk0,bne_self_eq_false, Int.reduceBEq, Int.reduceBNe, Int.reduceLT, Int.reduceLE, Int.reduceGT, Int.reduceGE,hc];first|exact ⟨rfl,rfl⟩|exact rfl)) ?_|refine w_12 ?_|simp (maxDischargeDepth:=12) only [viz,↓reduceIte,Nat.reduceEqDiff,reduceCtorEq,Int.reduceEq,Int.reduceNeg,Nat.reduceAdd,Nat.reduceLeDiff,g0,g3,g4,g5,g6,g7,g8,z0,hk0,bne_self_eq_false, Int.reduceBEq, Int.reduceBNe, Int.reduceLT, Int.reduceLE, Int.reduceGT, Int.reduceGE])))
        | (obtain ⟨y, hy⟩ := get_of (l := l) (i := j) (by omega)
           obtain ⟨ky, wy, hp2, hky, hwy⟩ := hv.at hy
           have hj : decide (((j + 1 : Nat) : Int) > 0) = true := by simp
           have hpj := pred_cast j (by omega)
           (repeat' (with_reducible first|refine w_1 ?_|refine w_2 ?_|refine w_3 ?_|refine w_4 ?_|refine w_5 ?_|refine w_6 ?_|refine w_7 ?_|(refine w_8 (fun hb=>?_) (fun hb=>?_)<;>(try simp only [Bool.not_eq_true',Bool.not_eq_false'] at hb)<;>try simp only [hb])|(refine w_9 ?_;simp (maxDischargeDepth:=12) only [viz,↓reduceIte,Nat.reduceEqDiff,reduceCtorEq,Int.reduceEq,Int.reduceNeg,Nat.reduceAdd,Nat.reduceLeDiff,g0,g3,g4,g5,g6,g7,g8,hp2,hj,hpj,lt_false hk2,List.drop_zero,List.drop_succ_cons])|refine w_10 (fun hc=>(by (try simp only [Bool.and_eq_true] at hc);simp (maxDischargeDepth:=12) only [viz,↓reduceIte,Nat.reduceEqDiff,reduceCtorEq,Int.reduceEq,Int.reduceNeg,Nat.reduceAdd,Nat.reduceLeDiff,g0,g3,g4,g5,g6,g7,g8,hp2,hj,hpj,lt_false hk2,List.drop_zero,List.drop_succ_cons,hc];first|exact ⟨rfl,rfl⟩|exact rfl)) ?_|refine w_11 (fun hc=>(by (try simp only [Bool.and_eq_true] at hc);simp (maxDischargeDepth:=12) only [viz,↓reduceIte,Nat.reduceEqDiff,reduceCtorEq,Int.reduceEq,Int.reduceNeg,Nat.reduceAdd,Nat.reduceLeDiff,g0,g3,g4,g5,g6,g7,g8,hp2,hj,hpj,lt_false hk2,List.drop_zero,List.drop_succ_cons,hc];first|exact ⟨rfl,rfl⟩|exact rfl)) ?_|refine w_12 ?_|simp (maxDischargeDepth:=12) only [viz,↓reduceIte,Nat.reduceEqDiff,reduceCtorEq,Int.reduceEq,Int.reduceNeg,Nat.reduceAdd,Nat.reduceLeDiff,g0,g3,g4,g5,g6,g7,g8,hp2,hj,hpj,lt_false hk2,List.drop_zero,List.drop_succ_cons])))
      all_goals try exact bad (by grind [evOk, baseOk, prevOf]) _ (hi.then (pushes _ _))
      all_goals first
        | (refine rcallnone_c hk fun s2 hk2 => ?_
           have q2 := (Kp.of_push s' _).then hk2
           have qk := q2.k
           have qg := q2.g
           cases hcn : callNone x.call
           all_goals (repeat' (with_reducible first|refine w_1 ?_|refine w_2 ?_|refine w_3 ?_|refine w_4 ?_|refine w_5 ?_|refine w_6 ?_|refine w_7 ?_|(refine w_8 (fun hb=>?_) (fun hb=>?_)<;>(try simp only [Bool.not_eq_true',Bool.not_eq_false'] at hb)<;>try simp only [hb])|(refine w_9 ?_;simp (maxDischargeDepth:=12) only [viz,↓reduceIte,Nat.reduceEqDiff,reduceCtorEq,Int.reduceEq,Int.reduceNeg,Nat.reduceAdd,Nat.reduceLeDiff,g0,g3,g4,g5,qk,qg,hcn])|refine w_10 (fun hc=>(by (try simp only [Bool.and_eq_true] at hc);simp (maxDischargeDepth:=12) only [viz,↓reduceIte,Nat.reduceEqDiff,reduceCtorEq,Int.reduceEq,Int.reduceNeg,Nat.reduceAdd,Nat.reduceLeDiff,g0,g3,g4,g5,qk,qg,hcn,hc];first|exact ⟨rfl,rfl⟩|exact rfl)) ?_|refine w_11 (fun hc=>(by (try simp only [Bool.and_eq_true] at hc);simp (maxDischargeDepth:=12) only [viz,↓reduceIte,Nat.reduceEqDiff,reduceCtorEq,Int.reduceEq,Int.reduceNeg,Nat.reduceAdd,Nat.reduceLeDiff,g0,g3,g4,g5,qk,qg,hcn,hc];first|exact ⟨rfl,rfl⟩|exact rfl)) ?_|refine w_12 ?_|simp (maxDischargeDepth:=12) only [viz,↓reduceIte,Nat.reduceEqDiff,reduceCtorEq,Int.reduceEq,Int.reduceNeg,Nat.reduceAdd,Nat.reduceLeDiff,g0,g3,g4,g5,qk,qg,hcn])))
        | (refine rsilent_c hw fun s2 hk2 => ?_
           have q2 := (Kp.of_push s' _).then hk2
           have qk := q2.k
           have qg := q2.g
           (repeat' (with_reducible first|refine w_1 ?_|refine w_2 ?_|refine w_3 ?_|refine w_4 ?_|refine w_5 ?_|refine w_6 ?_|refine w_7 ?_|(refine w_8 (fun hb=>?_) (fun hb=>?_)<;>(try simp only [Bool.not_eq_true',Bool.not_eq_false'] at hb)<;>try simp only [hb])|(refine w_9 ?_;simp (maxDischargeDepth:=12) only [viz,↓reduceIte,Nat.reduceEqDiff,reduceCtorEq,Int.reduceEq,Int.reduceNeg,Nat.reduceAdd,Nat.reduceLeDiff,g0,g3,g4,g5,qk,qg])|refine w_10 (fun hc=>(by (try simp only [Bool.and_eq_true] at hc);simp (maxDischargeDepth:=12) only [viz,↓reduceIte,Nat.reduceEqDiff,reduceCtorEq,Int.reduceEq,Int.reduceNeg,Nat.reduceAdd,Nat.reduceLeDiff,g0,g3,g4,g5,qk,qg,hc];first|exact ⟨rfl,rfl⟩|exact rfl)) ?_|refine w_11 (fun hc=>(by (try simp only [Bool.and_eq_true] at hc);simp (maxDischargeDepth:=12) only [viz,↓reduceIte,Nat.reduceEqDiff,reduceCtorEq,Int.reduceEq,Int.reduceNeg,Nat.reduceAdd,Nat.reduceLeDiff,g0,g3,g4,g5,qk,qg,hc];first|exact ⟨rfl,rfl⟩|exact rfl)) ?_|refine w_12 ?_|simp (maxDischargeDepth:=12) only [viz,↓reduceIte,Nat.reduceEqDiff,reduceCtorEq,Int.reduceEq,Int.reduceNeg,Nat.reduceAdd,Nat.reduceLeDiff,g0,g3,g4,g5,qk,qg])))
      all_goals try exact bad (by grind [evOk, baseOk, prevOf]) _ (hi.then qk)
      all_goals first
        | (refine rsilent_c hw fun s3 hk3 => ?_
           have q3 := q2.then hk3
           have qk := q3.k
           have qg := q3.g
           (repeat' (with_reducible first|refine w_1 ?_|refine w_2 ?_|refine w_3 ?_|refine w_4 ?_|refine w_5 ?_|refine w_6 ?_|refine w_7 ?_|(refine w_8 (fun hb=>?_) (fun hb=>?_)<;>(try simp only [Bool.not_eq_true',Bool.not_eq_false'] at hb)<;>try simp only [hb])|(refine w_9 ?_;simp (maxDischargeDepth:=12) only [viz,↓reduceIte,Nat.reduceEqDiff,reduceCtorEq,Int.reduceEq,Int.reduceNeg,Nat.reduceAdd,Nat.reduceLeDiff,g0,g3,g4,g5,qk,qg])|refine w_10 (fun hc=>(by (try simp only [Bool.and_eq_true] at hc);simp (maxDischargeDepth:=12) only [viz,↓reduceIte,Nat.reduceEqDiff,reduceCtorEq,Int.reduceEq,Int.reduceNeg,Nat.reduceAdd,Nat.reduceLeDiff,g0,g3,g4,g5,qk,qg,hc];first|exact ⟨rfl,rfl⟩|exact rfl)) ?_|refine w_11 (fun hc=>(by (try simp only [Bool.and_eq_true] at hc);simp (maxDischargeDepth:=12) only [viz,↓reduceIte,Nat.reduceEqDiff,reduceCtorEq,Int.reduceEq,Int.reduceNeg,Nat.reduceAdd,Nat.reduceLeDiff,g0,g3,g4,g5,qk,qg,hc];first|exact ⟨rfl,rfl⟩|exact rfl)) ?_|refine w_12 ?_|simp (maxDischargeDepth:=12) only [viz,↓reduceIte,Nat.reduceEqDiff,reduceCtorEq,Int.reduceEq,Int.reduceNeg,Nat.reduceAdd,Nat.reduceLeDiff,g0,g3,g4,g5,qk,qg]))
           all_goals try exact bad (by grind [evOk, baseOk, prevOf]) _ (hi.then qk))
        | (refine rmay_c hk fun s3 hk3 => ?_
           have q3 := q2.then hk3
           have qk := q3.k
           have qg := q3.g
           (repeat' (with_reducible first|refine w_1 ?_|refine w_2 ?_|refine w_3 ?_|refine w_4 ?_|refine w_5 ?_|refine w_6 ?_|refine w_7 ?_|(refine w_8 (fun hb=>?_) (fun hb=>?_)<;>(try simp only [Bool.not_eq_true',Bool.not_eq_false'] at hb)<;>try simp only [hb])|(refine w_9 ?_;simp (maxDischargeDepth:=12) only [viz,↓reduceIte,Nat.reduceEqDiff,reduceCtorEq,Int.reduceEq,Int.reduceNeg,Nat.reduceAdd,Nat.reduceLeDiff,g0,g3,g4,g5,qk,qg])|refine w_10 (fun hc=>(by (try simp only [Bool.and_eq_true] at hc);simp (maxDischargeDepth:=12) only [viz,↓reduceIte,Nat.reduceEqDiff,reduceCtorEq,Int.reduceEq,Int.reduceNeg,Nat.reduceAdd,Nat.reduceLeDiff,g0,g3,g4,g5,qk,qg,hc];first|exact ⟨rfl,rfl⟩|exact rfl)) ?_|refine w_11 (fun hc=>(by (try simp only [Bool.and_eq_true] at hc);simp (maxDischargeDepth:=12) only [viz,↓reduceIte,Nat.reduceEqDiff,reduceCtorEq,Int.reduceEq,Int.reduceNeg,Nat.reduceAdd,Nat.reduceLeDiff,g0,g3,g4,g5,qk,qg,hc];first|exact ⟨rfl,rfl⟩|exact rfl)) ?_|refine w_12 ?_|simp (maxDischargeDepth:=12) only [viz,↓reduceIte,Nat.reduceEqDiff,reduceCtorEq,Int.reduceEq,Int.reduceNeg,Nat.reduceAdd,Nat.reduceLeDiff,g0,g3,g4,g5,qk,qg]))
           all_goals try exact bad (by grind [evOk, baseOk, prevOf]) _ (hi.then qk))
        | skip
      all_goals refine ⟨hlt, hi.then qk, congrArg (AV.int .i64) ?_, (by first | rfl | exact succ_av (by omega)), good (by grind [evOk, baseOk, prevOf])⟩
      all_goals first
        | (have := hs0 (by assumption); exact congrArg _ this.symm)
        | (have := hs1 (by assumption); rw [wrap_i64 (by omega)]; exact (congrArg _ this.symm))
        | (have := hs1 (by assumption); rw [wrap_i64 (by omega)]; exact (congrArg Int.ofNat this).symm)
  · rw [chk_good h64 (fun j hj => hok j (by omega)), ← List.take_length (l := l), show l.length = i by omega] at hK
    (repeat' (with_reducible first|refine w_1 ?_|refine w_2 ?_|refine w_3 ?_|refine w_4 ?_|refine w_5 ?_|refine w_6 ?_|refine w_7 ?_|(refine w_8 (fun hb=>?_) (fun hb=>?_)<;>(try simp only [Bool.not_eq_true',Bool.not_eq_false'] at hb)<;>try simp only [hb])|(refine w_9 ?_;simp (maxDischargeDepth:=12) only [viz,↓reduceIte,Nat.reduceEqDiff,reduceCtorEq,Int.reduceEq,Int.reduceNeg,Nat.reduceAdd,Nat.reduceLeDiff,h0,h3,h4,hl,lt_false hlt])|refine w_10 (fun hc=>(by (try simp only [Bool.and_eq_true] at hc);simp (maxDischargeDepth:=12) only [viz,↓reduceIte,Nat.reduceEqDiff,reduceCtorEq,Int.reduceEq,Int.reduceNeg,Nat.reduceAdd,Nat.reduceLeDiff,h0,h3,h4,hl,lt_false hlt,hc];first|exact ⟨rfl,rfl⟩|exact rfl)) ?_|refine w_11 (fun hc=>(by (try simp only [Bool.and_eq_true] at hc);simp (maxDischargeDepth:=12) only [viz,↓reduceIte,Nat.reduceEqDiff,reduceCtorEq,Int.reduceEq,Int.reduceNeg,Nat.reduceAdd,Nat.reduceLeDiff,h0,h3,h4,hl,lt_false hlt,hc];first|exact ⟨rfl,rfl⟩|exact rfl)) ?_|refine w_12 ?_|simp (maxDischargeDepth:=12) only [viz,↓reduceIte,Nat.reduceEqDiff,reduceCtorEq,Int.reduceEq,Int.reduceNeg,Nat.reduceAdd,Nat.reduceLeDiff,h0,h3,h4,hl,lt_false hlt]))
    · rw [if_pos (by have := of_decide_eq_true hb; omega)] at hK
      exact hK _ hi
    · rw [if_neg (by have := of_decide_eq_false hb; omega)] at hK
      exact hK _ hi
end Go.Proofs.YtmjgakhnhjpclaaGreat

