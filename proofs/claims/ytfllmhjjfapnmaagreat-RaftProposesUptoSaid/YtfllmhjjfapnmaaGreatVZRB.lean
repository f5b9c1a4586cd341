/- Which voters may follow. No statement of the seat is proved here. -/
import Derived.Test.YtfllmhjjfapnmaaGreatVZRaftWon
import Derived.Test.YtfllmhjjfapnmaaGreatVZRaftCheck
import Derived.Test.YtfllmhjjfapnmaaGreatVZRaftIdx
import Derived.Test.YtfllmhjjfapnmaaGreatVZVE
import Derived.Test.YtfllmhjjfapnmaaGreatVZRA
namespace Go.Proofs.YtfllmhjjfapnmaaGreat
open Go Go.VI
set_option linter.unusedSimpArgs false
attribute [local irreducible] Ws Wp W C
set_option maxHeartbeats 4000000
def TellsE (f z : Nat) (p : Entry → Bool) (s : Mem) : Prop := ∀ (s' : Mem) (e : Entry) (dv : AV) (K : AV → Mem → Prop), Keep s.next s s' → isCell dv = true → (∀ s'', Keep s'.next s' s'' → K (.bool (p e)) s'') → C tab f [.agg [.int .u64 e.index, .int .u64 e.term, .int .i64 e.kind, dv], .ptr z 0 0] s' K
theorem idxE_c {f z : Nat} {es : List Entry} {p : Entry → Bool} {D : Nat → Prop} {s : Mem} {w : AV} {K : AV → Mem → Prop} (hcl : TellsE f z p s) (hI : In D s) (hw : Ents s D w es) (hn : Fit es.length)
    (hyes : es.any p = true → ∀ (i : Nat) s', Keep s.next s s' → K (.int .i64 i) s') (hno : es.any p = false → ∀ s', Keep s.next s s' → K (.int .i64 (-1)) s') : C tab 134 [w, .fn f [.ptr z 0 0]] s K := by
  refine C_enter (cf := cf134) rfl (Nat.le_of_ble_eq_true rfl) ?_
  simp only [cf134, oo, on, om, og, oc, ou]
  (repeat' (with_reducible first|refine w_1 ?_|refine w_2 ?_|refine w_3 ?_|refine w_4 ?_|refine w_5 ?_|refine w_6 ?_|refine w_7 ?_|(refine w_8 (fun hb=>?_) (fun hb=>?_)<;>try simp only [hb])|refine w_9 ?_|simp (maxDischargeDepth:=12) only [viz,↓reduceIte,Nat.reduceEqDiff,reduceCtorEq,Int.reduceEq,Int.reduceNeg,Nat.reduceAdd,Nat.reduceLeDiff,hw.len]))
  refine W_inv es.length (fun i e s' => Keep s.next s s' ∧ e.get 8 = .int .i64 i ∧ (es.take i).all (fun x => !p x) = true) (by delta cf134l0 oo on om og oc ou; exact rfl) ?_ ?_
  · refine ⟨Keep.refl _ _, by simp only [Env.get_set, ↓reduceIte]; rfl, by simp⟩
  · rintro i e s' hi hT ⟨hk, g8, ha⟩
    have g0 := hT 0 rfl
    have g1 := hT 1 rfl
    have g7 := hT 7 rfl
    simp only [Env.get_set, ↓reduceIte, Nat.reduceEqDiff, Env.start, Env.ofList] at g0 g1 g7
    clear hT
    by_cases hlt : i < es.length
    · obtain ⟨x, hx⟩ := get_of hlt
      obtain ⟨dx, pp, hp, P, hdx⟩ := (hw.keep (keep_old hI hk)).atk (hI.keep hk) hx
      have ld : loadA s' true 4 pp = some (.agg [.int .u64 x.index, .int .u64 x.term, .int .i64 x.kind, dx]) := by rw [P.ld _ (Keep.refl _ _)]; exact rfl
      (repeat' (with_reducible first|refine w_1 ?_|refine w_2 ?_|refine w_3 ?_|refine w_4 ?_|refine w_5 ?_|refine w_6 ?_|refine w_7 ?_|(refine w_8 (fun hb=>?_) (fun hb=>?_)<;>try simp only [hb])|refine w_9 ?_|simp (maxDischargeDepth:=12) only [viz,↓reduceIte,Nat.reduceEqDiff,reduceCtorEq,Int.reduceEq,Int.reduceNeg,Nat.reduceAdd,Nat.reduceLeDiff,g0,g1,g7,g8,lt_true hlt,hp,ld]))
      refine hcl s' x dx _ hk hdx.cell fun s2 hk2 => ?_
      cases hpx : p x
      · (repeat' (with_reducible first|refine w_1 ?_|refine w_2 ?_|refine w_3 ?_|refine w_4 ?_|refine w_5 ?_|refine w_6 ?_|refine w_7 ?_|(refine w_8 (fun hb=>?_) (fun hb=>?_)<;>try simp only [hb])|refine w_9 ?_|simp (maxDischargeDepth:=12) only [viz,↓reduceIte,Nat.reduceEqDiff,reduceCtorEq,Int.reduceEq,Int.reduceNeg,Nat.reduceAdd,Nat.reduceLeDiff,g0,g1,g7,g8]))
        exact ⟨hlt, hk.then hk2, succ_av (by unfold Fit at hn; omega), all_next ha hx (by rw [hpx]; rfl)⟩
      · (repeat' (with_reducible first|refine w_1 ?_|refine w_2 ?_|refine w_3 ?_|refine w_4 ?_|refine w_5 ?_|refine w_6 ?_|refine w_7 ?_|(refine w_8 (fun hb=>?_) (fun hb=>?_)<;>try simp only [hb])|refine w_9 ?_|simp (maxDischargeDepth:=12) only [viz,↓reduceIte,Nat.reduceEqDiff,reduceCtorEq,Int.reduceEq,Int.reduceNeg,Nat.reduceAdd,Nat.reduceLeDiff,g0,g1,g7,g8]))
        exact hyes (List.any_eq_true.mpr ⟨x, List.mem_of_getElem? hx, hpx⟩) i _ (hk.then hk2)
    · (repeat' (with_reducible first|refine w_1 ?_|refine w_2 ?_|refine w_3 ?_|refine w_4 ?_|refine w_5 ?_|refine w_6 ?_|refine w_7 ?_|(refine w_8 (fun hb=>?_) (fun hb=>?_)<;>try simp only [hb])|refine w_9 ?_|simp (maxDischargeDepth:=12) only [viz,↓reduceIte,Nat.reduceEqDiff,reduceCtorEq,Int.reduceEq,Int.reduceNeg,Nat.reduceAdd,Nat.reduceLeDiff,g0,g1,g7,g8,lt_false hlt]))
      refine hno ?_ _ hk
      rw [List.take_of_length_le (by omega)] at ha
      rw [← Bool.not_eq_true, List.any_eq_true]
      rintro ⟨x, hx, hp⟩
      rw [List.all_eq_true] at ha
      have := ha x hx
      rw [hp] at this; cases this
theorem contE_c {f z : Nat} {es : List Entry} {p : Entry → Bool} {D : Nat → Prop} {s : Mem} {w : AV} {K : AV → Mem → Prop} (hcl : TellsE f z p s) (hI : In D s) (hw : Ents s D w es) (hn : Fit es.length)
    (hK : ∀ s', Keep s.next s s' → K (.bool (es.any p)) s') : C tab 114 [w, .fn f [.ptr z 0 0]] s K := by
  refine C_enter (cf := cf114) rfl (Nat.le_of_ble_eq_true rfl) ?_
  simp only [cf114, oo, on, om, og, oc, ou]
  (repeat' (with_reducible first|refine w_1 ?_|refine w_2 ?_|refine w_3 ?_|refine w_4 ?_|refine w_5 ?_|refine w_6 ?_|refine w_7 ?_|(refine w_8 (fun hb=>?_) (fun hb=>?_)<;>try simp only [hb])|refine w_9 ?_|simp (maxDischargeDepth:=12) only [viz,↓reduceIte,Nat.reduceEqDiff,reduceCtorEq,Int.reduceEq,Int.reduceNeg,Nat.reduceAdd,Nat.reduceLeDiff]))
  refine idxE_c hcl hI hw hn (fun h i s' hk => ?_) (fun h s' hk => ?_)
  · have c1 : decide ((i : Int) ≥ 0) = true := by simp
    (repeat' (with_reducible first|refine w_1 ?_|refine w_2 ?_|refine w_3 ?_|refine w_4 ?_|refine w_5 ?_|refine w_6 ?_|refine w_7 ?_|(refine w_8 (fun hb=>?_) (fun hb=>?_)<;>try simp only [hb])|refine w_9 ?_|simp (maxDischargeDepth:=12) only [viz,↓reduceIte,Nat.reduceEqDiff,reduceCtorEq,Int.reduceEq,Int.reduceNeg,Nat.reduceAdd,Nat.reduceLeDiff,c1]))
    have := hK _ hk
    rw [h] at this; exact this
  · have c1 : decide ((-1 : Int) ≥ 0) = false := by decide
    (repeat' (with_reducible first|refine w_1 ?_|refine w_2 ?_|refine w_3 ?_|refine w_4 ?_|refine w_5 ?_|refine w_6 ?_|refine w_7 ?_|(refine w_8 (fun hb=>?_) (fun hb=>?_)<;>try simp only [hb])|refine w_9 ?_|simp (maxDischargeDepth:=12) only [viz,↓reduceIte,Nat.reduceEqDiff,reduceCtorEq,Int.reduceEq,Int.reduceNeg,Nat.reduceAdd,Nat.reduceLeDiff,c1]))
    have := hK _ hk
    rw [h] at this; exact this
def pendE (c : Int) (e : Entry) : Bool := decide (e.kind = 2) && decide (c < e.index)
def safeV (l v : List Int) : Bool := okV l && okV v && decide ((l.length : Int) + v.length - 2 * (Q.cnt l v : Int) ≤ 1)
def confC (r : Raft) (bs : List UInt8) : Int :=
  if (termO r.log.base.index r.log.base.term r.log.l r.commit).1 ≠ r.term ∨ r.log.l.any (pendE r.commit) = true then 9 else if safeV (nodes bs) (vot r.log) = true then 0 else 1
theorem conf1_tells {z : Nat} {r : Raft} {d w vv pv : AV} {s : Mem} (hr : s.get z = some (raftRow r d w vv pv)) (hlt : z < s.next) : TellsE 115 z (pendE r.commit) s := by
  intro s' e dv K hk hdv hK
  have h1 := (hk.get z hlt).trans hr
  have hne : (z = s'.next) = False := by have := hk.next; simp; omega
  simp only [raftRow] at h1
  refine C_enter (cf := cf115) rfl (Nat.le_of_ble_eq_true rfl) ?_
  simp only [cf115, oo, on, om, og, oc, ou]
  (repeat' (with_reducible first|refine w_1 ?_|refine w_2 ?_|refine w_3 ?_|refine w_4 ?_|refine w_5 ?_|refine w_6 ?_|refine w_7 ?_|(refine w_8 (fun hb=>?_) (fun hb=>?_)<;>try simp only [hb])|refine w_9 ?_|simp (maxDischargeDepth:=12) only [viz,↓reduceIte,Nat.reduceEqDiff,reduceCtorEq,Int.reduceEq,Int.reduceNeg,Nat.reduceAdd,Nat.reduceLeDiff,h1,hne,hdv]))
  all_goals
    refine K_of hK (pushes _ _) ?_
    unfold pendE
    (try simp only [decide_eq_true_eq, decide_eq_false_iff_not, bne_iff_ne, ne_eq, bne_eq_false_iff_eq, beq_iff_eq, beq_eq_false_iff_ne, Bool.not_eq_true', Bool.not_eq_false', Bool.not_eq_true, Bool.not_eq_false, Bool.not_not, Bool.not_true, Bool.not_false, Bool.true_beq, Bool.false_beq, beq_true, beq_false, Decidable.not_not, Bool.and_eq_true, Bool.or_eq_true, Bool.and_eq_false_imp] at *)
    simp_all
theorem safe_c {l vs : List Int} {D D2 : Nat → Prop} {s : Mem} {v w : AV} {K : AV → Mem → Prop} (hl : Sl s D v 1 (intsA .i64 l)) (hv : Sl s D2 w 1 (intsA .i64 vs)) (hn : Fit l.length) (hn2 : Fit vs.length)
    (hK : K (.bool (safeV l vs)) s) : C tab 116 [v, w] s K := by
  unfold Fit at hn hn2
  have hc := Q.cnt_le l vs
  refine C_enter (cf := cf116) rfl (Nat.le_of_ble_eq_true rfl) ?_
  simp only [cf116, oo, on, om, og, oc, ou]
  (repeat' (with_reducible first|refine w_1 ?_|refine w_2 ?_|refine w_3 ?_|refine w_4 ?_|refine w_5 ?_|refine w_6 ?_|refine w_7 ?_|(refine w_8 (fun hb=>?_) (fun hb=>?_)<;>try simp only [hb])|refine w_9 ?_|simp (maxDischargeDepth:=12) only [viz,↓reduceIte,Nat.reduceEqDiff,reduceCtorEq,Int.reduceEq,Int.reduceNeg,Nat.reduceAdd,Nat.reduceLeDiff]))
  refine Q.qcount_c hl.ints hv.ints (by omega) (by omega) ?_
  (repeat' (with_reducible first|refine w_1 ?_|refine w_2 ?_|refine w_3 ?_|refine w_4 ?_|refine w_5 ?_|refine w_6 ?_|refine w_7 ?_|(refine w_8 (fun hb=>?_) (fun hb=>?_)<;>try simp only [hb])|refine w_9 ?_|simp (maxDischargeDepth:=12) only [viz,↓reduceIte,Nat.reduceEqDiff,reduceCtorEq,Int.reduceEq,Int.reduceNeg,Nat.reduceAdd,Nat.reduceLeDiff]))
  refine check_c hl (by unfold Fit; omega) ?_
  unfold safeV at hK
  cases h1 : okV l
  · (repeat' (with_reducible first|refine w_1 ?_|refine w_2 ?_|refine w_3 ?_|refine w_4 ?_|refine w_5 ?_|refine w_6 ?_|refine w_7 ?_|(refine w_8 (fun hb=>?_) (fun hb=>?_)<;>try simp only [hb])|refine w_9 ?_|simp (maxDischargeDepth:=12) only [viz,↓reduceIte,Nat.reduceEqDiff,reduceCtorEq,Int.reduceEq,Int.reduceNeg,Nat.reduceAdd,Nat.reduceLeDiff,bne_self_eq_false, Int.reduceBEq, Int.reduceBNe, Int.reduceLT, Int.reduceLE, Int.reduceGT, Int.reduceGE]))
    rw [h1] at hK; exact hK
  (repeat' (with_reducible first|refine w_1 ?_|refine w_2 ?_|refine w_3 ?_|refine w_4 ?_|refine w_5 ?_|refine w_6 ?_|refine w_7 ?_|(refine w_8 (fun hb=>?_) (fun hb=>?_)<;>try simp only [hb])|refine w_9 ?_|simp (maxDischargeDepth:=12) only [viz,↓reduceIte,Nat.reduceEqDiff,reduceCtorEq,Int.reduceEq,Int.reduceNeg,Nat.reduceAdd,Nat.reduceLeDiff,bne_self_eq_false, Int.reduceBEq, Int.reduceBNe, Int.reduceLT, Int.reduceLE, Int.reduceGT, Int.reduceGE]))
  refine check_c hv (by unfold Fit; omega) ?_
  cases h2 : okV vs
  · (repeat' (with_reducible first|refine w_1 ?_|refine w_2 ?_|refine w_3 ?_|refine w_4 ?_|refine w_5 ?_|refine w_6 ?_|refine w_7 ?_|(refine w_8 (fun hb=>?_) (fun hb=>?_)<;>try simp only [hb])|refine w_9 ?_|simp (maxDischargeDepth:=12) only [viz,↓reduceIte,Nat.reduceEqDiff,reduceCtorEq,Int.reduceEq,Int.reduceNeg,Nat.reduceAdd,Nat.reduceLeDiff,bne_self_eq_false, Int.reduceBEq, Int.reduceBNe, Int.reduceLT, Int.reduceLE, Int.reduceGT, Int.reduceGE]))
    rw [h1, h2] at hK; exact hK
  rw [h1, h2] at hK
  have w1 : IntKind.i64.wrap ((l.length : Int) + vs.length) = (l.length : Int) + vs.length := wrap_i64 (by omega)
  have w2 : IntKind.i64.wrap (2 * (Q.cnt l vs : Int)) = 2 * (Q.cnt l vs : Int) := wrap_i64 (by omega)
  have w3 : IntKind.i64.wrap ((l.length : Int) + vs.length - 2 * (Q.cnt l vs : Int)) = (l.length : Int) + vs.length - 2 * (Q.cnt l vs : Int) := wrap_i64 (by omega)
  (repeat' (with_reducible first|refine w_1 ?_|refine w_2 ?_|refine w_3 ?_|refine w_4 ?_|refine w_5 ?_|refine w_6 ?_|refine w_7 ?_|(refine w_8 (fun hb=>?_) (fun hb=>?_)<;>try simp only [hb])|refine w_9 ?_|simp (maxDischargeDepth:=12) only [viz,↓reduceIte,Nat.reduceEqDiff,reduceCtorEq,Int.reduceEq,Int.reduceNeg,Nat.reduceAdd,Nat.reduceLeDiff,hl.lenB,hv.lenB,w1,w2,w3,bne_self_eq_false, Int.reduceBEq, Int.reduceBNe, Int.reduceLT, Int.reduceLE, Int.reduceGT, Int.reduceGE]))
  exact hK
theorem differ_c {l vs : List Int} {D D2 : Nat → Prop} {s : Mem} {v w : AV} {K : AV → Mem → Prop} (hl : Sl s D v 1 (intsA .i64 l)) (hv : Sl s D2 w 1 (intsA .i64 vs)) (hn : Fit l.length) (hn2 : Fit vs.length)
    (hK : K (.int .i64 ((l.length : Int) + vs.length - 2 * (Q.cnt l vs : Int))) s) : C tab 72 [v, w] s K := by
  unfold Fit at hn hn2
  have hc := Q.cnt_le l vs
  refine C_enter (cf := cf72) rfl (Nat.le_of_ble_eq_true rfl) ?_
  simp only [cf72, oo, on, om, og, oc, ou]
  have w1 : IntKind.i64.wrap ((l.length : Int) + vs.length) = (l.length : Int) + vs.length := wrap_i64 (by omega)
  have w2 : IntKind.i64.wrap (2 * (Q.cnt l vs : Int)) = 2 * (Q.cnt l vs : Int) := wrap_i64 (by omega)
  have w3 : IntKind.i64.wrap ((l.length : Int) + vs.length - 2 * (Q.cnt l vs : Int)) = (l.length : Int) + vs.length - 2 * (Q.cnt l vs : Int) := wrap_i64 (by omega)
  (repeat' (with_reducible first|refine w_1 ?_|refine w_2 ?_|refine w_3 ?_|refine w_4 ?_|refine w_5 ?_|refine w_6 ?_|refine w_7 ?_|(refine w_8 (fun hb=>?_) (fun hb=>?_)<;>try simp only [hb])|refine w_9 ?_|simp (maxDischargeDepth:=12) only [viz,↓reduceIte,Nat.reduceEqDiff,reduceCtorEq,Int.reduceEq,Int.reduceNeg,Nat.reduceAdd,Nat.reduceLeDiff,hl.lenB,hv.lenB,w1]))
  refine Q.count_c hl.ints hv.ints (by omega) (by omega) ?_
  (repeat' (with_reducible first|refine w_1 ?_|refine w_2 ?_|refine w_3 ?_|refine w_4 ?_|refine w_5 ?_|refine w_6 ?_|refine w_7 ?_|(refine w_8 (fun hb=>?_) (fun hb=>?_)<;>try simp only [hb])|refine w_9 ?_|simp (maxDischargeDepth:=12) only [viz,↓reduceIte,Nat.reduceEqDiff,reduceCtorEq,Int.reduceEq,Int.reduceNeg,Nat.reduceAdd,Nat.reduceLeDiff,w2,w3]))
  exact hK
set_option maxRecDepth 100000 in
theorem conf_c {r : Raft} {bs : List UInt8} {D : Nat → Prop} {s : Mem} {v b : AV} {K : AV → Mem → Prop} (hf : s.floor ≤ s.next) (hI : In D s) (hv : RaftV s D v r) (hw : r.Wf) (hL : LogGood r.log) (hb : Byt s D b bs) (hn : Fit bs.length)
    (hK : ∀ s', Keep s.next s s' → K (.int .i64 (confC r bs)) s') : C tab 66 [v, b] s K := by
  obtain ⟨d, w, vv, pv, rfl, hd, hl, hvv, hpv⟩ := raftC_row hv
  simp only [raftA]
  refine C_enter (cf := cf66) rfl (Nat.le_of_ble_eq_true rfl) ?_
  simp only [cf66, oo, on, om, og, oc, ou]
  (repeat' (with_reducible first|refine w_1 ?_|refine w_2 ?_|refine w_3 ?_|refine w_4 ?_|refine w_5 ?_|refine w_6 ?_|refine w_7 ?_|(refine w_8 (fun hb=>?_) (fun hb=>?_)<;>try simp only [hb])|refine w_9 ?_|simp (maxDischargeDepth:=12) only [viz,↓reduceIte,Nat.reduceEqDiff,reduceCtorEq,Int.reduceEq,Int.reduceNeg,Nat.reduceAdd,Nat.reduceLeDiff,hd.cell,hl.cell,hvv.cell,hpv.cell,hf]))
  have hk0 := pushes s (raftRow r d w vv pv)
  refine term_c (l := r.log) (D := D) (hk0.ok hf) (hI.keep hk0) ⟨d, w, rfl, hd.keep (keep_old hI hk0), hl.keep (keep_old hI hk0)⟩ hw.log hL.cons hL.base hw.commit fun s1 hk1 => ?_
  have hk01 := hk0.then hk1
  have n1 := hk1.next
  simp only [next_push'] at n1
  have g1 : s1.get s.next = some (raftRow r d w vv pv) := by
    rw [hk1.get _ (by simp only [next_push']; omega), Mem.get_push, if_pos rfl]; rfl
  have g1' := g1
  simp only [raftRow] at g1'
  by_cases ht : (termO r.log.base.index r.log.base.term r.log.l r.commit).1 = r.term
  case neg =>
    have c1 : ((termO r.log.base.index r.log.base.term r.log.l r.commit).1 != r.term) = true := by simp [ht]
    (repeat' (with_reducible first|refine w_1 ?_|refine w_2 ?_|refine w_3 ?_|refine w_4 ?_|refine w_5 ?_|refine w_6 ?_|refine w_7 ?_|(refine w_8 (fun hb=>?_) (fun hb=>?_)<;>try simp only [hb])|refine w_9 ?_|simp (maxDischargeDepth:=12) only [viz,↓reduceIte,Nat.reduceEqDiff,reduceCtorEq,Int.reduceEq,Int.reduceNeg,Nat.reduceAdd,Nat.reduceLeDiff,g1',c1,bne_self_eq_false, Int.reduceBEq, Int.reduceBNe, Int.reduceLT, Int.reduceLE, Int.reduceGT, Int.reduceGE]))
    have := hK _ hk01
    rw [show confC r bs = 9 by unfold confC; rw [if_pos (.inl ht)]] at this
    exact this
  have c1 : ((termO r.log.base.index r.log.base.term r.log.l r.commit).1 != r.term) = false := by simp [ht]
  (repeat' (with_reducible first|refine w_1 ?_|refine w_2 ?_|refine w_3 ?_|refine w_4 ?_|refine w_5 ?_|refine w_6 ?_|refine w_7 ?_|(refine w_8 (fun hb=>?_) (fun hb=>?_)<;>try simp only [hb])|refine w_9 ?_|simp (maxDischargeDepth:=12) only [viz,↓reduceIte,Nat.reduceEqDiff,reduceCtorEq,Int.reduceEq,Int.reduceNeg,Nat.reduceAdd,Nat.reduceLeDiff,g1',c1,bne_self_eq_false, Int.reduceBEq, Int.reduceBNe, Int.reduceLT, Int.reduceLE, Int.reduceGT, Int.reduceGE]))
  refine contE_c (conf1_tells g1 (by omega)) (hI.keep hk01) (hl.keep (keep_old hI hk01)) hw.log.len fun s2 hk2 => ?_
  have hk02 := hk01.then hk2
  have n2 := hk2.next
  have g2 := (hk2.get s.next (by omega)).trans g1'
  cases hp : r.log.l.any (pendE r.commit)
  case true =>
    (repeat' (with_reducible first|refine w_1 ?_|refine w_2 ?_|refine w_3 ?_|refine w_4 ?_|refine w_5 ?_|refine w_6 ?_|refine w_7 ?_|(refine w_8 (fun hb=>?_) (fun hb=>?_)<;>try simp only [hb])|refine w_9 ?_|simp (maxDischargeDepth:=12) only [viz,↓reduceIte,Nat.reduceEqDiff,reduceCtorEq,Int.reduceEq,Int.reduceNeg,Nat.reduceAdd,Nat.reduceLeDiff,bne_self_eq_false, Int.reduceBEq, Int.reduceBNe, Int.reduceLT, Int.reduceLE, Int.reduceGT, Int.reduceGE]))
    have := hK _ hk02
    rw [show confC r bs = 9 by unfold confC; rw [if_pos (.inr hp)]] at this
    exact this
  have hcf : confC r bs = if safeV (nodes bs) (vot r.log) = true then 0 else 1 := by unfold confC; rw [if_neg (by rw [hp]; simp [ht])]
  rw [hcf] at hK
  have hb2 := hb.keep (keep_old hI hk02)
  have hI2 := hI.keep hk02
  (repeat' (with_reducible first|refine w_1 ?_|refine w_2 ?_|refine w_3 ?_|refine w_4 ?_|refine w_5 ?_|refine w_6 ?_|refine w_7 ?_|(refine w_8 (fun hb=>?_) (fun hb=>?_)<;>try simp only [hb])|refine w_9 ?_|simp (maxDischargeDepth:=12) only [viz,↓reduceIte,Nat.reduceEqDiff,reduceCtorEq,Int.reduceEq,Int.reduceNeg,Nat.reduceAdd,Nat.reduceLeDiff,hb2.lenB,bne_self_eq_false, Int.reduceBEq, Int.reduceBNe, Int.reduceLT, Int.reduceLE, Int.reduceGT, Int.reduceGE]))
  refine W_inv bs.length (fun i e s' => e.get 31 = .int .i64 i ∧ Keep s2.next s2 s' ∧ OwnL s' s2.next (e.get 7) 3 1 (intsA .i64 (nodes (bs.take i)))) (by delta cf66l0 oo on om og oc ou; exact rfl) ?_ ?_
  · exact ⟨by simp only [Env.get_set, ↓reduceIte]; rfl, Keep.refl _ _, by simp only [Env.get_set, ↓reduceIte, Nat.reduceEqDiff]; exact OwnL.nil _ _ _ _⟩
  · rintro i e s' hi hT ⟨g31, hk, ho⟩
    have g2' := hT 2 rfl
    have g29 := hT 29 rfl
    have g30 := hT 30 rfl
    simp only [Env.get_set, ↓reduceIte, Nat.reduceEqDiff, Env.start, Env.ofList] at g2' g29 g30
    clear hT
    have hk2' := hk02.then hk
    by_cases hlt : i < bs.length
    · obtain ⟨x, hx⟩ := get_of hlt
      obtain ⟨p, hp, P⟩ := (hb.keep (keep_old hI hk2')).atkB (hI.keep hk2') hx
      have ld : loadA s' false 1 p = some (.int .u8 (x.toNat : Int)) := by rw [P.ld _ (Keep.refl _ _)]; exact rfl
      (repeat' (with_reducible first|refine w_1 ?_|refine w_2 ?_|refine w_3 ?_|refine w_4 ?_|refine w_5 ?_|refine w_6 ?_|refine w_7 ?_|(refine w_8 (fun hb=>?_) (fun hb=>?_)<;>try simp only [hb])|refine w_9 ?_|simp (maxDischargeDepth:=12) only [viz,↓reduceIte,Nat.reduceEqDiff,reduceCtorEq,Int.reduceEq,Int.reduceNeg,Nat.reduceAdd,Nat.reduceLeDiff,g29,g30,g31,lt_true hlt,hp,ld]))
      rw [wrap_byte]
      refine app_lit (k := 1) (b := s2.next) (xs := intsA .i64 (nodes (bs.take i))) (by rw [hk.floor]; exact hk02.ok hf) hk.next ho (by simp only [ev, Env.get_set, ↓reduceIte, Nat.reduceEqDiff]) (by simp only [ev, Env.get_set, ↓reduceIte, Nat.reduceEqDiff]) rfl rfl (room (by simp [intsA_len, nodes_len]; unfold Fit at hn; omega) (by simp [intsA_len, nodes_len]; unfold Fit at hn; omega)) ?_
      intro v' s5 ho2 hx5 _ _
      (repeat' (with_reducible first|refine w_1 ?_|refine w_2 ?_|refine w_3 ?_|refine w_4 ?_|refine w_5 ?_|refine w_6 ?_|refine w_7 ?_|(refine w_8 (fun hb=>?_) (fun hb=>?_)<;>try simp only [hb])|refine w_9 ?_|simp (maxDischargeDepth:=12) only [viz,↓reduceIte,Nat.reduceEqDiff,reduceCtorEq,Int.reduceEq,Int.reduceNeg,Nat.reduceAdd,Nat.reduceLeDiff,g29,g30,g31,succ_cast (i := i) (by unfold Fit at hn; omega)]))
      rw [intsA_snoc, ← nodes_take hx] at ho2
      exact ⟨hlt, hk.trans (hx5.keep hk.next fun r i n z h => (ho.row r i n z h).1), ho2⟩
    · rw [List.take_of_length_le (by omega)] at ho
      have g' := (hk.get s.next (by omega)).trans g2
      generalize hv7 : e.get 7 = v7 at ho
      (repeat' (with_reducible first|refine w_1 ?_|refine w_2 ?_|refine w_3 ?_|refine w_4 ?_|refine w_5 ?_|refine w_6 ?_|refine w_7 ?_|(refine w_8 (fun hb=>?_) (fun hb=>?_)<;>try simp only [hb])|refine w_9 ?_|simp (maxDischargeDepth:=12) only [viz,↓reduceIte,Nat.reduceEqDiff,reduceCtorEq,Int.reduceEq,Int.reduceNeg,Nat.reduceAdd,Nat.reduceLeDiff,g2',g29,g30,g31,lt_false hlt,g',hv7]))
      refine voters_c (l := r.log) (D := D) (hk2'.ok hf) (hI.keep hk2') ⟨d, w, rfl, hd.keep (keep_old hI hk2'), hl.keep (keep_old hI hk2')⟩ hw.log fun v8 s8 ho8 hk8 => ?_
      (repeat' (with_reducible first|refine w_1 ?_|refine w_2 ?_|refine w_3 ?_|refine w_4 ?_|refine w_5 ?_|refine w_6 ?_|refine w_7 ?_|(refine w_8 (fun hb=>?_) (fun hb=>?_)<;>try simp only [hb])|refine w_9 ?_|simp (maxDischargeDepth:=12) only [viz,↓reduceIte,Nat.reduceEqDiff,reduceCtorEq,Int.reduceEq,Int.reduceNeg,Nat.reduceAdd,Nat.reduceLeDiff]))
      have hs7 : Sl s8 (fun q => s2.next ≤ q ∧ q < s'.next) v7 1 (intsA .i64 (nodes bs)) := (ho.sl (intsA_sz _ _) fun q n h => ho.row q 0 n 1 h).keep fun q hq => hk8.get q hq.2
      have hs8 : Sl s8 (fun q => s'.next ≤ q ∧ q < s8.next) v8 1 (intsA .i64 (vot r.log)) := ho8.sl (intsA_sz _ _) fun q n h => ho8.row q 0 n 1 h
      refine safe_c hs7 hs8 (by rw [nodes_len]; exact hn) (vot_fit hw.log) ?_
      have := hK _ (hk2'.then hk8)
      cases hs : safeV (nodes bs) (vot r.log)
      · rw [hs] at this
        (repeat' (with_reducible first|refine w_1 ?_|refine w_2 ?_|refine w_3 ?_|refine w_4 ?_|refine w_5 ?_|refine w_6 ?_|refine w_7 ?_|(refine w_8 (fun hb=>?_) (fun hb=>?_)<;>try simp only [hb])|refine w_9 ?_|simp (maxDischargeDepth:=12) only [viz,↓reduceIte,Nat.reduceEqDiff,reduceCtorEq,Int.reduceEq,Int.reduceNeg,Nat.reduceAdd,Nat.reduceLeDiff,bne_self_eq_false, Int.reduceBEq, Int.reduceBNe, Int.reduceLT, Int.reduceLE, Int.reduceGT, Int.reduceGE]))
        exact this
      · rw [hs] at this
        (repeat' (with_reducible first|refine w_1 ?_|refine w_2 ?_|refine w_3 ?_|refine w_4 ?_|refine w_5 ?_|refine w_6 ?_|refine w_7 ?_|(refine w_8 (fun hb=>?_) (fun hb=>?_)<;>try simp only [hb])|refine w_9 ?_|simp (maxDischargeDepth:=12) only [viz,↓reduceIte,Nat.reduceEqDiff,reduceCtorEq,Int.reduceEq,Int.reduceNeg,Nat.reduceAdd,Nat.reduceLeDiff,bne_self_eq_false, Int.reduceBEq, Int.reduceBNe, Int.reduceLT, Int.reduceLE, Int.reduceGT, Int.reduceGE]))
        exact this
end Go.Proofs.YtfllmhjjfapnmaaGreat
/- raft.Propose, walked. No statement of the seat is proved here. -/
namespace Go.Proofs.YtfllmhjjfapnmaaGreat
open Go Go.VI
set_option linter.unusedSimpArgs false
attribute [local irreducible] Ws Wp W C
set_option maxHeartbeats 4000000
def propL (r : Raft) (k : Int) (bs : List UInt8) : Raft := { r with log := (appOut r.log r.term k bs).1 }
def propC (r : Raft) (k : Int) (bs : List UInt8) : Int :=
  if stOk r = false then 1 else if r.role ≠ 2 then 4
  else if (appOut r.log r.term k bs).2 = 1 ∨ k = 0 then 1
  else if k = 2 ∧ confC r bs ≠ 0 then confC r bs else (appOut r.log r.term k bs).2
def propR (r : Raft) (k : Int) (bs : List UInt8) : Raft := settleR (propL r k bs)
def propO (r : Raft) (k : Int) (bs : List UInt8) : List Msg := tellAllM (propR r k bs) (propR r k bs).peers
def propI (r : Raft) (k : Int) (bs : List UInt8) : Int := (lastE (appOut r.log r.term k bs).1).index
theorem appOut_code (l : Log) (t k : Int) (bs : List UInt8) : (appOut l t k bs).2 = 0 ∨ (appOut l t k bs).2 = 1 ∨ (appOut l t k bs).2 = 2 := by
  unfold appOut; split
  · exact .inr (.inl rfl)
  split
  · exact .inr (.inr rfl)
  · exact .inl rfl
theorem settleR_log (r : Raft) : (settleR r).log = r.log := (commitR_same _).1
structure PropIn (r : Raft) (k : Int) (bs : List UInt8) : Prop where
  w : r.Wf
  k : -9223372036854775808 ≤ k ∧ k ≤ 9223372036854775807
  bs : Fit bs.length
theorem PropIn.app {r : Raft} {k : Int} {bs : List UInt8} (h : PropIn r k bs) : AppIn r.log r.term k bs := ⟨h.w.log, h.w.term, h.k, h.bs⟩
theorem gendN_c {g : Nat} {s : Mem} {r : Raft} {d w vv pv ov : AV} {K : AV → Mem → Prop} {D : Nat → Prop} (hf : s.floor ≤ s.next) (hI : In D s) (hrow : s.get g = some (grpRow r d w vv pv ov)) (hl : LogV s D (.agg [.int .u64 r.log.base.index, .int .u64 r.log.base.term, .int .i64 r.log.base.kind, d, w]) r.log) (hw : r.log.Wf) (hK : ∀ s', Keep s.next s s' → K (.int .u64 (lastE r.log).index) s') : C tab 68 [.ptr g 0 0] s K := by
  refine C_enter (cf := cf68) rfl (Nat.le_of_ble_eq_true rfl) ?_
  simp only [cf68, oo, on, om, og, oc, ou]
  simp only [grpRow] at hrow
  (repeat' (with_reducible first|refine w_1 ?_|refine w_2 ?_|refine w_3 ?_|refine w_4 ?_|refine w_5 ?_|refine w_6 ?_|refine w_7 ?_|(refine w_8 (fun hb=>?_) (fun hb=>?_)<;>try simp only [hb])|refine w_9 ?_|simp (maxDischargeDepth:=12) only [viz,↓reduceIte,Nat.reduceEqDiff,reduceCtorEq,Int.reduceEq,Int.reduceNeg,Nat.reduceAdd,Nat.reduceLeDiff,hrow]))
  refine last_c (l := r.log) hf hI hl hw fun s' hk => ?_
  (repeat' (with_reducible first|refine w_1 ?_|refine w_2 ?_|refine w_3 ?_|refine w_4 ?_|refine w_5 ?_|refine w_6 ?_|refine w_7 ?_|(refine w_8 (fun hb=>?_) (fun hb=>?_)<;>try simp only [hb])|refine w_9 ?_|simp (maxDischargeDepth:=12) only [viz,↓reduceIte,Nat.reduceEqDiff,reduceCtorEq,Int.reduceEq,Int.reduceNeg,Nat.reduceAdd,Nat.reduceLeDiff]))
  exact hK _ hk
set_option maxRecDepth 100000 in
theorem propose_c {r : Raft} {k : Int} {bs : List UInt8} {D : Nat → Prop} {s : Mem} {v b : AV} {K : AV → Mem → Prop} (hf : s.floor ≤ s.next) (hI : In D s) (hv : RaftV s D v r) (hb : Byt s D b bs) (hP : PropIn r k bs)
    (hbad : propC r k bs ≠ 0 → ∀ v' s', Keep s.next s s' → RaftV s' (Lt s'.next) v' zeroR → K (.tup [v', .nilS, .int .u64 0, .int .i64 (propC r k bs)]) s')
    (hK : propC r k bs = 0 → ∀ v' ov s', Keep s.next s s' → RaftV s' (Lt s'.next) v' (propR r k bs) → Msgs s' (Lt s'.next) ov (propO r k bs) → K (.tup [v', ov, .int .u64 (propI r k bs), .int .i64 0]) s') : C tab 26 [v, .int .i64 k, b] s K := by
  obtain ⟨d, w, vv, pv, rfl, hd, hl, hvv, hpv⟩ := raftC_row hv
  have hw := hP.w
  simp only [raftA]
  refine C_enter (cf := cf26) rfl (Nat.le_of_ble_eq_true rfl) ?_
  simp only [cf26, oo, on, om, og, oc, ou]
  have fl1 : (s.floor ≤ s.next + 1) = True := by simp; omega
  (repeat' (with_reducible first|refine w_1 ?_|refine w_2 ?_|refine w_3 ?_|refine w_4 ?_|refine w_5 ?_|refine w_6 ?_|refine w_7 ?_|(refine w_8 (fun hb=>?_) (fun hb=>?_)<;>try simp only [hb])|refine w_9 ?_|simp (maxDischargeDepth:=12) only [viz,↓reduceIte,Nat.reduceEqDiff,reduceCtorEq,Int.reduceEq,Int.reduceNeg,Nat.reduceAdd,Nat.reduceLeDiff,hd.cell,hl.cell,hvv.cell,hpv.cell,hf,fl1]))
  have hk0 := (pushes s (raftRow r d w vv pv)).then (pushes _ ⟨32, 14, [[.int .i64 0, .int .u64 0, .int .i64 0, .int .u64 0, .int .u64 0, .int .i64 0, .nilS, .nilS, .int .u64 0, .int .i64 0, .int .i64 0, .int .i64 0, .nilS, .nilS]]⟩)
  have hI0 := hI.keep hk0
  have hv0 : ∀ M, (∀ q, D q → M.get q = s.get q) → RaftV M D (raftA r d w vv pv) r := fun M hM => ⟨_, rfl, d, w, vv, pv, rfl, hd.keep hM, hl.keep hM, hvv.keep hM, hpv.keep hM⟩
  have P0 : ∀ c, c ≠ 0 → propC r k bs = c → ∀ v' s', RaftV s' (Lt s'.next) v' zeroR → Keep s.next s s' → K (.tup [v', .nilS, .int .u64 0, .int .i64 c]) s' := fun c hc he v' s' h1 h2 => by
    have := hbad (by rw [he]; exact hc) v' s' h2 h1; rw [he] at this; exact this
  refine raftCheck_c (r := r) (D := D) (hk0.ok hf) hI0 (hv0 _ (keep_old hI hk0)) hw fun s1 hk1 => ?_
  have hk01 := hk0.then hk1
  have n1 := hk1.next
  simp only [next_push'] at n1
  have g1 : s1.get s.next = some (raftRow r d w vv pv) := by
    rw [hk1.get _ (by simp only [next_push']; omega), Mem.get_push, if_neg (by simp only [next_push']; omega), Mem.get_push, if_pos rfl]; rfl
  have z1 : s1.get (s.next + 1) = some ⟨32, 14, [[.int .i64 0, .int .u64 0, .int .i64 0, .int .u64 0, .int .u64 0, .int .i64 0, .nilS, .nilS, .int .u64 0, .int .i64 0, .int .i64 0, .int .i64 0, .nilS, .nilS]]⟩ := by
    rw [hk1.get _ (by simp only [next_push']; omega), Mem.get_push, if_pos (by simp only [next_push'])]
  have f1 : (s1.floor ≤ s.next + 1) = True := by rw [hk01.floor]; exact fl1
  simp only [raftRow] at g1
  cases hst : stOk r
  · simp only [Bool.false_eq_true, if_false]
    (repeat' (with_reducible first|refine w_1 ?_|refine w_2 ?_|refine w_3 ?_|refine w_4 ?_|refine w_5 ?_|refine w_6 ?_|refine w_7 ?_|(refine w_8 (fun hb=>?_) (fun hb=>?_)<;>try simp only [hb])|refine w_9 ?_|simp (maxDischargeDepth:=12) only [viz,↓reduceIte,Nat.reduceEqDiff,reduceCtorEq,Int.reduceEq,Int.reduceNeg,Nat.reduceAdd,Nat.reduceLeDiff,g1,z1,f1,bne_self_eq_false, Int.reduceBEq, Int.reduceBNe, Int.reduceLT, Int.reduceLE, Int.reduceGT, Int.reduceGE]))
    exact P0 1 (by decide) (by simp [propC, hst]) _ _ (zr_raft _ _) (hk01.trans (Keep.put (by omega) _))
  simp only [if_true]
  obtain ⟨hL, hcb, _, _, _⟩ := stOk_parts hst
  have hgood := logOk_good hL hw.log
  by_cases hr : r.role = 2
  case neg =>
    have b1 : (r.role != 2) = true := by simp [hr]
    (repeat' (with_reducible first|refine w_1 ?_|refine w_2 ?_|refine w_3 ?_|refine w_4 ?_|refine w_5 ?_|refine w_6 ?_|refine w_7 ?_|(refine w_8 (fun hb=>?_) (fun hb=>?_)<;>try simp only [hb])|refine w_9 ?_|simp (maxDischargeDepth:=12) only [viz,↓reduceIte,Nat.reduceEqDiff,reduceCtorEq,Int.reduceEq,Int.reduceNeg,Nat.reduceAdd,Nat.reduceLeDiff,g1,z1,f1,b1,bne_self_eq_false, Int.reduceBEq, Int.reduceBNe, Int.reduceLT, Int.reduceLE, Int.reduceGT, Int.reduceGE]))
    exact P0 4 (by decide) (by simp [propC, hst, hr]) _ _ (zr_raft _ _) (hk01.trans (Keep.put (by omega) _))
  have b1 : (r.role != 2) = false := by simp [hr]
  (repeat' (with_reducible first|refine w_1 ?_|refine w_2 ?_|refine w_3 ?_|refine w_4 ?_|refine w_5 ?_|refine w_6 ?_|refine w_7 ?_|(refine w_8 (fun hb=>?_) (fun hb=>?_)<;>try simp only [hb])|refine w_9 ?_|simp (maxDischargeDepth:=12) only [viz,↓reduceIte,Nat.reduceEqDiff,reduceCtorEq,Int.reduceEq,Int.reduceNeg,Nat.reduceAdd,Nat.reduceLeDiff,g1,b1,bne_self_eq_false, Int.reduceBEq, Int.reduceBNe, Int.reduceLT, Int.reduceLE, Int.reduceGT, Int.reduceGE]))
  refine appendN_c (l := r.log) (D := D) (bs := bs) (hk01.ok hf) (hI.keep hk01) ⟨d, w, rfl, hd.keep (keep_old hI hk01), hl.keep (keep_old hI hk01)⟩ (Sl.keep hb (keep_old hI hk01)) hP.app fun v2 s2 hv2 hk2 => ?_
  have hk02 := hk01.then hk2
  have n2 := hk2.next
  have g2 := (hk2.get s.next (by omega)).trans g1
  have z2 := (hk2.get (s.next + 1) (by omega)).trans z1
  have f2 : (s2.floor ≤ s.next + 1) = True := by rw [hk02.floor]; exact fl1
  have f22 : (s2.floor ≤ s2.next) = True := by simp; exact hk02.ok hf
  obtain ⟨d2, w2, rfl, hd2, hw2⟩ := hv2
  have cd2 := hd2.cell
  have cw2 := hw2.cell
  have q1 : (s.next = s2.next) = False := by simp; omega
  have q2 : (s.next + 1 = s2.next) = False := by simp; omega
  have hkx := fun x => hk02.then (pushes s2 x)
  have hpc : propC r k bs = if (appOut r.log r.term k bs).2 = 1 ∨ k = 0 then 1 else if k = 2 ∧ confC r bs ≠ 0 then confC r bs else (appOut r.log r.term k bs).2 := by simp [propC, hst, hr]
  have hcode := appOut_code r.log r.term k bs
  by_cases hk0z : k = 0
  · have c1 : (k == 0) = true := by simp [hk0z]
    have c2 : (k == 2) = false := by simp [hk0z]
    (repeat' (with_reducible first|refine w_1 ?_|refine w_2 ?_|refine w_3 ?_|refine w_4 ?_|refine w_5 ?_|refine w_6 ?_|refine w_7 ?_|(refine w_8 (fun hb=>?_) (fun hb=>?_)<;>try simp only [hb])|refine w_9 ?_|simp (maxDischargeDepth:=12) only [viz,↓reduceIte,Nat.reduceEqDiff,reduceCtorEq,Int.reduceEq,Int.reduceNeg,Nat.reduceAdd,Nat.reduceLeDiff,g2,z2,f2,f22,q1,q2,cd2,cw2,c1,c2,bne_self_eq_false, Int.reduceBEq, Int.reduceBNe, Int.reduceLT, Int.reduceLE, Int.reduceGT, Int.reduceGE]))
    exact P0 1 (by decide) (by rw [hpc, if_pos (.inr hk0z)]) _ _ (zr_raft _ _) ((hkx _).trans (Keep.put (by omega) _))
  have c1 : (k == 0) = false := by simp [hk0z]
  by_cases ha1 : (appOut r.log r.term k bs).2 = 1
  · have e1 : propC r k bs = 1 := by rw [hpc, if_pos (.inl ha1)]
    rw [ha1]
    by_cases hk2z : k = 2
    · have c2 : (k == 2) = true := by simp [hk2z]
      (repeat' (with_reducible first|refine w_1 ?_|refine w_2 ?_|refine w_3 ?_|refine w_4 ?_|refine w_5 ?_|refine w_6 ?_|refine w_7 ?_|(refine w_8 (fun hb=>?_) (fun hb=>?_)<;>try simp only [hb])|refine w_9 ?_|simp (maxDischargeDepth:=12) only [viz,↓reduceIte,Nat.reduceEqDiff,reduceCtorEq,Int.reduceEq,Int.reduceNeg,Nat.reduceAdd,Nat.reduceLeDiff,g2,z2,f2,f22,q1,q2,cd2,cw2,c1,c2,bne_self_eq_false, Int.reduceBEq, Int.reduceBNe, Int.reduceLT, Int.reduceLE, Int.reduceGT, Int.reduceGE]))
      exact P0 1 (by decide) e1 _ _ (zr_raft _ _) ((hkx _).trans (Keep.put (by omega) _))
    · have c2 : (k == 2) = false := by simp [hk2z]
      (repeat' (with_reducible first|refine w_1 ?_|refine w_2 ?_|refine w_3 ?_|refine w_4 ?_|refine w_5 ?_|refine w_6 ?_|refine w_7 ?_|(refine w_8 (fun hb=>?_) (fun hb=>?_)<;>try simp only [hb])|refine w_9 ?_|simp (maxDischargeDepth:=12) only [viz,↓reduceIte,Nat.reduceEqDiff,reduceCtorEq,Int.reduceEq,Int.reduceNeg,Nat.reduceAdd,Nat.reduceLeDiff,g2,z2,f2,f22,q1,q2,cd2,cw2,c1,c2,bne_self_eq_false, Int.reduceBEq, Int.reduceBNe, Int.reduceLT, Int.reduceLE, Int.reduceGT, Int.reduceGE]))
      exact P0 1 (by decide) e1 _ _ (zr_raft _ _) ((hkx _).trans (Keep.put (by omega) _))
  have a1 : ((appOut r.log r.term k bs).2 != 1) = true := by simp [ha1]
  have rest : ∀ (P : Mem) (E : Env) (Q : Ex → Env → Mem → Prop), Keep s.next s P → P.get s.next = some ⟨32, 14, [[.int .i64 r.node, .int .u64 r.term, .int .i64 r.vote, .int .u64 r.log.base.index, .int .u64 r.log.base.term, .int .i64 r.log.base.kind, d, w, .int .u64 r.commit, .int .i64 r.role, .int .i64 r.leads, .int .i64 r.elapsed, vv, pv]]⟩ → True := fun _ _ _ _ _ => trivial
  clear rest
  by_cases hk2z : k = 2
  · have c2 : (k == 2) = true := by simp [hk2z]
    (repeat' (with_reducible first|refine w_1 ?_|refine w_2 ?_|refine w_3 ?_|refine w_4 ?_|refine w_5 ?_|refine w_6 ?_|refine w_7 ?_|(refine w_8 (fun hb=>?_) (fun hb=>?_)<;>try simp only [hb])|refine w_9 ?_|simp (maxDischargeDepth:=12) only [viz,↓reduceIte,Nat.reduceEqDiff,reduceCtorEq,Int.reduceEq,Int.reduceNeg,Nat.reduceAdd,Nat.reduceLeDiff,g2,f22,q1,cd2,cw2,c1,c2,a1,bne_self_eq_false, Int.reduceBEq, Int.reduceBNe, Int.reduceLT, Int.reduceLE, Int.reduceGT, Int.reduceGE]))
    generalize hP' : Mem.push _ _ = P
    have nP : P.next = s2.next + 1 := by rw [← hP']; simp only [next_push']
    have hkP2 : Keep s2.next s2 P := by rw [← hP']; exact pushes _ _
    have tP : P.get s2.next = some ⟨28, 5, [[.int .u64 (appOut r.log r.term k bs).1.base.index, .int .u64 (appOut r.log r.term k bs).1.base.term, .int .i64 (appOut r.log r.term k bs).1.base.kind, d2, w2]]⟩ := by rw [← hP', Mem.get_push, if_pos rfl]
    clear hP'
    have hkP := hk02.then hkP2
    refine conf_c (r := r) (D := D) (hkP.ok hf) (hI.keep hkP) (hv0 _ (keep_old hI hkP)) hw hgood (Sl.keep hb (keep_old hI hkP)) hP.bs fun s3 hk3 => ?_
    have hk03 := hkP.then hk3
    have n3 := hk3.next
    have g3 := (hk3.get s.next (by omega)).trans ((hkP2.get s.next (by omega)).trans g2)
    have z3 := (hk3.get (s.next + 1) (by omega)).trans ((hkP2.get (s.next + 1) (by omega)).trans z2)
    have t3 := (hk3.get s2.next (by omega)).trans tP
    have f3 : (s3.floor ≤ s.next + 1) = True := by rw [hk03.floor]; exact fl1
    by_cases hc0 : confC r bs = 0
    case neg =>
      have e1 : propC r k bs = confC r bs := by rw [hpc, if_neg (by simp [ha1, hk0z]), if_pos ⟨hk2z, hc0⟩]
      have x1 : (confC r bs != 0) = true := by simp [hc0]
      (repeat' (with_reducible first|refine w_1 ?_|refine w_2 ?_|refine w_3 ?_|refine w_4 ?_|refine w_5 ?_|refine w_6 ?_|refine w_7 ?_|(refine w_8 (fun hb=>?_) (fun hb=>?_)<;>try simp only [hb])|refine w_9 ?_|simp (maxDischargeDepth:=12) only [viz,↓reduceIte,Nat.reduceEqDiff,reduceCtorEq,Int.reduceEq,Int.reduceNeg,Nat.reduceAdd,Nat.reduceLeDiff,g3,z3,f3,x1,bne_self_eq_false, Int.reduceBEq, Int.reduceBNe, Int.reduceLT, Int.reduceLE, Int.reduceGT, Int.reduceGE]))
      exact P0 _ hc0 e1 _ _ (zr_raft _ _) (hk03.trans (Keep.put (by omega) _))
    have x1 : (confC r bs != 0) = false := by simp [hc0]
    by_cases ha0 : (appOut r.log r.term k bs).2 = 0
    case neg =>
      have e1 : propC r k bs = (appOut r.log r.term k bs).2 := by rw [hpc, if_neg (by simp [ha1, hk0z]), if_neg (by simp [hc0])]
      have x2 : ((appOut r.log r.term k bs).2 != 0) = true := by simp [ha0]
      (repeat' (with_reducible first|refine w_1 ?_|refine w_2 ?_|refine w_3 ?_|refine w_4 ?_|refine w_5 ?_|refine w_6 ?_|refine w_7 ?_|(refine w_8 (fun hb=>?_) (fun hb=>?_)<;>try simp only [hb])|refine w_9 ?_|simp (maxDischargeDepth:=12) only [viz,↓reduceIte,Nat.reduceEqDiff,reduceCtorEq,Int.reduceEq,Int.reduceNeg,Nat.reduceAdd,Nat.reduceLeDiff,g3,z3,f3,x1,x2,bne_self_eq_false, Int.reduceBEq, Int.reduceBNe, Int.reduceLT, Int.reduceLE, Int.reduceGT, Int.reduceGE]))
      exact P0 _ ha0 e1 _ _ (zr_raft _ _) (hk03.trans (Keep.put (by omega) _))
    have x2 : ((appOut r.log r.term k bs).2 != 0) = false := by simp [ha0]
    have e1 : propC r k bs = 0 := by rw [hpc, if_neg (by simp [ha1, hk0z]), if_neg (by simp [hc0])]; exact ha0
    replace hK := hK e1
    have hold2 : ∀ q, q < s2.next → s3.get q = s2.get q := fun q hq => (hk3.get q (by omega)).trans (hkP2.get q hq)
    (repeat' (with_reducible first|refine w_1 ?_|refine w_2 ?_|refine w_3 ?_|refine w_4 ?_|refine w_5 ?_|refine w_6 ?_|refine w_7 ?_|(refine w_8 (fun hb=>?_) (fun hb=>?_)<;>try simp only [hb])|refine w_9 ?_|simp (maxDischargeDepth:=12) only [viz,↓reduceIte,Nat.reduceEqDiff,reduceCtorEq,Int.reduceEq,Int.reduceNeg,Nat.reduceAdd,Nat.reduceLeDiff,g3,z3,f3,x1,x2,bne_self_eq_false, Int.reduceBEq, Int.reduceBNe, Int.reduceLT, Int.reduceLE, Int.reduceGT, Int.reduceGE]))
    obtain ⟨a1', a2', a3', a4', a5'⟩ := appOut_ok hP.app ha0
    refine rown_c (r := r) (D := D) (hk03.ok hf) (hI.keep hk03) (hv0 _ (keep_old hI hk03)) hw hgood fun g s4 d4 w4 vv4 pv4 hk4 hg4 hG4 => ?_
    have hk04 := hk03.then hk4
    have n4 := hk4.next
    have r4 := hG4.row
    simp only [grpRow] at r4
    have t4 := (hk4.get s2.next (by omega)).trans t3
    have z4 := (hk4.get (s.next + 1) (by omega)).trans z3
    have fl4 : s4.floor = s.floor := hk04.floor
    have f4g : (s4.floor ≤ g) = True := by simp [hG4.fl]
    have gt : (g = s2.next) = False := by simp; omega
    have hN : ∀ q, NewD D s1.next s2.next q → gD g .nilS s4 q := fun q hq => by
      refine ⟨?_, ?_, fun _ _ _ h => by cases h⟩
      · rcases hq with h | h
        · have := hI q h; omega
        · omega
      · rcases hq with h | h
        · have := hI q h; omega
        · omega
    have hold : ∀ q, NewD D s1.next s2.next q → s4.get q = s2.get q := fun q hq => by
      have hq2 : q < s2.next := by
        rcases hq with h | h
        · have := hI q h; omega
        · omega
      rw [hk4.get q (by omega), hold2 q hq2]
    (repeat' (with_reducible first|refine w_1 ?_|refine w_2 ?_|refine w_3 ?_|refine w_4 ?_|refine w_5 ?_|refine w_6 ?_|refine w_7 ?_|(refine w_8 (fun hb=>?_) (fun hb=>?_)<;>try simp only [hb])|refine w_9 ?_|simp (maxDischargeDepth:=12) only [viz,↓reduceIte,Nat.reduceEqDiff,reduceCtorEq,Int.reduceEq,Int.reduceNeg,Nat.reduceAdd,Nat.reduceLeDiff,r4,t4,f4g,gt,cd2,cw2,bne_self_eq_false, Int.reduceBEq, Int.reduceBNe, Int.reduceLT, Int.reduceLE, Int.reduceGT, Int.reduceGE]))
    have zD : gD g .nilS s4 (s.next + 1) := ⟨by omega, by omega, fun _ _ _ h => by cases h⟩
    have key : ∀ M, Turn g s4 M → M.get g = some (grpRow (propL r k bs) d2 w2 vv4 pv4 .nilS) → Grp g M (propL r k bs) [] d2 w2 vv4 pv4 .nilS ∧ Went g .nilS s4 .nilS M := fun M hT hrM => hG4.set (propL r k bs) hT hrM ((hd2.keep hold).mono hN) ((hw2.keep hold).mono hN) hG4.vv hG4.pv
    obtain ⟨hG5, hw5⟩ := key (s4.put g (some (grpRow (propL r k bs) d2 w2 vv4 pv4 .nilS))) ⟨rfl, rfl, fun q hq => by simp only [Mem.get_put, if_neg hq]⟩ (by rw [Mem.get_put, if_pos rfl])
    refine gsettle_c (r := propL r k bs) (d := d2) (w := w2) (vv := vv4) (pv := pv4) (ov := .nilS) (out := []) hG5 a4' a5' hw.peer hw.peers (by show 0 < _; omega) fun ov6 pv6 s6 u6 hG6 hw6 => ?_
    rw [List.nil_append] at hG6
    have r6 := hG6.row
    simp only [grpRow] at r6
    have hw46 := hw5.trans hw6
    have z6 := hw46.box zD z4
    have n6 := hw46.next
    have fl6 : s6.floor = s.floor := hw46.floor.trans fl4
    have r6' : ∀ f, (s6.at f).get g = s6.get g := fun _ => rfl
    (repeat' (with_reducible first|refine w_1 ?_|refine w_2 ?_|refine w_3 ?_|refine w_4 ?_|refine w_5 ?_|refine w_6 ?_|refine w_7 ?_|(refine w_8 (fun hb=>?_) (fun hb=>?_)<;>try simp only [hb])|refine w_9 ?_|simp (maxDischargeDepth:=12) only [viz,↓reduceIte,Nat.reduceEqDiff,reduceCtorEq,Int.reduceEq,Int.reduceNeg,Nat.reduceAdd,Nat.reduceLeDiff,r6,nilA_ptr,bne_self_eq_false, Int.reduceBEq, Int.reduceBNe, Int.reduceLT, Int.reduceLE, Int.reduceGT, Int.reduceGE]))
    refine gendN_c (D := gD g ov6 s6) (Nat.le_refl _) (fun q hq => hq.1) hG6.row ⟨d2, w2, rfl, hG6.d, hG6.w⟩ (by rw [settleR_log]; exact a5') fun s7 hk7 => ?_
    have hk67 : Keep s6.next s6 (s7.at s6.floor) := Keep.of_at hk7
    have hG7 := hG6.keep hk67
    have n7 : s6.next ≤ s7.next := hk7.next
    have z7 : s7.get (s.next + 1) = _ := (hk67.get (s.next + 1) (by omega)).trans z6
    have f7 : (s6.floor ≤ s.next + 1) = True := by rw [fl6]; exact fl1
    have gz' : (g = s.next + 1) = False := by simp; omega
    have zg' : (s.next + 1 = g) = False := by simp; omega
    have r7 : s7.get g = _ := (hk67.get g hG6.lt).trans r6
    (repeat' (with_reducible first|refine w_1 ?_|refine w_2 ?_|refine w_3 ?_|refine w_4 ?_|refine w_5 ?_|refine w_6 ?_|refine w_7 ?_|(refine w_8 (fun hb=>?_) (fun hb=>?_)<;>try simp only [hb])|refine w_9 ?_|simp (maxDischargeDepth:=12) only [viz,↓reduceIte,Nat.reduceEqDiff,reduceCtorEq,Int.reduceEq,Int.reduceNeg,Nat.reduceAdd,Nat.reduceLeDiff,z7,r7,gz',zg',f7,hG6.d.cell,hG6.w.cell,hG6.vv.cell,hG6.pv.cell,bne_self_eq_false, Int.reduceBEq, Int.reduceBNe, Int.reduceLT, Int.reduceLE, Int.reduceGT, Int.reduceGE]))
    generalize hQ : Mem.put _ _ _ = Q
    have oQ : ∀ q, q ≠ s.next + 1 → Q.get q = (s7.at s6.floor).get q := fun q hq => by
      by_cases h : q = g
      · rw [← hQ, h, Mem.get_put, if_pos rfl]; exact r7.symm
      · rw [← hQ, Mem.get_put, if_neg h, Mem.get_put, if_neg hq, Mem.get_put, if_neg h]
    have hS : Swap (s.next + 1) (s7.at s6.floor) Q := ⟨⟨_, _, z7, rfl⟩, ⟨32, _, by rw [← hQ, Mem.get_put, if_neg (by omega), Mem.get_put, if_pos rfl]⟩, oQ⟩
    obtain ⟨hf1, hf2⟩ := hG7.fin (z := s.next + 1) (s' := Q) (by omega) hS (by rw [← hQ]; rfl)
    have nQ : Q.next = s7.next := by rw [← hQ]; rfl
    have hi : (lastE (settleR (propL r k bs)).log).index = propI r k bs := by rw [settleR_log]; rfl
    rw [hi]
    refine hK _ _ _ ⟨by omega, by rw [← hQ]; exact fl6, fun q hq => ?_⟩ hf1 hf2
    rw [oQ q (by omega)]
    refine (hk67.get q (by omega)).trans ((hw46.get q (by omega) (by omega) fun _ _ _ h => by cases h).trans (hk04.get q hq))
  · have c2 : (k == 2) = false := by simp [hk2z]
    by_cases ha0 : (appOut r.log r.term k bs).2 = 0
    case neg =>
      have e1 : propC r k bs = (appOut r.log r.term k bs).2 := by rw [hpc, if_neg (by simp [ha1, hk0z]), if_neg (by simp [hk2z])]
      have x2 : ((appOut r.log r.term k bs).2 != 0) = true := by simp [ha0]
      (repeat' (with_reducible first|refine w_1 ?_|refine w_2 ?_|refine w_3 ?_|refine w_4 ?_|refine w_5 ?_|refine w_6 ?_|refine w_7 ?_|(refine w_8 (fun hb=>?_) (fun hb=>?_)<;>try simp only [hb])|refine w_9 ?_|simp (maxDischargeDepth:=12) only [viz,↓reduceIte,Nat.reduceEqDiff,reduceCtorEq,Int.reduceEq,Int.reduceNeg,Nat.reduceAdd,Nat.reduceLeDiff,g2,z2,f2,f22,q1,q2,cd2,cw2,c1,c2,x2,bne_self_eq_false, Int.reduceBEq, Int.reduceBNe, Int.reduceLT, Int.reduceLE, Int.reduceGT, Int.reduceGE]))
      exact P0 _ ha0 e1 _ _ (zr_raft _ _) ((hkx _).trans (Keep.put (by omega) _))
    have x2 : ((appOut r.log r.term k bs).2 != 0) = false := by simp [ha0]
    have e1 : propC r k bs = 0 := by rw [hpc, if_neg (by simp [ha1, hk0z]), if_neg (by simp [hk2z])]; exact ha0
    replace hK := hK e1
    (repeat' (with_reducible first|refine w_1 ?_|refine w_2 ?_|refine w_3 ?_|refine w_4 ?_|refine w_5 ?_|refine w_6 ?_|refine w_7 ?_|(refine w_8 (fun hb=>?_) (fun hb=>?_)<;>try simp only [hb])|refine w_9 ?_|simp (maxDischargeDepth:=12) only [viz,↓reduceIte,Nat.reduceEqDiff,reduceCtorEq,Int.reduceEq,Int.reduceNeg,Nat.reduceAdd,Nat.reduceLeDiff,g2,z2,f2,f22,q1,q2,cd2,cw2,c1,c2,x2,bne_self_eq_false, Int.reduceBEq, Int.reduceBNe, Int.reduceLT, Int.reduceLE, Int.reduceGT, Int.reduceGE]))
    generalize hP' : Mem.push _ _ = s3
    have nP : s3.next = s2.next + 1 := by rw [← hP']; simp only [next_push']
    have hkP2 : Keep s2.next s2 s3 := by rw [← hP']; exact pushes _ _
    have t3 : s3.get s2.next = some ⟨28, 5, [[.int .u64 (appOut r.log r.term k bs).1.base.index, .int .u64 (appOut r.log r.term k bs).1.base.term, .int .i64 (appOut r.log r.term k bs).1.base.kind, d2, w2]]⟩ := by rw [← hP', Mem.get_push, if_pos rfl]
    clear hP'
    have hk03 := hk02.then hkP2
    have n3 : s2.next + 1 ≤ s3.next := by omega
    have z3 := (hkP2.get (s.next + 1) (by omega)).trans z2
    have hold2 : ∀ q, q < s2.next → s3.get q = s2.get q := fun q hq => hkP2.get q hq
    obtain ⟨a1', a2', a3', a4', a5'⟩ := appOut_ok hP.app ha0
    refine rown_c (r := r) (D := D) (hk03.ok hf) (hI.keep hk03) (hv0 _ (keep_old hI hk03)) hw hgood fun g s4 d4 w4 vv4 pv4 hk4 hg4 hG4 => ?_
    have hk04 := hk03.then hk4
    have n4 := hk4.next
    have r4 := hG4.row
    simp only [grpRow] at r4
    have t4 := (hk4.get s2.next (by omega)).trans t3
    have z4 := (hk4.get (s.next + 1) (by omega)).trans z3
    have fl4 : s4.floor = s.floor := hk04.floor
    have f4g : (s4.floor ≤ g) = True := by simp [hG4.fl]
    have gt : (g = s2.next) = False := by simp; omega
    have hN : ∀ q, NewD D s1.next s2.next q → gD g .nilS s4 q := fun q hq => by
      refine ⟨?_, ?_, fun _ _ _ h => by cases h⟩
      · rcases hq with h | h
        · have := hI q h; omega
        · omega
      · rcases hq with h | h
        · have := hI q h; omega
        · omega
    have hold : ∀ q, NewD D s1.next s2.next q → s4.get q = s2.get q := fun q hq => by
      have hq2 : q < s2.next := by
        rcases hq with h | h
        · have := hI q h; omega
        · omega
      rw [hk4.get q (by omega), hold2 q hq2]
    (repeat' (with_reducible first|refine w_1 ?_|refine w_2 ?_|refine w_3 ?_|refine w_4 ?_|refine w_5 ?_|refine w_6 ?_|refine w_7 ?_|(refine w_8 (fun hb=>?_) (fun hb=>?_)<;>try simp only [hb])|refine w_9 ?_|simp (maxDischargeDepth:=12) only [viz,↓reduceIte,Nat.reduceEqDiff,reduceCtorEq,Int.reduceEq,Int.reduceNeg,Nat.reduceAdd,Nat.reduceLeDiff,r4,t4,f4g,gt,cd2,cw2,bne_self_eq_false, Int.reduceBEq, Int.reduceBNe, Int.reduceLT, Int.reduceLE, Int.reduceGT, Int.reduceGE]))
    have zD : gD g .nilS s4 (s.next + 1) := ⟨by omega, by omega, fun _ _ _ h => by cases h⟩
    have key : ∀ M, Turn g s4 M → M.get g = some (grpRow (propL r k bs) d2 w2 vv4 pv4 .nilS) → Grp g M (propL r k bs) [] d2 w2 vv4 pv4 .nilS ∧ Went g .nilS s4 .nilS M := fun M hT hrM => hG4.set (propL r k bs) hT hrM ((hd2.keep hold).mono hN) ((hw2.keep hold).mono hN) hG4.vv hG4.pv
    obtain ⟨hG5, hw5⟩ := key (s4.put g (some (grpRow (propL r k bs) d2 w2 vv4 pv4 .nilS))) ⟨rfl, rfl, fun q hq => by simp only [Mem.get_put, if_neg hq]⟩ (by rw [Mem.get_put, if_pos rfl])
    refine gsettle_c (r := propL r k bs) (d := d2) (w := w2) (vv := vv4) (pv := pv4) (ov := .nilS) (out := []) hG5 a4' a5' hw.peer hw.peers (by show 0 < _; omega) fun ov6 pv6 s6 u6 hG6 hw6 => ?_
    rw [List.nil_append] at hG6
    have r6 := hG6.row
    simp only [grpRow] at r6
    have hw46 := hw5.trans hw6
    have z6 := hw46.box zD z4
    have n6 := hw46.next
    have fl6 : s6.floor = s.floor := hw46.floor.trans fl4
    have r6' : ∀ f, (s6.at f).get g = s6.get g := fun _ => rfl
    (repeat' (with_reducible first|refine w_1 ?_|refine w_2 ?_|refine w_3 ?_|refine w_4 ?_|refine w_5 ?_|refine w_6 ?_|refine w_7 ?_|(refine w_8 (fun hb=>?_) (fun hb=>?_)<;>try simp only [hb])|refine w_9 ?_|simp (maxDischargeDepth:=12) only [viz,↓reduceIte,Nat.reduceEqDiff,reduceCtorEq,Int.reduceEq,Int.reduceNeg,Nat.reduceAdd,Nat.reduceLeDiff,r6,nilA_ptr,bne_self_eq_false, Int.reduceBEq, Int.reduceBNe, Int.reduceLT, Int.reduceLE, Int.reduceGT, Int.reduceGE]))
    refine gendN_c (D := gD g ov6 s6) (Nat.le_refl _) (fun q hq => hq.1) hG6.row ⟨d2, w2, rfl, hG6.d, hG6.w⟩ (by rw [settleR_log]; exact a5') fun s7 hk7 => ?_
    have hk67 : Keep s6.next s6 (s7.at s6.floor) := Keep.of_at hk7
    have hG7 := hG6.keep hk67
    have n7 : s6.next ≤ s7.next := hk7.next
    have z7 : s7.get (s.next + 1) = _ := (hk67.get (s.next + 1) (by omega)).trans z6
    have f7 : (s6.floor ≤ s.next + 1) = True := by rw [fl6]; exact fl1
    have gz' : (g = s.next + 1) = False := by simp; omega
    have zg' : (s.next + 1 = g) = False := by simp; omega
    have r7 : s7.get g = _ := (hk67.get g hG6.lt).trans r6
    (repeat' (with_reducible first|refine w_1 ?_|refine w_2 ?_|refine w_3 ?_|refine w_4 ?_|refine w_5 ?_|refine w_6 ?_|refine w_7 ?_|(refine w_8 (fun hb=>?_) (fun hb=>?_)<;>try simp only [hb])|refine w_9 ?_|simp (maxDischargeDepth:=12) only [viz,↓reduceIte,Nat.reduceEqDiff,reduceCtorEq,Int.reduceEq,Int.reduceNeg,Nat.reduceAdd,Nat.reduceLeDiff,z7,r7,gz',zg',f7,hG6.d.cell,hG6.w.cell,hG6.vv.cell,hG6.pv.cell,bne_self_eq_false, Int.reduceBEq, Int.reduceBNe, Int.reduceLT, Int.reduceLE, Int.reduceGT, Int.reduceGE]))
    generalize hQ : Mem.put _ _ _ = Q
    have oQ : ∀ q, q ≠ s.next + 1 → Q.get q = (s7.at s6.floor).get q := fun q hq => by
      by_cases h : q = g
      · rw [← hQ, h, Mem.get_put, if_pos rfl]; exact r7.symm
      · rw [← hQ, Mem.get_put, if_neg h, Mem.get_put, if_neg hq, Mem.get_put, if_neg h]
    have hS : Swap (s.next + 1) (s7.at s6.floor) Q := ⟨⟨_, _, z7, rfl⟩, ⟨32, _, by rw [← hQ, Mem.get_put, if_neg (by omega), Mem.get_put, if_pos rfl]⟩, oQ⟩
    obtain ⟨hf1, hf2⟩ := hG7.fin (z := s.next + 1) (s' := Q) (by omega) hS (by rw [← hQ]; rfl)
    have nQ : Q.next = s7.next := by rw [← hQ]; rfl
    have hi : (lastE (settleR (propL r k bs)).log).index = propI r k bs := by rw [settleR_log]; rfl
    rw [hi]
    refine hK _ _ _ ⟨by omega, by rw [← hQ]; exact fl6, fun q hq => ?_⟩ hf1 hf2
    rw [oQ q (by omega)]
    refine (hk67.get q (by omega)).trans ((hw46.get q (by omega) (by omega) fun _ _ _ h => by cases h).trans (hk04.get q hq))
end Go.Proofs.YtfllmhjjfapnmaaGreat

