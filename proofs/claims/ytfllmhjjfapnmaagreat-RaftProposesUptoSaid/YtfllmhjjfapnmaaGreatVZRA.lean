/- Logs cut behind a snapshot. No statement of the seat is proved here. -/
import Derived.Test.YtfllmhjjfapnmaaGreatVZRaftPure
import Derived.Test.YtfllmhjjfapnmaaGreatVZRaftAwake
import Derived.Test.YtfllmhjjfapnmaaGreatVZCuts
import Derived.Test.YtfllmhjjfapnmaaGreatVZVE
import Derived.Test.YtfllmhjjfapnmaaGreatVZRaftLight
import Derived.Test.YtfllmhjjfapnmaaGreatVZRefSay
namespace Go.Proofs.YtfllmhjjfapnmaaGreat
open Go Go.VI
set_option linter.unusedSimpArgs false
attribute [local irreducible] Ws Wp W C
set_option maxHeartbeats 4000000
def compL (l : Log) (ix : Int) : Log :=
  ⟨⟨ix, (termO l.base.index l.base.term l.l ix).1, 0, cfgT l.base.data l.l (ix - l.base.index).toNat⟩, l.l.drop (ix - l.base.index).toNat⟩
def compOut (l : Log) (ix : Int) : Log × Int :=
  if !logOk l then (zeroL, 1) else if ix ≤ l.base.index then (zeroL, 7) else if !(termO l.base.index l.base.term l.l ix).2 then (zeroL, 12) else (compL l ix, 0)
theorem wrap_u8 (b : UInt8) : IntKind.u8.wrap (b.toNat : Int) = (b.toNat : Int) := by
  have := toNat_lt b
  unfold IntKind.wrap; simp only [IntKind.bits, IntKind.signed, Bool.false_and, Bool.false_eq_true, if_false]; omega
theorem cfgT_take {base : List UInt8} {es : List Entry} : ∀ {k n : Nat}, k ≤ n → cfgT base (es.take n) k = cfgT base es k := by
  intro k
  induction k with
  | zero => intro n _; rfl
  | succ k ih =>
    intro n hn
    by_cases h : k < es.length
    · obtain ⟨e, he⟩ := get_of h
      have he2 : (es.take n)[k]? = some e := by rw [List.getElem?_take_of_lt (by omega)]; exact he
      rw [cfgT_succ he, cfgT_succ he2, ih (by omega)]
    · have e1 : es[k]? = none := List.getElem?_eq_none (by omega)
      have e2 : (es.take n)[k]? = none := List.getElem?_eq_none (by rw [List.length_take]; omega)
      simp only [cfgT, e1, e2]
      exact ih (by omega)
theorem ownl_put {s : Mem} {b ty sz q : Nat} {v : AV} {xs : List (List AV)} {x : Option Row} (h : OwnL s b v ty sz xs) (hq : q < b) : OwnL (s.put q x) b v ty sz xs := by
  rcases h with h | ⟨r, h1, h2, h3, h4, h5⟩
  · exact .inl h
  · exact .inr ⟨r, h1, by rw [Mem.get_put, if_neg (by omega)]; exact h2, h3, h4, h5⟩
theorem fullCut {l : Log} {ix : Int} (hL : logOk l = true) (h1 : ¬ ix ≤ l.base.index) (h2 : (termO l.base.index l.base.term l.l ix).2 = true) : ∃ k : Nat, ix = l.base.index + k ∧ 0 < k ∧ k ≤ l.l.length := by
  have hc := (logOk_cons hL).1
  have h3 : termO l.base.index l.base.term l.l ix = ((termO l.base.index l.base.term l.l ix).1, true) := by rw [← h2]
  have := termO_in hc h3
  exact ⟨(ix - l.base.index).toNat, by omega, by omega, by omega⟩
set_option maxRecDepth 100000 in
theorem compact_c {l : Log} {ix : Int} {D : Nat → Prop} {s : Mem} {v : AV} {K : AV → Mem → Prop} (hf : s.floor ≤ s.next) (hI : In D s) (hv : LogV s D v l) (hw : l.Wf) (hix : InU ix)
    (hK : ∀ v' s', LogV s' (NewD D s.next s'.next) v' (compOut l ix).1 → Keep s.next s s' → K (.tup [v', .int .i64 (compOut l ix).2]) s') : C tab 69 [v, .int .u64 ix] s K := by
  obtain ⟨d, w, rfl, hd, hes⟩ := hv
  have hbi := hw.base.index
  refine C_enter (cf := cf69) rfl (Nat.le_of_ble_eq_true rfl) ?_
  simp only [cf69, oo, on, om, og, oc, ou]
  have fl1 : (s.floor ≤ s.next + 1) = True := by simp; omega
  (repeat' (with_reducible first|refine w_1 ?_|refine w_2 ?_|refine w_3 ?_|refine w_4 ?_|refine w_5 ?_|refine w_6 ?_|refine w_7 ?_|(refine w_8 (fun hb=>?_) (fun hb=>?_)<;>try simp only [hb])|refine w_9 ?_|simp (maxDischargeDepth:=12) only [viz,↓reduceIte,Nat.reduceEqDiff,reduceCtorEq,Int.reduceEq,Int.reduceNeg,Nat.reduceAdd,Nat.reduceLeDiff,hd.cell,hes.cell,hf,fl1]))
  have hk0 := (pushes s ⟨28, 5, [[.int .u64 l.base.index, .int .u64 l.base.term, .int .i64 l.base.kind, d, w]]⟩).then (pushes _ ⟨28, 5, [[.int .u64 0, .int .u64 0, .int .i64 0, .nilS, .nilS]]⟩)
  have P0 : ∀ v' s', LogV s' (NewD D s.next s'.next) v' zeroL → Keep s.next s s' → ∀ c, compOut l ix = (zeroL, c) → K (.tup [v', .int .i64 c]) s' := fun v' s' h1 h2 c h3 => by have := hK v' s'; rw [h3] at this; exact this h1 h2
  refine rlogCheck_c (l := l) (D := D) (hk0.ok hf) (hI.keep hk0) ⟨d, w, rfl, hd.keep (keep_old hI hk0), hes.keep (keep_old hI hk0)⟩ hw fun s1 hk1 => ?_
  have hk01 := hk0.then hk1
  have n1 := hk1.next
  simp only [next_push'] at n1
  have g1 : s1.get s.next = some ⟨28, 5, [[.int .u64 l.base.index, .int .u64 l.base.term, .int .i64 l.base.kind, d, w]]⟩ := by
    rw [hk1.get _ (by simp only [next_push']; omega), Mem.get_push, if_neg (by simp only [next_push']; omega), Mem.get_push, if_pos rfl]
  have z1 : s1.get (s.next + 1) = some ⟨28, 5, [[.int .u64 0, .int .u64 0, .int .i64 0, .nilS, .nilS]]⟩ := by
    rw [hk1.get _ (by simp only [next_push']; omega), Mem.get_push, if_pos (by simp only [next_push'])]
  have f1 : (s1.floor ≤ s.next + 1) = True := by rw [hk01.floor]; exact fl1
  cases hL : logOk l
  · simp only [Bool.false_eq_true, if_false]
    (repeat' (with_reducible first|refine w_1 ?_|refine w_2 ?_|refine w_3 ?_|refine w_4 ?_|refine w_5 ?_|refine w_6 ?_|refine w_7 ?_|(refine w_8 (fun hb=>?_) (fun hb=>?_)<;>try simp only [hb])|refine w_9 ?_|simp (maxDischargeDepth:=12) only [viz,↓reduceIte,Nat.reduceEqDiff,reduceCtorEq,Int.reduceEq,Int.reduceNeg,Nat.reduceAdd,Nat.reduceLeDiff,g1,z1,f1,bne_self_eq_false, Int.reduceBEq, Int.reduceBNe, Int.reduceLT, Int.reduceLE, Int.reduceGT, Int.reduceGE]))
    exact P0 _ _ (zero_ent _ _) (hk01.trans (Keep.put (by omega) _)) 1 (by simp [compOut, hL])
  simp only [if_true]
  by_cases hle : ix ≤ l.base.index
  · have c1 : decide (ix ≤ l.base.index) = true := by simp [hle]
    (repeat' (with_reducible first|refine w_1 ?_|refine w_2 ?_|refine w_3 ?_|refine w_4 ?_|refine w_5 ?_|refine w_6 ?_|refine w_7 ?_|(refine w_8 (fun hb=>?_) (fun hb=>?_)<;>try simp only [hb])|refine w_9 ?_|simp (maxDischargeDepth:=12) only [viz,↓reduceIte,Nat.reduceEqDiff,reduceCtorEq,Int.reduceEq,Int.reduceNeg,Nat.reduceAdd,Nat.reduceLeDiff,g1,z1,f1,c1,bne_self_eq_false, Int.reduceBEq, Int.reduceBNe, Int.reduceLT, Int.reduceLE, Int.reduceGT, Int.reduceGE]))
    exact P0 _ _ (zero_ent _ _) (hk01.trans (Keep.put (by omega) _)) 7 (by simp [compOut, hL, hle])
  have c1 : decide (ix ≤ l.base.index) = false := by simp [hle]
  obtain ⟨hc, hb⟩ := logOk_cons hL
  (repeat' (with_reducible first|refine w_1 ?_|refine w_2 ?_|refine w_3 ?_|refine w_4 ?_|refine w_5 ?_|refine w_6 ?_|refine w_7 ?_|(refine w_8 (fun hb=>?_) (fun hb=>?_)<;>try simp only [hb])|refine w_9 ?_|simp (maxDischargeDepth:=12) only [viz,↓reduceIte,Nat.reduceEqDiff,reduceCtorEq,Int.reduceEq,Int.reduceNeg,Nat.reduceAdd,Nat.reduceLeDiff,g1,c1,bne_self_eq_false, Int.reduceBEq, Int.reduceBNe, Int.reduceLT, Int.reduceLE, Int.reduceGT, Int.reduceGE]))
  refine term_c (l := l) (D := D) (hk01.ok hf) (hI.keep hk01) ⟨d, w, rfl, hd.keep (keep_old hI hk01), hes.keep (keep_old hI hk01)⟩ hw hc hb hix fun s2 hk2 => ?_
  have hk02 := hk01.then hk2
  have n2 := hk2.next
  have g2 := (hk2.get s.next (by omega)).trans g1
  have z2 := (hk2.get (s.next + 1) (by omega)).trans z1
  have f2 : (s2.floor ≤ s.next + 1) = True := by rw [hk02.floor]; exact fl1
  have f20 : (s2.floor ≤ s.next) = True := by rw [hk02.floor]; simp; exact hf
  cases hT : (termO l.base.index l.base.term l.l ix).2
  · (repeat' (with_reducible first|refine w_1 ?_|refine w_2 ?_|refine w_3 ?_|refine w_4 ?_|refine w_5 ?_|refine w_6 ?_|refine w_7 ?_|(refine w_8 (fun hb=>?_) (fun hb=>?_)<;>try simp only [hb])|refine w_9 ?_|simp (maxDischargeDepth:=12) only [viz,↓reduceIte,Nat.reduceEqDiff,reduceCtorEq,Int.reduceEq,Int.reduceNeg,Nat.reduceAdd,Nat.reduceLeDiff,g2,z2,f2,bne_self_eq_false, Int.reduceBEq, Int.reduceBNe, Int.reduceLT, Int.reduceLE, Int.reduceGT, Int.reduceGE]))
    exact P0 _ _ (zero_ent _ _) (hk02.trans (Keep.put (by omega) _)) 12 (by simp [compOut, hL, hle, hT])
  obtain ⟨k, hk, hk0', hkl⟩ := fullCut hL hle hT
  have hout : compOut l ix = (compL l ix, 0) := by simp [compOut, hL, hle, hT]
  rw [hout] at hK
  have hlen := hw.len
  (repeat' (with_reducible first|refine w_1 ?_|refine w_2 ?_|refine w_3 ?_|refine w_4 ?_|refine w_5 ?_|refine w_6 ?_|refine w_7 ?_|(refine w_8 (fun hb=>?_) (fun hb=>?_)<;>try simp only [hb])|refine w_9 ?_|simp (maxDischargeDepth:=12) only [viz,↓reduceIte,Nat.reduceEqDiff,reduceCtorEq,Int.reduceEq,Int.reduceNeg,Nat.reduceAdd,Nat.reduceLeDiff,g2,bne_self_eq_false, Int.reduceBEq, Int.reduceBNe, Int.reduceLT, Int.reduceLE, Int.reduceGT, Int.reduceGE]))
  refine copied_c (l := l) (D := D) (hk02.ok hf) (hI.keep hk02) ⟨d, w, rfl, hd.keep (keep_old hI hk02), hes.keep (keep_old hI hk02)⟩ hw fun v3 s3 ho3 hk3 => ?_
  obtain ⟨d3, w3, rfl, hd3, hw3⟩ := ho3
  have hk03 := hk02.then hk3
  have n3 := hk3.next
  have g3 := (hk3.get s.next (by omega)).trans g2
  have z3 := (hk3.get (s.next + 1) (by omega)).trans z2
  have f3 : (s3.floor ≤ s.next) = True := by rw [hk03.floor]; simp; exact hf
  have f3' : (s3.floor ≤ s3.next) = True := by simp; exact hk03.ok hf
  have f3'' : (s3.floor ≤ s3.next + 1) = True := by simp; have := hk03.ok hf; omega
  have w1 : IntKind.u64.wrap (ix - l.base.index) = (k : Int) := by rw [wrap_u64 (by unfold InU at hix; omega)]; omega
  have w2 : IntKind.i64.wrap (k : Int) = (k : Int) := wrap_i64 (by unfold Fit at hlen; omega)
  have hc3 := hd3.cell
  have hcw3 := hw3.cell
  have q1 : (s.next = s3.next) = False := by simp; omega
  have q2 : (s.next + 1 = s3.next) = False := by simp; omega
  obtain ⟨xs3, hx3, hxe3⟩ := hw3.ents
  have hxl3 := hxe3.1
  obtain ⟨wa, hca, hwa⟩ := hx3.cut (lo := none) (hi := some k) (by simp) (by simp only [Option.getD_some]; omega)
  obtain ⟨wb, hcb, hwb⟩ := hx3.cut (lo := some k) (hi := none) (by simp only [Option.getD_some, Option.getD_none]; omega) (by simp)
  have hcwa := hwa.cell
  have hcwb := hwb.cell
  (repeat' (with_reducible first|refine w_1 ?_|refine w_2 ?_|refine w_3 ?_|refine w_4 ?_|refine w_5 ?_|refine w_6 ?_|refine w_7 ?_|(refine w_8 (fun hb=>?_) (fun hb=>?_)<;>try simp only [hb])|refine w_9 ?_|simp (maxDischargeDepth:=12) only [viz,↓reduceIte,Nat.reduceEqDiff,reduceCtorEq,Int.reduceEq,Int.reduceNeg,Nat.reduceAdd,Nat.reduceLeDiff,g3,f3,f3',f3'',w1,w2,hc3,cells_cell hc3,hcw3,cells_cell hcw3,hd.cell,hes.cell,q1,q2,bdA_some,bdV_nat,hca,hcwa,cells_cell hcwa]))
  generalize hP : Mem.push _ _ = P
  have nP : P.next = s3.next + 2 := by rw [← hP]; simp only [next_push', next_put']
  have oP : ∀ q, q ≠ s.next → q < s3.next → P.get q = s3.get q := fun q h1 h2 => by
    rw [← hP, Mem.get_push, if_neg (by simp only [next_push', next_put']; omega), Mem.get_push, if_neg (by simp only [next_put']; omega), Mem.get_put, if_neg h1]
  have flP : P.floor = s.floor := by rw [← hP]; exact hk03.floor
  have rP : P.get s.next = some ⟨28, 5, [[.int .u64 l.base.index, .int .u64 l.base.term, .int .i64 l.base.kind, d3, w3]]⟩ := by
    rw [← hP, Mem.get_push, if_neg (by simp only [next_push', next_put']; omega), Mem.get_push, if_neg (by simp only [next_put']; omega), Mem.get_put, if_pos rfl]
  have eP : P.get (s3.next + 1) = some ⟨25, 4, [[.int .u64 ix, .int .u64 (termO l.base.index l.base.term l.l ix).1, .int .i64 0, .nilS]]⟩ := by
    rw [← hP, Mem.get_push, if_pos (by simp only [next_push', next_put'])]
  have zP := (oP (s.next + 1) (by omega) (by omega)).trans z3
  clear hP
  have hkP : Keep s.next s P := ⟨by omega, flP, fun q hq => (oP q (by omega) (by omega)).trans (hk03.get q hq)⟩
  have dP : Byt P (fun q => s2.next ≤ q ∧ q < s3.next) d3 l.base.data := Sl.keep (hd3.mono fun q hq => ⟨hq.1, hq.2.1⟩) fun q hq => oP q (by omega) hq.2
  have hI3 : In (fun q => s2.next ≤ q ∧ q < s3.next) P := fun q hq => by rw [nP]; omega
  have hbs : cfgT l.base.data (l.l.take k) (l.l.take k).length = cfgT l.base.data l.l k := by
    rw [List.length_take, Nat.min_eq_left hkl]; exact cfgT_take (Nat.le_refl _)
  have hbf := cfgT_fit hw k
  refine voters_c (l := ⟨l.base, l.l.take k⟩) (D := fun q => s2.next ≤ q ∧ q < s3.next) (by rw [flP]; omega) hI3 ⟨d3, wa, rfl, dP, xs3.take k, Sl.keep (by simpa using hwa) fun q hq => oP q (by omega) hq.2, (hxe3.take k).keep fun q hq => oP q (by omega) hq.2⟩ ⟨hw.base, fun e he => hw.all e (List.mem_of_mem_take he), by show (l.l.take k).length < _; rw [List.length_take]; unfold Fit at hlen; omega⟩ fun v4 s4 ho4 hk4 => ?_
  replace ho4 : OwnL s4 P.next v4 3 1 (intsA .i64 (nodes (cfgT l.base.data l.l k))) := by rw [← hbs]; exact ho4
  generalize hbsv : cfgT l.base.data l.l k = bs at ho4 hbf
  have hs4 : Sl s4 (fun q => P.next ≤ q ∧ q < s4.next) v4 1 (intsA .i64 (nodes bs)) := ho4.sl (intsA_sz _ _) fun q n h => ho4.row q 0 n 1 h
  have n4 := hk4.next
  have r4 := (hk4.get s.next (by omega)).trans rP
  have z4 := (hk4.get (s.next + 1) (by omega)).trans zP
  have e4 := (hk4.get (s3.next + 1) (by omega)).trans eP
  have fl4 : s4.floor = s.floor := hk4.floor.trans flP
  have hl4 : lenA false v4 = some bs.length := by rw [hs4.lenB, nodes_len]
  have hkk : (ix - l.base.index).toNat = k := by omega
  simp only [hl4]
  (repeat' (with_reducible first|refine w_1 ?_|refine w_2 ?_|refine w_3 ?_|refine w_4 ?_|refine w_5 ?_|refine w_6 ?_|refine w_7 ?_|(refine w_8 (fun hb=>?_) (fun hb=>?_)<;>try simp only [hb])|refine w_9 ?_|simp (maxDischargeDepth:=12) only [viz,↓reduceIte,Nat.reduceEqDiff,reduceCtorEq,Int.reduceEq,Int.reduceNeg,Nat.reduceAdd,Nat.reduceLeDiff]))
  refine W_inv bs.length (fun i e s' => e.get 53 = .int .i64 i ∧ s4.next ≤ s'.next ∧ s'.floor = s4.floor ∧ (∀ q, q < s4.next → q ≠ s3.next + 1 → s'.get q = s4.get q) ∧ ∃ dv, s'.get (s3.next + 1) = some ⟨25, 4, [[.int .u64 ix, .int .u64 (termO l.base.index l.base.term l.l ix).1, .int .i64 0, dv]]⟩ ∧ OwnL s' s4.next dv 5 1 ((bs.take i).map byteC)) (by delta cf69l0 oo on om og oc ou; exact rfl) ?_ ?_
  · exact ⟨by simp only [Env.get_set, ↓reduceIte]; rfl, Nat.le_refl _, rfl, fun _ _ _ => rfl, .nilS, e4, OwnL.nil _ _ _ _⟩
  · rintro i e s' hi hT ⟨g53, nx, fl', old, dv, ge, ho⟩
    have g51 := hT 51 rfl
    have g52 := hT 52 rfl
    have g10 := hT 10 rfl
    have g2' := hT 2 rfl
    have g4' := hT 4 rfl
    have g8 := hT 8 rfl
    simp only [Env.get_set, ↓reduceIte, Nat.reduceEqDiff, Env.start, Env.ofList] at g51 g52 g10 g2' g4' g8
    clear hT
    have hs' : Sl s' (fun q => P.next ≤ q ∧ q < s4.next) v4 1 (intsA .i64 (nodes bs)) := hs4.keep fun q hq => old q hq.2 (by omega)
    have hI' : In (fun q => P.next ≤ q ∧ q < s4.next) s' := fun q hq => by omega
    have hcd : isCell dv = true := ownl_cell ho
    by_cases hlt : i < bs.length
    · obtain ⟨b, hb⟩ := get_of hlt
      obtain ⟨p, hp, P'⟩ := hs'.atkB hI' (nodes_get hb)
      have ld : loadA s' false 1 p = some (.int .i64 (b.toNat : Int)) := by rw [P'.ld _ (Keep.refl _ _)]; exact rfl
      (repeat' (with_reducible first|refine w_1 ?_|refine w_2 ?_|refine w_3 ?_|refine w_4 ?_|refine w_5 ?_|refine w_6 ?_|refine w_7 ?_|(refine w_8 (fun hb=>?_) (fun hb=>?_)<;>try simp only [hb])|refine w_9 ?_|simp (maxDischargeDepth:=12) only [viz,↓reduceIte,Nat.reduceEqDiff,reduceCtorEq,Int.reduceEq,Int.reduceNeg,Nat.reduceAdd,Nat.reduceLeDiff,g51,g52,g10,g53,lt_true hlt,hp,ld,ge,wrap_u8]))
      refine app_lit (v := dv) (k := 1) (b := s4.next) (xs := (bs.take i).map byteC) (by rw [fl', fl4]; omega) nx ho (by simp only [ev, Env.get_set, ↓reduceIte, Nat.reduceEqDiff]) (by simp only [ev, Env.get_set, ↓reduceIte, Nat.reduceEqDiff]) rfl rfl (room (by simp only [List.length_map, List.length_take, List.length_singleton]; unfold Fit at hbf; omega) (by simp only [List.length_map, List.length_take, List.length_singleton]; unfold Fit at hbf; omega)) ?_
      intro v5 s5 ho5 hx5 _ _
      have e5 : (bs.take i).map byteC ++ [[.int .u8 (b.toNat : Int)]] = (bs.take (i + 1)).map byteC := by rw [map_next hb]; rfl
      rw [e5] at ho5
      have hc5 := ownl_cell ho5
      have n5 := hx5.next
      have o5 : ∀ q, q < s4.next → s5.get q = s'.get q := fun q hq => hx5.get q (by omega) fun i n z h => by have := ho.row q i n z h; omega
      have ge5 := (o5 (s3.next + 1) (by omega)).trans ge
      have f5 : (s5.floor ≤ s3.next + 1) = True := by rw [hx5.floor, fl', fl4]; simp; omega
      (repeat' (with_reducible first|refine w_1 ?_|refine w_2 ?_|refine w_3 ?_|refine w_4 ?_|refine w_5 ?_|refine w_6 ?_|refine w_7 ?_|(refine w_8 (fun hb=>?_) (fun hb=>?_)<;>try simp only [hb])|refine w_9 ?_|simp (maxDischargeDepth:=12) only [viz,↓reduceIte,Nat.reduceEqDiff,reduceCtorEq,Int.reduceEq,Int.reduceNeg,Nat.reduceAdd,Nat.reduceLeDiff,g51,g52,g10,g53,ge5,f5,hc5,cells_cell hc5]))
      exact ⟨hlt, succ_av (by unfold Fit at hbf; omega), by show s4.next ≤ s5.next; omega, hx5.floor.trans fl', fun q hq hne => by rw [if_neg hne]; exact (o5 q hq).trans (old q hq hne), v5, rfl, ownl_put ho5 (by omega)⟩
    · rw [List.take_of_length_le (by omega)] at ho
      have r' := (old s.next (by omega) (by omega)).trans r4
      have z' := (old (s.next + 1) (by omega) (by omega)).trans z4
      have f' : (s'.floor ≤ s.next + 1) = True := by rw [fl', fl4]; exact fl1
      (repeat' (with_reducible first|refine w_1 ?_|refine w_2 ?_|refine w_3 ?_|refine w_4 ?_|refine w_5 ?_|refine w_6 ?_|refine w_7 ?_|(refine w_8 (fun hb=>?_) (fun hb=>?_)<;>try simp only [hb])|refine w_9 ?_|simp (maxDischargeDepth:=12) only [viz,↓reduceIte,Nat.reduceEqDiff,reduceCtorEq,Int.reduceEq,Int.reduceNeg,Nat.reduceAdd,Nat.reduceLeDiff,g51,g52,g10,g53,g2',g4',g8,lt_false hlt,ge,r',z',f',hcd,cells_cell hcd,bdA_some,bdV_nat,hcb,hcwb,cells_cell hcwb,bne_self_eq_false, Int.reduceBEq, Int.reduceBNe, Int.reduceLT, Int.reduceLE, Int.reduceGT, Int.reduceGE]))
      have gk : ∀ x q, s2.next ≤ q → q < s3.next → (s'.put (s.next + 1) x).get q = s3.get q := fun x q h1 h2 => by
        rw [Mem.get_put, if_neg (by omega), old q (by omega) (by omega), hk4.get q (by omega), oP q (by omega) h2]
      have gn : ∀ x q, s4.next ≤ q → (s'.put (s.next + 1) x).get q = s'.get q := fun x q h1 => by rw [Mem.get_put, if_neg (by omega)]
      have hcl : compL l ix = ⟨⟨ix, (termO l.base.index l.base.term l.l ix).1, 0, bs⟩, l.l.drop k⟩ := by unfold compL; rw [hkk, hbsv]
      rw [hcl] at hK
      refine hK _ _ ⟨dv, wb, rfl, ?_, xs3.drop k, ?_, ?_⟩ ⟨by show s.next ≤ s'.next; omega, by show s'.floor = s.floor; rw [fl', fl4], fun q hq => ?_⟩
      · exact ((ho.sl (D := fun q => s4.next ≤ q ∧ q < s'.next) (byteC_len _) fun q n h => ho.row q 0 n 1 h).keep fun q hq => gn _ q hq.1).mono fun q hq => .inr ⟨by omega, hq.2⟩
      · have : Sl s3 (fun q => s2.next ≤ q ∧ q < s3.next) wb 4 (xs3.drop k) := by simpa using hwb
        exact (this.keep fun q hq => gk _ q hq.1 hq.2).mono fun q hq => .inr ⟨by omega, by show q < s'.next; omega⟩
      · exact ((hxe3.drop k).keep fun q hq => gk _ q hq.1 hq.2).mono fun q hq => .inr ⟨by omega, by show q < s'.next; omega⟩
      · rw [Mem.get_put, if_neg (by omega), old q (by omega) (by omega), hk4.get q (by omega)]
        exact hkP.get q hq
set_option maxRecDepth 100000 in
theorem rcompact_c {l : Log} {ix : Int} {D : Nat → Prop} {s : Mem} {v : AV} {K : AV → Mem → Prop} (hf : s.floor ≤ s.next) (hI : In D s) (hv : LogV s D v l) (hw : l.Wf) (hix : InU ix)
    (hK : ∀ v' s', LogV s' (NewD D s.next s'.next) v' (compOut l ix).1 → Keep s.next s s' → K (.tup [v', .int .i64 (compOut l ix).2]) s') : C tab 74 [v, .int .u64 ix] s K := by
  obtain ⟨d, w, rfl, hd, hes⟩ := hv
  have hbi := hw.base.index
  refine C_enter (cf := cf74) rfl (Nat.le_of_ble_eq_true rfl) ?_
  simp only [cf74, oo, on, om, og, oc, ou]
  have fl1 : (s.floor ≤ s.next + 1) = True := by simp; omega
  (repeat' (with_reducible first|refine w_1 ?_|refine w_2 ?_|refine w_3 ?_|refine w_4 ?_|refine w_5 ?_|refine w_6 ?_|refine w_7 ?_|(refine w_8 (fun hb=>?_) (fun hb=>?_)<;>try simp only [hb])|refine w_9 ?_|simp (maxDischargeDepth:=12) only [viz,↓reduceIte,Nat.reduceEqDiff,reduceCtorEq,Int.reduceEq,Int.reduceNeg,Nat.reduceAdd,Nat.reduceLeDiff,hd.cell,hes.cell,hf,fl1]))
  have hk0 := (pushes s ⟨28, 5, [[.int .u64 l.base.index, .int .u64 l.base.term, .int .i64 l.base.kind, d, w]]⟩).then (pushes _ ⟨28, 5, [[.int .u64 0, .int .u64 0, .int .i64 0, .nilS, .nilS]]⟩)
  have P0 : ∀ v' s', LogV s' (NewD D s.next s'.next) v' zeroL → Keep s.next s s' → ∀ c, compOut l ix = (zeroL, c) → K (.tup [v', .int .i64 c]) s' := fun v' s' h1 h2 c h3 => by have := hK v' s'; rw [h3] at this; exact this h1 h2
  refine may_c (l := l) (D := D) (hk0.ok hf) (hI.keep hk0) ⟨d, w, rfl, hd.keep (keep_old hI hk0), hes.keep (keep_old hI hk0)⟩ hw fun s1 hk1 => ?_
  have hk01 := hk0.then hk1
  have n1 := hk1.next
  simp only [next_push'] at n1
  have g1 : s1.get s.next = some ⟨28, 5, [[.int .u64 l.base.index, .int .u64 l.base.term, .int .i64 l.base.kind, d, w]]⟩ := by
    rw [hk1.get _ (by simp only [next_push']; omega), Mem.get_push, if_neg (by simp only [next_push']; omega), Mem.get_push, if_pos rfl]
  have z1 : s1.get (s.next + 1) = some ⟨28, 5, [[.int .u64 0, .int .u64 0, .int .i64 0, .nilS, .nilS]]⟩ := by
    rw [hk1.get _ (by simp only [next_push']; omega), Mem.get_push, if_pos (by simp only [next_push'])]
  have f1 : (s1.floor ≤ s.next + 1) = True := by rw [hk01.floor]; exact fl1
  cases hL : logOk l
  · (repeat' (with_reducible first|refine w_1 ?_|refine w_2 ?_|refine w_3 ?_|refine w_4 ?_|refine w_5 ?_|refine w_6 ?_|refine w_7 ?_|(refine w_8 (fun hb=>?_) (fun hb=>?_)<;>try simp only [hb])|refine w_9 ?_|simp (maxDischargeDepth:=12) only [viz,↓reduceIte,Nat.reduceEqDiff,reduceCtorEq,Int.reduceEq,Int.reduceNeg,Nat.reduceAdd,Nat.reduceLeDiff,g1,z1,f1,bne_self_eq_false, Int.reduceBEq, Int.reduceBNe, Int.reduceLT, Int.reduceLE, Int.reduceGT, Int.reduceGE]))
    exact P0 _ _ (zero_ent _ _) (hk01.trans (Keep.put (by omega) _)) 1 (by simp [compOut, hL])
  by_cases hle : ix ≤ l.base.index
  · have c1 : decide (ix ≤ l.base.index) = true := by simp [hle]
    (repeat' (with_reducible first|refine w_1 ?_|refine w_2 ?_|refine w_3 ?_|refine w_4 ?_|refine w_5 ?_|refine w_6 ?_|refine w_7 ?_|(refine w_8 (fun hb=>?_) (fun hb=>?_)<;>try simp only [hb])|refine w_9 ?_|simp (maxDischargeDepth:=12) only [viz,↓reduceIte,Nat.reduceEqDiff,reduceCtorEq,Int.reduceEq,Int.reduceNeg,Nat.reduceAdd,Nat.reduceLeDiff,g1,z1,f1,c1,bne_self_eq_false, Int.reduceBEq, Int.reduceBNe, Int.reduceLT, Int.reduceLE, Int.reduceGT, Int.reduceGE]))
    exact P0 _ _ (zero_ent _ _) (hk01.trans (Keep.put (by omega) _)) 7 (by simp [compOut, hL, hle])
  have c1 : decide (ix ≤ l.base.index) = false := by simp [hle]
  obtain ⟨hc, hb⟩ := logOk_cons hL
  (repeat' (with_reducible first|refine w_1 ?_|refine w_2 ?_|refine w_3 ?_|refine w_4 ?_|refine w_5 ?_|refine w_6 ?_|refine w_7 ?_|(refine w_8 (fun hb=>?_) (fun hb=>?_)<;>try simp only [hb])|refine w_9 ?_|simp (maxDischargeDepth:=12) only [viz,↓reduceIte,Nat.reduceEqDiff,reduceCtorEq,Int.reduceEq,Int.reduceNeg,Nat.reduceAdd,Nat.reduceLeDiff,g1,c1,bne_self_eq_false, Int.reduceBEq, Int.reduceBNe, Int.reduceLT, Int.reduceLE, Int.reduceGT, Int.reduceGE]))
  refine rterm_c (l := l) (D := D) (hk01.ok hf) (hI.keep hk01) ⟨d, w, rfl, hd.keep (keep_old hI hk01), hes.keep (keep_old hI hk01)⟩ hw.len fun s2 hk2 => ?_
  have hk02 := hk01.then hk2
  have n2 := hk2.next
  have g2 := (hk2.get s.next (by omega)).trans g1
  have z2 := (hk2.get (s.next + 1) (by omega)).trans z1
  have f2 : (s2.floor ≤ s.next + 1) = True := by rw [hk02.floor]; exact fl1
  have f22 : (s2.floor ≤ s2.next) = True := by simp; exact hk02.ok hf
  cases hT : (termO l.base.index l.base.term l.l ix).2
  · (repeat' (with_reducible first|refine w_1 ?_|refine w_2 ?_|refine w_3 ?_|refine w_4 ?_|refine w_5 ?_|refine w_6 ?_|refine w_7 ?_|(refine w_8 (fun hb=>?_) (fun hb=>?_)<;>try simp only [hb])|refine w_9 ?_|simp (maxDischargeDepth:=12) only [viz,↓reduceIte,Nat.reduceEqDiff,reduceCtorEq,Int.reduceEq,Int.reduceNeg,Nat.reduceAdd,Nat.reduceLeDiff,g2,z2,f2,bne_self_eq_false, Int.reduceBEq, Int.reduceBNe, Int.reduceLT, Int.reduceLE, Int.reduceGT, Int.reduceGE]))
    exact P0 _ _ (zero_ent _ _) (hk02.trans (Keep.put (by omega) _)) 12 (by simp [compOut, hL, hle, hT])
  obtain ⟨k, hk, hk0', hkl⟩ := fullCut hL hle hT
  have hout : compOut l ix = (compL l ix, 0) := by simp [compOut, hL, hle, hT]
  rw [hout] at hK
  have hlen := hw.len
  have hkk : (ix - l.base.index).toNat = k := by omega
  (repeat' (with_reducible first|refine w_1 ?_|refine w_2 ?_|refine w_3 ?_|refine w_4 ?_|refine w_5 ?_|refine w_6 ?_|refine w_7 ?_|(refine w_8 (fun hb=>?_) (fun hb=>?_)<;>try simp only [hb])|refine w_9 ?_|simp (maxDischargeDepth:=12) only [viz,↓reduceIte,Nat.reduceEqDiff,reduceCtorEq,Int.reduceEq,Int.reduceNeg,Nat.reduceAdd,Nat.reduceLeDiff,g2,f22,hd.cell,cells_cell hd.cell,bne_self_eq_false, Int.reduceBEq, Int.reduceBNe, Int.reduceLT, Int.reduceLE, Int.reduceGT, Int.reduceGE]))
  generalize hP : Mem.push _ _ = P
  have nP : P.next = s2.next + 1 := by rw [← hP]; simp only [next_push']
  have hkP2 : Keep s2.next s2 P := by rw [← hP]; exact pushes _ _
  have tP : P.get s2.next = some ⟨28, 5, [[.int .u64 ix, .int .u64 (termO l.base.index l.base.term l.l ix).1, .int .i64 0, d, .nilS]]⟩ := by rw [← hP, Mem.get_push, if_pos rfl]
  clear hP
  have hkP := hk02.then hkP2
  have gP := (hkP2.get s.next (by omega)).trans g2
  have zP := (hkP2.get (s.next + 1) (by omega)).trans z2
  have flP : P.floor = s.floor := hkP.floor
  have hesP := hes.keep (keep_old hI hkP)
  have hdP := hd.keep (keep_old hI hkP)
  have hIP := hI.keep hkP
  refine W_inv l.l.length (fun i e s' => e.get 9 = .int .i64 i ∧ P.next ≤ s'.next ∧ s'.floor = P.floor ∧ (∀ q, q < P.next → q ≠ s2.next → s'.get q = P.get q) ∧ ∃ dv lv xs, s'.get s2.next = some ⟨28, 5, [[.int .u64 ix, .int .u64 (termO l.base.index l.base.term l.l ix).1, .int .i64 0, dv, lv]]⟩ ∧ isCell dv = true ∧ Byt s' D dv (cfgT l.base.data l.l (min i k)) ∧ OwnL s' P.next lv 25 4 xs ∧ EntsC s' D xs ((l.l.take i).drop k)) (by delta cf74l0 oo on om og oc ou; exact rfl) ?_ ?_
  · refine ⟨by simp only [Env.get_set, ↓reduceIte]; rfl, Nat.le_refl _, rfl, fun _ _ _ => rfl, d, .nilS, [], tP, hd.cell, ?_, OwnL.nil _ _ _ _, ?_⟩
    · simpa [cfgT] using hdP
    · simpa using EntsC.nil _ _
  · rintro i e s' hi hT' ⟨g9, nx, fl', old, dv, lv, xs, gt, hcd, hbd, ho, hxe⟩
    have h1 := hT' 1 rfl
    have h2 := hT' 2 rfl
    have h4 := hT' 4 rfl
    have h8 := hT' 8 rfl
    simp only [Env.get_set, ↓reduceIte, Nat.reduceEqDiff, Env.start, Env.ofList] at h1 h2 h4 h8
    clear hT'
    have hD' : ∀ q, D q → s'.get q = P.get q := fun q hq => old q (hIP q hq) (by have := hI q hq; omega)
    have hes' := hesP.keep hD'
    have hI' : In D s' := fun q hq => by have := hI q hq; omega
    have g' := (old s.next (by omega) (by omega)).trans gP
    have hcl := ownl_cell ho
    have f2' : (s'.floor ≤ s2.next) = True := by rw [fl', flP]; simp; omega
    have hlenw : lenA false w = some l.l.length := hes.len
    by_cases hlt : i < l.l.length
    · obtain ⟨x, hx⟩ := get_of hlt
      obtain ⟨dx, p, hp, P', hdx⟩ := hes'.atk hI' hx
      have hxi := hc i x hx
      by_cases hik : i < k
      · have c2 : decide (x.index > ix) = false := by simp; omega
        have hm : min (i + 1) k = min i k + 1 := by omega
        have hmi : min i k = i := by omega
        have hE : ∀ M, EntsC M D [] ((l.l.take (i + 1)).drop k) := fun M => by
          have : (l.l.take (i + 1)).drop k = [] := List.drop_eq_nil_of_le (by rw [List.length_take]; omega)
          rw [this]; exact EntsC.nil _ _
        have hxs : xs = [] := by
          have := hxe.1
          rw [List.length_drop, List.length_take] at this
          exact List.eq_nil_of_length_eq_zero (by omega)
        subst hxs
        by_cases hk2 : x.kind = 2
        · have c3 : (x.kind == 2) = true := by simp [hk2]
          (repeat' (with_reducible first|refine w_1 ?_|refine w_2 ?_|refine w_3 ?_|refine w_4 ?_|refine w_5 ?_|refine w_6 ?_|refine w_7 ?_|(refine w_8 (fun hb=>?_) (fun hb=>?_)<;>try simp only [hb])|refine w_9 ?_|simp (maxDischargeDepth:=12) only [viz,↓reduceIte,Nat.reduceEqDiff,reduceCtorEq,Int.reduceEq,Int.reduceNeg,Nat.reduceAdd,Nat.reduceLeDiff,h1,h2,h8,g9,g',hlenw,lt_true hlt,hp,P'.adr,P'.ldf,P'.ld,Nat.zero_le,c2,c3,gt,f2',hdx.cell,cells_cell hdx.cell,hcd,hcl]))
          refine ⟨hlt, succ_av (by unfold Fit at hlen; omega), nx, fl', fun q hq hne => by rw [if_neg hne]; exact old q hq hne, dx, lv, [], rfl, hdx.cell, ?_, ownl_put ho (by omega), hE _⟩
          rw [hm, hmi, cfgT_succ hx, if_pos hk2]
          exact hdx.keep fun q hq => by rw [Mem.get_put, if_neg (by have := hI q hq; omega)]
        · have c3 : (x.kind == 2) = false := by simp [hk2]
          (repeat' (with_reducible first|refine w_1 ?_|refine w_2 ?_|refine w_3 ?_|refine w_4 ?_|refine w_5 ?_|refine w_6 ?_|refine w_7 ?_|(refine w_8 (fun hb=>?_) (fun hb=>?_)<;>try simp only [hb])|refine w_9 ?_|simp (maxDischargeDepth:=12) only [viz,↓reduceIte,Nat.reduceEqDiff,reduceCtorEq,Int.reduceEq,Int.reduceNeg,Nat.reduceAdd,Nat.reduceLeDiff,h1,h2,h8,g9,g',hlenw,lt_true hlt,hp,P'.adr,P'.ldf,P'.ld,Nat.zero_le,c2,c3,gt,f2',hdx.cell,cells_cell hdx.cell,hcd,hcl]))
          refine ⟨hlt, succ_av (by unfold Fit at hlen; omega), nx, fl', old, dv, lv, [], rfl, hcd, ?_, ho, hE _⟩
          rw [hm, hmi, cfgT_succ hx, if_neg hk2]
          rw [hmi] at hbd; exact hbd
      · have c2 : decide (x.index > ix) = true := by simp; omega
        have hm : min (i + 1) k = min i k := by omega
        (repeat' (with_reducible first|refine w_1 ?_|refine w_2 ?_|refine w_3 ?_|refine w_4 ?_|refine w_5 ?_|refine w_6 ?_|refine w_7 ?_|(refine w_8 (fun hb=>?_) (fun hb=>?_)<;>try simp only [hb])|refine w_9 ?_|simp (maxDischargeDepth:=12) only [viz,↓reduceIte,Nat.reduceEqDiff,reduceCtorEq,Int.reduceEq,Int.reduceNeg,Nat.reduceAdd,Nat.reduceLeDiff,h1,h2,h8,g9,g',hlenw,lt_true hlt,hp,P'.adr,P'.ldf,P'.ld,Nat.zero_le,c2,gt,f2',hdx.cell,cells_cell hdx.cell,hcd,hcl]))
        refine app_lit (v := lv) (k := 1) (b := P.next) (xs := xs) (by rw [fl', flP]; omega) nx ho (by simp only [ev, Env.get_set, ↓reduceIte, Nat.reduceEqDiff]) (by simp only [ev, Env.get_set, ↓reduceIte, Nat.reduceEqDiff]) rfl rfl (room (by have := hxe.1; rw [List.length_drop, List.length_take] at this; simp only [List.length_singleton]; unfold Fit at hlen; omega) (by have := hxe.1; rw [List.length_drop, List.length_take] at this; simp only [List.length_singleton]; unfold Fit at hlen; omega)) ?_
        intro v5 s5 ho5 hx5 _ _
        have hc5 := ownl_cell ho5
        have n5 := hx5.next
        have o5 : ∀ q, q < P.next → s5.get q = s'.get q := fun q hq => hx5.get q (by omega) fun i n z h => by have := ho.row q i n z h; omega
        have gt5 := (o5 s2.next (by omega)).trans gt
        have f5 : (s5.floor ≤ s2.next) = True := by rw [hx5.floor]; exact f2'
        (repeat' (with_reducible first|refine w_1 ?_|refine w_2 ?_|refine w_3 ?_|refine w_4 ?_|refine w_5 ?_|refine w_6 ?_|refine w_7 ?_|(refine w_8 (fun hb=>?_) (fun hb=>?_)<;>try simp only [hb])|refine w_9 ?_|simp (maxDischargeDepth:=12) only [viz,↓reduceIte,Nat.reduceEqDiff,reduceCtorEq,Int.reduceEq,Int.reduceNeg,Nat.reduceAdd,Nat.reduceLeDiff,h1,h2,h8,g9,gt5,f5,hc5,cells_cell hc5]))
        have hDM : ∀ x q, D q → (s5.put s2.next x).get q = s'.get q := fun x q hq => by
          have := hI q hq
          rw [Mem.get_put, if_neg (by omega), o5 q (by omega)]
        have hdr : (l.l.take (i + 1)).drop k = (l.l.take i).drop k ++ [x] := by
          rw [take_snoc hx, List.drop_append_of_le_length (by rw [List.length_take]; omega)]
        refine ⟨hlt, succ_av (by unfold Fit at hlen; omega), by show P.next ≤ s5.next; omega, hx5.floor.trans fl', fun q hq hne => by rw [if_neg hne]; exact (o5 q hq).trans (old q hq hne), dv, v5, _, rfl, hcd, ?_, ownl_put ho5 (by omega), ?_⟩
        · rw [hm]; exact hbd.keep fun q hq => hDM _ q hq
        · rw [hdr]; exact EntsC.append (hxe.keep fun q hq => hDM _ q hq) (EntsC.one ⟨dx, rfl, hdx.keep fun q hq => hDM _ q hq⟩)
    · have z' := (old (s.next + 1) (by omega) (by omega)).trans zP
      have fz : (s'.floor ≤ s.next + 1) = True := by rw [fl', flP]; exact fl1
      (repeat' (with_reducible first|refine w_1 ?_|refine w_2 ?_|refine w_3 ?_|refine w_4 ?_|refine w_5 ?_|refine w_6 ?_|refine w_7 ?_|(refine w_8 (fun hb=>?_) (fun hb=>?_)<;>try simp only [hb])|refine w_9 ?_|simp (maxDischargeDepth:=12) only [viz,↓reduceIte,Nat.reduceEqDiff,reduceCtorEq,Int.reduceEq,Int.reduceNeg,Nat.reduceAdd,Nat.reduceLeDiff,h1,h2,h4,h8,g9,g',hlenw,lt_false hlt,gt,z',fz,hcd,hcl,cells_cell hcd,cells_cell hcl]))
      have hie : i = l.l.length := by omega
      have hmk : min i k = k := by omega
      rw [hmk] at hbd
      rw [hie, List.take_length] at hxe
      have hcl2 : compL l ix = ⟨⟨ix, (termO l.base.index l.base.term l.l ix).1, 0, cfgT l.base.data l.l k⟩, l.l.drop k⟩ := by unfold compL; rw [hkk]
      rw [hcl2] at hK
      have hDM : ∀ x q, D q → (s'.put (s.next + 1) x).get q = s'.get q := fun x q hq => by
        have := hI q hq
        rw [Mem.get_put, if_neg (by omega)]
      refine hK _ _ ⟨dv, lv, rfl, (hbd.keep fun q hq => hDM _ q hq).mono fun q hq => .inl hq, xs, ?_, (hxe.keep fun q hq => hDM _ q hq).mono fun q hq => .inl hq⟩ ⟨by show s.next ≤ s'.next; omega, by show s'.floor = s.floor; rw [fl', flP], fun q hq => ?_⟩
      · exact ((ho.sl (D := fun q => P.next ≤ q ∧ q < s'.next) hxe.sizes fun q n h => ho.row q 0 n 4 h).keep fun q hq => by rw [Mem.get_put, if_neg (by omega)]).mono fun q hq => .inr ⟨by omega, hq.2⟩
      · rw [Mem.get_put, if_neg (by omega), old q (by omega) (by omega)]
        exact hkP.get q hq
end Go.Proofs.YtfllmhjjfapnmaaGreat
/- States cut behind a snapshot. No statement of the seat is proved here. -/
namespace Go.Proofs.YtfllmhjjfapnmaaGreat
open Go Go.VI
set_option linter.unusedSimpArgs false
attribute [local irreducible] Ws Wp W C
set_option maxHeartbeats 4000000
def compR (r : Raft) (ix : Int) : Raft := { r with log := compL r.log ix }
def compRO (r : Raft) (ix : Int) : Raft × Int := if !stOk r then (zeroR, 1) else if r.commit < ix ∨ ix ≤ r.log.base.index then (zeroR, 7) else (compR r ix, 0)
theorem termO_at {b t ix : Int} {es : List Entry} (hc : Cons b es) (h1 : b < ix) (h2 : ix ≤ b + es.length) : ∃ x, es[(ix - b - 1).toNat]? = some x ∧ termO b t es ix = (x.term, true) := by
  obtain ⟨x, hx⟩ := get_of (l := es) (i := (ix - b - 1).toNat) (by omega)
  refine ⟨x, hx, ?_⟩
  have hxi := hc _ x hx
  simp only [termO]
  rw [if_neg (by omega), show ix = x.index by omega, find_in hc hx]
theorem stOk_parts {r : Raft} (h : stOk r = true) : logOk r.log = true ∧ r.log.base.index ≤ r.commit ∧ r.commit ≤ (lastE r.log).index ∧ (lastE r.log).term ≤ r.term ∧ r.term ≤ 4611686018427387904 := by
  simp only [stOk, Bool.and_eq_true, decide_eq_true_eq] at h
  obtain ⟨⟨⟨⟨⟨⟨⟨⟨⟨⟨_, h2⟩, _⟩, _⟩, _⟩, _⟩, h7⟩, h8⟩, h9⟩, h10⟩, _⟩ := h
  exact ⟨h7, h9, h10, h8, h2⟩
theorem comp_ok {r : Raft} {ix : Int} (hst : stOk r = true) (h1 : ix ≤ r.commit) (h2 : ¬ ix ≤ r.log.base.index) : compOut r.log ix = (compL r.log ix, 0) := by
  obtain ⟨hL, _, hc2, _, _⟩ := stOk_parts hst
  obtain ⟨hc, _⟩ := logOk_cons hL
  have hl := lastE_index hc
  obtain ⟨x, _, hx⟩ := termO_at (t := r.log.base.term) hc (by omega : r.log.base.index < ix) (by omega)
  simp [compOut, hL, h2, hx]
theorem zr_raft (s' : Mem) (D : Nat → Prop) : RaftV s' D (.agg [.int .i64 0, .int .u64 0, .int .i64 0, .int .u64 0, .int .u64 0, .int .i64 0, .nilS, .nilS, .int .u64 0, .int .i64 0, .int .i64 0, .int .i64 0, .nilS, .nilS]) zeroR := ⟨_, rfl, .nilS, .nilS, .nilS, .nilS, rfl, Sl.nil _ _ _, ⟨[], Sl.nil _ _ _, EntsC.nil _ _⟩, Sl.nil _ _ _, Sl.nil _ _ _⟩
set_option maxRecDepth 100000 in
theorem raftCompact_c {r : Raft} {ix : Int} {D : Nat → Prop} {s : Mem} {v : AV} {K : AV → Mem → Prop} (hf : s.floor ≤ s.next) (hI : In D s) (hv : RaftV s D v r) (hw : r.Wf) (hix : InU ix)
    (hK : ∀ v' s', Keep s.next s s' → RaftV s' (Lt s'.next) v' (compRO r ix).1 → K (.tup [v', .int .i64 (compRO r ix).2]) s') : C tab 27 [v, .int .u64 ix] s K := by
  obtain ⟨d, w, vv, pv, rfl, hd, hl, hvv, hpv⟩ := raftC_row hv
  simp only [raftA]
  refine C_enter (cf := cf27) rfl (Nat.le_of_ble_eq_true rfl) ?_
  simp only [cf27, oo, on, om, og, oc, ou]
  have fl1 : (s.floor ≤ s.next + 1) = True := by simp; omega
  (repeat' (with_reducible first|refine w_1 ?_|refine w_2 ?_|refine w_3 ?_|refine w_4 ?_|refine w_5 ?_|refine w_6 ?_|refine w_7 ?_|(refine w_8 (fun hb=>?_) (fun hb=>?_)<;>try simp only [hb])|refine w_9 ?_|simp (maxDischargeDepth:=12) only [viz,↓reduceIte,Nat.reduceEqDiff,reduceCtorEq,Int.reduceEq,Int.reduceNeg,Nat.reduceAdd,Nat.reduceLeDiff,hd.cell,hl.cell,hvv.cell,hpv.cell,hf,fl1]))
  have hk0 := (pushes s (raftRow r d w vv pv)).then (pushes _ ⟨32, 14, [[.int .i64 0, .int .u64 0, .int .i64 0, .int .u64 0, .int .u64 0, .int .i64 0, .nilS, .nilS, .int .u64 0, .int .i64 0, .int .i64 0, .int .i64 0, .nilS, .nilS]]⟩)
  have hI0 := hI.keep hk0
  have hv0 : ∀ M, (∀ q, D q → M.get q = s.get q) → RaftV M D (raftA r d w vv pv) r := fun M hM => ⟨_, rfl, d, w, vv, pv, rfl, hd.keep hM, hl.keep hM, hvv.keep hM, hpv.keep hM⟩
  have P0 : ∀ v' s', RaftV s' (Lt s'.next) v' zeroR → Keep s.next s s' → ∀ c, compRO r ix = (zeroR, c) → K (.tup [v', .int .i64 c]) s' := fun v' s' h1 h2 c h3 => by have := hK v' s' h2; rw [h3] at this; exact this h1
  refine raftCheck_c (r := r) (D := D) (hk0.ok hf) hI0 (hv0 _ (keep_old hI hk0)) hw fun s1 hk1 => ?_
  have hk01 := hk0.then hk1
  have n1 := hk1.next
  simp only [next_push'] at n1
  have g1 : s1.get s.next = some (raftRow r d w vv pv) := by
    rw [hk1.get _ (by simp only [next_push']; omega), Mem.get_push, if_neg (by simp only [next_push']; omega), Mem.get_push, if_pos rfl]; rfl
  have z1 : s1.get (s.next + 1) = some ⟨32, 14, [[.int .i64 0, .int .u64 0, .int .i64 0, .int .u64 0, .int .u64 0, .int .i64 0, .nilS, .nilS, .int .u64 0, .int .i64 0, .int .i64 0, .int .i64 0, .nilS, .nilS]]⟩ := by
    rw [hk1.get _ (by simp only [next_push']; omega), Mem.get_push, if_pos (by simp only [next_push'])]
  have f1 : (s1.floor ≤ s.next + 1) = True := by rw [hk01.floor]; exact fl1
  simp only [raftRow] at g1
  cases hst : stOk r
  · simp only [Bool.false_eq_true, if_false]
    (repeat' (with_reducible first|refine w_1 ?_|refine w_2 ?_|refine w_3 ?_|refine w_4 ?_|refine w_5 ?_|refine w_6 ?_|refine w_7 ?_|(refine w_8 (fun hb=>?_) (fun hb=>?_)<;>try simp only [hb])|refine w_9 ?_|simp (maxDischargeDepth:=12) only [viz,↓reduceIte,Nat.reduceEqDiff,reduceCtorEq,Int.reduceEq,Int.reduceNeg,Nat.reduceAdd,Nat.reduceLeDiff,g1,z1,f1,bne_self_eq_false, Int.reduceBEq, Int.reduceBNe, Int.reduceLT, Int.reduceLE, Int.reduceGT, Int.reduceGE]))
    exact P0 _ _ (zr_raft _ _) (hk01.trans (Keep.put (by omega) _)) 1 (by simp [compRO, hst])
  simp only [if_true]
  obtain ⟨hL, hcb, _, _, _⟩ := stOk_parts hst
  have hgood := logOk_good hL hw.log
  (repeat' (with_reducible first|refine w_1 ?_|refine w_2 ?_|refine w_3 ?_|refine w_4 ?_|refine w_5 ?_|refine w_6 ?_|refine w_7 ?_|(refine w_8 (fun hb=>?_) (fun hb=>?_)<;>try simp only [hb])|refine w_9 ?_|simp (maxDischargeDepth:=12) only [viz,↓reduceIte,Nat.reduceEqDiff,reduceCtorEq,Int.reduceEq,Int.reduceNeg,Nat.reduceAdd,Nat.reduceLeDiff,g1,bne_self_eq_false, Int.reduceBEq, Int.reduceBNe, Int.reduceLT, Int.reduceLE, Int.reduceGT, Int.reduceGE]))
  refine compact_c (l := r.log) (D := D) (hk01.ok hf) (hI.keep hk01) ⟨d, w, rfl, hd.keep (keep_old hI hk01), hl.keep (keep_old hI hk01)⟩ hw.log hix fun v2 s2 hv2 hk2 => ?_
  have hk02 := hk01.then hk2
  have n2 := hk2.next
  have g2 := (hk2.get s.next (by omega)).trans g1
  have z2 := (hk2.get (s.next + 1) (by omega)).trans z1
  have f2 : (s2.floor ≤ s.next + 1) = True := by rw [hk02.floor]; exact fl1
  have f22 : (s2.floor ≤ s2.next) = True := by simp; exact hk02.ok hf
  obtain ⟨d2, w2, rfl, hd2, hw2⟩ := hv2
  have cd2 := hd2.cell
  have cw2 := hw2.cell
  have q1 : (s.next = s2.next) = False := by simp; omega
  have q2 : (s.next + 1 = s2.next) = False := by simp; omega
  have hkx := fun x => hk02.then (pushes s2 x)
  have hc9 : ∀ c : Int, c = 0 ∨ c = 1 ∨ c = 7 ∨ c = 12 → True := fun _ _ => trivial
  by_cases h1 : r.commit < ix
  · have c1 : decide (ix > r.commit) = true := by simp; omega
    (repeat' (with_reducible first|refine w_1 ?_|refine w_2 ?_|refine w_3 ?_|refine w_4 ?_|refine w_5 ?_|refine w_6 ?_|refine w_7 ?_|(refine w_8 (fun hb=>?_) (fun hb=>?_)<;>try simp only [hb])|refine w_9 ?_|simp (maxDischargeDepth:=12) only [viz,↓reduceIte,Nat.reduceEqDiff,reduceCtorEq,Int.reduceEq,Int.reduceNeg,Nat.reduceAdd,Nat.reduceLeDiff,g2,z2,f2,f22,q1,q2,cd2,cw2,c1,bne_self_eq_false, Int.reduceBEq, Int.reduceBNe, Int.reduceLT, Int.reduceLE, Int.reduceGT, Int.reduceGE]))
    exact P0 _ _ (zr_raft _ _) ((hkx _).trans (Keep.put (by omega) _)) 7 (by simp [compRO, hst, h1])
  have c1 : decide (ix > r.commit) = false := by simp; omega
  by_cases h2 : ix ≤ r.log.base.index
  · have e7 : (compOut r.log ix).2 = 7 := by simp [compOut, hL, h2]
    rw [e7]
    (repeat' (with_reducible first|refine w_1 ?_|refine w_2 ?_|refine w_3 ?_|refine w_4 ?_|refine w_5 ?_|refine w_6 ?_|refine w_7 ?_|(refine w_8 (fun hb=>?_) (fun hb=>?_)<;>try simp only [hb])|refine w_9 ?_|simp (maxDischargeDepth:=12) only [viz,↓reduceIte,Nat.reduceEqDiff,reduceCtorEq,Int.reduceEq,Int.reduceNeg,Nat.reduceAdd,Nat.reduceLeDiff,g2,z2,f2,f22,q1,q2,cd2,cw2,c1,bne_self_eq_false, Int.reduceBEq, Int.reduceBNe, Int.reduceLT, Int.reduceLE, Int.reduceGT, Int.reduceGE]))
    exact P0 _ _ (zr_raft _ _) ((hkx _).trans (Keep.put (by omega) _)) 7 (by simp [compRO, hst, h2])
  have hco := comp_ok hst (by omega) h2
  have hout : compRO r ix = (compR r ix, 0) := by simp [compRO, hst, h1, h2]
  rw [hout] at hK
  rw [hco] at hd2 hw2 ⊢
  simp only at hd2 hw2
  (repeat' (with_reducible first|refine w_1 ?_|refine w_2 ?_|refine w_3 ?_|refine w_4 ?_|refine w_5 ?_|refine w_6 ?_|refine w_7 ?_|(refine w_8 (fun hb=>?_) (fun hb=>?_)<;>try simp only [hb])|refine w_9 ?_|simp (maxDischargeDepth:=12) only [viz,↓reduceIte,Nat.reduceEqDiff,reduceCtorEq,Int.reduceEq,Int.reduceNeg,Nat.reduceAdd,Nat.reduceLeDiff,g2,z2,f2,f22,q1,q2,cd2,cw2,c1,bne_self_eq_false, Int.reduceBEq, Int.reduceBNe, Int.reduceLT, Int.reduceLE, Int.reduceGT, Int.reduceGE]))
  generalize hP : Mem.push _ _ = P
  have nP : P.next = s2.next + 1 := by rw [← hP]; simp only [next_push']
  have hkP2 : Keep s2.next s2 P := by rw [← hP]; exact pushes _ _
  have tP : P.get s2.next = some ⟨28, 5, [[.int .u64 (compL r.log ix).base.index, .int .u64 (compL r.log ix).base.term, .int .i64 (compL r.log ix).base.kind, d2, w2]]⟩ := by rw [← hP, Mem.get_push, if_pos rfl]
  clear hP
  have hkP := hk02.then hkP2
  refine rown_c (r := r) (D := D) (hkP.ok hf) (hI.keep hkP) (hv0 _ (keep_old hI hkP)) hw hgood fun g s3 d3 w3 vv3 pv3 hk3 hg3 hG3 => ?_
  have hk03 := hkP.then hk3
  have n3 := hk3.next
  have r3 := hG3.row
  simp only [grpRow] at r3
  have t3 := (hk3.get s2.next (by omega)).trans tP
  have z3 := (hk3.get (s.next + 1) (by omega)).trans ((hkP2.get (s.next + 1) (by omega)).trans z2)
  have f3 : (s3.floor ≤ s.next + 1) = True := by rw [hk03.floor]; exact fl1
  have f3g : (s3.floor ≤ g) = True := by simp [hG3.fl]
  have gt : (g = s2.next) = False := by simp; omega
  have gz : (g = s.next + 1) = False := by simp; omega
  have zg : (s.next + 1 = g) = False := by simp; omega
  have hN : ∀ q, NewD D s1.next s2.next q → gD g .nilS s3 q := fun q hq => by
    refine ⟨?_, ?_, fun _ _ _ h => by cases h⟩
    · rcases hq with h | h
      · have := hI q h; omega
      · omega
    · rcases hq with h | h
      · have := hI q h; omega
      · omega
  have hold : ∀ q, NewD D s1.next s2.next q → s3.get q = s2.get q := fun q hq => by
    have hq2 : q < s2.next := by
      rcases hq with h | h
      · have := hI q h; omega
      · omega
    rw [hk3.get q (by omega), hkP2.get q hq2]
  have key : ∀ M, Turn g s3 M → M.get g = some (grpRow (compR r ix) d2 w2 vv3 pv3 .nilS) → Grp g M (compR r ix) [] d2 w2 vv3 pv3 .nilS ∧ Went g .nilS s3 .nilS M := fun M hT hrM => hG3.set (compR r ix) hT hrM ((hd2.keep hold).mono hN) ((hw2.keep hold).mono hN) hG3.vv hG3.pv
  obtain ⟨hG4, hw4⟩ := key (s3.put g (some (grpRow (compR r ix) d2 w2 vv3 pv3 .nilS))) ⟨rfl, rfl, fun q hq => by simp only [Mem.get_put, if_neg hq]⟩ (by rw [Mem.get_put, if_pos rfl])
  (repeat' (with_reducible first|refine w_1 ?_|refine w_2 ?_|refine w_3 ?_|refine w_4 ?_|refine w_5 ?_|refine w_6 ?_|refine w_7 ?_|(refine w_8 (fun hb=>?_) (fun hb=>?_)<;>try simp only [hb])|refine w_9 ?_|simp (maxDischargeDepth:=12) only [viz,↓reduceIte,Nat.reduceEqDiff,reduceCtorEq,Int.reduceEq,Int.reduceNeg,Nat.reduceAdd,Nat.reduceLeDiff,r3,t3,z3,f3,f3g,gt,gz,zg,cd2,cw2,hG3.vv.cell,hG3.pv.cell,bne_self_eq_false, Int.reduceBEq, Int.reduceBNe, Int.reduceLT, Int.reduceLE, Int.reduceGT, Int.reduceGE]))
  generalize hQ : Mem.put _ _ _ = Q
  have hS : Swap (s.next + 1) (s3.put g (some (grpRow (compR r ix) d2 w2 vv3 pv3 .nilS))) Q := ⟨⟨_, _, (by rw [Mem.get_put, if_neg (by omega)]; exact z3), rfl⟩, ⟨32, _, by rw [← hQ, Mem.get_put, if_pos rfl]⟩, fun q hq => by rw [← hQ, Mem.get_put, if_neg hq]; rfl⟩
  obtain ⟨hf1, _⟩ := hG4.fin (z := s.next + 1) (s' := Q) (by omega) hS (by rw [← hQ]; rfl)
  have nQ : Q.next = s3.next := by rw [← hQ]; rfl
  refine hK _ _ ⟨by omega, by rw [← hQ]; exact hk03.floor, fun q hq => ?_⟩ hf1
  rw [← hQ, Mem.get_put, if_neg (by omega), Mem.get_put, if_neg (by omega)]
  exact hk03.get q hq
set_option maxRecDepth 100000 in
theorem rraftCompact_c {r : Raft} {ix : Int} {D : Nat → Prop} {s : Mem} {v : AV} {K : AV → Mem → Prop} (hf : s.floor ≤ s.next) (hI : In D s) (hv : RaftV s D v r) (hw : r.Wf) (hix : InU ix) (hst : stOk r = true)
    (hK : ∀ v' s', Keep s.next s s' → RaftV s' (NewD D s.next s'.next) v' (compRO r ix).1 → K (.tup [v', .int .i64 (compRO r ix).2]) s') : C tab 29 [v, .int .u64 ix] s K := by
  obtain ⟨d, w, vv, pv, rfl, hd, hl, hvv, hpv⟩ := raftC_row hv
  simp only [raftA]
  refine C_enter (cf := cf29) rfl (Nat.le_of_ble_eq_true rfl) ?_
  simp only [cf29, oo, on, om, og, oc, ou]
  have fl1 : (s.floor ≤ s.next + 1) = True := by simp; omega
  have hk0 := (pushes s (raftRow r d w vv pv)).then (pushes _ ⟨32, 14, [[.int .i64 0, .int .u64 0, .int .i64 0, .int .u64 0, .int .u64 0, .int .i64 0, .nilS, .nilS, .int .u64 0, .int .i64 0, .int .i64 0, .int .i64 0, .nilS, .nilS]]⟩)
  have P0 : ∀ v' s', RaftV s' (NewD D s.next s'.next) v' zeroR → Keep s.next s s' → ∀ c, compRO r ix = (zeroR, c) → K (.tup [v', .int .i64 c]) s' := fun v' s' h1 h2 c h3 => by have := hK v' s' h2; rw [h3] at this; exact this h1
  have kp : ∀ x y, Keep s.next s ((s.push x).push y) := fun x y => (pushes s x).trans (Keep.push (by simp only [next_push']; omega) y)
  by_cases h1 : r.commit < ix
  · have c1 : decide (ix > r.commit) = true := by simp; omega
    (repeat' (with_reducible first|refine w_1 ?_|refine w_2 ?_|refine w_3 ?_|refine w_4 ?_|refine w_5 ?_|refine w_6 ?_|refine w_7 ?_|(refine w_8 (fun hb=>?_) (fun hb=>?_)<;>try simp only [hb])|refine w_9 ?_|simp (maxDischargeDepth:=12) only [viz,↓reduceIte,Nat.reduceEqDiff,reduceCtorEq,Int.reduceEq,Int.reduceNeg,Nat.reduceAdd,Nat.reduceLeDiff,hd.cell,hl.cell,hvv.cell,hpv.cell,hf,fl1,c1,bne_self_eq_false, Int.reduceBEq, Int.reduceBNe, Int.reduceLT, Int.reduceLE, Int.reduceGT, Int.reduceGE]))
    exact P0 _ _ (zr_raft _ _) (kp _ _) 7 (by simp [compRO, hst, h1])
  have c1 : decide (ix > r.commit) = false := by simp; omega
  by_cases h2 : ix ≤ r.log.base.index
  · have c2 : decide (ix ≤ r.log.base.index) = true := by simp; omega
    (repeat' (with_reducible first|refine w_1 ?_|refine w_2 ?_|refine w_3 ?_|refine w_4 ?_|refine w_5 ?_|refine w_6 ?_|refine w_7 ?_|(refine w_8 (fun hb=>?_) (fun hb=>?_)<;>try simp only [hb])|refine w_9 ?_|simp (maxDischargeDepth:=12) only [viz,↓reduceIte,Nat.reduceEqDiff,reduceCtorEq,Int.reduceEq,Int.reduceNeg,Nat.reduceAdd,Nat.reduceLeDiff,hd.cell,hl.cell,hvv.cell,hpv.cell,hf,fl1,c1,c2,bne_self_eq_false, Int.reduceBEq, Int.reduceBNe, Int.reduceLT, Int.reduceLE, Int.reduceGT, Int.reduceGE]))
    exact P0 _ _ (zr_raft _ _) (kp _ _) 7 (by simp [compRO, hst, h2])
  have c2 : decide (ix ≤ r.log.base.index) = false := by simp; omega
  have hco := comp_ok hst (by omega) h2
  have hout : compRO r ix = (compR r ix, 0) := by simp [compRO, hst, h1, h2]
  rw [hout] at hK
  (repeat' (with_reducible first|refine w_1 ?_|refine w_2 ?_|refine w_3 ?_|refine w_4 ?_|refine w_5 ?_|refine w_6 ?_|refine w_7 ?_|(refine w_8 (fun hb=>?_) (fun hb=>?_)<;>try simp only [hb])|refine w_9 ?_|simp (maxDischargeDepth:=12) only [viz,↓reduceIte,Nat.reduceEqDiff,reduceCtorEq,Int.reduceEq,Int.reduceNeg,Nat.reduceAdd,Nat.reduceLeDiff,hd.cell,hl.cell,hvv.cell,hpv.cell,hf,fl1,c1,c2,bne_self_eq_false, Int.reduceBEq, Int.reduceBNe, Int.reduceLT, Int.reduceLE, Int.reduceGT, Int.reduceGE]))
  refine rcompact_c (l := r.log) (D := D) (hk0.ok hf) (hI.keep hk0) ⟨d, w, rfl, hd.keep (keep_old hI hk0), hl.keep (keep_old hI hk0)⟩ hw.log hix fun v1 s1 hv1 hk1 => ?_
  have hk01 := hk0.then hk1
  have n1 := hk1.next
  simp only [next_push'] at n1
  have g1 : s1.get s.next = some (raftRow r d w vv pv) := by
    rw [hk1.get _ (by simp only [next_push']; omega), Mem.get_push, if_neg (by simp only [next_push']; omega), Mem.get_push, if_pos rfl]; rfl
  have z1 : s1.get (s.next + 1) = some ⟨32, 14, [[.int .i64 0, .int .u64 0, .int .i64 0, .int .u64 0, .int .u64 0, .int .i64 0, .nilS, .nilS, .int .u64 0, .int .i64 0, .int .i64 0, .int .i64 0, .nilS, .nilS]]⟩ := by
    rw [hk1.get _ (by simp only [next_push']; omega), Mem.get_push, if_pos (by simp only [next_push'])]
  have f1 : (s1.floor ≤ s.next + 1) = True := by rw [hk01.floor]; exact fl1
  have f10 : (s1.floor ≤ s.next) = True := by rw [hk01.floor]; simp; exact hf
  simp only [raftRow] at g1
  rw [hco] at hv1 ⊢
  obtain ⟨d2, w2, rfl, hd2, hw2⟩ := hv1
  simp only at hd2 hw2
  (repeat' (with_reducible first|refine w_1 ?_|refine w_2 ?_|refine w_3 ?_|refine w_4 ?_|refine w_5 ?_|refine w_6 ?_|refine w_7 ?_|(refine w_8 (fun hb=>?_) (fun hb=>?_)<;>try simp only [hb])|refine w_9 ?_|simp (maxDischargeDepth:=12) only [viz,↓reduceIte,Nat.reduceEqDiff,reduceCtorEq,Int.reduceEq,Int.reduceNeg,Nat.reduceAdd,Nat.reduceLeDiff,g1,z1,f1,f10,hd2.cell,hw2.cell,hvv.cell,hpv.cell,bne_self_eq_false, Int.reduceBEq, Int.reduceBNe, Int.reduceLT, Int.reduceLE, Int.reduceGT, Int.reduceGE]))
  generalize hQ : Mem.put _ _ _ = Q
  have nQ : Q.next = s1.next := by rw [← hQ]; rfl
  have oQ : ∀ q, q ≠ s.next → q ≠ s.next + 1 → Q.get q = s1.get q := fun q h1 h2 => by rw [← hQ, Mem.get_put, if_neg h2, Mem.get_put, if_neg h1]
  have hkQ : Keep s.next s Q := ⟨by omega, by rw [← hQ]; exact hk01.floor, fun q hq => by rw [oQ q (by omega) (by omega)]; exact hk01.get q hq⟩
  have hN : ∀ q, NewD D (s.next + 1 + 1) s1.next q → Q.get q = s1.get q := fun q hq => by
    rcases hq with h | h
    · have := hI q h; exact oQ q (by omega) (by omega)
    · exact oQ q (by omega) (by omega)
  have hU : ∀ q, NewD D (s.next + 1 + 1) s1.next q → NewD D s.next Q.next q := NewD.up (by omega) (by omega)
  exact hK _ _ hkQ ⟨_, rfl, d2, w2, vv, pv, rfl, (Sl.keep hd2 hN).mono hU, (Ents.keep hw2 hN).mono hU, (hvv.keep (keep_old hI hkQ)).mono fun q h => .inl h, (hpv.keep (keep_old hI hkQ)).mono fun q h => .inl h⟩
end Go.Proofs.YtfllmhjjfapnmaaGreat

