/- Whose intents are taken out. No statement of the seat is proved here. -/
import Derived.Test.YthibbbfhkfebkaaVZTJ
import Derived.Test.YthibbbfhkfebkaaVZFA
import Derived.Test.YthibbbfhkfebkaaVZVE
namespace Go.Proofs.Ythibbbfhkfebkaa
open Go Go.VI
set_option linter.unusedSimpArgs false
structure Acc (rl rx : Nat) (c q : Int) (lv : AV) (acc : List Intent) (M : Mem) : Prop where
  x : M.get rx = some ⟨30, 2, [[.int .i64 c, .int .u64 q]]⟩
  l : M.get rl = some ⟨25, 1, [[lv]]⟩
  o : OwnL M (rl + 1) lv 46 6 (acc.map intC)
  n : rl < M.next
  f : M.floor ≤ rl
  h : rx < rl
  s : acc.length < 5000
theorem Acc.push {rl rx : Nat} {c q : Int} {lv : AV} {acc : List Intent} {M : Mem} (a : Acc rl rx c q lv acc M) (R : Row) : Acc rl rx c q lv acc (M.push R) := by
  have := a.n; have := a.h
  exact ⟨by rw [Mem.get_push, if_neg (by omega)]; exact a.x, by rw [Mem.get_push, if_neg (by omega)]; exact a.l, a.o.push _, by rw [next_push']; omega, a.f, a.h, a.s⟩
theorem Acc.put {rl rx : Nat} {c q : Int} {lv : AV} {acc : List Intent} {M : Mem} (a : Acc rl rx c q lv acc M) {r : Nat} (h1 : r < rl) (h2 : r ≠ rx) (R : Option Row) : Acc rl rx c q lv acc (M.put r R) := by
  refine ⟨by rw [Mem.get_put, if_neg (by omega)]; exact a.x, by rw [Mem.get_put, if_neg (by omega)]; exact a.l, ?_, a.n, a.f, a.h, a.s⟩
  rcases a.o with e | ⟨p, a1, b2, c, d, e⟩
  · exact .inl e
  · exact .inr ⟨p, a1, by rw [Mem.get_put, if_neg (by omega)]; exact b2, c, d, e⟩
theorem Acc.turn {rl rx : Nat} {c q : Int} {lv : AV} {acc : List Intent} {M N : Mem} (a : Acc rl rx c q lv acc M) {r : Nat} (h : Turn r M N) (h1 : r < rl) (h2 : r ≠ rx) : Acc rl rx c q lv acc N := by
  refine ⟨by rw [h.get _ (by omega)]; exact a.x, by rw [h.get _ (by omega)]; exact a.l, ?_, by rw [h.next]; exact a.n, by rw [h.floor]; exact a.f, a.h, a.s⟩
  rcases a.o with e | ⟨p, a1, b2, c, d, e⟩
  · exact .inl e
  · exact .inr ⟨p, a1, by rw [h.get _ (by omega)]; exact b2, by rw [h.floor]; exact c, d, by rw [h.next]; exact e⟩
attribute [local irreducible] Ws Wp W C
set_option maxHeartbeats 4000000
theorem fin1_c {x : Intent} {rl rx : Nat} {c q : Int} {lv : AV} {acc : List Intent} {s : Mem} {K : AV → Mem → Prop} (hf : s.floor ≤ s.next) (ha : Acc rl rx c q lv acc s) (hl : acc.length < 4999)
    (hK : ∀ lv' s', Keep rl s s' → (∀ p, p < s.next → p ≠ rl → (∀ i n z, lv ≠ .own p i n z) → s'.get p = s.get p) → Acc rl rx c q lv' (acc ++ (if isX c q x then [x] else [])) s' → K (.bool (isX c q x)) s') : C tab 25 [.agg (intC x), .ptr rx 0 0, .ptr rl 0 0] s K := by
  refine C_enter (cf := cf25) rfl (Nat.le_of_ble_eq_true rfl) ?_
  simp only [cf25, oo, on, om, og, oc, ou, intC]
  have hn := ha.n
  have hh := ha.h
  have ne1 : (rx = s.next) = False := by simp; omega
  have ne2 : (rl = s.next) = False := by simp; omega
  have ne3 : (s.next = rl) = False := by simp; omega
  have ne4 : (rx = rl) = False := by simp; omega
  have gx := ha.x
  have gl := ha.l
  have cl : isCell lv = true := (ha.o.sl (D := fun _ => True) (int_cells _) fun _ _ _ => trivial).cell
  (repeat' (with_reducible first|refine w_1 ?_|refine w_2 ?_|refine w_3 ?_|refine w_4 ?_|refine w_5 ?_|refine w_6 ?_|refine w_7 ?_|(refine w_8 (fun hb=>?_) (fun hb=>?_)<;>(try simp only [Bool.not_eq_true',Bool.not_eq_false'] at hb)<;>try simp only [hb])|refine w_13 (fun hc=>(by (try simp only [Bool.and_eq_true] at hc);simp (maxDischargeDepth:=12) only [viz,↓reduceIte,Nat.reduceEqDiff,reduceCtorEq,Int.reduceEq,Int.reduceNeg,Nat.reduceAdd,Nat.reduceLeDiff,gx,gl,ne1,ne2,ne3,ne4,eqA_id,cl,cond_true,cond_false,hc];first|exact ⟨rfl,rfl⟩|exact rfl)) ?_|refine w_12 ?_|((try refine w_9 ?_);simp (maxDischargeDepth:=12) only [viz,↓reduceIte,Nat.reduceEqDiff,reduceCtorEq,Int.reduceEq,Int.reduceNeg,Nat.reduceAdd,Nat.reduceLeDiff,gx,gl,ne1,ne2,ne3,ne4,eqA_id,cl])))
  · have hx : isX c q x = true := hb
    rw [hx] at hK
    refine app_lit (v := lv) (k := 1) (b := rl + 1) (xs := acc.map intC) (ys := [intC x]) (s := s.push ⟨46, 6, [[.str x.key, .int .i64 x.client, .int .u64 x.seq, .int .i64 x.kind, .int .u64 x.token, .int .i64 x.ttl]]⟩) (by rw [floor_push']; have := ha.f; omega) (by rw [next_push']; omega) (ha.o.push _) (by simp only [ev, Env.get_set, ↓reduceIte, Nat.reduceEqDiff]) (by simp only [ev, Env.get_set, ↓reduceIte, Nat.reduceEqDiff]; rfl) rfl rfl (room (by simp; omega) (by simp; omega)) ?_
    intro v2 s2 ho2 hx2 _ _
    have hnl : ∀ p, p ≤ rl ∨ p = s.next → ∀ i n z, lv ≠ .own p i n z := fun p hp i n z e => by have := ha.o.row p i n z e; omega
    have g2 : ∀ p, p < s.next → (∀ i n z, lv ≠ .own p i n z) → s2.get p = s.get p := fun p hp h => by
      rw [hx2.get p (by rw [next_push']; omega) h, Mem.get_push, if_neg (by omega)]
    have gx2 := (g2 rx (by omega) (hnl rx (by omega))).trans gx
    have gl2 := (g2 rl hn (hnl rl (by omega))).trans gl
    have g3 : s2.get s.next = some ⟨46, 6, [[.str x.key, .int .i64 x.client, .int .u64 x.seq, .int .i64 x.kind, .int .u64 x.token, .int .i64 x.ttl]]⟩ := by
      rw [hx2.get s.next (by rw [next_push']; omega) (hnl _ (.inr rfl)), Mem.get_push, if_pos rfl]
    have f2 : s2.floor ≤ rl := by rw [hx2.floor]; exact ha.f
    have n2 := hx2.next
    rw [next_push'] at n2
    have c2 : isCell v2 = true := (ho2.sl (D := fun _ => True) (by
      have := int_cells (acc ++ [x])
      rw [List.map_append] at this; exact this) fun _ _ _ => trivial).cell
    (repeat' (with_reducible first|refine w_1 ?_|refine w_2 ?_|refine w_3 ?_|refine w_4 ?_|refine w_5 ?_|refine w_6 ?_|refine w_7 ?_|(refine w_8 (fun hb=>?_) (fun hb=>?_)<;>(try simp only [Bool.not_eq_true',Bool.not_eq_false'] at hb)<;>try simp only [hb])|refine w_13 (fun hc=>(by (try simp only [Bool.and_eq_true] at hc);simp (maxDischargeDepth:=12) only [viz,↓reduceIte,Nat.reduceEqDiff,reduceCtorEq,Int.reduceEq,Int.reduceNeg,Nat.reduceAdd,Nat.reduceLeDiff,gx2,gl2,g3,f2,c2,cells_cell c2,ne1,ne2,ne3,ne4,eqA_id,hb,cond_true,cond_false,hc];first|exact ⟨rfl,rfl⟩|exact rfl)) ?_|refine w_12 ?_|((try refine w_9 ?_);simp (maxDischargeDepth:=12) only [viz,↓reduceIte,Nat.reduceEqDiff,reduceCtorEq,Int.reduceEq,Int.reduceNeg,Nat.reduceAdd,Nat.reduceLeDiff,gx2,gl2,g3,f2,c2,cells_cell c2,ne1,ne2,ne3,ne4,eqA_id,hb])))
    refine hK v2 _ ?_ ?_ ?_
    · exact ⟨by rw [next_put']; omega, by rw [floor_put', hx2.floor]; rfl, fun p hp => by rw [Mem.get_put, if_neg (by omega)]; exact g2 p (by omega) (hnl p (by omega))⟩
    · intro p h1 h2 h3
      rw [Mem.get_put, if_neg h2]
      exact g2 p h1 h3
    · refine ⟨by rw [Mem.get_put, if_neg (by omega)]; exact gx2, by rw [Mem.get_put, if_pos rfl], ?_, by rw [next_put']; omega, by rw [floor_put']; exact f2, hh, by simp; omega⟩
      have e : (acc ++ if (true : Bool) = true then [x] else []).map intC = acc.map intC ++ [intC x] := by simp
      rw [e]
      rcases ho2 with h | ⟨p, a1, b2, c, d, e⟩
      · exact .inl h
      · exact .inr ⟨p, a1, by rw [Mem.get_put, if_neg (by omega)]; exact b2, c, d, e⟩
  · have hx : isX c q x = false := hb
    rw [hx] at hK
    simp only [hb]
    refine hK lv _ ((pushes s _).le (by omega)) (fun p h1 _ _ => (pushes s _).get p h1) ?_
    simpa using ha.push _
theorem itIx_c {l : List Intent} {v : AV} {m rl rx : Nat} {c q : Int} {lv : AV} {s : Mem} {K : AV → Mem → Prop} (hf : s.floor ≤ s.next) (hv : Sl s (fun p => m ≤ p ∧ p < rl) v 6 (l.map intC)) (hl : l.length < 4000) (ha : Acc rl rx c q lv [] s)
    (h1 : ∀ lv' s', Keep rl s s' → s.next ≤ s'.next → l.findIdx? (isX c q) = none → Acc rl rx c q lv' [] s' → K (.int .i64 (-1)) s')
    (h2 : ∀ lv' s' k0 x, Keep rl s s' → s.next ≤ s'.next → l.findIdx? (isX c q) = some k0 → l[k0]? = some x → Acc rl rx c q lv' [x] s' → K (.int .i64 ((k0 : Nat) : Int)) s') : C tab 48 [v, .fn 25 [.ptr rx 0 0, .ptr rl 0 0]] s K := by
  refine C_enter (cf := cf48) rfl (Nat.le_of_ble_eq_true rfl) ?_
  simp only [cf48, oo, on, om, og, oc, ou]
  have hlen : lenA false v = some l.length := hv.lenB
  have hnn := ha.n
  (repeat' (with_reducible first|refine w_1 ?_|refine w_2 ?_|refine w_3 ?_|refine w_4 ?_|refine w_5 ?_|refine w_6 ?_|refine w_7 ?_|(refine w_8 (fun hb=>?_) (fun hb=>?_)<;>(try simp only [Bool.not_eq_true',Bool.not_eq_false'] at hb)<;>try simp only [hb])|refine w_13 (fun hc=>(by (try simp only [Bool.and_eq_true] at hc);simp (maxDischargeDepth:=12) only [viz,↓reduceIte,Nat.reduceEqDiff,reduceCtorEq,Int.reduceEq,Int.reduceNeg,Nat.reduceAdd,Nat.reduceLeDiff,hlen,cond_true,cond_false,hc];first|exact ⟨rfl,rfl⟩|exact rfl)) ?_|refine w_12 ?_|((try refine w_9 ?_);simp (maxDischargeDepth:=12) only [viz,↓reduceIte,Nat.reduceEqDiff,reduceCtorEq,Int.reduceEq,Int.reduceNeg,Nat.reduceAdd,Nat.reduceLeDiff,hlen])))
  refine W_inv l.length (fun i E s' => ∃ lv', Keep rl s s' ∧ s.next ≤ s'.next ∧ Acc rl rx c q lv' [] s' ∧ E.get 0 = v ∧ E.get 1 = .fn 25 [.ptr rx 0 0, .ptr rl 0 0] ∧ E.get 7 = .int .i64 l.length ∧ E.get 8 = .int .i64 i ∧ ∀ j x, j < i → l[j]? = some x → isX c q x = false) (by delta cf48l0 oo on om og oc ou; exact rfl) ?_ ?_
  · refine ⟨lv, Keep.refl _ _, Nat.le_refl _, ha, (by simp only [ev, Env.get_set, ↓reduceIte, Nat.reduceEqDiff]), (by simp only [ev, Env.get_set, ↓reduceIte, Nat.reduceEqDiff]), (by simp only [ev, Env.get_set, ↓reduceIte, Nat.reduceEqDiff]), ?_, by omega⟩
    simp only [ev, Env.get_set, ↓reduceIte, Nat.reduceEqDiff]; rfl
  rintro i E s' hile _ ⟨lv1, hk, hn1, ha', g0, g1, g7, g8, hno⟩
  by_cases hlt : i < l.length
  · obtain ⟨x, hx⟩ := get_of hlt
    have hv' : Sl s' (fun p => m ≤ p ∧ p < rl) v 6 (l.map intC) := hv.keep fun p hp => hk.get p hp.2
    obtain ⟨p, hp, P, hld⟩ := hv'.ldk (fun p hp => Nat.lt_trans hp.2 ha'.n) hx rfl rfl
    have hld' := hld _ (Keep.refl _ _)
    simp only [intC] at hld'
    (repeat' (with_reducible first|refine w_1 ?_|refine w_2 ?_|refine w_3 ?_|refine w_4 ?_|refine w_5 ?_|refine w_6 ?_|refine w_7 ?_|(refine w_8 (fun hb=>?_) (fun hb=>?_)<;>(try simp only [Bool.not_eq_true',Bool.not_eq_false'] at hb)<;>try simp only [hb])|refine w_13 (fun hc=>(by (try simp only [Bool.and_eq_true] at hc);simp (maxDischargeDepth:=12) only [viz,↓reduceIte,Nat.reduceEqDiff,reduceCtorEq,Int.reduceEq,Int.reduceNeg,Nat.reduceAdd,Nat.reduceLeDiff,g0,g1,g7,g8,lt_true hlt,hp,hld',cond_true,cond_false,hc];first|exact ⟨rfl,rfl⟩|exact rfl)) ?_|refine w_12 ?_|((try refine w_9 ?_);simp (maxDischargeDepth:=12) only [viz,↓reduceIte,Nat.reduceEqDiff,reduceCtorEq,Int.reduceEq,Int.reduceNeg,Nat.reduceAdd,Nat.reduceLeDiff,g0,g1,g7,g8,lt_true hlt,hp,hld'])))
    refine fin1_c (x := x) (by rw [hk.floor]; omega) ha' (by simp) fun lv2 s2 h2k hoth ha2 => ?_
    cases hb : isX c q x
    · rw [hb] at ha2
      (repeat' (with_reducible first|refine w_1 ?_|refine w_2 ?_|refine w_3 ?_|refine w_4 ?_|refine w_5 ?_|refine w_6 ?_|refine w_7 ?_|(refine w_8 (fun hb=>?_) (fun hb=>?_)<;>(try simp only [Bool.not_eq_true',Bool.not_eq_false'] at hb)<;>try simp only [hb])|refine w_13 (fun hc=>(by (try simp only [Bool.and_eq_true] at hc);simp (maxDischargeDepth:=12) only [viz,↓reduceIte,Nat.reduceEqDiff,reduceCtorEq,Int.reduceEq,Int.reduceNeg,Nat.reduceAdd,Nat.reduceLeDiff,g0,g1,g7,g8,cond_true,cond_false,hc];first|exact ⟨rfl,rfl⟩|exact rfl)) ?_|refine w_12 ?_|((try refine w_9 ?_);simp (maxDischargeDepth:=12) only [viz,↓reduceIte,Nat.reduceEqDiff,reduceCtorEq,Int.reduceEq,Int.reduceNeg,Nat.reduceAdd,Nat.reduceLeDiff,g0,g1,g7,g8])))
      refine ⟨hlt, lv2, hk.trans h2k, by have := h2k.next; omega, by simpa using ha2, succ_av (by omega), fun j y hj hy => ?_⟩
      by_cases hji : j = i
      · rw [hji, hx] at hy; obtain rfl := Option.some.inj hy; exact hb
      · exact hno j y (by omega) hy
    · rw [hb] at ha2
      (repeat' (with_reducible first|refine w_1 ?_|refine w_2 ?_|refine w_3 ?_|refine w_4 ?_|refine w_5 ?_|refine w_6 ?_|refine w_7 ?_|(refine w_8 (fun hb=>?_) (fun hb=>?_)<;>(try simp only [Bool.not_eq_true',Bool.not_eq_false'] at hb)<;>try simp only [hb])|refine w_13 (fun hc=>(by (try simp only [Bool.and_eq_true] at hc);simp (maxDischargeDepth:=12) only [viz,↓reduceIte,Nat.reduceEqDiff,reduceCtorEq,Int.reduceEq,Int.reduceNeg,Nat.reduceAdd,Nat.reduceLeDiff,g0,g1,g7,g8,cond_true,cond_false,hc];first|exact ⟨rfl,rfl⟩|exact rfl)) ?_|refine w_12 ?_|((try refine w_9 ?_);simp (maxDischargeDepth:=12) only [viz,↓reduceIte,Nat.reduceEqDiff,reduceCtorEq,Int.reduceEq,Int.reduceNeg,Nat.reduceAdd,Nat.reduceLeDiff,g0,g1,g7,g8])))
      exact h2 lv2 s2 i x (hk.trans h2k) (by have := h2k.next; omega) (idx_at hx hb hno) hx (by simpa using ha2)
  · (repeat' (with_reducible first|refine w_1 ?_|refine w_2 ?_|refine w_3 ?_|refine w_4 ?_|refine w_5 ?_|refine w_6 ?_|refine w_7 ?_|(refine w_8 (fun hb=>?_) (fun hb=>?_)<;>(try simp only [Bool.not_eq_true',Bool.not_eq_false'] at hb)<;>try simp only [hb])|refine w_13 (fun hc=>(by (try simp only [Bool.and_eq_true] at hc);simp (maxDischargeDepth:=12) only [viz,↓reduceIte,Nat.reduceEqDiff,reduceCtorEq,Int.reduceEq,Int.reduceNeg,Nat.reduceAdd,Nat.reduceLeDiff,g0,g1,g7,g8,lt_false hlt,cond_true,cond_false,hc];first|exact ⟨rfl,rfl⟩|exact rfl)) ?_|refine w_12 ?_|((try refine w_9 ?_);simp (maxDischargeDepth:=12) only [viz,↓reduceIte,Nat.reduceEqDiff,reduceCtorEq,Int.reduceEq,Int.reduceNeg,Nat.reduceAdd,Nat.reduceLeDiff,g0,g1,g7,g8,lt_false hlt])))
    exact h1 _ _ hk hn1 (idx_no fun j x hj => hno j x (by omega)) ha'
theorem itDel_c {l : List Intent} {v : AV} {m rl rx : Nat} {c q : Int} {lv : AV} {s : Mem} {K : AV → Mem → Prop} (hf : s.floor ≤ m) (hv : OwnL s m v 46 6 (l.map intC)) (hvr : ∀ r i n z, v = .own r i n z → r < rl) (h64 : l.length < 4000) (hmr : m ≤ rl) (hrx : rx < m) (ha : Acc rl rx c q lv [] s)
    (hK : ∀ v' lv' s', Keep m s s' → Sl s' (fun p => m ≤ p ∧ p < rl) v' 6 ((l.filter fun x => !isX c q x).map intC) → Acc rl rx c q lv' (l.filter (isX c q)) s' → (∀ p, m ≤ p → p < rl → (∀ i n z, v ≠ .own p i n z) → s'.get p = s.get p) → K v' s') : C tab 24 [v, .fn 25 [.ptr rx 0 0, .ptr rl 0 0]] s K := by
  refine C_enter (cf := cf24) rfl (Nat.le_of_ble_eq_true rfl) ?_
  simp only [cf24, oo, on, om, og, oc, ou]
  (repeat' (with_reducible first|refine w_1 ?_|refine w_2 ?_|refine w_3 ?_|refine w_4 ?_|refine w_5 ?_|refine w_6 ?_|refine w_7 ?_|(refine w_8 (fun hb=>?_) (fun hb=>?_)<;>(try simp only [Bool.not_eq_true',Bool.not_eq_false'] at hb)<;>try simp only [hb])|refine w_13 (fun hc=>(by (try simp only [Bool.and_eq_true] at hc);simp (maxDischargeDepth:=12) only [viz,↓reduceIte,Nat.reduceEqDiff,reduceCtorEq,Int.reduceEq,Int.reduceNeg,Nat.reduceAdd,Nat.reduceLeDiff,cond_true,cond_false,hc];first|exact ⟨rfl,rfl⟩|exact rfl)) ?_|refine w_12 ?_|((try refine w_9 ?_);simp (maxDischargeDepth:=12) only [viz,↓reduceIte,Nat.reduceEqDiff,reduceCtorEq,Int.reduceEq,Int.reduceNeg,Nat.reduceAdd,Nat.reduceLeDiff])))
  have hnn := ha.n
  have hsl : Sl s (fun p => m ≤ p ∧ p < rl) v 6 (l.map intC) := hv.sl (int_cells _) fun r n h => ⟨(hv.row r _ _ _ h).1, hvr r _ _ _ h⟩
  refine itIx_c (by omega) hsl h64 ha (fun lv1 s1 h1 hn1 hE ha1 => ?_) fun lv1 s1 k0 x0 h1 hn1 hE hx0 ha1 => ?_
  · (repeat' (with_reducible first|refine w_1 ?_|refine w_2 ?_|refine w_3 ?_|refine w_4 ?_|refine w_5 ?_|refine w_6 ?_|refine w_7 ?_|(refine w_8 (fun hb=>?_) (fun hb=>?_)<;>(try simp only [Bool.not_eq_true',Bool.not_eq_false'] at hb)<;>try simp only [hb])|refine w_13 (fun hc=>(by (try simp only [Bool.and_eq_true] at hc);simp (maxDischargeDepth:=12) only [viz,↓reduceIte,Nat.reduceEqDiff,reduceCtorEq,Int.reduceEq,Int.reduceNeg,Nat.reduceAdd,Nat.reduceLeDiff,bne_self_eq_false, Int.reduceBEq, Int.reduceBNe, Int.reduceLT, Int.reduceLE, Int.reduceGT, Int.reduceGE,cond_true,cond_false,hc];first|exact ⟨rfl,rfl⟩|exact rfl)) ?_|refine w_12 ?_|((try refine w_9 ?_);simp (maxDischargeDepth:=12) only [viz,↓reduceIte,Nat.reduceEqDiff,reduceCtorEq,Int.reduceEq,Int.reduceNeg,Nat.reduceAdd,Nat.reduceLeDiff,bne_self_eq_false, Int.reduceBEq, Int.reduceBNe, Int.reduceLT, Int.reduceLE, Int.reduceGT, Int.reduceGE])))
    have e1 : l.filter (fun x => !isX c q x) = l := by
      rw [List.filter_eq_self]
      intro a ha
      have := List.findIdx?_eq_none_iff.mp hE a ha
      simp [this]
    have e2 : l.filter (isX c q) = [] := by
      rw [List.filter_eq_nil_iff]
      intro a ha
      have := List.findIdx?_eq_none_iff.mp hE a ha
      simp [this]
    rw [e1, e2] at hK
    exact hK v lv1 s1 (h1.le hmr) (hsl.keep fun p hp => h1.get p hp.2) ha1 fun p _ hp _ => h1.get p hp
  · have hk0 : ((k0 : Int) == -1) = false := by rw [beq_eq_false_iff_ne]; omega
    have hw0 : IntKind.i64.wrap ((k0 : Int) + 1) = ((k0 + 1 : Nat) : Int) := succ_cast (by have := (List.findIdx?_eq_some_iff_getElem.mp hE).1; omega)
    (repeat' (with_reducible first|refine w_1 ?_|refine w_2 ?_|refine w_3 ?_|refine w_4 ?_|refine w_5 ?_|refine w_6 ?_|refine w_7 ?_|(refine w_8 (fun hb=>?_) (fun hb=>?_)<;>(try simp only [Bool.not_eq_true',Bool.not_eq_false'] at hb)<;>try simp only [hb])|refine w_13 (fun hc=>(by (try simp only [Bool.and_eq_true] at hc);simp (maxDischargeDepth:=12) only [viz,↓reduceIte,Nat.reduceEqDiff,reduceCtorEq,Int.reduceEq,Int.reduceNeg,Nat.reduceAdd,Nat.reduceLeDiff,hk0,hw0,cond_true,cond_false,hc];first|exact ⟨rfl,rfl⟩|exact rfl)) ?_|refine w_12 ?_|((try refine w_9 ?_);simp (maxDischargeDepth:=12) only [viz,↓reduceIte,Nat.reduceEqDiff,reduceCtorEq,Int.reduceEq,Int.reduceNeg,Nat.reduceAdd,Nat.reduceLeDiff,hk0,hw0])))
    obtain ⟨hklt, hpk, hpn⟩ := List.findIdx?_eq_some_iff_getElem.mp hE
    obtain ⟨r, rfl, hr, hbr, hrl⟩ : ∃ r, v = .own r 0 l.length 6 ∧ s.get r = some ⟨46, 6, l.map intC⟩ ∧ m ≤ r ∧ r < rl := by
      rcases hv with ⟨_, h⟩ | ⟨r, h0, g1, _, g3, g4⟩
      · have : l = [] := by simpa using h
        rw [this] at hklt; simp at hklt
      · exact ⟨r, by rw [h0, List.length_map], g1, g3, hvr r _ _ _ h0⟩
    have hpre := pre_filter hklt hpk hpn
    have hpre2 : (l.take (k0 + 1)).filter (isX c q) = [x0] := by
      rw [List.take_add_one, hx0, Option.toList_some, List.filter_append]
      have e0 : (l.take k0).filter (isX c q) = [] := by
        rw [List.filter_eq_nil_iff]
        intro a ha
        obtain ⟨p, hp⟩ := List.mem_iff_getElem?.mp ha
        rw [List.getElem?_take] at hp
        split at hp
        · rename_i hpk2
          obtain ⟨hpl, rfl⟩ := List.getElem?_eq_some_iff.mp hp
          exact hpn p hpk2
        · cases hp
      have e1 : isX c q x0 = true := by
        obtain ⟨_, rfl⟩ := List.getElem?_eq_some_iff.mp hx0; exact hpk
      rw [e0]; simp [e1]
    refine W_inv (l.length - (k0 + 1)) (fun n E s' => ∃ cur i lv', Keep m s s' ∧ s.next ≤ s'.next ∧ (∀ p, m ≤ p → p < rl → p ≠ r → s'.get p = s.get p) ∧ Acc rl rx c q lv' ((l.take (k0 + 1 + n)).filter (isX c q)) s' ∧ s'.get r = some ⟨46, 6, cur⟩ ∧ cur.length = l.length ∧ (∀ c ∈ cur, c.length = 6) ∧ i ≤ k0 + n ∧ cur.take i = ((l.take (k0 + 1 + n)).filter fun x => !isX c q x).map intC ∧ (∀ q, k0 + 1 + n ≤ q → cur[q]? = (l.map intC)[q]?) ∧ E.get 0 = .own r 0 l.length 6 ∧ E.get 1 = .fn 25 [.ptr rx 0 0, .ptr rl 0 0] ∧ E.get 5 = .int .i64 i ∧ E.get 6 = .int .i64 ((k0 + 1 + n : Nat) : Int)) (by delta cf24l0 oo on om og oc ou; exact rfl) ?_ ?_
    · refine ⟨l.map intC, k0, lv1, h1.le hmr, hn1, fun p _ hp _ => h1.get p hp, by rw [Nat.add_zero, hpre2]; exact ha1, by rw [h1.get r hrl, hr], List.length_map .., int_cells _, by omega, ?_, fun _ _ => rfl, (by simp only [ev, Env.get_set, ↓reduceIte, Nat.reduceEqDiff]), (by simp only [ev, Env.get_set, ↓reduceIte, Nat.reduceEqDiff]), (by simp only [ev, Env.get_set, ↓reduceIte, Nat.reduceEqDiff]), (by simp only [ev, Env.get_set, ↓reduceIte, Nat.reduceEqDiff])⟩
      rw [Nat.add_zero, hpre, List.map_take]
    rintro n E s' hmle _ ⟨cur, i, lv2, hk, hn, hoth, ha2, hg, hcl2, hcz, him, hls, hcur, g0, g1, g5, g6⟩
    by_cases hlt : k0 + 1 + n < l.length
    · obtain ⟨x, hx⟩ := get_of hlt
      have hc' : cur[k0 + 1 + n]? = some (intC x) := (hcur _ (Nat.le_refl _)).trans (by rw [List.getElem?_map, hx]; rfl)
      have hat : atA 6 (.own r 0 l.length 6) (.int .i64 ((k0 + 1 + n : Nat) : Int)) = some (.ptr r (k0 + 1 + n) 0) := at0 hlt
      have hld := load_own hg hc' (z := intC x) rfl
      have hfl2 : s'.floor ≤ s'.next := by rw [hk.floor]; omega
      obtain ⟨c2, hc2⟩ := get_of (l := cur) (i := i) (by omega)
      have hz2 := hcz c2 (List.mem_of_getElem? hc2)
      have hrn' : r < s'.next := by omega
      have hfn : s'.floor ≤ r := by rw [hk.floor]; omega
      have hne : (r = s'.next) = False := by simp; omega
      have ht1 : k0 + 1 + (n + 1) = k0 + 1 + n + 1 := rfl
      have htk : (l.take (k0 + 1 + n + 1)).filter (fun x => !isX c q x) = (l.take (k0 + 1 + n)).filter (fun x => !isX c q x) ++ (if isX c q x then [] else [x]) := by
        rw [List.take_add_one, hx, Option.toList_some, List.filter_append]
        congr 1
        cases hq : isX c q x <;> simp [hq]
      have htk2 : (l.take (k0 + 1 + n + 1)).filter (isX c q) = (l.take (k0 + 1 + n)).filter (isX c q) ++ (if isX c q x then [x] else []) := by
        rw [List.take_add_one, hx, Option.toList_some, List.filter_append]
        congr 1
        cases hq : isX c q x <;> simp [hq]
      have hp1 := pushes s' ⟨46, 6, [intC x]⟩
      have ha3 := ha2.push ⟨46, 6, [intC x]⟩
      have hal : ((l.take (k0 + 1 + n)).filter (isX c q)).length < 4999 := by
        have := List.length_filter_le (isX c q) (l.take (k0 + 1 + n))
        rw [List.length_take] at this; omega
      simp only [intC] at hld hp1 ha3
      (repeat' (with_reducible first|refine w_1 ?_|refine w_2 ?_|refine w_3 ?_|refine w_4 ?_|refine w_5 ?_|refine w_6 ?_|refine w_7 ?_|(refine w_8 (fun hb=>?_) (fun hb=>?_)<;>(try simp only [Bool.not_eq_true',Bool.not_eq_false'] at hb)<;>try simp only [hb])|refine w_13 (fun hc=>(by (try simp only [Bool.and_eq_true] at hc);simp (maxDischargeDepth:=12) only [viz,↓reduceIte,Nat.reduceEqDiff,reduceCtorEq,Int.reduceEq,Int.reduceNeg,Nat.reduceAdd,Nat.reduceLeDiff,g0,g1,g5,g6,lt_true hlt,hat,hld,hfl2,cond_true,cond_false,hc];first|exact ⟨rfl,rfl⟩|exact rfl)) ?_|refine w_12 ?_|((try refine w_9 ?_);simp (maxDischargeDepth:=12) only [viz,↓reduceIte,Nat.reduceEqDiff,reduceCtorEq,Int.reduceEq,Int.reduceNeg,Nat.reduceAdd,Nat.reduceLeDiff,g0,g1,g5,g6,lt_true hlt,hat,hld,hfl2])))
      refine fin1_c (x := x) (by rw [floor_push', next_push']; omega) ha3 hal fun lv3 s2 h2 ho2 ha4 => ?_
      have hn2 := h2.next
      rw [next_push'] at hn2
      have hg2 : s2.get r = some ⟨46, 6, cur⟩ := by rw [h2.get r hrl, hp1.get r hrn']; exact hg
      have hnr : ∀ i n z, lv2 ≠ .own s'.next i n z := fun i n z e => by have := ha2.o.row _ _ _ _ e; omega
      have hrls : s'.next ≠ rl := by have := ha2.n; omega
      have hg7 := (ho2 s'.next (by simp only [next_push']; omega) hrls hnr).trans (by simp only [Mem.get_push]; rw [if_pos trivial])
      have hat2 : atA 6 (.own r 0 l.length 6) (.int .i64 (i : Int)) = some (.ptr r i 0) := at0 (by omega)
      have hfs2 : s2.floor ≤ r := by rw [h2.floor, floor_push']; exact hfn
      have hst := store_own (d := intC x) hg2 hc2 hz2 rfl rfl hfs2
      simp only [intC] at hst
      have hkb : Keep m s s2 := (hk.trans (hp1.le (by omega))).trans (h2.le hmr)
      have hot2 : ∀ p, m ≤ p → p < rl → p ≠ r → s2.get p = s.get p := fun p p1 p2 p3 => by rw [h2.get p p2, hp1.get p (by have := ha2.n; omega), hoth p p1 p2 p3]
      cases hpx : isX c q x
      · rw [hpx] at htk htk2 ha4
        (repeat' (with_reducible first|refine w_1 ?_|refine w_2 ?_|refine w_3 ?_|refine w_4 ?_|refine w_5 ?_|refine w_6 ?_|refine w_7 ?_|(refine w_8 (fun hb=>?_) (fun hb=>?_)<;>(try simp only [Bool.not_eq_true',Bool.not_eq_false'] at hb)<;>try simp only [hb])|refine w_13 (fun hc=>(by (try simp only [Bool.and_eq_true] at hc);simp (maxDischargeDepth:=12) only [vis,↓reduceIte,Nat.reduceEqDiff,reduceCtorEq,Int.reduceEq,Int.reduceNeg,Nat.reduceAdd,Nat.reduceLeDiff,g0,g1,g5,g6,hg7,hat2,hst,loadA_ptr,cond_true,cond_false,hc];first|exact ⟨rfl,rfl⟩|exact rfl)) ?_|refine w_12 ?_|((try refine w_9 ?_);simp (maxDischargeDepth:=12) only [vis,↓reduceIte,Nat.reduceEqDiff,reduceCtorEq,Int.reduceEq,Int.reduceNeg,Nat.reduceAdd,Nat.reduceLeDiff,g0,g1,g5,g6,hg7,hat2,hst,loadA_ptr])))
        refine ⟨by omega, cur.set i (intC x), i + 1, lv3, ?_, ?_, ?_, ?_, ?_, ?_, ?_, ?_, ?_, ?_, ?_⟩
        · exact hkb.trans (Keep.put hbr _)
        · omega
        · intro p p1 p2 p3
          rw [if_neg p3]
          exact hot2 p p1 p2 p3
        · rw [ht1, htk2]
          exact ha4.turn (Turn.put r s2 _) hrl (by omega)
        · rfl
        · rw [List.length_set]; exact hcl2
        · intro c hc
          rcases List.mem_or_eq_of_mem_set hc with h | rfl
          · exact hcz c h
          · rfl
        · omega
        · rw [ht1, htk, take_set_next (by omega), hls, List.map_append]; rfl
        · intro q hq
          rw [List.getElem?_set, if_neg (by omega)]
          exact hcur q (by omega)
        · exact ⟨succ_av (by omega), succ_av (by omega)⟩
      · rw [hpx] at htk htk2 ha4
        (repeat' (with_reducible first|refine w_1 ?_|refine w_2 ?_|refine w_3 ?_|refine w_4 ?_|refine w_5 ?_|refine w_6 ?_|refine w_7 ?_|(refine w_8 (fun hb=>?_) (fun hb=>?_)<;>(try simp only [Bool.not_eq_true',Bool.not_eq_false'] at hb)<;>try simp only [hb])|refine w_13 (fun hc=>(by (try simp only [Bool.and_eq_true] at hc);simp (maxDischargeDepth:=12) only [viz,↓reduceIte,Nat.reduceEqDiff,reduceCtorEq,Int.reduceEq,Int.reduceNeg,Nat.reduceAdd,Nat.reduceLeDiff,g0,g1,g5,g6,cond_true,cond_false,hc];first|exact ⟨rfl,rfl⟩|exact rfl)) ?_|refine w_12 ?_|((try refine w_9 ?_);simp (maxDischargeDepth:=12) only [viz,↓reduceIte,Nat.reduceEqDiff,reduceCtorEq,Int.reduceEq,Int.reduceNeg,Nat.reduceAdd,Nat.reduceLeDiff,g0,g1,g5,g6])))
        exact ⟨by omega, cur, i, lv3, hkb, by omega, hot2, by rw [ht1, htk2]; exact ha4, hg2, hcl2, hcz, by omega, by rw [ht1, htk]; simpa using hls, fun q hq => hcur q (by omega), rfl, succ_av (by omega)⟩
    · have hi : i ≤ l.length := by omega
      obtain ⟨s2, els', hclr, hg2, htk, hln, htn⟩ := clr_own (i := i) (n := l.length - i) (z := [.str [], .int .i64 0, .int .u64 0, .int .i64 0, .int .u64 0, .int .i64 0]) hg (by omega) rfl (by rw [hk.floor]; omega)
      have hc1 : cutA 6 (.own r 0 l.length 6) (some i) none = some (.own r i (l.length - i) 6) := by simp [cutA]; omega
      have hc2 : cutA 6 (.own r 0 l.length 6) none (some i) = some (.own r 0 i 6) := by simp [cutA]; omega
      (repeat' (with_reducible first|refine w_1 ?_|refine w_2 ?_|refine w_3 ?_|refine w_4 ?_|refine w_5 ?_|refine w_6 ?_|refine w_7 ?_|(refine w_8 (fun hb=>?_) (fun hb=>?_)<;>(try simp only [Bool.not_eq_true',Bool.not_eq_false'] at hb)<;>try simp only [hb])|refine w_13 (fun hc=>(by (try simp only [Bool.and_eq_true] at hc);simp (maxDischargeDepth:=12) only [viz,↓reduceIte,Nat.reduceEqDiff,reduceCtorEq,Int.reduceEq,Int.reduceNeg,Nat.reduceAdd,Nat.reduceLeDiff,g0,g1,g5,g6,lt_false hlt,bdA_some,bdV_nat,hc1,hc2,hclr,cond_true,cond_false,hc];first|exact ⟨rfl,rfl⟩|exact rfl)) ?_|refine w_12 ?_|((try refine w_9 ?_);simp (maxDischargeDepth:=12) only [viz,↓reduceIte,Nat.reduceEqDiff,reduceCtorEq,Int.reduceEq,Int.reduceNeg,Nat.reduceAdd,Nat.reduceLeDiff,g0,g1,g5,g6,lt_false hlt,bdA_some,bdV_nat,hc1,hc2,hclr])))
      have hall : l.take (k0 + 1 + n) = l := List.take_of_length_le (by omega)
      rw [hall] at hls ha2
      refine hK _ lv2 s2 (hk.trans (htn.keep hbr)) ?_ (ha2.turn htn hrl (by omega)) fun p p1 p2 p3 => ?_
      · rw [← hls]
        exact ⟨fun c hc => hcz c (List.mem_of_mem_take hc), .inr (.inr (.inr ⟨r, 0, i, _, rfl, ⟨hbr, hrl⟩, hg2, by simp only [hln]; omega, by simp only [List.drop_zero, htk]⟩))⟩
      · have hpr : p ≠ r := fun e => p3 0 l.length 6 (by rw [e])
        rw [htn.get p hpr, hoth p p1 p2 hpr]
end Go.Proofs.Ythibbbfhkfebkaa

