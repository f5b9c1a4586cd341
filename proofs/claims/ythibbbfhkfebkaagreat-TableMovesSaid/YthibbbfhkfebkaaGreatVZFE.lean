/- Holds, marks put, dropped by the document. No statement of the seat is proved here. -/
import Derived.Test.YthibbbfhkfebkaaGreatVZFD
import Derived.Test.YthibbbfhkfebkaaGreatVZVE
namespace Go.Proofs.YthibbbfhkfebkaaGreat
open Go Go.VI
set_option linter.unusedSimpArgs false
def restG {α : Type} (key : α → Txt) (h : α) (l : List α) (i : Nat) (done : Bool) : List α := if done then (l.drop i).filter fun y => !(key y == key h) else putG key h (l.drop i)
theorem rest_next {α : Type} {key : α → Txt} {h x : α} {l : List α} {i : Nat} (hx : l[i]? = some x) (done : Bool) : restG key h l i done = (if !done && !bl (key x) (key h) then [h] else []) ++ ((if key x == key h then [] else [x]) ++ restG key h l (i + 1) (done || !bl (key x) (key h))) := by
  unfold restG
  rw [drop_cons hx]
  cases done with
  | true => cases hq : (key x == key h) <;> simp [hq]
  | false =>
    cases hb : bl (key x) (key h) with
    | true =>
      have : (key x == key h) = false := by
        rw [beq_eq_false_iff_ne]; intro e; rw [e, bl_irrefl] at hb; cases hb
      simp [putG, hb, this]
    | false => cases hq : (key x == key h) <;> simp [putG, hb, hq]
theorem rest_zero {α : Type} (key : α → Txt) (h : α) (l : List α) : restG key h l 0 false = putG key h l := by simp [restG]
theorem rest_end {α : Type} {key : α → Txt} {h : α} {l : List α} {i : Nat} (hi : ¬ i < l.length) (done : Bool) : restG key h l i done = if done then [] else [h] := by
  unfold restG
  rw [drop_end hi]
  cases done <;> simp [putG]
attribute [local irreducible] Ws Wp W C
set_option maxHeartbeats 4000000
def untilR (now ttl : Int) : Int := if ttl > 2147483647 - now then 2147483647 else now + ttl
theorem runtil_c {now ttl : Int} {s : Mem} {K : AV → Mem → Prop} (h0 : 0 ≤ now) (h1 : now ≤ 2147483647) (h2 : 0 ≤ ttl) (h3 : ttl ≤ 2147483647)
    (hK : K (.int .i64 (untilR now ttl)) s) : C tab 47 [.int .i64 now, .int .i64 ttl] s K := by
  refine C_enter (cf := cf47) rfl (Nat.le_of_ble_eq_true rfl) ?_
  simp only [cf47, oo, on, om, og, oc, ou]
  have e5 : IntKind.i64.wrap (now + ttl) = now + ttl := wrap_i64 (by omega)
  have e6 : IntKind.i64.wrap (2147483647 - now) = 2147483647 - now := wrap_i64 (by omega)
  unfold untilR at hK
  (repeat' (with_reducible first|refine w_1 ?_|refine w_2 ?_|refine w_4 ?_|refine w_5 ?_|refine w_6 ?_|(refine w_8 (fun hb=>?_) (fun hb=>?_)<;>(try simp only [Bool.not_eq_true',Bool.not_eq_false'] at hb)<;>try simp only [hb])|simp (maxDischargeDepth:=12) only [viz,↓reduceIte,Nat.reduceEqDiff,reduceCtorEq,Nat.reduceAdd,e5,e6]))
  · rw [if_pos (by simpa using hb)] at hK; exact hK
  · rw [if_neg (by simpa using hb)] at hK; exact hK
theorem rput_c {l : List Hold} {h : Hold} {v : AV} {D : Nat → Prop} {s : Mem} {K : AV → Mem → Prop} (hf : s.floor ≤ s.next) (hI : In D s) (hv : Holds s D v l) (hl : l.length < 5000)
    (hK : ∀ v' s', Keep s.next s s' → OwnL s' s.next v' 58 3 ((putG Hold.key h l).map holdC) → K v' s') : C tab 46 [v, .agg (holdC h)] s K := by
  refine C_enter (cf := cf46) rfl (Nat.le_of_ble_eq_true rfl) ?_
  simp only [cf46, oo, on, om, og, oc, ou, holdC]
  have hlen : lenA false v = some l.length := hv.lenB
  have q0 := Kp.of_push s ⟨58, 3, [holdC h]⟩
  have pl := putG_len Hold.key h l
  simp only [holdC] at q0
  (repeat' (with_reducible first|refine w_1 ?_|refine w_2 ?_|refine w_3 ?_|simp (maxDischargeDepth:=12) only [viz,↓reduceIte,Nat.reduceAdd]))
  have n0 : (s.push ⟨58, 3, [[.str h.key, .int .u64 h.token, .int .i64 h.till]]⟩).next = s.next + 1 := by rw [next_push']
  generalize hS0 : s.push ⟨58, 3, [[.str h.key, .int .u64 h.token, .int .i64 h.till]]⟩ = S0 at *
  refine W_inv l.length (fun i E s' => ∃ w done out, Keep S0.next S0 s' ∧ OwnL s' (s.next + 1) w 58 3 (List.map holdC out) ∧ out ++ restG Hold.key h l i done = putG Hold.key h l ∧ E.get 0 = v ∧ E.get 3 = .ptr s.next 0 0 ∧ E.get 5 = w ∧ E.get 6 = .bool done ∧ E.get 7 = .int .i64 i) (by delta cf46l0 oo on om og oc ou; exact rfl) ?_ ?_
  · refine ⟨.emp, false, [], pushes _ _, OwnL.emp _ _ _ _, rest_zero _ _ _, ?_, ?_, ?_, ?_, ?_⟩
    all_goals simp only [ev, Env.get_set, ↓reduceIte, Nat.reduceEqDiff]
    all_goals rfl
  rintro i E s' hile _ ⟨w, done, out, hk, ho, hinv, g0, g3, g5, g6, g7⟩
  have kS : Keep s.next s s' := q0.k.then hk
  have hn := hk.next
  rw [n0] at hn
  have gh := (q0.then hk).g
  have ho3 : out.length ≤ l.length + 1 := by
    have : (out ++ restG Hold.key h l i done).length = (putG Hold.key h l).length := by rw [hinv]
    rw [List.length_append] at this; omega
  have fS : s'.floor ≤ s.next + 1 := by rw [kS.floor]; omega
  by_cases hlt : i < l.length
  · obtain ⟨x, hx⟩ := get_of hlt
    obtain ⟨p, hp, P, hld⟩ := hv.ldk hI hx rfl rfl
    have l0 : ∀ M, Keep s.next s M → loadA M false 1 (VI.adr p 0) = some (.str x.key) := fun M hM => by
      have := P.ldf _ hM 0 false 1 (by simp [holdC])
      rw [this]; rfl
    simp only [holdC] at hld
    have hrn := rest_next (key := Hold.key) (h := h) hx done
    (repeat' (with_reducible first|refine w_1 ?_|refine w_2 ?_|refine w_3 ?_|refine w_4 ?_|refine w_5 ?_|(refine w_8 (fun hb=>?_) (fun hb=>?_)<;>(try simp only [Bool.not_eq_true',Bool.not_eq_false'] at hb)<;>try simp only [hb])|refine w_13 (fun hc=>(by (try simp only [Bool.and_eq_true] at hc);simp (maxDischargeDepth:=12) only [viz,↓reduceIte,Nat.reduceEqDiff,reduceCtorEq,Nat.reduceAdd,g0,g3,g7,hp,P.adr,l0 _ kS,gh,cond_true,hc];first|exact ⟨rfl,rfl⟩|exact rfl)) ?_|((try refine w_9 ?_);simp (maxDischargeDepth:=12) only [viz,↓reduceIte,Nat.reduceEqDiff,reduceCtorEq,Nat.reduceAdd,g0,g3,g5,g6,g7,hlen,lt_true hlt,hp,P.adr,l0 _ kS,hld _ kS,gh])))
    · refine app_lit (v := w) (k := 1) (b := s.next + 1) (xs := out.map holdC) (ys := [holdC h]) fS hn ho (by simp only [ev, Env.get_set, ↓reduceIte, Nat.reduceEqDiff]) (by simp only [ev, Env.get_set, ↓reduceIte, Nat.reduceEqDiff]) rfl rfl (room (by simp; omega) (by simp; omega)) ?_
      intro v2 s2 ho2 hx2 _ _
      have hk2 : Keep S0.next S0 s2 := hk.trans (hx2.keep (by omega) fun r i n z h => by rw [n0]; exact (ho.row r i n z h).1)
      have kS2 : Keep s.next s s2 := q0.k.then hk2
      have gh2 := (q0.then hk2).g
      have hn2 := hk2.next
      rw [n0] at hn2
      have em : (out ++ [h]).map holdC = out.map holdC ++ [holdC h] := by simp
      rw [← em] at ho2
      have hd : (done || !bl x.key h.key) = true := by
        have : (!done && !bl x.key h.key) = true := hb
        cases done <;> simp_all
      have hc1 : (!done && !bl x.key h.key) = true := hb
      rw [hc1, if_pos rfl, hd] at hrn
      (repeat' (with_reducible first|refine w_1 ?_|refine w_2 ?_|refine w_4 ?_|refine w_5 ?_|(refine w_8 (fun hb=>?_) (fun hb=>?_)<;>(try simp only [Bool.not_eq_true',Bool.not_eq_false'] at hb)<;>try simp only [hb])|simp (maxDischargeDepth:=12) only [viz,↓reduceIte,Nat.reduceEqDiff,reduceCtorEq,Nat.reduceAdd,g0,g3,g7,hp,P.adr,l0 _ kS2,hld _ kS2,gh2]))
      · refine app_lit (v := v2) (k := 1) (b := s.next + 1) (xs := (out ++ [h]).map holdC) (ys := [holdC x]) (by rw [kS2.floor]; omega) hn2 ho2 (by simp only [ev, Env.get_set, ↓reduceIte, Nat.reduceEqDiff]) (by simp only [ev, Env.get_set, ↓reduceIte, Nat.reduceEqDiff]) rfl rfl (room (by simp; omega) (by simp; omega)) ?_
        intro v4 s4 ho4 hx4 _ _
        have hk4 : Keep S0.next S0 s4 := hk2.trans (hx4.keep (by omega) fun r i n z h => by rw [n0]; exact (ho2.row r i n z h).1)
        (repeat' (with_reducible first|refine w_2 ?_|simp (maxDischargeDepth:=12) only [viz,↓reduceIte,Nat.reduceEqDiff,reduceCtorEq,g0,g3,g7]))
        refine ⟨hlt, v4, true, (out ++ [h]) ++ [x], hk4, ?_, ?_, rfl, rfl, succ_av (by omega)⟩
        · rw [List.map_append]; exact ho4
        · rw [← hinv, hrn, hb, if_neg (by simp)]; simp
      · refine ⟨hlt, v2, true, out ++ [h], hk2, ho2, ?_, rfl, rfl, succ_av (by omega)⟩
        rw [← hinv, hrn, hb, if_pos rfl]; simp
    · have hc1 : (!done && !bl x.key h.key) = false := by assumption
      have hd : (done || !bl x.key h.key) = done := by cases done <;> simp_all
      rw [hc1, if_neg (by simp), hd, hb, if_neg (by simp)] at hrn
      refine app_lit (v := w) (k := 1) (b := s.next + 1) (xs := out.map holdC) (ys := [holdC x]) fS hn ho (by simp only [ev, Env.get_set, ↓reduceIte, Nat.reduceEqDiff]) (by simp only [ev, Env.get_set, ↓reduceIte, Nat.reduceEqDiff]) rfl rfl (room (by simp; omega) (by simp; omega)) ?_
      intro v4 s4 ho4 hx4 _ _
      have hk4 : Keep S0.next S0 s4 := hk.trans (hx4.keep (by omega) fun r i n z h => by rw [n0]; exact (ho.row r i n z h).1)
      (repeat' (with_reducible first|refine w_2 ?_|simp (maxDischargeDepth:=12) only [viz,↓reduceIte,Nat.reduceEqDiff,reduceCtorEq,g0,g3,g6,g7]))
      refine ⟨hlt, v4, done, out ++ [x], hk4, ?_, ?_, rfl, rfl, succ_av (by omega)⟩
      · rw [List.map_append]; exact ho4
      · rw [← hinv, hrn]; simp
    · have hc1 : (!done && !bl x.key h.key) = false := by assumption
      have hd : (done || !bl x.key h.key) = done := by cases done <;> simp_all
      rw [hc1, if_neg (by simp), hd, hb, if_pos rfl] at hrn
      refine ⟨hlt, w, done, out, hk, ho, ?_, rfl, rfl, succ_av (by omega)⟩
      rw [← hinv, hrn]; simp
  · have hre := rest_end (key := Hold.key) (h := h) hlt done
    (repeat' (with_reducible first|refine w_1 ?_|refine w_2 ?_|refine w_4 ?_|refine w_5 ?_|refine w_6 ?_|refine w_7 ?_|(refine w_8 (fun hb=>?_) (fun hb=>?_)<;>(try simp only [Bool.not_eq_true',Bool.not_eq_false'] at hb)<;>try simp only [hb])|simp (maxDischargeDepth:=12) only [viz,↓reduceIte,Nat.reduceEqDiff,reduceCtorEq,Nat.reduceAdd,g0,g3,g5,g6,g7,hlen,lt_false hlt,gh]))
    · rw [hb, if_neg (by simp)] at hre
      refine app_lit (v := w) (k := 1) (b := s.next + 1) (xs := out.map holdC) (ys := [holdC h]) fS hn ho (by simp only [ev, Env.get_set, ↓reduceIte, Nat.reduceEqDiff]) (by simp only [ev, Env.get_set, ↓reduceIte, Nat.reduceEqDiff]) rfl rfl (room (by simp; omega) (by simp; omega)) ?_
      intro v4 s4 ho4 hx4 _ _
      have hk4 : Keep S0.next S0 s4 := hk.trans (hx4.keep (by omega) fun r i n z h => by rw [n0]; exact (ho.row r i n z h).1)
      (repeat' (with_reducible first|refine w_1 ?_|refine w_2 ?_|refine w_6 ?_|simp (maxDischargeDepth:=12) only [viz,↓reduceIte]))
      rw [← hinv, hb, hre, List.map_append] at hK
      exact hK _ _ (q0.k.then hk4) (ho4.le (by omega))
    · rw [hb, if_pos rfl] at hre
      rw [← hinv, hb, hre, List.append_nil] at hK
      exact hK _ _ kS (ho.le (by omega))
end Go.Proofs.YthibbbfhkfebkaaGreat
/- A mark kept, by the document. No statement of the seat is proved here. -/
namespace Go.Proofs.YthibbbfhkfebkaaGreat
open Go Go.VI
set_option linter.unusedSimpArgs false
attribute [local irreducible] Ws Wp W C
set_option maxHeartbeats 4000000
theorem rmark_c {l : List Mark} {k : Txt} {token : Int} {v : AV} {D : Nat → Prop} {s : Mem} {K : AV → Mem → Prop} (hf : s.floor ≤ s.next) (hI : In D s) (hv : Marks s D v l) (hl : l.length < 1000) (hc : marksS l = true) (h64 : k.length ≤ 64) (ht : 0 < token)
    (hK : ∀ v' s', Keep s.next s s' → OwnL s' s.next v' 68 2 ((putG Mark.key (mkM l k token) l).map markC) → K (.tup [v', .int .i64 0]) s') : C tab 49 [v, .str k, .int .u64 token] s K := by
  refine C_enter (cf := cf49) rfl (Nat.le_of_ble_eq_true rfl) ?_
  simp only [cf49, oo, on, om, og, oc, ou]
  have hlen : lenA false v = some l.length := hv.lenB
  have e64 : decide ((k.length : Int) > 64) = false := by simp; omega
  have et : (token == 0) = false := by rw [beq_eq_false_iff_ne]; omega
  (repeat' (with_reducible first|refine w_1 ?_|refine w_2 ?_|simp (maxDischargeDepth:=12) only [viz,↓reduceIte,reduceCtorEq,Nat.reduceAdd]))
  refine rmarks_c (l := l) (D := D) hI hv ?_
  rw [hc]
  (repeat' (with_reducible first|refine w_1 ?_|refine w_2 ?_|refine w_4 ?_|refine w_5 ?_|((try refine w_9 ?_);simp (maxDischargeDepth:=12) only [viz,↓reduceIte,Nat.reduceEqDiff,reduceCtorEq,Nat.reduceAdd,e64,et,hf, Int.reduceBEq, Int.reduceBNe, Int.reduceLT, Int.reduceLE, Int.reduceGT, Int.reduceGE])))
  refine rlast_c (k := k) (D := D) (hI.keep (pushes _ _)) (hv.keep fun r hr => (pushes _ _).get r (hI r hr)) (by omega) ?_
  rcases Bool.eq_false_or_eq_true (decide (lastM l k > token)) with hgt | hgt
  · (repeat' (with_reducible first|refine w_2 ?_|refine w_4 ?_|simp (maxDischargeDepth:=12) only [viz,↓reduceIte,Nat.reduceEqDiff,reduceCtorEq,Nat.reduceAdd,hgt]))
    refine rlast_c (k := k) (D := D) (hI.keep (pushes _ _)) (hv.keep fun r hr => (pushes _ _).get r (hI r hr)) (by omega) ?_
    (repeat' (with_reducible first|refine w_1 ?_|refine w_2 ?_|refine w_3 ?_|simp (maxDischargeDepth:=12) only [viz,↓reduceIte,Nat.reduceAdd,hf]))
    have hm : mkM l k token = ⟨k, lastM l k⟩ := by unfold mkM; rw [if_pos (by simpa using hgt)]
    have pl := putG_len Mark.key (mkM l k token) l
    have q0 := Kp.of_push s ⟨68, 2, [[.str k, .int .u64 (lastM l k)]]⟩
    have n0 : (s.push ⟨68, 2, [[.str k, .int .u64 (lastM l k)]]⟩).next = s.next + 1 := by rw [next_push']
    generalize hS0 : s.push ⟨68, 2, [[.str k, .int .u64 (lastM l k)]]⟩ = S0 at *
    generalize mkM l k token = h at *
    subst hm
    refine W_inv l.length (fun i E s' => ∃ w done out, Keep S0.next S0 s' ∧ OwnL s' (s.next + 1) w 68 2 (List.map markC out) ∧ out ++ restG Mark.key ⟨k, lastM l k⟩ l i done = putG Mark.key ⟨k, lastM l k⟩ l ∧ E.get 0 = v ∧ E.get 1 = .str k ∧ E.get 8 = .ptr s.next 0 0 ∧ E.get 9 = w ∧ E.get 10 = .bool done ∧ E.get 11 = .int .i64 i) (by delta cf49l0 oo on om og oc ou; exact rfl) ?_ ?_
    · refine ⟨.emp, false, [], pushes _ _, OwnL.emp _ _ _ _, rest_zero _ _ _, ?_, ?_, ?_, ?_, ?_, ?_⟩
      all_goals simp only [ev, Env.get_set, ↓reduceIte, Nat.reduceEqDiff]
      all_goals rfl
    rintro i E s' hile _ ⟨w, done, out, hk, ho, hinv, g0, g1, g8, g9, g10, g11⟩
    have kS : Keep s.next s s' := q0.k.then hk
    have hn := hk.next
    rw [n0] at hn
    have gh := (q0.then hk).g
    have ho3 : out.length ≤ l.length + 1 := by
      have : (out ++ restG Mark.key ⟨k, lastM l k⟩ l i done).length = (putG Mark.key ⟨k, lastM l k⟩ l).length := by rw [hinv]
      rw [List.length_append] at this; omega
    have fS : s'.floor ≤ s.next + 1 := by rw [kS.floor]; omega
    by_cases hlt : i < l.length
    · obtain ⟨x, hx⟩ := get_of hlt
      obtain ⟨p, hp, P, hld⟩ := hv.ldk hI hx rfl rfl
      have l0 : ∀ M, Keep s.next s M → loadA M false 1 (VI.adr p 0) = some (.str x.key) := fun M hM => by
        have := P.ldf _ hM 0 false 1 (by simp [markC])
        rw [this]; rfl
      simp only [markC] at hld
      have hrn := rest_next (key := Mark.key) (h := ⟨k, lastM l k⟩) hx done
      (repeat' (with_reducible first|refine w_1 ?_|refine w_2 ?_|refine w_3 ?_|refine w_4 ?_|refine w_5 ?_|(refine w_8 (fun hb=>?_) (fun hb=>?_)<;>(try simp only [Bool.not_eq_true',Bool.not_eq_false'] at hb)<;>try simp only [hb])|refine w_13 (fun hc=>(by (try simp only [Bool.and_eq_true] at hc);simp (maxDischargeDepth:=12) only [viz,↓reduceIte,Nat.reduceEqDiff,reduceCtorEq,g0,g1,g11,hp,P.adr,l0 _ kS,cond_false,hc];first|exact ⟨rfl,rfl⟩|exact rfl)) ?_|((try refine w_9 ?_);simp (maxDischargeDepth:=12) only [viz,↓reduceIte,Nat.reduceEqDiff,reduceCtorEq,Nat.reduceAdd,g0,g1,g8,g9,g10,g11,hlen,lt_true hlt,hp,P.adr,l0 _ kS,hld _ kS,gh])))
      · refine app_lit (v := w) (k := 1) (b := s.next + 1) (xs := out.map markC) (ys := [markC ⟨k, lastM l k⟩]) fS hn ho (by simp only [ev, Env.get_set, ↓reduceIte, Nat.reduceEqDiff]) (by simp only [ev, Env.get_set, ↓reduceIte, Nat.reduceEqDiff]) rfl rfl (room (by simp; omega) (by simp; omega)) ?_
        intro v2 s2 ho2 hx2 _ _
        have hk2 : Keep S0.next S0 s2 := hk.trans (hx2.keep (by omega) fun r i n z h => by rw [n0]; exact (ho.row r i n z h).1)
        have kS2 : Keep s.next s s2 := q0.k.then hk2
        have gh2 := (q0.then hk2).g
        have hn2 := hk2.next
        rw [n0] at hn2
        have em : (out ++ [(⟨k, lastM l k⟩ : Mark)]).map markC = out.map markC ++ [markC ⟨k, lastM l k⟩] := by simp
        rw [← em] at ho2
        have hc1 : (!done && !bl x.key k) = true := hb
        have hd : (done || !bl x.key k) = true := by cases done <;> simp_all
        simp only at hrn
        rw [hc1, if_pos rfl, hd] at hrn
        (repeat' (with_reducible first|refine w_1 ?_|refine w_2 ?_|refine w_4 ?_|refine w_5 ?_|(refine w_8 (fun hb=>?_) (fun hb=>?_)<;>(try simp only [Bool.not_eq_true',Bool.not_eq_false'] at hb)<;>try simp only [hb])|simp (maxDischargeDepth:=12) only [viz,↓reduceIte,Nat.reduceEqDiff,reduceCtorEq,Nat.reduceAdd,g0,g1,g8,g11,hp,P.adr,l0 _ kS2,hld _ kS2]))
        · refine app_lit (v := v2) (k := 1) (b := s.next + 1) (xs := (out ++ [(⟨k, lastM l k⟩ : Mark)]).map markC) (ys := [markC x]) (by rw [kS2.floor]; omega) hn2 ho2 (by simp only [ev, Env.get_set, ↓reduceIte, Nat.reduceEqDiff]) (by simp only [ev, Env.get_set, ↓reduceIte, Nat.reduceEqDiff]) rfl rfl (room (by simp; omega) (by simp; omega)) ?_
          intro v4 s4 ho4 hx4 _ _
          have hk4 : Keep S0.next S0 s4 := hk2.trans (hx4.keep (by omega) fun r i n z h => by rw [n0]; exact (ho2.row r i n z h).1)
          (repeat' (with_reducible first|refine w_2 ?_|simp (maxDischargeDepth:=12) only [viz,↓reduceIte,Nat.reduceEqDiff,reduceCtorEq,g0,g1,g8,g11]))
          refine ⟨hlt, v4, true, (out ++ [⟨k, lastM l k⟩]) ++ [x], hk4, ?_, ?_, rfl, rfl, succ_av (by omega)⟩
          · rw [List.map_append]; exact ho4
          · rw [← hinv, hrn, hb, if_neg (by simp)]; simp
        · refine ⟨hlt, v2, true, out ++ [⟨k, lastM l k⟩], hk2, ho2, ?_, rfl, rfl, succ_av (by omega)⟩
          rw [← hinv, hrn, hb, if_pos rfl]; simp
      · have hc1 : (!done && !bl x.key k) = false := by assumption
        have hd : (done || !bl x.key k) = done := by cases done <;> simp_all
        simp only at hrn
        rw [hc1, if_neg (by simp), hd, hb, if_neg (by simp)] at hrn
        refine app_lit (v := w) (k := 1) (b := s.next + 1) (xs := out.map markC) (ys := [markC x]) fS hn ho (by simp only [ev, Env.get_set, ↓reduceIte, Nat.reduceEqDiff]) (by simp only [ev, Env.get_set, ↓reduceIte, Nat.reduceEqDiff]) rfl rfl (room (by simp; omega) (by simp; omega)) ?_
        intro v4 s4 ho4 hx4 _ _
        have hk4 : Keep S0.next S0 s4 := hk.trans (hx4.keep (by omega) fun r i n z h => by rw [n0]; exact (ho.row r i n z h).1)
        (repeat' (with_reducible first|refine w_2 ?_|simp (maxDischargeDepth:=12) only [viz,↓reduceIte,Nat.reduceEqDiff,reduceCtorEq,g0,g1,g8,g10,g11]))
        refine ⟨hlt, v4, done, out ++ [x], hk4, ?_, ?_, rfl, rfl, succ_av (by omega)⟩
        · rw [List.map_append]; exact ho4
        · rw [← hinv, hrn]; simp
      · have hc1 : (!done && !bl x.key k) = false := by assumption
        have hd : (done || !bl x.key k) = done := by cases done <;> simp_all
        simp only at hrn
        rw [hc1, if_neg (by simp), hd, hb, if_pos rfl] at hrn
        refine ⟨hlt, w, done, out, hk, ho, ?_, rfl, rfl, succ_av (by omega)⟩
        rw [← hinv, hrn]; simp
    · have hre := rest_end (key := Mark.key) (h := ⟨k, lastM l k⟩) hlt done
      have hlo : ∀ (v4 : AV) (s4 : Mem) (o2 : List Mark), OwnL s4 (s.next + 1) v4 68 2 (o2.map markC) → lenA false v4 = some o2.length := fun v4 s4 o2 h => by rw [h.len, List.length_map]
      (repeat' (with_reducible first|refine w_1 ?_|refine w_2 ?_|refine w_4 ?_|refine w_5 ?_|refine w_7 ?_|(refine w_8 (fun hb=>?_) (fun hb=>?_)<;>(try simp only [Bool.not_eq_true',Bool.not_eq_false'] at hb)<;>try simp only [hb])|simp (maxDischargeDepth:=12) only [viz,↓reduceIte,Nat.reduceEqDiff,reduceCtorEq,Nat.reduceAdd,g0,g8,g9,g10,g11,hlen,lt_false hlt,gh]))
      · rw [hb, if_neg (by simp)] at hre
        refine app_lit (v := w) (k := 1) (b := s.next + 1) (xs := out.map markC) (ys := [markC ⟨k, lastM l k⟩]) fS hn ho (by simp only [ev, Env.get_set, ↓reduceIte, Nat.reduceEqDiff]) (by simp only [ev, Env.get_set, ↓reduceIte, Nat.reduceEqDiff]) rfl rfl (room (by simp; omega) (by simp; omega)) ?_
        intro v4 s4 ho4 hx4 _ _
        have hk4 : Keep S0.next S0 s4 := hk.trans (hx4.keep (by omega) fun r i n z h => by rw [n0]; exact (ho.row r i n z h).1)
        have em : (out ++ [(⟨k, lastM l k⟩ : Mark)]).map markC = out.map markC ++ [markC ⟨k, lastM l k⟩] := by simp
        rw [← em] at ho4
        have hlo4 := hlo v4 s4 _ ho4
        have hgt4 : decide (((out ++ [(⟨k, lastM l k⟩ : Mark)]).length : Int) > 1024) = false := by simp; omega
        (repeat' (with_reducible first|refine w_1 ?_|refine w_2 ?_|refine w_4 ?_|refine w_5 ?_|refine w_6 ?_|simp (maxDischargeDepth:=12) only [viz,↓reduceIte,Nat.reduceEqDiff,hlo4,hgt4]))
        rw [← hinv, hb, hre] at hK
        exact hK _ _ (q0.k.then hk4) (ho4.le (by omega))
      · rw [hb, if_pos rfl] at hre
        have hlo4 := hlo w s' _ ho
        have hgt4 : decide ((out.length : Int) > 1024) = false := by simp; omega
        (repeat' (with_reducible first|refine w_1 ?_|refine w_2 ?_|refine w_4 ?_|refine w_5 ?_|refine w_6 ?_|simp (maxDischargeDepth:=12) only [viz,↓reduceIte,Nat.reduceEqDiff,g9,hlo4,hgt4]))
        rw [← hinv, hb, hre, List.append_nil] at hK
        exact hK _ _ kS (ho.le (by omega))
  · (repeat' (with_reducible first|refine w_1 ?_|refine w_2 ?_|refine w_3 ?_|refine w_4 ?_|refine w_5 ?_|simp (maxDischargeDepth:=12) only [viz,↓reduceIte,hgt]))
    have hm : mkM l k token = ⟨k, token⟩ := by unfold mkM; rw [if_neg (by simpa using hgt)]
    have pl := putG_len Mark.key (mkM l k token) l
    have q0 := Kp.of_push s ⟨68, 2, [[.str k, .int .u64 (token)]]⟩
    have n0 : (s.push ⟨68, 2, [[.str k, .int .u64 (token)]]⟩).next = s.next + 1 := by rw [next_push']
    generalize hS0 : s.push ⟨68, 2, [[.str k, .int .u64 (token)]]⟩ = S0 at *
    generalize mkM l k token = h at *
    subst hm
    refine W_inv l.length (fun i E s' => ∃ w done out, Keep S0.next S0 s' ∧ OwnL s' (s.next + 1) w 68 2 (List.map markC out) ∧ out ++ restG Mark.key ⟨k, token⟩ l i done = putG Mark.key ⟨k, token⟩ l ∧ E.get 0 = v ∧ E.get 1 = .str k ∧ E.get 8 = .ptr s.next 0 0 ∧ E.get 9 = w ∧ E.get 10 = .bool done ∧ E.get 11 = .int .i64 i) (by delta cf49l0 oo on om og oc ou; exact rfl) ?_ ?_
    · refine ⟨.emp, false, [], pushes _ _, OwnL.emp _ _ _ _, rest_zero _ _ _, ?_, ?_, ?_, ?_, ?_, ?_⟩
      all_goals simp only [ev, Env.get_set, ↓reduceIte, Nat.reduceEqDiff]
      all_goals rfl
    rintro i E s' hile _ ⟨w, done, out, hk, ho, hinv, g0, g1, g8, g9, g10, g11⟩
    have kS : Keep s.next s s' := q0.k.then hk
    have hn := hk.next
    rw [n0] at hn
    have gh := (q0.then hk).g
    have ho3 : out.length ≤ l.length + 1 := by
      have : (out ++ restG Mark.key ⟨k, token⟩ l i done).length = (putG Mark.key ⟨k, token⟩ l).length := by rw [hinv]
      rw [List.length_append] at this; omega
    have fS : s'.floor ≤ s.next + 1 := by rw [kS.floor]; omega
    by_cases hlt : i < l.length
    · obtain ⟨x, hx⟩ := get_of hlt
      obtain ⟨p, hp, P, hld⟩ := hv.ldk hI hx rfl rfl
      have l0 : ∀ M, Keep s.next s M → loadA M false 1 (VI.adr p 0) = some (.str x.key) := fun M hM => by
        have := P.ldf _ hM 0 false 1 (by simp [markC])
        rw [this]; rfl
      simp only [markC] at hld
      have hrn := rest_next (key := Mark.key) (h := ⟨k, token⟩) hx done
      (repeat' (with_reducible first|refine w_1 ?_|refine w_2 ?_|refine w_3 ?_|refine w_4 ?_|refine w_5 ?_|(refine w_8 (fun hb=>?_) (fun hb=>?_)<;>(try simp only [Bool.not_eq_true',Bool.not_eq_false'] at hb)<;>try simp only [hb])|refine w_13 (fun hc=>(by (try simp only [Bool.and_eq_true] at hc);simp (maxDischargeDepth:=12) only [viz,↓reduceIte,Nat.reduceEqDiff,reduceCtorEq,g0,g1,g11,hp,P.adr,l0 _ kS,cond_false,hc];first|exact ⟨rfl,rfl⟩|exact rfl)) ?_|((try refine w_9 ?_);simp (maxDischargeDepth:=12) only [viz,↓reduceIte,Nat.reduceEqDiff,reduceCtorEq,Nat.reduceAdd,g0,g1,g8,g9,g10,g11,hlen,lt_true hlt,hp,P.adr,l0 _ kS,hld _ kS,gh])))
      · refine app_lit (v := w) (k := 1) (b := s.next + 1) (xs := out.map markC) (ys := [markC ⟨k, token⟩]) fS hn ho (by simp only [ev, Env.get_set, ↓reduceIte, Nat.reduceEqDiff]) (by simp only [ev, Env.get_set, ↓reduceIte, Nat.reduceEqDiff]) rfl rfl (room (by simp; omega) (by simp; omega)) ?_
        intro v2 s2 ho2 hx2 _ _
        have hk2 : Keep S0.next S0 s2 := hk.trans (hx2.keep (by omega) fun r i n z h => by rw [n0]; exact (ho.row r i n z h).1)
        have kS2 : Keep s.next s s2 := q0.k.then hk2
        have gh2 := (q0.then hk2).g
        have hn2 := hk2.next
        rw [n0] at hn2
        have em : (out ++ [(⟨k, token⟩ : Mark)]).map markC = out.map markC ++ [markC ⟨k, token⟩] := by simp
        rw [← em] at ho2
        have hc1 : (!done && !bl x.key k) = true := hb
        have hd : (done || !bl x.key k) = true := by cases done <;> simp_all
        simp only at hrn
        rw [hc1, if_pos rfl, hd] at hrn
        (repeat' (with_reducible first|refine w_1 ?_|refine w_2 ?_|refine w_4 ?_|refine w_5 ?_|(refine w_8 (fun hb=>?_) (fun hb=>?_)<;>(try simp only [Bool.not_eq_true',Bool.not_eq_false'] at hb)<;>try simp only [hb])|simp (maxDischargeDepth:=12) only [viz,↓reduceIte,Nat.reduceEqDiff,reduceCtorEq,Nat.reduceAdd,g0,g1,g8,g11,hp,P.adr,l0 _ kS2,hld _ kS2]))
        · refine app_lit (v := v2) (k := 1) (b := s.next + 1) (xs := (out ++ [(⟨k, token⟩ : Mark)]).map markC) (ys := [markC x]) (by rw [kS2.floor]; omega) hn2 ho2 (by simp only [ev, Env.get_set, ↓reduceIte, Nat.reduceEqDiff]) (by simp only [ev, Env.get_set, ↓reduceIte, Nat.reduceEqDiff]) rfl rfl (room (by simp; omega) (by simp; omega)) ?_
          intro v4 s4 ho4 hx4 _ _
          have hk4 : Keep S0.next S0 s4 := hk2.trans (hx4.keep (by omega) fun r i n z h => by rw [n0]; exact (ho2.row r i n z h).1)
          (repeat' (with_reducible first|refine w_2 ?_|simp (maxDischargeDepth:=12) only [viz,↓reduceIte,Nat.reduceEqDiff,reduceCtorEq,g0,g1,g8,g11]))
          refine ⟨hlt, v4, true, (out ++ [⟨k, token⟩]) ++ [x], hk4, ?_, ?_, rfl, rfl, succ_av (by omega)⟩
          · rw [List.map_append]; exact ho4
          · rw [← hinv, hrn, hb, if_neg (by simp)]; simp
        · refine ⟨hlt, v2, true, out ++ [⟨k, token⟩], hk2, ho2, ?_, rfl, rfl, succ_av (by omega)⟩
          rw [← hinv, hrn, hb, if_pos rfl]; simp
      · have hc1 : (!done && !bl x.key k) = false := by assumption
        have hd : (done || !bl x.key k) = done := by cases done <;> simp_all
        simp only at hrn
        rw [hc1, if_neg (by simp), hd, hb, if_neg (by simp)] at hrn
        refine app_lit (v := w) (k := 1) (b := s.next + 1) (xs := out.map markC) (ys := [markC x]) fS hn ho (by simp only [ev, Env.get_set, ↓reduceIte, Nat.reduceEqDiff]) (by simp only [ev, Env.get_set, ↓reduceIte, Nat.reduceEqDiff]) rfl rfl (room (by simp; omega) (by simp; omega)) ?_
        intro v4 s4 ho4 hx4 _ _
        have hk4 : Keep S0.next S0 s4 := hk.trans (hx4.keep (by omega) fun r i n z h => by rw [n0]; exact (ho.row r i n z h).1)
        (repeat' (with_reducible first|refine w_2 ?_|simp (maxDischargeDepth:=12) only [viz,↓reduceIte,Nat.reduceEqDiff,reduceCtorEq,g0,g1,g8,g10,g11]))
        refine ⟨hlt, v4, done, out ++ [x], hk4, ?_, ?_, rfl, rfl, succ_av (by omega)⟩
        · rw [List.map_append]; exact ho4
        · rw [← hinv, hrn]; simp
      · have hc1 : (!done && !bl x.key k) = false := by assumption
        have hd : (done || !bl x.key k) = done := by cases done <;> simp_all
        simp only at hrn
        rw [hc1, if_neg (by simp), hd, hb, if_pos rfl] at hrn
        refine ⟨hlt, w, done, out, hk, ho, ?_, rfl, rfl, succ_av (by omega)⟩
        rw [← hinv, hrn]; simp
    · have hre := rest_end (key := Mark.key) (h := ⟨k, token⟩) hlt done
      have hlo : ∀ (v4 : AV) (s4 : Mem) (o2 : List Mark), OwnL s4 (s.next + 1) v4 68 2 (o2.map markC) → lenA false v4 = some o2.length := fun v4 s4 o2 h => by rw [h.len, List.length_map]
      (repeat' (with_reducible first|refine w_1 ?_|refine w_2 ?_|refine w_4 ?_|refine w_5 ?_|refine w_7 ?_|(refine w_8 (fun hb=>?_) (fun hb=>?_)<;>(try simp only [Bool.not_eq_true',Bool.not_eq_false'] at hb)<;>try simp only [hb])|simp (maxDischargeDepth:=12) only [viz,↓reduceIte,Nat.reduceEqDiff,reduceCtorEq,Nat.reduceAdd,g0,g8,g9,g10,g11,hlen,lt_false hlt,gh]))
      · rw [hb, if_neg (by simp)] at hre
        refine app_lit (v := w) (k := 1) (b := s.next + 1) (xs := out.map markC) (ys := [markC ⟨k, token⟩]) fS hn ho (by simp only [ev, Env.get_set, ↓reduceIte, Nat.reduceEqDiff]) (by simp only [ev, Env.get_set, ↓reduceIte, Nat.reduceEqDiff]) rfl rfl (room (by simp; omega) (by simp; omega)) ?_
        intro v4 s4 ho4 hx4 _ _
        have hk4 : Keep S0.next S0 s4 := hk.trans (hx4.keep (by omega) fun r i n z h => by rw [n0]; exact (ho.row r i n z h).1)
        have em : (out ++ [(⟨k, token⟩ : Mark)]).map markC = out.map markC ++ [markC ⟨k, token⟩] := by simp
        rw [← em] at ho4
        have hlo4 := hlo v4 s4 _ ho4
        have hgt4 : decide (((out ++ [(⟨k, token⟩ : Mark)]).length : Int) > 1024) = false := by simp; omega
        (repeat' (with_reducible first|refine w_1 ?_|refine w_2 ?_|refine w_4 ?_|refine w_5 ?_|refine w_6 ?_|simp (maxDischargeDepth:=12) only [viz,↓reduceIte,Nat.reduceEqDiff,hlo4,hgt4]))
        rw [← hinv, hb, hre] at hK
        exact hK _ _ (q0.k.then hk4) (ho4.le (by omega))
      · rw [hb, if_pos rfl] at hre
        have hlo4 := hlo w s' _ ho
        have hgt4 : decide ((out.length : Int) > 1024) = false := by simp; omega
        (repeat' (with_reducible first|refine w_1 ?_|refine w_2 ?_|refine w_4 ?_|refine w_5 ?_|refine w_6 ?_|simp (maxDischargeDepth:=12) only [viz,↓reduceIte,Nat.reduceEqDiff,g9,hlo4,hgt4]))
        rw [← hinv, hb, hre, List.append_nil] at hK
        exact hK _ _ kS (ho.le (by omega))
end Go.Proofs.YthibbbfhkfebkaaGreat

