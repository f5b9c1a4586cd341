/- Keys are about to turn: the document. No statement of the seat is proved here. -/
import Derived.Test.YthibbbfhkfebkaaGreatVZTJ
import Derived.Test.YthibbbfhkfebkaaGreatVZVE
namespace Go.Proofs.YthibbbfhkfebkaaGreat
open Go Go.VI
set_option linter.unusedSimpArgs false
theorem mg_len : ∀ ys xs : List Intent, (mg ys xs).length = ys.length + xs.length
  | [], xs => by simp [mg]
  | y :: ys, [] => by simp [mg]
  | y :: ys, x :: xs => by
    have h1 := mg_len ys (x :: xs)
    have h2 := mg_len (y :: ys) xs
    unfold mg
    split <;> simp only [List.length_cons] at * <;> omega
theorem mg_drop_new {ys xs : List Intent} {n i : Nat} {y : Intent} (hy : ys[n]? = some y) (h : i = xs.length ∨ ∃ x, xs[i]? = some x ∧ bl y.key x.key = true) : mg (ys.drop n) (xs.drop i) = y :: mg (ys.drop (n + 1)) (xs.drop i) := by
  rw [drop_cons hy]
  rcases h with rfl | ⟨x, hx, hb⟩
  · rw [List.drop_length, mg_nil, mg_nil]
  · rw [drop_cons hx]
    simp [mg, hb]
theorem mg_drop_old {ys xs : List Intent} {n i : Nat} {x : Intent} (hx : xs[i]? = some x) (h : ys.length ≤ n ∨ ∃ y, ys[n]? = some y ∧ bl y.key x.key = false) : mg (ys.drop n) (xs.drop i) = x :: mg (ys.drop n) (xs.drop (i + 1)) := by
  rw [drop_cons hx]
  rcases h with h | ⟨y, hy, hb⟩
  · rw [List.drop_eq_nil_of_le h]; simp [mg]
  · rw [drop_cons hy]
    simp [mg, hb]
attribute [local irreducible] Ws Wp W C
set_option maxHeartbeats 4000000
theorem rprepare_c {t : Table} {w : TV} {c q : Int} {k : Call} {kv : AV} {token : Int} {D : Nat → Prop} {s : Mem} {K : AV → Mem → Prop} (hf : s.floor ≤ s.next) (hI : In D s) (hw : TabIn s D w t) (hs : Small t) (hk : isSl kv (k.keys.map txtC)) (hkl : k.keys.length ≤ 40)
    (hK : ∀ w' s', Keep s.next s s' → TabIn s' (fun r => D r ∨ (s.next ≤ r ∧ r < s'.next)) w' (prepP t c q k token).2 → K (.tup [.agg (tabC (prepP t c q k token).2 w'), .int .i64 (prepP t c q k token).1]) s') : C tab 11 [.agg (tabC t w), .agg [.int .i64 c, .int .u64 q], .agg (callC kv k), .int .u64 token] s K := by
  refine C_enter (cf := cf11) rfl (Nat.le_of_ble_eq_true rfl) ?_
  simp only [cf11, oo, on, om, og, oc, ou, tabC, callC]
  have hkc : isCell kv = true := by rcases hk with ⟨rfl, _⟩ | rfl <;> rfl
  have hz : ∀ M e R, Keep s.next s M → prepP t c q k token = (e, zeroT) → K (.tup [.agg [.int .i64 0, .nilS, .nilS, .nilS, .nilS, .nilS], .int .i64 e]) (M.put (s.next + 1 + 1 + 1) R) := fun M e R hM h => by
    rw [h] at hK
    exact hK zeroW _ (hM.trans (Keep.put (by omega) _)) (zero_in _ _)
  have r0 := R4.of_push s ⟨27, 6, [[.int .i64 t.now, w.sp, w.fr, w.ho, w.ma, w.it]]⟩ ⟨30, 2, [[.int .i64 c, .int .u64 q]]⟩ ⟨33, 4, [[.int .i64 k.kind, kv, .int .u64 k.token, .int .i64 k.ttl]]⟩ ⟨27, 6, [[.int .i64 0, .nilS, .nilS, .nilS, .nilS, .nilS]]⟩
  have k0 := (pushes s ⟨27, 6, [[.int .i64 t.now, w.sp, w.fr, w.ho, w.ma, w.it]]⟩).then ((pushes _ ⟨30, 2, [[.int .i64 c, .int .u64 q]]⟩).then ((pushes _ ⟨33, 4, [[.int .i64 k.kind, kv, .int .u64 k.token, .int .i64 k.ttl]]⟩).then (pushes _ ⟨27, 6, [[.int .i64 0, .nilS, .nilS, .nilS, .nilS, .nilS]]⟩)))
  (repeat' (with_reducible first|refine w_1 ?_|refine w_2 ?_|refine w_3 ?_|refine w_4 ?_|refine w_5 ?_|refine w_6 ?_|refine w_7 ?_|(refine w_8 (fun hb=>?_) (fun hb=>?_)<;>(try simp only [Bool.not_eq_true',Bool.not_eq_false'] at hb)<;>try simp only [hb])|(refine w_9 ?_;simp (maxDischargeDepth:=12) only [viz,↓reduceIte,Nat.reduceEqDiff,reduceCtorEq,Int.reduceEq,Int.reduceNeg,Nat.reduceAdd,Nat.reduceLeDiff,hw.sp.cell,hw.fr.cell,hw.ho.cell,hw.ma.cell,hw.it.cell,hkc,r0.a])|refine w_10 (fun hc=>(by (try simp only [Bool.and_eq_true] at hc);simp (maxDischargeDepth:=12) only [viz,↓reduceIte,Nat.reduceEqDiff,reduceCtorEq,Int.reduceEq,Int.reduceNeg,Nat.reduceAdd,Nat.reduceLeDiff,hw.sp.cell,hw.fr.cell,hw.ho.cell,hw.ma.cell,hw.it.cell,hkc,r0.a,hc];first|exact ⟨rfl,rfl⟩|exact rfl)) ?_|refine w_11 (fun hc=>(by (try simp only [Bool.and_eq_true] at hc);simp (maxDischargeDepth:=12) only [viz,↓reduceIte,Nat.reduceEqDiff,reduceCtorEq,Int.reduceEq,Int.reduceNeg,Nat.reduceAdd,Nat.reduceLeDiff,hw.sp.cell,hw.fr.cell,hw.ho.cell,hw.ma.cell,hw.it.cell,hkc,r0.a,hc];first|exact ⟨rfl,rfl⟩|exact rfl)) ?_|refine w_12 ?_|simp (maxDischargeDepth:=12) only [viz,↓reduceIte,Nat.reduceEqDiff,reduceCtorEq,Int.reduceEq,Int.reduceNeg,Nat.reduceAdd,Nat.reduceLeDiff,hw.sp.cell,hw.fr.cell,hw.ho.cell,hw.ma.cell,hw.it.cell,hkc,r0.a]))
  generalize hS0 : (((s.push _).push _).push _).push _ = S0 at *
  refine rMay_c (D := D) (k0.ok hf) (hI.keep k0) (hw.keep fun r hr => k0.get r (hI r hr)) hs fun s1 h1 => ?_
  have r1 := r0.then h1
  have k1 := k0.then h1
  have f1 : s1.floor ≤ s.next + 1 + 1 + 1 := by rw [k1.floor]; omega
  have e1 : (mayT t && callS k && idS c q && !decide (token = 0)) = false → prepP t c q k token = (1, zeroT) := fun h => by unfold prepP; rw [if_pos h]
  (repeat' (with_reducible first|refine w_1 ?_|refine w_2 ?_|refine w_3 ?_|refine w_4 ?_|refine w_5 ?_|refine w_6 ?_|refine w_7 ?_|(refine w_8 (fun hb=>?_) (fun hb=>?_)<;>(try simp only [Bool.not_eq_true',Bool.not_eq_false'] at hb)<;>try simp only [hb])|(refine w_9 ?_;simp (maxDischargeDepth:=12) only [viz,↓reduceIte,Nat.reduceEqDiff,reduceCtorEq,Int.reduceEq,Int.reduceNeg,Nat.reduceAdd,Nat.reduceLeDiff,r1.a,r1.b,r1.c,r1.e,f1])|refine w_10 (fun hc=>(by (try simp only [Bool.and_eq_true] at hc);simp (maxDischargeDepth:=12) only [viz,↓reduceIte,Nat.reduceEqDiff,reduceCtorEq,Int.reduceEq,Int.reduceNeg,Nat.reduceAdd,Nat.reduceLeDiff,r1.a,r1.b,r1.c,r1.e,f1,hc];first|exact ⟨rfl,rfl⟩|exact rfl)) ?_|refine w_11 (fun hc=>(by (try simp only [Bool.and_eq_true] at hc);simp (maxDischargeDepth:=12) only [viz,↓reduceIte,Nat.reduceEqDiff,reduceCtorEq,Int.reduceEq,Int.reduceNeg,Nat.reduceAdd,Nat.reduceLeDiff,r1.a,r1.b,r1.c,r1.e,f1,hc];first|exact ⟨rfl,rfl⟩|exact rfl)) ?_|refine w_12 ?_|simp (maxDischargeDepth:=12) only [viz,↓reduceIte,Nat.reduceEqDiff,reduceCtorEq,Int.reduceEq,Int.reduceNeg,Nat.reduceAdd,Nat.reduceLeDiff,r1.a,r1.b,r1.c,r1.e,f1]))
  all_goals first | exact hz _ _ _ k1 (e1 (by grind)) | skip
  refine mayCall_c (c := k) hk fun s2 h2 => ?_
  have r2 := r1.then h2
  have k2 := k1.then h2
  have f2 : s2.floor ≤ s.next + 1 + 1 + 1 := by rw [k2.floor]; omega
  (repeat' (with_reducible first|refine w_1 ?_|refine w_2 ?_|refine w_3 ?_|refine w_4 ?_|refine w_5 ?_|refine w_6 ?_|refine w_7 ?_|(refine w_8 (fun hb=>?_) (fun hb=>?_)<;>(try simp only [Bool.not_eq_true',Bool.not_eq_false'] at hb)<;>try simp only [hb])|(refine w_9 ?_;simp (maxDischargeDepth:=12) only [viz,↓reduceIte,Nat.reduceEqDiff,reduceCtorEq,Int.reduceEq,Int.reduceNeg,Nat.reduceAdd,Nat.reduceLeDiff,r2.a,r2.b,r2.c,r2.e,f2])|refine w_10 (fun hc=>(by (try simp only [Bool.and_eq_true] at hc);simp (maxDischargeDepth:=12) only [viz,↓reduceIte,Nat.reduceEqDiff,reduceCtorEq,Int.reduceEq,Int.reduceNeg,Nat.reduceAdd,Nat.reduceLeDiff,r2.a,r2.b,r2.c,r2.e,f2,hc];first|exact ⟨rfl,rfl⟩|exact rfl)) ?_|refine w_11 (fun hc=>(by (try simp only [Bool.and_eq_true] at hc);simp (maxDischargeDepth:=12) only [viz,↓reduceIte,Nat.reduceEqDiff,reduceCtorEq,Int.reduceEq,Int.reduceNeg,Nat.reduceAdd,Nat.reduceLeDiff,r2.a,r2.b,r2.c,r2.e,f2,hc];first|exact ⟨rfl,rfl⟩|exact rfl)) ?_|refine w_12 ?_|simp (maxDischargeDepth:=12) only [viz,↓reduceIte,Nat.reduceEqDiff,reduceCtorEq,Int.reduceEq,Int.reduceNeg,Nat.reduceAdd,Nat.reduceLeDiff,r2.a,r2.b,r2.c,r2.e,f2]))
  all_goals first | exact hz _ _ _ k2 (e1 (by grind)) | skip
  refine rid_c fun s3 h3 => ?_
  have r3 := r2.then h3
  have k3 := k2.then h3
  have f3 : s3.floor ≤ s.next + 1 + 1 + 1 := by rw [k3.floor]; omega
  (repeat' (with_reducible first|refine w_1 ?_|refine w_2 ?_|refine w_3 ?_|refine w_4 ?_|refine w_5 ?_|refine w_6 ?_|refine w_7 ?_|(refine w_8 (fun hb=>?_) (fun hb=>?_)<;>(try simp only [Bool.not_eq_true',Bool.not_eq_false'] at hb)<;>try simp only [hb])|(refine w_9 ?_;simp (maxDischargeDepth:=12) only [viz,↓reduceIte,Nat.reduceEqDiff,reduceCtorEq,Int.reduceEq,Int.reduceNeg,Nat.reduceAdd,Nat.reduceLeDiff,r3.a,r3.b,r3.c,r3.e,f3])|refine w_10 (fun hc=>(by (try simp only [Bool.and_eq_true] at hc);simp (maxDischargeDepth:=12) only [viz,↓reduceIte,Nat.reduceEqDiff,reduceCtorEq,Int.reduceEq,Int.reduceNeg,Nat.reduceAdd,Nat.reduceLeDiff,r3.a,r3.b,r3.c,r3.e,f3,hc];first|exact ⟨rfl,rfl⟩|exact rfl)) ?_|refine w_11 (fun hc=>(by (try simp only [Bool.and_eq_true] at hc);simp (maxDischargeDepth:=12) only [viz,↓reduceIte,Nat.reduceEqDiff,reduceCtorEq,Int.reduceEq,Int.reduceNeg,Nat.reduceAdd,Nat.reduceLeDiff,r3.a,r3.b,r3.c,r3.e,f3,hc];first|exact ⟨rfl,rfl⟩|exact rfl)) ?_|refine w_12 ?_|simp (maxDischargeDepth:=12) only [viz,↓reduceIte,Nat.reduceEqDiff,reduceCtorEq,Int.reduceEq,Int.reduceNeg,Nat.reduceAdd,Nat.reduceLeDiff,r3.a,r3.b,r3.c,r3.e,f3]))
  all_goals first | exact hz _ _ _ k3 (e1 (by grind)) | skip
  have hok : (mayT t && callS k && idS c q && !decide (token = 0)) = true := by grind
  have hmay : mayT t = true := by grind
  have hcal : callS k = true := by grind
  have hli : lenA false w.it = some t.ints.length := hw.it.lenB
  have hll := hs.it
  have n3 := r3.n
  refine W_inv t.ints.length (fun i E s' => ∃ v, Keep s3.next s3 s' ∧ OwnL s' s3.next v 9 1 ((theirsP (t.ints.take i) c q).map txtC) ∧ E.get 3 = .int .u64 token ∧ E.get 4 = .ptr s.next 0 0 ∧ E.get 5 = .ptr (s.next + 1) 0 0 ∧ E.get 6 = .ptr (s.next + 1 + 1) 0 0 ∧ E.get 8 = .ptr (s.next + 1 + 1 + 1) 0 0 ∧ E.get 10 = v ∧ E.get 11 = .int .i64 i) (by delta cf11l0 oo on om og oc ou; exact rfl) ?_ ?_
  · refine ⟨.emp, pushes _ _, OwnL.emp _ _ _ _, (by simp only [ev, Env.get_set, ↓reduceIte, Nat.reduceEqDiff]), (by simp only [ev, Env.get_set, ↓reduceIte, Nat.reduceEqDiff]), (by simp only [ev, Env.get_set, ↓reduceIte, Nat.reduceEqDiff]), (by simp only [ev, Env.get_set, ↓reduceIte, Nat.reduceEqDiff]), (by simp only [ev, Env.get_set, ↓reduceIte, Nat.reduceEqDiff]), ?_, ?_⟩
    all_goals simp only [ev, Env.get_set, ↓reduceIte, Nat.reduceEqDiff]
    all_goals rfl
  rintro i E s4 hile _ ⟨v, hk4, ho4, g3, g4, g5, g6, g8, g10, g11⟩
  have r4 := r3.then hk4
  have k4 := k3.then hk4
  have n4 := hk4.next
  have tl := theirs_len (t.ints.take i) c q
  rw [List.length_take] at tl
  by_cases hlt : i < t.ints.length
  · obtain ⟨x, hx⟩ := get_of hlt
    obtain ⟨p, hp, P, _⟩ := hw.it.ldk hI hx rfl rfl
    have l1 : loadA s4 true 2 (VI.adr p 1) = some (.agg [.int .i64 x.client, .int .u64 x.seq]) := by
      have := P.ldf _ k4 1 true 2 (by simp [intC])
      rw [this]; rfl
    have l0 : loadA s4 false 1 (VI.adr p 0) = some (.str x.key) := by
      have := P.ldf _ k4 0 false 1 (by simp [intC])
      rw [this]; rfl
    have hts := theirs_snoc hx c q
    (repeat' (with_reducible first|refine w_1 ?_|refine w_2 ?_|refine w_3 ?_|refine w_4 ?_|refine w_5 ?_|refine w_6 ?_|refine w_7 ?_|(refine w_8 (fun hb=>?_) (fun hb=>?_)<;>(try simp only [Bool.not_eq_true',Bool.not_eq_false'] at hb)<;>try simp only [hb])|(refine w_9 ?_;simp (maxDischargeDepth:=12) only [viz,↓reduceIte,Nat.reduceEqDiff,reduceCtorEq,Int.reduceEq,Int.reduceNeg,Nat.reduceAdd,Nat.reduceLeDiff,g3,g4,g5,g6,g8,g10,g11,hli,lt_true hlt,hp,P.adr,l1,l0,r4.a,r4.b,eqA_id])|refine w_10 (fun hc=>(by (try simp only [Bool.and_eq_true] at hc);simp (maxDischargeDepth:=12) only [viz,↓reduceIte,Nat.reduceEqDiff,reduceCtorEq,Int.reduceEq,Int.reduceNeg,Nat.reduceAdd,Nat.reduceLeDiff,g3,g4,g5,g6,g8,g10,g11,hli,lt_true hlt,hp,P.adr,l1,l0,r4.a,r4.b,eqA_id,hc];first|exact ⟨rfl,rfl⟩|exact rfl)) ?_|refine w_11 (fun hc=>(by (try simp only [Bool.and_eq_true] at hc);simp (maxDischargeDepth:=12) only [viz,↓reduceIte,Nat.reduceEqDiff,reduceCtorEq,Int.reduceEq,Int.reduceNeg,Nat.reduceAdd,Nat.reduceLeDiff,g3,g4,g5,g6,g8,g10,g11,hli,lt_true hlt,hp,P.adr,l1,l0,r4.a,r4.b,eqA_id,hc];first|exact ⟨rfl,rfl⟩|exact rfl)) ?_|refine w_12 ?_|simp (maxDischargeDepth:=12) only [viz,↓reduceIte,Nat.reduceEqDiff,reduceCtorEq,Int.reduceEq,Int.reduceNeg,Nat.reduceAdd,Nat.reduceLeDiff,g3,g4,g5,g6,g8,g10,g11,hli,lt_true hlt,hp,P.adr,l1,l0,r4.a,r4.b,eqA_id]))
    · refine app_lit (v := v) (k := 1) (b := s3.next) (xs := (theirsP (t.ints.take i) c q).map txtC) (ys := [txtC x.key]) (by rw [k4.floor]; omega) n4 ho4 (by simp only [ev, Env.get_set, ↓reduceIte, Nat.reduceEqDiff]) (by simp only [ev, Env.get_set, ↓reduceIte, Nat.reduceEqDiff]) rfl rfl (room (by simp; omega) (by simp; omega)) ?_
      intro v2 s5 ho2 hx2 _ _
      have hk5 : Keep s3.next s3 s5 := hk4.trans (hx2.keep n4 fun r i n z h => (ho4.row r i n z h).1)
      (repeat' (with_reducible first|refine w_1 ?_|refine w_2 ?_|refine w_3 ?_|refine w_4 ?_|refine w_5 ?_|refine w_6 ?_|refine w_7 ?_|(refine w_8 (fun hb=>?_) (fun hb=>?_)<;>(try simp only [Bool.not_eq_true',Bool.not_eq_false'] at hb)<;>try simp only [hb])|(refine w_9 ?_;simp (maxDischargeDepth:=12) only [viz,↓reduceIte,Nat.reduceEqDiff,reduceCtorEq,Int.reduceEq,Int.reduceNeg,Nat.reduceAdd,Nat.reduceLeDiff,g3,g4,g5,g6,g8,g10,g11])|refine w_10 (fun hc=>(by (try simp only [Bool.and_eq_true] at hc);simp (maxDischargeDepth:=12) only [viz,↓reduceIte,Nat.reduceEqDiff,reduceCtorEq,Int.reduceEq,Int.reduceNeg,Nat.reduceAdd,Nat.reduceLeDiff,g3,g4,g5,g6,g8,g10,g11,hc];first|exact ⟨rfl,rfl⟩|exact rfl)) ?_|refine w_11 (fun hc=>(by (try simp only [Bool.and_eq_true] at hc);simp (maxDischargeDepth:=12) only [viz,↓reduceIte,Nat.reduceEqDiff,reduceCtorEq,Int.reduceEq,Int.reduceNeg,Nat.reduceAdd,Nat.reduceLeDiff,g3,g4,g5,g6,g8,g10,g11,hc];first|exact ⟨rfl,rfl⟩|exact rfl)) ?_|refine w_12 ?_|simp (maxDischargeDepth:=12) only [viz,↓reduceIte,Nat.reduceEqDiff,reduceCtorEq,Int.reduceEq,Int.reduceNeg,Nat.reduceAdd,Nat.reduceLeDiff,g3,g4,g5,g6,g8,g10,g11]))
      refine ⟨hlt, v2, hk5, ?_, rfl, succ_av (by omega)⟩
      have : isX c q x = true := hb
      rw [hts, this, if_pos rfl, List.map_append]
      exact ho2
    · refine ⟨hlt, v, hk4, ?_, rfl, succ_av (by omega)⟩
      have : isX c q x = false := hb
      rw [hts, this]
      simpa using ho4
  rw [List.take_of_length_le (by omega)] at ho4
  have hl4 : lenA false v = some (theirsP t.ints c q).length := by rw [ho4.len, List.length_map]
  have hlk : lenA false kv = some k.keys.length := (Sl.of_isSl (s := s) (D := D) hk (txt_cells _)).lenB
  have e4 := ho4.sl (D := fun q => s3.next ≤ q ∧ q < s4.next) (txt_cells _) fun r n h => ho4.row r 0 n 1 h
  have f4 : s4.floor ≤ s.next + 1 + 1 + 1 := by rw [k4.floor]; omega
  (repeat' (with_reducible first|refine w_1 ?_|refine w_2 ?_|refine w_3 ?_|refine w_4 ?_|refine w_5 ?_|refine w_6 ?_|refine w_7 ?_|(refine w_8 (fun hb=>?_) (fun hb=>?_)<;>(try simp only [Bool.not_eq_true',Bool.not_eq_false'] at hb)<;>try simp only [hb])|(refine w_9 ?_;simp (maxDischargeDepth:=12) only [viz,↓reduceIte,Nat.reduceEqDiff,reduceCtorEq,Int.reduceEq,Int.reduceNeg,Nat.reduceAdd,Nat.reduceLeDiff,g3,g4,g5,g6,g8,g10,g11,hli,lt_false hlt,r4.a,r4.b,r4.c,r4.e,hl4,hlk,f4])|refine w_10 (fun hc=>(by (try simp only [Bool.and_eq_true] at hc);simp (maxDischargeDepth:=12) only [viz,↓reduceIte,Nat.reduceEqDiff,reduceCtorEq,Int.reduceEq,Int.reduceNeg,Nat.reduceAdd,Nat.reduceLeDiff,g3,g4,g5,g6,g8,g10,g11,hli,lt_false hlt,r4.a,r4.b,r4.c,r4.e,hl4,hlk,f4,hc];first|exact ⟨rfl,rfl⟩|exact rfl)) ?_|refine w_11 (fun hc=>(by (try simp only [Bool.and_eq_true] at hc);simp (maxDischargeDepth:=12) only [viz,↓reduceIte,Nat.reduceEqDiff,reduceCtorEq,Int.reduceEq,Int.reduceNeg,Nat.reduceAdd,Nat.reduceLeDiff,g3,g4,g5,g6,g8,g10,g11,hli,lt_false hlt,r4.a,r4.b,r4.c,r4.e,hl4,hlk,f4,hc];first|exact ⟨rfl,rfl⟩|exact rfl)) ?_|refine w_12 ?_|simp (maxDischargeDepth:=12) only [viz,↓reduceIte,Nat.reduceEqDiff,reduceCtorEq,Int.reduceEq,Int.reduceNeg,Nat.reduceAdd,Nat.reduceLeDiff,g3,g4,g5,g6,g8,g10,g11,hli,lt_false hlt,r4.a,r4.b,r4.c,r4.e,hl4,hlk,f4]))
  · have hne : theirsP t.ints c q ≠ [] := by
      intro h
      have : decide (((theirsP t.ints c q).length : Int) > 0) = true := by assumption
      rw [h] at this; simp at this
    refine hz _ _ _ k4 ?_
    unfold prepP
    rw [if_neg (by rw [hok]; simp), if_pos hne, if_neg]
    intro e
    rw [beq_iff_eq] at e
    rw [e] at hb; simp at hb
  · have hne : theirsP t.ints c q ≠ [] := by
      intro h
      have : decide (((theirsP t.ints c q).length : Int) > 0) = true := by assumption
      rw [h] at this; simp at this
    have hlm : (theirsP t.ints c q).length = k.keys.length := by simp at hb; omega
    generalize hL : theirsP t.ints c q = L at *
    refine W_inv L.length (fun i E s' => s' = s4 ∧ E.get 4 = .ptr s.next 0 0 ∧ E.get 6 = .ptr (s.next + 1 + 1) 0 0 ∧ E.get 8 = .ptr (s.next + 1 + 1 + 1) 0 0 ∧ E.get 10 = v ∧ E.get 12 = .int .i64 i ∧ ∀ j, j < i → L[j]? = k.keys[j]?) (by delta cf11l1 oo on om og oc ou; exact rfl) ?_ ?_
    · (repeat' (with_reducible first|refine w_1 ?_|refine w_2 ?_|refine w_3 ?_|refine w_4 ?_|refine w_5 ?_|refine w_6 ?_|refine w_7 ?_|(refine w_8 (fun hb=>?_) (fun hb=>?_)<;>(try simp only [Bool.not_eq_true',Bool.not_eq_false'] at hb)<;>try simp only [hb])|(refine w_9 ?_;simp (maxDischargeDepth:=12) only [viz,↓reduceIte,Nat.reduceEqDiff,reduceCtorEq,Int.reduceEq,Int.reduceNeg,Nat.reduceAdd,Nat.reduceLeDiff,g3,g4,g5,g6,g8,g10,g11])|refine w_10 (fun hc=>(by (try simp only [Bool.and_eq_true] at hc);simp (maxDischargeDepth:=12) only [viz,↓reduceIte,Nat.reduceEqDiff,reduceCtorEq,Int.reduceEq,Int.reduceNeg,Nat.reduceAdd,Nat.reduceLeDiff,g3,g4,g5,g6,g8,g10,g11,hc];first|exact ⟨rfl,rfl⟩|exact rfl)) ?_|refine w_11 (fun hc=>(by (try simp only [Bool.and_eq_true] at hc);simp (maxDischargeDepth:=12) only [viz,↓reduceIte,Nat.reduceEqDiff,reduceCtorEq,Int.reduceEq,Int.reduceNeg,Nat.reduceAdd,Nat.reduceLeDiff,g3,g4,g5,g6,g8,g10,g11,hc];first|exact ⟨rfl,rfl⟩|exact rfl)) ?_|refine w_12 ?_|simp (maxDischargeDepth:=12) only [viz,↓reduceIte,Nat.reduceEqDiff,reduceCtorEq,Int.reduceEq,Int.reduceNeg,Nat.reduceAdd,Nat.reduceLeDiff,g3,g4,g5,g6,g8,g10,g11]))
      exact ⟨rfl, by omega⟩
    rintro j E2 s' hjle _ ⟨rfl, q4, q6, q8, q10, q12, hq⟩
    by_cases hjl : j < L.length
    · obtain ⟨x, hx⟩ := get_of hjl
      obtain ⟨y, hy⟩ := get_of (l := k.keys) (i := j) (by omega)
      obtain ⟨p, hp, P, _⟩ := e4.ldk (fun q hq => hq.2) hx rfl rfl
      have l1 : loadA s' false 1 p = some (.str x) := by rw [P.ld _ (Keep.refl _ _)]; rfl
      have hp2 := key_at hk hy
      (repeat' (with_reducible first|refine w_1 ?_|refine w_2 ?_|refine w_3 ?_|refine w_4 ?_|refine w_5 ?_|refine w_6 ?_|refine w_7 ?_|(refine w_8 (fun hb=>?_) (fun hb=>?_)<;>(try simp only [Bool.not_eq_true',Bool.not_eq_false'] at hb)<;>try simp only [hb])|(refine w_9 ?_;simp (maxDischargeDepth:=12) only [viz,↓reduceIte,Nat.reduceEqDiff,reduceCtorEq,Int.reduceEq,Int.reduceNeg,Nat.reduceAdd,Nat.reduceLeDiff,q4,q6,q8,q10,q12,hl4,lt_true hjl,hp,l1,hp2,r4.a,r4.b,r4.c,r4.e,f4])|refine w_10 (fun hc=>(by (try simp only [Bool.and_eq_true] at hc);simp (maxDischargeDepth:=12) only [viz,↓reduceIte,Nat.reduceEqDiff,reduceCtorEq,Int.reduceEq,Int.reduceNeg,Nat.reduceAdd,Nat.reduceLeDiff,q4,q6,q8,q10,q12,hl4,lt_true hjl,hp,l1,hp2,r4.a,r4.b,r4.c,r4.e,f4,hc];first|exact ⟨rfl,rfl⟩|exact rfl)) ?_|refine w_11 (fun hc=>(by (try simp only [Bool.and_eq_true] at hc);simp (maxDischargeDepth:=12) only [viz,↓reduceIte,Nat.reduceEqDiff,reduceCtorEq,Int.reduceEq,Int.reduceNeg,Nat.reduceAdd,Nat.reduceLeDiff,q4,q6,q8,q10,q12,hl4,lt_true hjl,hp,l1,hp2,r4.a,r4.b,r4.c,r4.e,f4,hc];first|exact ⟨rfl,rfl⟩|exact rfl)) ?_|refine w_12 ?_|simp (maxDischargeDepth:=12) only [viz,↓reduceIte,Nat.reduceEqDiff,reduceCtorEq,Int.reduceEq,Int.reduceNeg,Nat.reduceAdd,Nat.reduceLeDiff,q4,q6,q8,q10,q12,hl4,lt_true hjl,hp,l1,hp2,r4.a,r4.b,r4.c,r4.e,f4]))
      · refine hz _ _ _ k4 ?_
        unfold prepP
        rw [if_neg (by rw [hok]; simp), hL, if_pos hne, if_neg]
        intro e
        rw [beq_iff_eq] at e
        rw [e, hy] at hx
        obtain rfl := Option.some.inj hx
        simp at hb
      · refine ⟨hjl, succ_av (by omega), fun j2 hj2 => ?_⟩
        by_cases hji : j2 = j
        · rw [hji, hx, hy]; simp at hb; rw [hb]
        · exact hq j2 (by omega)
    · have hLk : L = k.keys := by
        apply List.ext_getElem?
        intro j2
        by_cases hj : j2 < j
        · exact hq j2 hj
        · rw [List.getElem?_eq_none (by omega), List.getElem?_eq_none (by omega)]
      (repeat' (with_reducible first|refine w_1 ?_|refine w_2 ?_|refine w_3 ?_|refine w_4 ?_|refine w_5 ?_|refine w_6 ?_|refine w_7 ?_|(refine w_8 (fun hb=>?_) (fun hb=>?_)<;>(try simp only [Bool.not_eq_true',Bool.not_eq_false'] at hb)<;>try simp only [hb])|(refine w_9 ?_;simp (maxDischargeDepth:=12) only [viz,↓reduceIte,Nat.reduceEqDiff,reduceCtorEq,Int.reduceEq,Int.reduceNeg,Nat.reduceAdd,Nat.reduceLeDiff,q4,q6,q8,q10,q12,hl4,lt_false hjl,r4.a,r4.b,r4.c,r4.e,f4,hw.sp.cell,hw.fr.cell,hw.ho.cell,hw.ma.cell,hw.it.cell])|refine w_10 (fun hc=>(by (try simp only [Bool.and_eq_true] at hc);simp (maxDischargeDepth:=12) only [viz,↓reduceIte,Nat.reduceEqDiff,reduceCtorEq,Int.reduceEq,Int.reduceNeg,Nat.reduceAdd,Nat.reduceLeDiff,q4,q6,q8,q10,q12,hl4,lt_false hjl,r4.a,r4.b,r4.c,r4.e,f4,hw.sp.cell,hw.fr.cell,hw.ho.cell,hw.ma.cell,hw.it.cell,hc];first|exact ⟨rfl,rfl⟩|exact rfl)) ?_|refine w_11 (fun hc=>(by (try simp only [Bool.and_eq_true] at hc);simp (maxDischargeDepth:=12) only [viz,↓reduceIte,Nat.reduceEqDiff,reduceCtorEq,Int.reduceEq,Int.reduceNeg,Nat.reduceAdd,Nat.reduceLeDiff,q4,q6,q8,q10,q12,hl4,lt_false hjl,r4.a,r4.b,r4.c,r4.e,f4,hw.sp.cell,hw.fr.cell,hw.ho.cell,hw.ma.cell,hw.it.cell,hc];first|exact ⟨rfl,rfl⟩|exact rfl)) ?_|refine w_12 ?_|simp (maxDischargeDepth:=12) only [viz,↓reduceIte,Nat.reduceEqDiff,reduceCtorEq,Int.reduceEq,Int.reduceNeg,Nat.reduceAdd,Nat.reduceLeDiff,q4,q6,q8,q10,q12,hl4,lt_false hjl,r4.a,r4.b,r4.c,r4.e,f4,hw.sp.cell,hw.fr.cell,hw.ho.cell,hw.ma.cell,hw.it.cell]))
      have hres : prepP t c q k token = (0, t) := by
        unfold prepP
        rw [if_neg (by rw [hok]; simp), hL, if_pos hne, if_pos (by rw [hLk]; simp)]
      rw [hres] at hK
      have kM : ∀ R, Keep s.next s (s'.put (s.next + 1 + 1 + 1) R) := fun R => k4.trans (Keep.put (by omega) _)
      exact hK w _ (kM _) ((hw.keep fun r hr => (kM _).get r (hI r hr)).mono fun r hr => .inl hr)
  have hne : theirsP t.ints c q = [] := by
    cases h : theirsP t.ints c q with
    | nil => rfl
    | cons a b => rw [h] at hb; simp at hb
  refine W_inv k.keys.length (fun i E s' => Keep s4.next s4 s' ∧ E.get 3 = .int .u64 token ∧ E.get 4 = .ptr s.next 0 0 ∧ E.get 5 = .ptr (s.next + 1) 0 0 ∧ E.get 6 = .ptr (s.next + 1 + 1) 0 0 ∧ E.get 8 = .ptr (s.next + 1 + 1 + 1) 0 0 ∧ E.get 13 = .int .i64 i ∧ ∀ j key, j < i → k.keys[j]? = some key → (!decide (refE t key k token = 0)) = false) (by delta cf11l2 oo on om og oc ou; exact rfl) ?_ ?_
  · (repeat' (with_reducible first|refine w_1 ?_|refine w_2 ?_|refine w_3 ?_|refine w_4 ?_|refine w_5 ?_|refine w_6 ?_|refine w_7 ?_|(refine w_8 (fun hb=>?_) (fun hb=>?_)<;>(try simp only [Bool.not_eq_true',Bool.not_eq_false'] at hb)<;>try simp only [hb])|(refine w_9 ?_;simp (maxDischargeDepth:=12) only [viz,↓reduceIte,Nat.reduceEqDiff,reduceCtorEq,Int.reduceEq,Int.reduceNeg,Nat.reduceAdd,Nat.reduceLeDiff,g3,g4,g5,g6,g8,g10,g11])|refine w_10 (fun hc=>(by (try simp only [Bool.and_eq_true] at hc);simp (maxDischargeDepth:=12) only [viz,↓reduceIte,Nat.reduceEqDiff,reduceCtorEq,Int.reduceEq,Int.reduceNeg,Nat.reduceAdd,Nat.reduceLeDiff,g3,g4,g5,g6,g8,g10,g11,hc];first|exact ⟨rfl,rfl⟩|exact rfl)) ?_|refine w_11 (fun hc=>(by (try simp only [Bool.and_eq_true] at hc);simp (maxDischargeDepth:=12) only [viz,↓reduceIte,Nat.reduceEqDiff,reduceCtorEq,Int.reduceEq,Int.reduceNeg,Nat.reduceAdd,Nat.reduceLeDiff,g3,g4,g5,g6,g8,g10,g11,hc];first|exact ⟨rfl,rfl⟩|exact rfl)) ?_|refine w_12 ?_|simp (maxDischargeDepth:=12) only [viz,↓reduceIte,Nat.reduceEqDiff,reduceCtorEq,Int.reduceEq,Int.reduceNeg,Nat.reduceAdd,Nat.reduceLeDiff,g3,g4,g5,g6,g8,g10,g11]))
    exact ⟨rfl, by omega⟩
  clear hlt hile g3 g4 g5 g6 g8 g10 g11 tl
  rintro i E s6 hile _ ⟨h6, g3, g4, g5, g6, g8, g13, hno⟩
  have r6 := r4.then h6
  have k6 := k4.then h6
  have f6 : s6.floor ≤ s.next + 1 + 1 + 1 := by rw [k6.floor]; omega
  by_cases hlt : i < k.keys.length
  · obtain ⟨key, hkey⟩ := get_of hlt
    have hp := key_at hk hkey
    (repeat' (with_reducible first|refine w_1 ?_|refine w_2 ?_|refine w_3 ?_|refine w_4 ?_|refine w_5 ?_|refine w_6 ?_|refine w_7 ?_|(refine w_8 (fun hb=>?_) (fun hb=>?_)<;>(try simp only [Bool.not_eq_true',Bool.not_eq_false'] at hb)<;>try simp only [hb])|(refine w_9 ?_;simp (maxDischargeDepth:=12) only [viz,↓reduceIte,Nat.reduceEqDiff,reduceCtorEq,Int.reduceEq,Int.reduceNeg,Nat.reduceAdd,Nat.reduceLeDiff,g3,g4,g5,g6,g8,g13,hlk,lt_true hlt,hp,r6.a,r6.b,r6.c])|refine w_10 (fun hc=>(by (try simp only [Bool.and_eq_true] at hc);simp (maxDischargeDepth:=12) only [viz,↓reduceIte,Nat.reduceEqDiff,reduceCtorEq,Int.reduceEq,Int.reduceNeg,Nat.reduceAdd,Nat.reduceLeDiff,g3,g4,g5,g6,g8,g13,hlk,lt_true hlt,hp,r6.a,r6.b,r6.c,hc];first|exact ⟨rfl,rfl⟩|exact rfl)) ?_|refine w_11 (fun hc=>(by (try simp only [Bool.and_eq_true] at hc);simp (maxDischargeDepth:=12) only [viz,↓reduceIte,Nat.reduceEqDiff,reduceCtorEq,Int.reduceEq,Int.reduceNeg,Nat.reduceAdd,Nat.reduceLeDiff,g3,g4,g5,g6,g8,g13,hlk,lt_true hlt,hp,r6.a,r6.b,r6.c,hc];first|exact ⟨rfl,rfl⟩|exact rfl)) ?_|refine w_12 ?_|simp (maxDischargeDepth:=12) only [viz,↓reduceIte,Nat.reduceEqDiff,reduceCtorEq,Int.reduceEq,Int.reduceNeg,Nat.reduceAdd,Nat.reduceLeDiff,g3,g4,g5,g6,g8,g13,hlk,lt_true hlt,hp,r6.a,r6.b,r6.c]))
    refine rrefused_c (t := t) (w := w) (c := k) (D := D) (k6.ok hf) (hI.keep k6) (hw.keep fun r hr => k6.get r (hI r hr)) hs hkc fun s7 h7 => ?_
    have r7 := r6.then h7
    have k7 := k6.then h7
    have f7 : s7.floor ≤ s.next + 1 + 1 + 1 := by rw [k7.floor]; omega
    (repeat' (with_reducible first|refine w_1 ?_|refine w_2 ?_|refine w_3 ?_|refine w_4 ?_|refine w_5 ?_|refine w_6 ?_|refine w_7 ?_|(refine w_8 (fun hb=>?_) (fun hb=>?_)<;>(try simp only [Bool.not_eq_true',Bool.not_eq_false'] at hb)<;>try simp only [hb])|(refine w_9 ?_;simp (maxDischargeDepth:=12) only [viz,↓reduceIte,Nat.reduceEqDiff,reduceCtorEq,Int.reduceEq,Int.reduceNeg,Nat.reduceAdd,Nat.reduceLeDiff,g3,g4,g5,g6,g8,g13,r7.e,f7])|refine w_10 (fun hc=>(by (try simp only [Bool.and_eq_true] at hc);simp (maxDischargeDepth:=12) only [viz,↓reduceIte,Nat.reduceEqDiff,reduceCtorEq,Int.reduceEq,Int.reduceNeg,Nat.reduceAdd,Nat.reduceLeDiff,g3,g4,g5,g6,g8,g13,r7.e,f7,hc];first|exact ⟨rfl,rfl⟩|exact rfl)) ?_|refine w_11 (fun hc=>(by (try simp only [Bool.and_eq_true] at hc);simp (maxDischargeDepth:=12) only [viz,↓reduceIte,Nat.reduceEqDiff,reduceCtorEq,Int.reduceEq,Int.reduceNeg,Nat.reduceAdd,Nat.reduceLeDiff,g3,g4,g5,g6,g8,g13,r7.e,f7,hc];first|exact ⟨rfl,rfl⟩|exact rfl)) ?_|refine w_12 ?_|simp (maxDischargeDepth:=12) only [viz,↓reduceIte,Nat.reduceEqDiff,reduceCtorEq,Int.reduceEq,Int.reduceNeg,Nat.reduceAdd,Nat.reduceLeDiff,g3,g4,g5,g6,g8,g13,r7.e,f7]))
    · refine hz _ _ _ k7 ?_
      have hr : (!decide (refE t key k token = 0)) = true := by simpa using hb
      unfold prepP
      rw [if_neg (by rw [hok]; simp), if_neg (by simp [hne]), find_at (p := fun key => !decide (refE t key k token = 0)) hkey hr hno]
    · refine ⟨hlt, h6.then h7, succ_av (by omega), fun j y hj hy => ?_⟩
      by_cases hji : j = i
      · rw [hji, hkey] at hy; obtain rfl := Option.some.inj hy; simpa using hb
      · exact hno j y (by omega) hy
  have hnone := find_no (l := k.keys) (p := fun key => !decide (refE t key k token = 0)) fun j x hj => hno j x (by omega)
  have hlh : lenA false w.ho = some t.holds.length := hw.ho.lenB
  have hlm : lenA false w.ma = some t.marks.length := hw.ma.lenB
  have hroom : decide (IntKind.i64.wrap (IntKind.i64.wrap (IntKind.i64.wrap ((t.holds.length : Int) + t.marks.length) + t.ints.length) + k.keys.length) > 1024) = decide (t.holds.length + t.marks.length + t.ints.length + k.keys.length > 1024) := by
    have := hs.ho
    have := hs.ma
    rw [wrap_i64 (x := (t.holds.length : Int) + t.marks.length) (by omega), wrap_i64 (x := (t.holds.length : Int) + t.marks.length + t.ints.length) (by omega), wrap_i64 (x := (t.holds.length : Int) + t.marks.length + t.ints.length + k.keys.length) (by omega)]
    by_cases h : t.holds.length + t.marks.length + t.ints.length + k.keys.length > 1024
    · simp [h]; omega
    · simp [h]; omega
  (repeat' (with_reducible first|refine w_1 ?_|refine w_2 ?_|refine w_3 ?_|refine w_4 ?_|refine w_5 ?_|refine w_6 ?_|refine w_7 ?_|(refine w_8 (fun hb=>?_) (fun hb=>?_)<;>(try simp only [Bool.not_eq_true',Bool.not_eq_false'] at hb)<;>try simp only [hb])|(refine w_9 ?_;simp (maxDischargeDepth:=12) only [viz,↓reduceIte,Nat.reduceEqDiff,reduceCtorEq,Int.reduceEq,Int.reduceNeg,Nat.reduceAdd,Nat.reduceLeDiff,g3,g4,g5,g6,g8,g13,lt_false hlt,r6.a,r6.b,r6.c,r6.e,f6,hlk,hlh,hlm,hli,hroom])|refine w_10 (fun hc=>(by (try simp only [Bool.and_eq_true] at hc);simp (maxDischargeDepth:=12) only [viz,↓reduceIte,Nat.reduceEqDiff,reduceCtorEq,Int.reduceEq,Int.reduceNeg,Nat.reduceAdd,Nat.reduceLeDiff,g3,g4,g5,g6,g8,g13,lt_false hlt,r6.a,r6.b,r6.c,r6.e,f6,hlk,hlh,hlm,hli,hroom,hc];first|exact ⟨rfl,rfl⟩|exact rfl)) ?_|refine w_11 (fun hc=>(by (try simp only [Bool.and_eq_true] at hc);simp (maxDischargeDepth:=12) only [viz,↓reduceIte,Nat.reduceEqDiff,reduceCtorEq,Int.reduceEq,Int.reduceNeg,Nat.reduceAdd,Nat.reduceLeDiff,g3,g4,g5,g6,g8,g13,lt_false hlt,r6.a,r6.b,r6.c,r6.e,f6,hlk,hlh,hlm,hli,hroom,hc];first|exact ⟨rfl,rfl⟩|exact rfl)) ?_|refine w_12 ?_|simp (maxDischargeDepth:=12) only [viz,↓reduceIte,Nat.reduceEqDiff,reduceCtorEq,Int.reduceEq,Int.reduceNeg,Nat.reduceAdd,Nat.reduceLeDiff,g3,g4,g5,g6,g8,g13,lt_false hlt,r6.a,r6.b,r6.c,r6.e,f6,hlk,hlh,hlm,hli,hroom]))
  · refine hz _ _ _ k6 ?_
    unfold prepP
    rw [if_neg (by rw [hok]; simp), if_neg (by simp [hne]), hnone]
    simp only
    rw [if_pos (of_decide_eq_true hb)]
  have hrm : decide (t.holds.length + t.marks.length + t.ints.length + k.keys.length > 1024) = false := hb
  have hres : prepP t c q k token = (0, withI t (mg (k.keys.map (newI c q k token)) t.ints)) := by
    unfold prepP
    rw [if_neg (by rw [hok]; simp), if_neg (by simp [hne]), hnone]
    simp only
    rw [if_neg (by simpa using hrm)]
  have ln : (k.keys.map (newI c q k token)).length = k.keys.length := List.length_map ..
  have hRl := mg_len (k.keys.map (newI c q k token)) t.ints
  rw [ln] at hRl
  rw [hres] at hK
  have a6 := k6.next
  have r6n := r6.n
  generalize hR : mg (k.keys.map (newI c q k token)) t.ints = R at *
  refine W_inv (t.ints.length + 1) (fun i E s' => ∃ v lst n, Keep s6.next s6 s' ∧ OwnL s' s6.next v 70 6 (List.map intC lst) ∧ n ≤ k.keys.length ∧ lst ++ mg ((k.keys.map (newI c q k token)).drop n) (t.ints.drop i) = R ∧ (i = t.ints.length + 1 → n = k.keys.length) ∧ E.get 3 = .int .u64 token ∧ E.get 4 = .ptr s.next 0 0 ∧ E.get 5 = .ptr (s.next + 1) 0 0 ∧ E.get 6 = .ptr (s.next + 1 + 1) 0 0 ∧ E.get 8 = .ptr (s.next + 1 + 1 + 1) 0 0 ∧ E.get 15 = v ∧ E.get 16 = .int .i64 ((n : Nat) : Int) ∧ E.get 17 = .int .i64 i) (by delta cf11l3 oo on om og oc ou; exact rfl) ?_ ?_
  · refine ⟨.emp, [], 0, pushes _ _, OwnL.emp _ _ _ _, Nat.zero_le _, by simpa using hR, fun h => by omega, ?_, ?_, ?_, ?_, ?_, ?_, ?_, ?_⟩
    all_goals simp only [ev, Env.get_set, ↓reduceIte, Nat.reduceEqDiff, g3, g4, g5, g6, g8]
    all_goals rfl
  clear hlt hile hno hnone hroom hb g3 g4 g5 g6 g8 g13
  rintro i E sA hile _ ⟨vA, lA, n0, hkA, hoA, hn0, hinvA, hend, g3, g4, g5, g6, g8, g15, g16, g17⟩
  by_cases hil : i ≤ t.ints.length
  · have kA := k6.then hkA
    have rA := r6.then hkA
    have hle : decide ((i : Int) ≤ (t.ints.length : Int)) = true := by simp; omega
    (repeat' (with_reducible first|refine w_1 ?_|refine w_2 ?_|refine w_3 ?_|refine w_4 ?_|refine w_5 ?_|refine w_6 ?_|refine w_7 ?_|(refine w_8 (fun hb=>?_) (fun hb=>?_)<;>(try simp only [Bool.not_eq_true',Bool.not_eq_false'] at hb)<;>try simp only [hb])|(refine w_9 ?_;simp (maxDischargeDepth:=12) only [viz,↓reduceIte,Nat.reduceEqDiff,reduceCtorEq,Int.reduceEq,Int.reduceNeg,Nat.reduceAdd,Nat.reduceLeDiff,g3,g4,g5,g6,g8,g15,g16,g17,rA.a,hli,hle])|refine w_10 (fun hc=>(by (try simp only [Bool.and_eq_true] at hc);simp (maxDischargeDepth:=12) only [viz,↓reduceIte,Nat.reduceEqDiff,reduceCtorEq,Int.reduceEq,Int.reduceNeg,Nat.reduceAdd,Nat.reduceLeDiff,g3,g4,g5,g6,g8,g15,g16,g17,rA.a,hli,hle,hc];first|exact ⟨rfl,rfl⟩|exact rfl)) ?_|refine w_11 (fun hc=>(by (try simp only [Bool.and_eq_true] at hc);simp (maxDischargeDepth:=12) only [viz,↓reduceIte,Nat.reduceEqDiff,reduceCtorEq,Int.reduceEq,Int.reduceNeg,Nat.reduceAdd,Nat.reduceLeDiff,g3,g4,g5,g6,g8,g15,g16,g17,rA.a,hli,hle,hc];first|exact ⟨rfl,rfl⟩|exact rfl)) ?_|refine w_12 ?_|simp (maxDischargeDepth:=12) only [viz,↓reduceIte,Nat.reduceEqDiff,reduceCtorEq,Int.reduceEq,Int.reduceNeg,Nat.reduceAdd,Nat.reduceLeDiff,g3,g4,g5,g6,g8,g15,g16,g17,rA.a,hli,hle]))
    refine W_inv (k.keys.length - n0) (fun m E s' => ∃ v lst, Keep s6.next s6 s' ∧ OwnL s' s6.next v 70 6 (List.map intC lst) ∧ lst ++ mg ((k.keys.map (newI c q k token)).drop (n0 + m)) (t.ints.drop i) = R ∧ E.get 3 = .int .u64 token ∧ E.get 4 = .ptr s.next 0 0 ∧ E.get 5 = .ptr (s.next + 1) 0 0 ∧ E.get 6 = .ptr (s.next + 1 + 1) 0 0 ∧ E.get 8 = .ptr (s.next + 1 + 1 + 1) 0 0 ∧ E.get 15 = v ∧ E.get 16 = .int .i64 ((n0 + m : Nat) : Int) ∧ E.get 17 = .int .i64 i) (by delta cf11l4 oo on om og oc ou; exact rfl) ?_ ?_
    · refine ⟨vA, lA, hkA, hoA, hinvA, ?_, ?_, ?_, ?_, ?_, ?_, ?_, ?_⟩
      all_goals simp only [ev, Env.get_set, ↓reduceIte, Nat.reduceEqDiff, g3, g4, g5, g6, g8, g15, g16, g17]
      all_goals rfl
    rintro m E7 s7 hmle _ ⟨v7, lst, hk7, ho7, hinv, q3, q4, q5, q6, q8, q15, q16, q17⟩
    have k7 := k6.then hk7
    have r7 := r6.then hk7
    have hn7 := hk7.next
    have hfl7 : s7.floor ≤ s7.next := k7.ok hf
    have hll2 : lst.length ≤ k.keys.length + t.ints.length := by
      have : (lst ++ mg ((k.keys.map (newI c q k token)).drop (n0 + m)) (t.ints.drop i)).length = R.length := by rw [hinv]
      rw [List.length_append] at this; omega
    have nt : (s.next = s7.next) = False := by simp; omega
    have nt1 : (s.next + 1 = s7.next) = False := by simp; omega
    have nt2 : (s.next + 1 + 1 = s7.next) = False := by simp; omega
    by_cases hml : n0 + m < k.keys.length
    · obtain ⟨key, hkey⟩ := get_of hml
      have hp := key_at hk hkey
      have hy : (k.keys.map (newI c q k token))[n0 + m]? = some (newI c q k token key) := by rw [List.getElem?_map, hkey]; rfl
      by_cases hie : i = t.ints.length
      · have hieb : ((i : Int) == (t.ints.length : Int)) = true := by rw [hie]; simp
        (repeat' (with_reducible first|refine w_1 ?_|refine w_2 ?_|refine w_3 ?_|refine w_4 ?_|refine w_5 ?_|refine w_6 ?_|refine w_7 ?_|(refine w_8 (fun hb=>?_) (fun hb=>?_)<;>(try simp only [Bool.not_eq_true',Bool.not_eq_false'] at hb)<;>try simp only [hb])|(refine w_9 ?_;simp (maxDischargeDepth:=12) only [viz,↓reduceIte,Nat.reduceEqDiff,reduceCtorEq,Int.reduceEq,Int.reduceNeg,Nat.reduceAdd,Nat.reduceLeDiff,q3,q4,q5,q6,q8,q15,q16,q17,hlk,hli,lt_true hml,hieb,hp,r7.a,r7.b,r7.c,hfl7,nt,nt1,nt2])|refine w_10 (fun hc=>(by (try simp only [Bool.and_eq_true] at hc);simp (maxDischargeDepth:=12) only [viz,↓reduceIte,Nat.reduceEqDiff,reduceCtorEq,Int.reduceEq,Int.reduceNeg,Nat.reduceAdd,Nat.reduceLeDiff,q3,q4,q5,q6,q8,q15,q16,q17,hlk,hli,lt_true hml,hieb,hp,r7.a,r7.b,r7.c,hfl7,nt,nt1,nt2,hc];first|exact ⟨rfl,rfl⟩|exact rfl)) ?_|refine w_11 (fun hc=>(by (try simp only [Bool.and_eq_true] at hc);simp (maxDischargeDepth:=12) only [viz,↓reduceIte,Nat.reduceEqDiff,reduceCtorEq,Int.reduceEq,Int.reduceNeg,Nat.reduceAdd,Nat.reduceLeDiff,q3,q4,q5,q6,q8,q15,q16,q17,hlk,hli,lt_true hml,hieb,hp,r7.a,r7.b,r7.c,hfl7,nt,nt1,nt2,hc];first|exact ⟨rfl,rfl⟩|exact rfl)) ?_|refine w_12 ?_|simp (maxDischargeDepth:=12) only [viz,↓reduceIte,Nat.reduceEqDiff,reduceCtorEq,Int.reduceEq,Int.reduceNeg,Nat.reduceAdd,Nat.reduceLeDiff,q3,q4,q5,q6,q8,q15,q16,q17,hlk,hli,lt_true hml,hieb,hp,r7.a,r7.b,r7.c,hfl7,nt,nt1,nt2]))
        · have hnew : newI c q k token key = ⟨key, c, q, k.kind, k.token, k.ttl⟩ := by
            have : k.kind ≠ 1 := by simpa using hb
            simp [newI, this]
          refine app_lit (v := v7) (k := 1) (b := s6.next) (xs := lst.map intC) (ys := [[.str key, .int .i64 c, .int .u64 q, .int .i64 k.kind, .int .u64 k.token, .int .i64 k.ttl]]) (s := s7.push ⟨70, 6, [[.str key, .int .i64 c, .int .u64 q, .int .i64 k.kind, .int .u64 k.token, .int .i64 k.ttl]]⟩) (by rw [floor_push', k7.floor]; omega) (by rw [next_push']; omega) (ho7.push _) (by simp only [ev, Env.get_set, ↓reduceIte, Nat.reduceEqDiff]) (by simp only [ev, Env.get_set, ↓reduceIte, Nat.reduceEqDiff]; rfl) rfl rfl (room (by simp; omega) (by simp; omega)) ?_
          intro v8 s8 ho8 hx8 _ _
          have hk8 : Keep s6.next s6 s8 := (hk7.trans ((pushes s7 _).le hn7)).trans (hx8.keep (by rw [next_push']; omega) fun r i n z h => (ho7.row r i n z h).1)
          (repeat' (with_reducible first|refine w_1 ?_|refine w_2 ?_|refine w_3 ?_|refine w_4 ?_|refine w_5 ?_|refine w_6 ?_|refine w_7 ?_|(refine w_8 (fun hb=>?_) (fun hb=>?_)<;>(try simp only [Bool.not_eq_true',Bool.not_eq_false'] at hb)<;>try simp only [hb])|(refine w_9 ?_;simp (maxDischargeDepth:=12) only [viz,↓reduceIte,Nat.reduceEqDiff,reduceCtorEq,Int.reduceEq,Int.reduceNeg,Nat.reduceAdd,Nat.reduceLeDiff,q3,q4,q5,q6,q8,q15,q16,q17])|refine w_10 (fun hc=>(by (try simp only [Bool.and_eq_true] at hc);simp (maxDischargeDepth:=12) only [viz,↓reduceIte,Nat.reduceEqDiff,reduceCtorEq,Int.reduceEq,Int.reduceNeg,Nat.reduceAdd,Nat.reduceLeDiff,q3,q4,q5,q6,q8,q15,q16,q17,hc];first|exact ⟨rfl,rfl⟩|exact rfl)) ?_|refine w_11 (fun hc=>(by (try simp only [Bool.and_eq_true] at hc);simp (maxDischargeDepth:=12) only [viz,↓reduceIte,Nat.reduceEqDiff,reduceCtorEq,Int.reduceEq,Int.reduceNeg,Nat.reduceAdd,Nat.reduceLeDiff,q3,q4,q5,q6,q8,q15,q16,q17,hc];first|exact ⟨rfl,rfl⟩|exact rfl)) ?_|refine w_12 ?_|simp (maxDischargeDepth:=12) only [viz,↓reduceIte,Nat.reduceEqDiff,reduceCtorEq,Int.reduceEq,Int.reduceNeg,Nat.reduceAdd,Nat.reduceLeDiff,q3,q4,q5,q6,q8,q15,q16,q17]))
          refine ⟨by omega, v8, lst ++ [newI c q k token key], hk8, ?_, ?_, rfl, succ_av (by omega)⟩
          · have em : (lst ++ [newI c q k token key]).map intC = lst.map intC ++ [intC (newI c q k token key)] := by simp
            rw [em, hnew]; exact ho8
          · rw [← hinv, mg_drop_new hy (.inl hie), List.append_assoc, List.singleton_append, Nat.add_assoc]
        · have hnew : newI c q k token key = ⟨key, c, q, k.kind, token, k.ttl⟩ := by
            have : k.kind = 1 := by simpa using hb
            simp [newI, this]
          refine app_lit (v := v7) (k := 1) (b := s6.next) (xs := lst.map intC) (ys := [[.str key, .int .i64 c, .int .u64 q, .int .i64 k.kind, .int .u64 token, .int .i64 k.ttl]]) (s := s7.push ⟨70, 6, [[.str key, .int .i64 c, .int .u64 q, .int .i64 k.kind, .int .u64 token, .int .i64 k.ttl]]⟩) (by rw [floor_push', k7.floor]; omega) (by rw [next_push']; omega) (ho7.push _) (by simp only [ev, Env.get_set, ↓reduceIte, Nat.reduceEqDiff]) (by simp only [ev, Env.get_set, ↓reduceIte, Nat.reduceEqDiff]; rfl) rfl rfl (room (by simp; omega) (by simp; omega)) ?_
          intro v8 s8 ho8 hx8 _ _
          have hk8 : Keep s6.next s6 s8 := (hk7.trans ((pushes s7 _).le hn7)).trans (hx8.keep (by rw [next_push']; omega) fun r i n z h => (ho7.row r i n z h).1)
          (repeat' (with_reducible first|refine w_1 ?_|refine w_2 ?_|refine w_3 ?_|refine w_4 ?_|refine w_5 ?_|refine w_6 ?_|refine w_7 ?_|(refine w_8 (fun hb=>?_) (fun hb=>?_)<;>(try simp only [Bool.not_eq_true',Bool.not_eq_false'] at hb)<;>try simp only [hb])|(refine w_9 ?_;simp (maxDischargeDepth:=12) only [viz,↓reduceIte,Nat.reduceEqDiff,reduceCtorEq,Int.reduceEq,Int.reduceNeg,Nat.reduceAdd,Nat.reduceLeDiff,q3,q4,q5,q6,q8,q15,q16,q17])|refine w_10 (fun hc=>(by (try simp only [Bool.and_eq_true] at hc);simp (maxDischargeDepth:=12) only [viz,↓reduceIte,Nat.reduceEqDiff,reduceCtorEq,Int.reduceEq,Int.reduceNeg,Nat.reduceAdd,Nat.reduceLeDiff,q3,q4,q5,q6,q8,q15,q16,q17,hc];first|exact ⟨rfl,rfl⟩|exact rfl)) ?_|refine w_11 (fun hc=>(by (try simp only [Bool.and_eq_true] at hc);simp (maxDischargeDepth:=12) only [viz,↓reduceIte,Nat.reduceEqDiff,reduceCtorEq,Int.reduceEq,Int.reduceNeg,Nat.reduceAdd,Nat.reduceLeDiff,q3,q4,q5,q6,q8,q15,q16,q17,hc];first|exact ⟨rfl,rfl⟩|exact rfl)) ?_|refine w_12 ?_|simp (maxDischargeDepth:=12) only [viz,↓reduceIte,Nat.reduceEqDiff,reduceCtorEq,Int.reduceEq,Int.reduceNeg,Nat.reduceAdd,Nat.reduceLeDiff,q3,q4,q5,q6,q8,q15,q16,q17]))
          refine ⟨by omega, v8, lst ++ [newI c q k token key], hk8, ?_, ?_, rfl, succ_av (by omega)⟩
          · have em : (lst ++ [newI c q k token key]).map intC = lst.map intC ++ [intC (newI c q k token key)] := by simp
            rw [em, hnew]; exact ho8
          · rw [← hinv, mg_drop_new hy (.inl hie), List.append_assoc, List.singleton_append, Nat.add_assoc]
      · have hieb : ((i : Int) == (t.ints.length : Int)) = false := by rw [beq_eq_false_iff_ne]; omega
        obtain ⟨x, hx⟩ := get_of (l := t.ints) (i := i) (by omega)
        obtain ⟨p, hpx, P, hld⟩ := hw.it.ldk hI hx rfl rfl
        have hld' := hld _ k7
        simp only [intC] at hld'
        have l0 : loadA s7 false 1 (VI.adr p 0) = some (.str x.key) := by
          have := P.ldf _ k7 0 false 1 (by simp [intC])
          rw [this]; rfl
        have hilt := lt_true (show i < t.ints.length by omega)
        (repeat' (with_reducible first|refine w_1 ?_|refine w_2 ?_|refine w_3 ?_|refine w_4 ?_|refine w_5 ?_|refine w_6 ?_|refine w_7 ?_|(refine w_8 (fun hb=>?_) (fun hb=>?_)<;>(try simp only [Bool.not_eq_true',Bool.not_eq_false'] at hb)<;>try simp only [hb])|(refine w_9 ?_;simp (maxDischargeDepth:=12) only [viz,↓reduceIte,Nat.reduceEqDiff,reduceCtorEq,Int.reduceEq,Int.reduceNeg,Nat.reduceAdd,Nat.reduceLeDiff,q3,q4,q5,q6,q8,q15,q16,q17,hlk,hli,lt_true hml,hieb,hp,hpx,P.adr,l0,hld',hilt,r7.a,r7.b,r7.c,hfl7,nt,nt1,nt2])|refine w_10 (fun hc=>(by (try simp only [Bool.and_eq_true] at hc);simp (maxDischargeDepth:=12) only [viz,↓reduceIte,Nat.reduceEqDiff,reduceCtorEq,Int.reduceEq,Int.reduceNeg,Nat.reduceAdd,Nat.reduceLeDiff,q3,q4,q5,q6,q8,q15,q16,q17,hlk,hli,lt_true hml,hieb,hp,hpx,P.adr,l0,hld',hilt,r7.a,r7.b,r7.c,hfl7,nt,nt1,nt2,hc];first|exact ⟨rfl,rfl⟩|exact rfl)) ?_|refine w_11 (fun hc=>(by (try simp only [Bool.and_eq_true] at hc);simp (maxDischargeDepth:=12) only [viz,↓reduceIte,Nat.reduceEqDiff,reduceCtorEq,Int.reduceEq,Int.reduceNeg,Nat.reduceAdd,Nat.reduceLeDiff,q3,q4,q5,q6,q8,q15,q16,q17,hlk,hli,lt_true hml,hieb,hp,hpx,P.adr,l0,hld',hilt,r7.a,r7.b,r7.c,hfl7,nt,nt1,nt2,hc];first|exact ⟨rfl,rfl⟩|exact rfl)) ?_|refine w_12 ?_|simp (maxDischargeDepth:=12) only [viz,↓reduceIte,Nat.reduceEqDiff,reduceCtorEq,Int.reduceEq,Int.reduceNeg,Nat.reduceAdd,Nat.reduceLeDiff,q3,q4,q5,q6,q8,q15,q16,q17,hlk,hli,lt_true hml,hieb,hp,hpx,P.adr,l0,hld',hilt,r7.a,r7.b,r7.c,hfl7,nt,nt1,nt2]))
        · have hnew : newI c q k token key = ⟨key, c, q, k.kind, k.token, k.ttl⟩ := by
            have : k.kind ≠ 1 := by simpa using hb
            simp [newI, this]
          refine app_lit (v := v7) (k := 1) (b := s6.next) (xs := lst.map intC) (ys := [[.str key, .int .i64 c, .int .u64 q, .int .i64 k.kind, .int .u64 k.token, .int .i64 k.ttl]]) (s := s7.push ⟨70, 6, [[.str key, .int .i64 c, .int .u64 q, .int .i64 k.kind, .int .u64 k.token, .int .i64 k.ttl]]⟩) (by rw [floor_push', k7.floor]; omega) (by rw [next_push']; omega) (ho7.push _) (by simp only [ev, Env.get_set, ↓reduceIte, Nat.reduceEqDiff]) (by simp only [ev, Env.get_set, ↓reduceIte, Nat.reduceEqDiff]; rfl) rfl rfl (room (by simp; omega) (by simp; omega)) ?_
          intro v8 s8 ho8 hx8 _ _
          have hk8 : Keep s6.next s6 s8 := (hk7.trans ((pushes s7 _).le hn7)).trans (hx8.keep (by rw [next_push']; omega) fun r i n z h => (ho7.row r i n z h).1)
          (repeat' (with_reducible first|refine w_1 ?_|refine w_2 ?_|refine w_3 ?_|refine w_4 ?_|refine w_5 ?_|refine w_6 ?_|refine w_7 ?_|(refine w_8 (fun hb=>?_) (fun hb=>?_)<;>(try simp only [Bool.not_eq_true',Bool.not_eq_false'] at hb)<;>try simp only [hb])|(refine w_9 ?_;simp (maxDischargeDepth:=12) only [viz,↓reduceIte,Nat.reduceEqDiff,reduceCtorEq,Int.reduceEq,Int.reduceNeg,Nat.reduceAdd,Nat.reduceLeDiff,q3,q4,q5,q6,q8,q15,q16,q17])|refine w_10 (fun hc=>(by (try simp only [Bool.and_eq_true] at hc);simp (maxDischargeDepth:=12) only [viz,↓reduceIte,Nat.reduceEqDiff,reduceCtorEq,Int.reduceEq,Int.reduceNeg,Nat.reduceAdd,Nat.reduceLeDiff,q3,q4,q5,q6,q8,q15,q16,q17,hc];first|exact ⟨rfl,rfl⟩|exact rfl)) ?_|refine w_11 (fun hc=>(by (try simp only [Bool.and_eq_true] at hc);simp (maxDischargeDepth:=12) only [viz,↓reduceIte,Nat.reduceEqDiff,reduceCtorEq,Int.reduceEq,Int.reduceNeg,Nat.reduceAdd,Nat.reduceLeDiff,q3,q4,q5,q6,q8,q15,q16,q17,hc];first|exact ⟨rfl,rfl⟩|exact rfl)) ?_|refine w_12 ?_|simp (maxDischargeDepth:=12) only [viz,↓reduceIte,Nat.reduceEqDiff,reduceCtorEq,Int.reduceEq,Int.reduceNeg,Nat.reduceAdd,Nat.reduceLeDiff,q3,q4,q5,q6,q8,q15,q16,q17]))
          refine ⟨by omega, v8, lst ++ [newI c q k token key], hk8, ?_, ?_, rfl, succ_av (by omega)⟩
          · have em : (lst ++ [newI c q k token key]).map intC = lst.map intC ++ [intC (newI c q k token key)] := by simp
            rw [em, hnew]; exact ho8
          · rw [← hinv, mg_drop_new hy (.inr ⟨x, hx, (by assumption : Op.bytesLess key x.key = true)⟩), List.append_assoc, List.singleton_append, Nat.add_assoc]
        · have hnew : newI c q k token key = ⟨key, c, q, k.kind, token, k.ttl⟩ := by
            have : k.kind = 1 := by simpa using hb
            simp [newI, this]
          refine app_lit (v := v7) (k := 1) (b := s6.next) (xs := lst.map intC) (ys := [[.str key, .int .i64 c, .int .u64 q, .int .i64 k.kind, .int .u64 token, .int .i64 k.ttl]]) (s := s7.push ⟨70, 6, [[.str key, .int .i64 c, .int .u64 q, .int .i64 k.kind, .int .u64 token, .int .i64 k.ttl]]⟩) (by rw [floor_push', k7.floor]; omega) (by rw [next_push']; omega) (ho7.push _) (by simp only [ev, Env.get_set, ↓reduceIte, Nat.reduceEqDiff]) (by simp only [ev, Env.get_set, ↓reduceIte, Nat.reduceEqDiff]; rfl) rfl rfl (room (by simp; omega) (by simp; omega)) ?_
          intro v8 s8 ho8 hx8 _ _
          have hk8 : Keep s6.next s6 s8 := (hk7.trans ((pushes s7 _).le hn7)).trans (hx8.keep (by rw [next_push']; omega) fun r i n z h => (ho7.row r i n z h).1)
          (repeat' (with_reducible first|refine w_1 ?_|refine w_2 ?_|refine w_3 ?_|refine w_4 ?_|refine w_5 ?_|refine w_6 ?_|refine w_7 ?_|(refine w_8 (fun hb=>?_) (fun hb=>?_)<;>(try simp only [Bool.not_eq_true',Bool.not_eq_false'] at hb)<;>try simp only [hb])|(refine w_9 ?_;simp (maxDischargeDepth:=12) only [viz,↓reduceIte,Nat.reduceEqDiff,reduceCtorEq,Int.reduceEq,Int.reduceNeg,Nat.reduceAdd,Nat.reduceLeDiff,q3,q4,q5,q6,q8,q15,q16,q17])|refine w_10 (fun hc=>(by (try simp only [Bool.and_eq_true] at hc);simp (maxDischargeDepth:=12) only [viz,↓reduceIte,Nat.reduceEqDiff,reduceCtorEq,Int.reduceEq,Int.reduceNeg,Nat.reduceAdd,Nat.reduceLeDiff,q3,q4,q5,q6,q8,q15,q16,q17,hc];first|exact ⟨rfl,rfl⟩|exact rfl)) ?_|refine w_11 (fun hc=>(by (try simp only [Bool.and_eq_true] at hc);simp (maxDischargeDepth:=12) only [viz,↓reduceIte,Nat.reduceEqDiff,reduceCtorEq,Int.reduceEq,Int.reduceNeg,Nat.reduceAdd,Nat.reduceLeDiff,q3,q4,q5,q6,q8,q15,q16,q17,hc];first|exact ⟨rfl,rfl⟩|exact rfl)) ?_|refine w_12 ?_|simp (maxDischargeDepth:=12) only [viz,↓reduceIte,Nat.reduceEqDiff,reduceCtorEq,Int.reduceEq,Int.reduceNeg,Nat.reduceAdd,Nat.reduceLeDiff,q3,q4,q5,q6,q8,q15,q16,q17]))
          refine ⟨by omega, v8, lst ++ [newI c q k token key], hk8, ?_, ?_, rfl, succ_av (by omega)⟩
          · have em : (lst ++ [newI c q k token key]).map intC = lst.map intC ++ [intC (newI c q k token key)] := by simp
            rw [em, hnew]; exact ho8
          · rw [← hinv, mg_drop_new hy (.inr ⟨x, hx, (by assumption : Op.bytesLess key x.key = true)⟩), List.append_assoc, List.singleton_append, Nat.add_assoc]
        · refine app_lit (v := v7) (k := 1) (b := s6.next) (xs := lst.map intC) (ys := [intC x]) (s := s7) (by rw [k7.floor]; omega) hn7 ho7 (by simp only [ev, Env.get_set, ↓reduceIte, Nat.reduceEqDiff]) (by simp only [ev, Env.get_set, ↓reduceIte, Nat.reduceEqDiff]) rfl rfl (room (by simp; omega) (by simp; omega)) ?_
          intro v8 s8 ho8 hx8 _ _
          have hk8 : Keep s6.next s6 s8 := hk7.trans (hx8.keep hn7 fun r i n z h => (ho7.row r i n z h).1)
          (repeat' (with_reducible first|refine w_1 ?_|refine w_2 ?_|refine w_3 ?_|refine w_4 ?_|refine w_5 ?_|refine w_6 ?_|refine w_7 ?_|(refine w_8 (fun hb=>?_) (fun hb=>?_)<;>(try simp only [Bool.not_eq_true',Bool.not_eq_false'] at hb)<;>try simp only [hb])|(refine w_9 ?_;simp (maxDischargeDepth:=12) only [viz,↓reduceIte,Nat.reduceEqDiff,reduceCtorEq,Int.reduceEq,Int.reduceNeg,Nat.reduceAdd,Nat.reduceLeDiff,q3,q4,q5,q6,q8,q15,q16,q17])|refine w_10 (fun hc=>(by (try simp only [Bool.and_eq_true] at hc);simp (maxDischargeDepth:=12) only [viz,↓reduceIte,Nat.reduceEqDiff,reduceCtorEq,Int.reduceEq,Int.reduceNeg,Nat.reduceAdd,Nat.reduceLeDiff,q3,q4,q5,q6,q8,q15,q16,q17,hc];first|exact ⟨rfl,rfl⟩|exact rfl)) ?_|refine w_11 (fun hc=>(by (try simp only [Bool.and_eq_true] at hc);simp (maxDischargeDepth:=12) only [viz,↓reduceIte,Nat.reduceEqDiff,reduceCtorEq,Int.reduceEq,Int.reduceNeg,Nat.reduceAdd,Nat.reduceLeDiff,q3,q4,q5,q6,q8,q15,q16,q17,hc];first|exact ⟨rfl,rfl⟩|exact rfl)) ?_|refine w_12 ?_|simp (maxDischargeDepth:=12) only [viz,↓reduceIte,Nat.reduceEqDiff,reduceCtorEq,Int.reduceEq,Int.reduceNeg,Nat.reduceAdd,Nat.reduceLeDiff,q3,q4,q5,q6,q8,q15,q16,q17]))
          refine ⟨by omega, v8, lst ++ [x], n0 + m, hk8, ?_, by omega, ?_, fun h => by omega, rfl, rfl, succ_av (by omega)⟩
          · have em : (lst ++ [x]).map intC = lst.map intC ++ [intC x] := by simp
            rw [em]; exact ho8
          · rw [← hinv, mg_drop_old hx (.inr ⟨_, hy, hb⟩), List.append_assoc, List.singleton_append]
    · by_cases hie : i = t.ints.length
      · have hilt := lt_false (show ¬ i < t.ints.length by omega)
        (repeat' (with_reducible first|refine w_1 ?_|refine w_2 ?_|refine w_3 ?_|refine w_4 ?_|refine w_5 ?_|refine w_6 ?_|refine w_7 ?_|(refine w_8 (fun hb=>?_) (fun hb=>?_)<;>(try simp only [Bool.not_eq_true',Bool.not_eq_false'] at hb)<;>try simp only [hb])|(refine w_9 ?_;simp (maxDischargeDepth:=12) only [viz,↓reduceIte,Nat.reduceEqDiff,reduceCtorEq,Int.reduceEq,Int.reduceNeg,Nat.reduceAdd,Nat.reduceLeDiff,q3,q4,q5,q6,q8,q15,q16,q17,hlk,hli,lt_false hml,hilt,r7.a,r7.b,r7.c])|refine w_10 (fun hc=>(by (try simp only [Bool.and_eq_true] at hc);simp (maxDischargeDepth:=12) only [viz,↓reduceIte,Nat.reduceEqDiff,reduceCtorEq,Int.reduceEq,Int.reduceNeg,Nat.reduceAdd,Nat.reduceLeDiff,q3,q4,q5,q6,q8,q15,q16,q17,hlk,hli,lt_false hml,hilt,r7.a,r7.b,r7.c,hc];first|exact ⟨rfl,rfl⟩|exact rfl)) ?_|refine w_11 (fun hc=>(by (try simp only [Bool.and_eq_true] at hc);simp (maxDischargeDepth:=12) only [viz,↓reduceIte,Nat.reduceEqDiff,reduceCtorEq,Int.reduceEq,Int.reduceNeg,Nat.reduceAdd,Nat.reduceLeDiff,q3,q4,q5,q6,q8,q15,q16,q17,hlk,hli,lt_false hml,hilt,r7.a,r7.b,r7.c,hc];first|exact ⟨rfl,rfl⟩|exact rfl)) ?_|refine w_12 ?_|simp (maxDischargeDepth:=12) only [viz,↓reduceIte,Nat.reduceEqDiff,reduceCtorEq,Int.reduceEq,Int.reduceNeg,Nat.reduceAdd,Nat.reduceLeDiff,q3,q4,q5,q6,q8,q15,q16,q17,hlk,hli,lt_false hml,hilt,r7.a,r7.b,r7.c]))
        refine ⟨by omega, v7, lst, n0 + m, hk7, ho7, by omega, ?_, fun h => by omega, rfl, rfl, succ_av (by omega)⟩
        rw [← hinv, show t.ints.drop (i + 1) = [] from List.drop_eq_nil_of_le (by omega), show t.ints.drop i = [] from List.drop_eq_nil_of_le (by omega)]
      · obtain ⟨x, hx⟩ := get_of (l := t.ints) (i := i) (by omega)
        obtain ⟨p, hpx, P, hld⟩ := hw.it.ldk hI hx rfl rfl
        have hld' := hld _ k7
        simp only [intC] at hld'
        have hilt := lt_true (show i < t.ints.length by omega)
        (repeat' (with_reducible first|refine w_1 ?_|refine w_2 ?_|refine w_3 ?_|refine w_4 ?_|refine w_5 ?_|refine w_6 ?_|refine w_7 ?_|(refine w_8 (fun hb=>?_) (fun hb=>?_)<;>(try simp only [Bool.not_eq_true',Bool.not_eq_false'] at hb)<;>try simp only [hb])|(refine w_9 ?_;simp (maxDischargeDepth:=12) only [viz,↓reduceIte,Nat.reduceEqDiff,reduceCtorEq,Int.reduceEq,Int.reduceNeg,Nat.reduceAdd,Nat.reduceLeDiff,q3,q4,q5,q6,q8,q15,q16,q17,hlk,hli,lt_false hml,hilt,hpx,hld',r7.a,r7.b,r7.c])|refine w_10 (fun hc=>(by (try simp only [Bool.and_eq_true] at hc);simp (maxDischargeDepth:=12) only [viz,↓reduceIte,Nat.reduceEqDiff,reduceCtorEq,Int.reduceEq,Int.reduceNeg,Nat.reduceAdd,Nat.reduceLeDiff,q3,q4,q5,q6,q8,q15,q16,q17,hlk,hli,lt_false hml,hilt,hpx,hld',r7.a,r7.b,r7.c,hc];first|exact ⟨rfl,rfl⟩|exact rfl)) ?_|refine w_11 (fun hc=>(by (try simp only [Bool.and_eq_true] at hc);simp (maxDischargeDepth:=12) only [viz,↓reduceIte,Nat.reduceEqDiff,reduceCtorEq,Int.reduceEq,Int.reduceNeg,Nat.reduceAdd,Nat.reduceLeDiff,q3,q4,q5,q6,q8,q15,q16,q17,hlk,hli,lt_false hml,hilt,hpx,hld',r7.a,r7.b,r7.c,hc];first|exact ⟨rfl,rfl⟩|exact rfl)) ?_|refine w_12 ?_|simp (maxDischargeDepth:=12) only [viz,↓reduceIte,Nat.reduceEqDiff,reduceCtorEq,Int.reduceEq,Int.reduceNeg,Nat.reduceAdd,Nat.reduceLeDiff,q3,q4,q5,q6,q8,q15,q16,q17,hlk,hli,lt_false hml,hilt,hpx,hld',r7.a,r7.b,r7.c]))
        refine app_lit (v := v7) (k := 1) (b := s6.next) (xs := lst.map intC) (ys := [intC x]) (s := s7) (by rw [k7.floor]; omega) hn7 ho7 (by simp only [ev, Env.get_set, ↓reduceIte, Nat.reduceEqDiff]) (by simp only [ev, Env.get_set, ↓reduceIte, Nat.reduceEqDiff]) rfl rfl (room (by simp; omega) (by simp; omega)) ?_
        intro v8 s8 ho8 hx8 _ _
        have hk8 : Keep s6.next s6 s8 := hk7.trans (hx8.keep hn7 fun r i n z h => (ho7.row r i n z h).1)
        (repeat' (with_reducible first|refine w_1 ?_|refine w_2 ?_|refine w_3 ?_|refine w_4 ?_|refine w_5 ?_|refine w_6 ?_|refine w_7 ?_|(refine w_8 (fun hb=>?_) (fun hb=>?_)<;>(try simp only [Bool.not_eq_true',Bool.not_eq_false'] at hb)<;>try simp only [hb])|(refine w_9 ?_;simp (maxDischargeDepth:=12) only [viz,↓reduceIte,Nat.reduceEqDiff,reduceCtorEq,Int.reduceEq,Int.reduceNeg,Nat.reduceAdd,Nat.reduceLeDiff,q3,q4,q5,q6,q8,q15,q16,q17])|refine w_10 (fun hc=>(by (try simp only [Bool.and_eq_true] at hc);simp (maxDischargeDepth:=12) only [viz,↓reduceIte,Nat.reduceEqDiff,reduceCtorEq,Int.reduceEq,Int.reduceNeg,Nat.reduceAdd,Nat.reduceLeDiff,q3,q4,q5,q6,q8,q15,q16,q17,hc];first|exact ⟨rfl,rfl⟩|exact rfl)) ?_|refine w_11 (fun hc=>(by (try simp only [Bool.and_eq_true] at hc);simp (maxDischargeDepth:=12) only [viz,↓reduceIte,Nat.reduceEqDiff,reduceCtorEq,Int.reduceEq,Int.reduceNeg,Nat.reduceAdd,Nat.reduceLeDiff,q3,q4,q5,q6,q8,q15,q16,q17,hc];first|exact ⟨rfl,rfl⟩|exact rfl)) ?_|refine w_12 ?_|simp (maxDischargeDepth:=12) only [viz,↓reduceIte,Nat.reduceEqDiff,reduceCtorEq,Int.reduceEq,Int.reduceNeg,Nat.reduceAdd,Nat.reduceLeDiff,q3,q4,q5,q6,q8,q15,q16,q17]))
        refine ⟨by omega, v8, lst ++ [x], n0 + m, hk8, ?_, by omega, ?_, fun h => by omega, rfl, rfl, succ_av (by omega)⟩
        · have em : (lst ++ [x]).map intC = lst.map intC ++ [intC x] := by simp
          rw [em]; exact ho8
        · rw [← hinv, mg_drop_old hx (.inl (by rw [ln]; omega)), List.append_assoc, List.singleton_append]
  · have hgt : decide ((i : Int) ≤ (t.ints.length : Int)) = false := by simp; omega
    have kA := k6.then hkA
    have rA := r6.then hkA
    have hnA := hkA.next
    have fA : sA.floor ≤ s.next := by rw [kA.floor]; exact hf
    have fA' : sA.floor ≤ s.next + 1 + 1 + 1 := by omega
    have hlR : lA = R := by
      have e1 := hend (by omega)
      rw [show t.ints.drop i = [] from List.drop_eq_nil_of_le (by omega), mg_nil, List.drop_eq_nil_of_le (by rw [ln]; omega), List.append_nil] at hinvA
      exact hinvA
    subst hlR
    have sA' := hoA.sl (D := fun q => s6.next ≤ q ∧ q < sA.next) (int_cells _) fun r n h => hoA.row r 0 n 6 h
    have cA := sA'.cell
    have n33 : (s.next + 1 + 1 + 1 = s.next) = False := by simp; omega
    (repeat' (with_reducible first|refine w_1 ?_|refine w_2 ?_|refine w_3 ?_|refine w_4 ?_|refine w_5 ?_|refine w_6 ?_|refine w_7 ?_|(refine w_8 (fun hb=>?_) (fun hb=>?_)<;>(try simp only [Bool.not_eq_true',Bool.not_eq_false'] at hb)<;>try simp only [hb])|(refine w_9 ?_;simp (maxDischargeDepth:=12) only [viz,↓reduceIte,Nat.reduceEqDiff,reduceCtorEq,Int.reduceEq,Int.reduceNeg,Nat.reduceAdd,Nat.reduceLeDiff,g3,g4,g5,g6,g8,g15,g16,g17,hli,hgt,rA.a,rA.b,rA.c,rA.e,fA,fA',cA,cells_cell cA,hw.sp.cell,hw.fr.cell,hw.ho.cell,hw.ma.cell,n33])|refine w_10 (fun hc=>(by (try simp only [Bool.and_eq_true] at hc);simp (maxDischargeDepth:=12) only [viz,↓reduceIte,Nat.reduceEqDiff,reduceCtorEq,Int.reduceEq,Int.reduceNeg,Nat.reduceAdd,Nat.reduceLeDiff,g3,g4,g5,g6,g8,g15,g16,g17,hli,hgt,rA.a,rA.b,rA.c,rA.e,fA,fA',cA,cells_cell cA,hw.sp.cell,hw.fr.cell,hw.ho.cell,hw.ma.cell,n33,hc];first|exact ⟨rfl,rfl⟩|exact rfl)) ?_|refine w_11 (fun hc=>(by (try simp only [Bool.and_eq_true] at hc);simp (maxDischargeDepth:=12) only [viz,↓reduceIte,Nat.reduceEqDiff,reduceCtorEq,Int.reduceEq,Int.reduceNeg,Nat.reduceAdd,Nat.reduceLeDiff,g3,g4,g5,g6,g8,g15,g16,g17,hli,hgt,rA.a,rA.b,rA.c,rA.e,fA,fA',cA,cells_cell cA,hw.sp.cell,hw.fr.cell,hw.ho.cell,hw.ma.cell,n33,hc];first|exact ⟨rfl,rfl⟩|exact rfl)) ?_|refine w_12 ?_|simp (maxDischargeDepth:=12) only [viz,↓reduceIte,Nat.reduceEqDiff,reduceCtorEq,Int.reduceEq,Int.reduceNeg,Nat.reduceAdd,Nat.reduceLeDiff,g3,g4,g5,g6,g8,g15,g16,g17,hli,hgt,rA.a,rA.b,rA.c,rA.e,fA,fA',cA,cells_cell cA,hw.sp.cell,hw.fr.cell,hw.ho.cell,hw.ma.cell,n33]))
    generalize hPe : Mem.put _ _ _ = P
    have hP : ∀ q, q < s.next → P.get q = sA.get q := fun q hq => by
      have q1 : ¬ q = s.next := by omega
      have q2 : ¬ q = s.next + 1 + 1 + 1 := by omega
      rw [← hPe]
      simp only [Mem.get_put, q1, q2, if_false]
    have hP2 : ∀ q, s6.next ≤ q → P.get q = sA.get q := fun q hq => by
      have q1 : ¬ q = s.next := by omega
      have q2 : ¬ q = s.next + 1 + 1 + 1 := by omega
      rw [← hPe]
      simp only [Mem.get_put, q1, q2, if_false]
    have hPn : P.next = sA.next := by rw [← hPe]; simp only [next_put']
    have kP : Keep s.next s P := ⟨by rw [hPn]; exact kA.next, by rw [← hPe]; simp only [floor_put']; exact kA.floor, fun r hr => by rw [hP r hr]; exact kA.get r hr⟩
    have hD : ∀ r, D r → P.get r = s.get r := fun r hr => kP.get r (hI r hr)
    exact hK ⟨w.sp, w.fr, w.ho, w.ma, vA⟩ P kP ⟨(hw.sp.keep hD).mono fun r hr => .inl hr, (hw.fr.keep hD).mono fun r hr => .inl hr, (hw.ho.keep hD).mono fun r hr => .inl hr, (hw.ma.keep hD).mono fun r hr => .inl hr, (sA'.keep fun q hq => hP2 q hq.1).mono fun r hr => .inr ⟨by omega, by rw [hPn]; exact hr.2⟩⟩
end Go.Proofs.YthibbbfhkfebkaaGreat
/- Tables alike. No statement of the seat is proved here. -/
namespace Go.Proofs.YthibbbfhkfebkaaGreat
open Go Go.VI
set_option linter.unusedSimpArgs false
attribute [local irreducible] Ws Wp W C
set_option maxHeartbeats 4000000
theorem speq_c (x : Span) : eqA (.st [.s, .s]) (.agg (spanC x)) (.agg (spanC x)) = some true := by
  simp [eqA, eqL, eqLf, spanC]
theorem spsame_c {l : List Span} {v w : AV} {D : Nat → Prop} {s : Mem} {K : AV → Mem → Prop} (hI : In D s) (hv : Spans s D v l) (hw : Spans s D w l) (hl : l.length < 1000000000)
    (hK : K (.bool true) s) : C tab 102 [v, w] s K := by
  refine C_enter (cf := cf102) rfl (Nat.le_of_ble_eq_true rfl) ?_
  simp only [cf102, oo, on, om, og, oc, ou]
  have hlv : lenA false v = some l.length := hv.lenB
  have hlw : lenA false w = some l.length := hw.lenB
  (repeat' (with_reducible first|refine w_1 ?_|refine w_2 ?_|refine w_3 ?_|refine w_4 ?_|refine w_5 ?_|refine w_6 ?_|refine w_7 ?_|(refine w_8 (fun hb=>?_) (fun hb=>?_)<;>(try simp only [Bool.not_eq_true',Bool.not_eq_false'] at hb)<;>try simp only [hb])|(refine w_9 ?_;simp (maxDischargeDepth:=12) only [viz,↓reduceIte,Nat.reduceEqDiff,reduceCtorEq,Int.reduceEq,Int.reduceNeg,Nat.reduceAdd,Nat.reduceLeDiff,hlv,hlw,bne_self_eq_false, Int.reduceBEq, Int.reduceBNe, Int.reduceLT, Int.reduceLE, Int.reduceGT, Int.reduceGE])|refine w_10 (fun hc=>(by (try simp only [Bool.and_eq_true] at hc);simp (maxDischargeDepth:=12) only [viz,↓reduceIte,Nat.reduceEqDiff,reduceCtorEq,Int.reduceEq,Int.reduceNeg,Nat.reduceAdd,Nat.reduceLeDiff,hlv,hlw,bne_self_eq_false, Int.reduceBEq, Int.reduceBNe, Int.reduceLT, Int.reduceLE, Int.reduceGT, Int.reduceGE,hc];first|exact ⟨rfl,rfl⟩|exact rfl)) ?_|refine w_11 (fun hc=>(by (try simp only [Bool.and_eq_true] at hc);simp (maxDischargeDepth:=12) only [viz,↓reduceIte,Nat.reduceEqDiff,reduceCtorEq,Int.reduceEq,Int.reduceNeg,Nat.reduceAdd,Nat.reduceLeDiff,hlv,hlw,bne_self_eq_false, Int.reduceBEq, Int.reduceBNe, Int.reduceLT, Int.reduceLE, Int.reduceGT, Int.reduceGE,hc];first|exact ⟨rfl,rfl⟩|exact rfl)) ?_|refine w_12 ?_|simp (maxDischargeDepth:=12) only [viz,↓reduceIte,Nat.reduceEqDiff,reduceCtorEq,Int.reduceEq,Int.reduceNeg,Nat.reduceAdd,Nat.reduceLeDiff,hlv,hlw,bne_self_eq_false, Int.reduceBEq, Int.reduceBNe, Int.reduceLT, Int.reduceLE, Int.reduceGT, Int.reduceGE]))
  refine W_inv l.length (fun i E s' => s' = s ∧ E.get 0 = v ∧ E.get 1 = w ∧ E.get 5 = .int .i64 i) (by delta cf102l0 oo on om og oc ou; exact rfl) ?_ ?_
  · (repeat' (with_reducible first|refine w_1 ?_|refine w_2 ?_|refine w_3 ?_|refine w_4 ?_|refine w_5 ?_|refine w_6 ?_|refine w_7 ?_|(refine w_8 (fun hb=>?_) (fun hb=>?_)<;>(try simp only [Bool.not_eq_true',Bool.not_eq_false'] at hb)<;>try simp only [hb])|(refine w_9 ?_;simp (maxDischargeDepth:=12) only [viz,↓reduceIte,Nat.reduceEqDiff,reduceCtorEq,Int.reduceEq,Int.reduceNeg,Nat.reduceAdd,Nat.reduceLeDiff])|refine w_10 (fun hc=>(by (try simp only [Bool.and_eq_true] at hc);simp (maxDischargeDepth:=12) only [viz,↓reduceIte,Nat.reduceEqDiff,reduceCtorEq,Int.reduceEq,Int.reduceNeg,Nat.reduceAdd,Nat.reduceLeDiff,hc];first|exact ⟨rfl,rfl⟩|exact rfl)) ?_|refine w_11 (fun hc=>(by (try simp only [Bool.and_eq_true] at hc);simp (maxDischargeDepth:=12) only [viz,↓reduceIte,Nat.reduceEqDiff,reduceCtorEq,Int.reduceEq,Int.reduceNeg,Nat.reduceAdd,Nat.reduceLeDiff,hc];first|exact ⟨rfl,rfl⟩|exact rfl)) ?_|refine w_12 ?_|simp (maxDischargeDepth:=12) only [viz,↓reduceIte,Nat.reduceEqDiff,reduceCtorEq,Int.reduceEq,Int.reduceNeg,Nat.reduceAdd,Nat.reduceLeDiff]))
    try rfl
  rintro i E s' hile _ ⟨rfl, g0, g1, g5⟩
  by_cases hlt : i < l.length
  · obtain ⟨x, hx⟩ := get_of hlt
    obtain ⟨p, hp, P, hld⟩ := hv.ldk hI hx rfl rfl
    obtain ⟨p2, hp2, P2, hld2⟩ := hw.ldk hI hx rfl rfl
    have l1 := hld _ (Keep.refl _ _)
    have l2 := hld2 _ (Keep.refl _ _)
    (repeat' (with_reducible first|refine w_1 ?_|refine w_2 ?_|refine w_3 ?_|refine w_4 ?_|refine w_5 ?_|refine w_6 ?_|refine w_7 ?_|(refine w_8 (fun hb=>?_) (fun hb=>?_)<;>(try simp only [Bool.not_eq_true',Bool.not_eq_false'] at hb)<;>try simp only [hb])|(refine w_9 ?_;simp (maxDischargeDepth:=12) only [viz,↓reduceIte,Nat.reduceEqDiff,reduceCtorEq,Int.reduceEq,Int.reduceNeg,Nat.reduceAdd,Nat.reduceLeDiff,g0,g1,g5,hlv,lt_true hlt,hp,hp2,l1,l2,speq_c])|refine w_10 (fun hc=>(by (try simp only [Bool.and_eq_true] at hc);simp (maxDischargeDepth:=12) only [viz,↓reduceIte,Nat.reduceEqDiff,reduceCtorEq,Int.reduceEq,Int.reduceNeg,Nat.reduceAdd,Nat.reduceLeDiff,g0,g1,g5,hlv,lt_true hlt,hp,hp2,l1,l2,speq_c,hc];first|exact ⟨rfl,rfl⟩|exact rfl)) ?_|refine w_11 (fun hc=>(by (try simp only [Bool.and_eq_true] at hc);simp (maxDischargeDepth:=12) only [viz,↓reduceIte,Nat.reduceEqDiff,reduceCtorEq,Int.reduceEq,Int.reduceNeg,Nat.reduceAdd,Nat.reduceLeDiff,g0,g1,g5,hlv,lt_true hlt,hp,hp2,l1,l2,speq_c,hc];first|exact ⟨rfl,rfl⟩|exact rfl)) ?_|refine w_12 ?_|simp (maxDischargeDepth:=12) only [viz,↓reduceIte,Nat.reduceEqDiff,reduceCtorEq,Int.reduceEq,Int.reduceNeg,Nat.reduceAdd,Nat.reduceLeDiff,g0,g1,g5,hlv,lt_true hlt,hp,hp2,l1,l2,speq_c]))
    exact ⟨hlt, succ_av (by omega)⟩
  · (repeat' (with_reducible first|refine w_1 ?_|refine w_2 ?_|refine w_3 ?_|refine w_4 ?_|refine w_5 ?_|refine w_6 ?_|refine w_7 ?_|(refine w_8 (fun hb=>?_) (fun hb=>?_)<;>(try simp only [Bool.not_eq_true',Bool.not_eq_false'] at hb)<;>try simp only [hb])|(refine w_9 ?_;simp (maxDischargeDepth:=12) only [viz,↓reduceIte,Nat.reduceEqDiff,reduceCtorEq,Int.reduceEq,Int.reduceNeg,Nat.reduceAdd,Nat.reduceLeDiff,g0,g1,g5,hlv,lt_false hlt])|refine w_10 (fun hc=>(by (try simp only [Bool.and_eq_true] at hc);simp (maxDischargeDepth:=12) only [viz,↓reduceIte,Nat.reduceEqDiff,reduceCtorEq,Int.reduceEq,Int.reduceNeg,Nat.reduceAdd,Nat.reduceLeDiff,g0,g1,g5,hlv,lt_false hlt,hc];first|exact ⟨rfl,rfl⟩|exact rfl)) ?_|refine w_11 (fun hc=>(by (try simp only [Bool.and_eq_true] at hc);simp (maxDischargeDepth:=12) only [viz,↓reduceIte,Nat.reduceEqDiff,reduceCtorEq,Int.reduceEq,Int.reduceNeg,Nat.reduceAdd,Nat.reduceLeDiff,g0,g1,g5,hlv,lt_false hlt,hc];first|exact ⟨rfl,rfl⟩|exact rfl)) ?_|refine w_12 ?_|simp (maxDischargeDepth:=12) only [viz,↓reduceIte,Nat.reduceEqDiff,reduceCtorEq,Int.reduceEq,Int.reduceNeg,Nat.reduceAdd,Nat.reduceLeDiff,g0,g1,g5,hlv,lt_false hlt]))
    exact hK
theorem hoeq_c (x : Hold) : eqA (.st [.s, .i, .i]) (.agg (holdC x)) (.agg (holdC x)) = some true := by
  simp [eqA, eqL, eqLf, holdC]
theorem hosame_c {l : List Hold} {v w : AV} {D : Nat → Prop} {s : Mem} {K : AV → Mem → Prop} (hI : In D s) (hv : Holds s D v l) (hw : Holds s D w l) (hl : l.length < 1000000000)
    (hK : K (.bool true) s) : C tab 64 [v, w] s K := by
  refine C_enter (cf := cf64) rfl (Nat.le_of_ble_eq_true rfl) ?_
  simp only [cf64, oo, on, om, og, oc, ou]
  have hlv : lenA false v = some l.length := hv.lenB
  have hlw : lenA false w = some l.length := hw.lenB
  (repeat' (with_reducible first|refine w_1 ?_|refine w_2 ?_|refine w_3 ?_|refine w_4 ?_|refine w_5 ?_|refine w_6 ?_|refine w_7 ?_|(refine w_8 (fun hb=>?_) (fun hb=>?_)<;>(try simp only [Bool.not_eq_true',Bool.not_eq_false'] at hb)<;>try simp only [hb])|(refine w_9 ?_;simp (maxDischargeDepth:=12) only [viz,↓reduceIte,Nat.reduceEqDiff,reduceCtorEq,Int.reduceEq,Int.reduceNeg,Nat.reduceAdd,Nat.reduceLeDiff,hlv,hlw,bne_self_eq_false, Int.reduceBEq, Int.reduceBNe, Int.reduceLT, Int.reduceLE, Int.reduceGT, Int.reduceGE])|refine w_10 (fun hc=>(by (try simp only [Bool.and_eq_true] at hc);simp (maxDischargeDepth:=12) only [viz,↓reduceIte,Nat.reduceEqDiff,reduceCtorEq,Int.reduceEq,Int.reduceNeg,Nat.reduceAdd,Nat.reduceLeDiff,hlv,hlw,bne_self_eq_false, Int.reduceBEq, Int.reduceBNe, Int.reduceLT, Int.reduceLE, Int.reduceGT, Int.reduceGE,hc];first|exact ⟨rfl,rfl⟩|exact rfl)) ?_|refine w_11 (fun hc=>(by (try simp only [Bool.and_eq_true] at hc);simp (maxDischargeDepth:=12) only [viz,↓reduceIte,Nat.reduceEqDiff,reduceCtorEq,Int.reduceEq,Int.reduceNeg,Nat.reduceAdd,Nat.reduceLeDiff,hlv,hlw,bne_self_eq_false, Int.reduceBEq, Int.reduceBNe, Int.reduceLT, Int.reduceLE, Int.reduceGT, Int.reduceGE,hc];first|exact ⟨rfl,rfl⟩|exact rfl)) ?_|refine w_12 ?_|simp (maxDischargeDepth:=12) only [viz,↓reduceIte,Nat.reduceEqDiff,reduceCtorEq,Int.reduceEq,Int.reduceNeg,Nat.reduceAdd,Nat.reduceLeDiff,hlv,hlw,bne_self_eq_false, Int.reduceBEq, Int.reduceBNe, Int.reduceLT, Int.reduceLE, Int.reduceGT, Int.reduceGE]))
  refine W_inv l.length (fun i E s' => s' = s ∧ E.get 0 = v ∧ E.get 1 = w ∧ E.get 5 = .int .i64 i) (by delta cf64l0 oo on om og oc ou; exact rfl) ?_ ?_
  · (repeat' (with_reducible first|refine w_1 ?_|refine w_2 ?_|refine w_3 ?_|refine w_4 ?_|refine w_5 ?_|refine w_6 ?_|refine w_7 ?_|(refine w_8 (fun hb=>?_) (fun hb=>?_)<;>(try simp only [Bool.not_eq_true',Bool.not_eq_false'] at hb)<;>try simp only [hb])|(refine w_9 ?_;simp (maxDischargeDepth:=12) only [viz,↓reduceIte,Nat.reduceEqDiff,reduceCtorEq,Int.reduceEq,Int.reduceNeg,Nat.reduceAdd,Nat.reduceLeDiff])|refine w_10 (fun hc=>(by (try simp only [Bool.and_eq_true] at hc);simp (maxDischargeDepth:=12) only [viz,↓reduceIte,Nat.reduceEqDiff,reduceCtorEq,Int.reduceEq,Int.reduceNeg,Nat.reduceAdd,Nat.reduceLeDiff,hc];first|exact ⟨rfl,rfl⟩|exact rfl)) ?_|refine w_11 (fun hc=>(by (try simp only [Bool.and_eq_true] at hc);simp (maxDischargeDepth:=12) only [viz,↓reduceIte,Nat.reduceEqDiff,reduceCtorEq,Int.reduceEq,Int.reduceNeg,Nat.reduceAdd,Nat.reduceLeDiff,hc];first|exact ⟨rfl,rfl⟩|exact rfl)) ?_|refine w_12 ?_|simp (maxDischargeDepth:=12) only [viz,↓reduceIte,Nat.reduceEqDiff,reduceCtorEq,Int.reduceEq,Int.reduceNeg,Nat.reduceAdd,Nat.reduceLeDiff]))
    try rfl
  rintro i E s' hile _ ⟨rfl, g0, g1, g5⟩
  by_cases hlt : i < l.length
  · obtain ⟨x, hx⟩ := get_of hlt
    obtain ⟨p, hp, P, hld⟩ := hv.ldk hI hx rfl rfl
    obtain ⟨p2, hp2, P2, hld2⟩ := hw.ldk hI hx rfl rfl
    have l1 := hld _ (Keep.refl _ _)
    have l2 := hld2 _ (Keep.refl _ _)
    (repeat' (with_reducible first|refine w_1 ?_|refine w_2 ?_|refine w_3 ?_|refine w_4 ?_|refine w_5 ?_|refine w_6 ?_|refine w_7 ?_|(refine w_8 (fun hb=>?_) (fun hb=>?_)<;>(try simp only [Bool.not_eq_true',Bool.not_eq_false'] at hb)<;>try simp only [hb])|(refine w_9 ?_;simp (maxDischargeDepth:=12) only [viz,↓reduceIte,Nat.reduceEqDiff,reduceCtorEq,Int.reduceEq,Int.reduceNeg,Nat.reduceAdd,Nat.reduceLeDiff,g0,g1,g5,hlv,lt_true hlt,hp,hp2,l1,l2,hoeq_c])|refine w_10 (fun hc=>(by (try simp only [Bool.and_eq_true] at hc);simp (maxDischargeDepth:=12) only [viz,↓reduceIte,Nat.reduceEqDiff,reduceCtorEq,Int.reduceEq,Int.reduceNeg,Nat.reduceAdd,Nat.reduceLeDiff,g0,g1,g5,hlv,lt_true hlt,hp,hp2,l1,l2,hoeq_c,hc];first|exact ⟨rfl,rfl⟩|exact rfl)) ?_|refine w_11 (fun hc=>(by (try simp only [Bool.and_eq_true] at hc);simp (maxDischargeDepth:=12) only [viz,↓reduceIte,Nat.reduceEqDiff,reduceCtorEq,Int.reduceEq,Int.reduceNeg,Nat.reduceAdd,Nat.reduceLeDiff,g0,g1,g5,hlv,lt_true hlt,hp,hp2,l1,l2,hoeq_c,hc];first|exact ⟨rfl,rfl⟩|exact rfl)) ?_|refine w_12 ?_|simp (maxDischargeDepth:=12) only [viz,↓reduceIte,Nat.reduceEqDiff,reduceCtorEq,Int.reduceEq,Int.reduceNeg,Nat.reduceAdd,Nat.reduceLeDiff,g0,g1,g5,hlv,lt_true hlt,hp,hp2,l1,l2,hoeq_c]))
    exact ⟨hlt, succ_av (by omega)⟩
  · (repeat' (with_reducible first|refine w_1 ?_|refine w_2 ?_|refine w_3 ?_|refine w_4 ?_|refine w_5 ?_|refine w_6 ?_|refine w_7 ?_|(refine w_8 (fun hb=>?_) (fun hb=>?_)<;>(try simp only [Bool.not_eq_true',Bool.not_eq_false'] at hb)<;>try simp only [hb])|(refine w_9 ?_;simp (maxDischargeDepth:=12) only [viz,↓reduceIte,Nat.reduceEqDiff,reduceCtorEq,Int.reduceEq,Int.reduceNeg,Nat.reduceAdd,Nat.reduceLeDiff,g0,g1,g5,hlv,lt_false hlt])|refine w_10 (fun hc=>(by (try simp only [Bool.and_eq_true] at hc);simp (maxDischargeDepth:=12) only [viz,↓reduceIte,Nat.reduceEqDiff,reduceCtorEq,Int.reduceEq,Int.reduceNeg,Nat.reduceAdd,Nat.reduceLeDiff,g0,g1,g5,hlv,lt_false hlt,hc];first|exact ⟨rfl,rfl⟩|exact rfl)) ?_|refine w_11 (fun hc=>(by (try simp only [Bool.and_eq_true] at hc);simp (maxDischargeDepth:=12) only [viz,↓reduceIte,Nat.reduceEqDiff,reduceCtorEq,Int.reduceEq,Int.reduceNeg,Nat.reduceAdd,Nat.reduceLeDiff,g0,g1,g5,hlv,lt_false hlt,hc];first|exact ⟨rfl,rfl⟩|exact rfl)) ?_|refine w_12 ?_|simp (maxDischargeDepth:=12) only [viz,↓reduceIte,Nat.reduceEqDiff,reduceCtorEq,Int.reduceEq,Int.reduceNeg,Nat.reduceAdd,Nat.reduceLeDiff,g0,g1,g5,hlv,lt_false hlt]))
    exact hK
theorem maeq_c (x : Mark) : eqA (.st [.s, .i]) (.agg (markC x)) (.agg (markC x)) = some true := by
  simp [eqA, eqL, eqLf, markC]
theorem masame_c {l : List Mark} {v w : AV} {D : Nat → Prop} {s : Mem} {K : AV → Mem → Prop} (hI : In D s) (hv : Marks s D v l) (hw : Marks s D w l) (hl : l.length < 1000000000)
    (hK : K (.bool true) s) : C tab 65 [v, w] s K := by
  refine C_enter (cf := cf65) rfl (Nat.le_of_ble_eq_true rfl) ?_
  simp only [cf65, oo, on, om, og, oc, ou]
  have hlv : lenA false v = some l.length := hv.lenB
  have hlw : lenA false w = some l.length := hw.lenB
  (repeat' (with_reducible first|refine w_1 ?_|refine w_2 ?_|refine w_3 ?_|refine w_4 ?_|refine w_5 ?_|refine w_6 ?_|refine w_7 ?_|(refine w_8 (fun hb=>?_) (fun hb=>?_)<;>(try simp only [Bool.not_eq_true',Bool.not_eq_false'] at hb)<;>try simp only [hb])|(refine w_9 ?_;simp (maxDischargeDepth:=12) only [viz,↓reduceIte,Nat.reduceEqDiff,reduceCtorEq,Int.reduceEq,Int.reduceNeg,Nat.reduceAdd,Nat.reduceLeDiff,hlv,hlw,bne_self_eq_false, Int.reduceBEq, Int.reduceBNe, Int.reduceLT, Int.reduceLE, Int.reduceGT, Int.reduceGE])|refine w_10 (fun hc=>(by (try simp only [Bool.and_eq_true] at hc);simp (maxDischargeDepth:=12) only [viz,↓reduceIte,Nat.reduceEqDiff,reduceCtorEq,Int.reduceEq,Int.reduceNeg,Nat.reduceAdd,Nat.reduceLeDiff,hlv,hlw,bne_self_eq_false, Int.reduceBEq, Int.reduceBNe, Int.reduceLT, Int.reduceLE, Int.reduceGT, Int.reduceGE,hc];first|exact ⟨rfl,rfl⟩|exact rfl)) ?_|refine w_11 (fun hc=>(by (try simp only [Bool.and_eq_true] at hc);simp (maxDischargeDepth:=12) only [viz,↓reduceIte,Nat.reduceEqDiff,reduceCtorEq,Int.reduceEq,Int.reduceNeg,Nat.reduceAdd,Nat.reduceLeDiff,hlv,hlw,bne_self_eq_false, Int.reduceBEq, Int.reduceBNe, Int.reduceLT, Int.reduceLE, Int.reduceGT, Int.reduceGE,hc];first|exact ⟨rfl,rfl⟩|exact rfl)) ?_|refine w_12 ?_|simp (maxDischargeDepth:=12) only [viz,↓reduceIte,Nat.reduceEqDiff,reduceCtorEq,Int.reduceEq,Int.reduceNeg,Nat.reduceAdd,Nat.reduceLeDiff,hlv,hlw,bne_self_eq_false, Int.reduceBEq, Int.reduceBNe, Int.reduceLT, Int.reduceLE, Int.reduceGT, Int.reduceGE]))
  refine W_inv l.length (fun i E s' => s' = s ∧ E.get 0 = v ∧ E.get 1 = w ∧ E.get 5 = .int .i64 i) (by delta cf65l0 oo on om og oc ou; exact rfl) ?_ ?_
  · (repeat' (with_reducible first|refine w_1 ?_|refine w_2 ?_|refine w_3 ?_|refine w_4 ?_|refine w_5 ?_|refine w_6 ?_|refine w_7 ?_|(refine w_8 (fun hb=>?_) (fun hb=>?_)<;>(try simp only [Bool.not_eq_true',Bool.not_eq_false'] at hb)<;>try simp only [hb])|(refine w_9 ?_;simp (maxDischargeDepth:=12) only [viz,↓reduceIte,Nat.reduceEqDiff,reduceCtorEq,Int.reduceEq,Int.reduceNeg,Nat.reduceAdd,Nat.reduceLeDiff])|refine w_10 (fun hc=>(by (try simp only [Bool.and_eq_true] at hc);simp (maxDischargeDepth:=12) only [viz,↓reduceIte,Nat.reduceEqDiff,reduceCtorEq,Int.reduceEq,Int.reduceNeg,Nat.reduceAdd,Nat.reduceLeDiff,hc];first|exact ⟨rfl,rfl⟩|exact rfl)) ?_|refine w_11 (fun hc=>(by (try simp only [Bool.and_eq_true] at hc);simp (maxDischargeDepth:=12) only [viz,↓reduceIte,Nat.reduceEqDiff,reduceCtorEq,Int.reduceEq,Int.reduceNeg,Nat.reduceAdd,Nat.reduceLeDiff,hc];first|exact ⟨rfl,rfl⟩|exact rfl)) ?_|refine w_12 ?_|simp (maxDischargeDepth:=12) only [viz,↓reduceIte,Nat.reduceEqDiff,reduceCtorEq,Int.reduceEq,Int.reduceNeg,Nat.reduceAdd,Nat.reduceLeDiff]))
    try rfl
  rintro i E s' hile _ ⟨rfl, g0, g1, g5⟩
  by_cases hlt : i < l.length
  · obtain ⟨x, hx⟩ := get_of hlt
    obtain ⟨p, hp, P, hld⟩ := hv.ldk hI hx rfl rfl
    obtain ⟨p2, hp2, P2, hld2⟩ := hw.ldk hI hx rfl rfl
    have l1 := hld _ (Keep.refl _ _)
    have l2 := hld2 _ (Keep.refl _ _)
    (repeat' (with_reducible first|refine w_1 ?_|refine w_2 ?_|refine w_3 ?_|refine w_4 ?_|refine w_5 ?_|refine w_6 ?_|refine w_7 ?_|(refine w_8 (fun hb=>?_) (fun hb=>?_)<;>(try simp only [Bool.not_eq_true',Bool.not_eq_false'] at hb)<;>try simp only [hb])|(refine w_9 ?_;simp (maxDischargeDepth:=12) only [viz,↓reduceIte,Nat.reduceEqDiff,reduceCtorEq,Int.reduceEq,Int.reduceNeg,Nat.reduceAdd,Nat.reduceLeDiff,g0,g1,g5,hlv,lt_true hlt,hp,hp2,l1,l2,maeq_c])|refine w_10 (fun hc=>(by (try simp only [Bool.and_eq_true] at hc);simp (maxDischargeDepth:=12) only [viz,↓reduceIte,Nat.reduceEqDiff,reduceCtorEq,Int.reduceEq,Int.reduceNeg,Nat.reduceAdd,Nat.reduceLeDiff,g0,g1,g5,hlv,lt_true hlt,hp,hp2,l1,l2,maeq_c,hc];first|exact ⟨rfl,rfl⟩|exact rfl)) ?_|refine w_11 (fun hc=>(by (try simp only [Bool.and_eq_true] at hc);simp (maxDischargeDepth:=12) only [viz,↓reduceIte,Nat.reduceEqDiff,reduceCtorEq,Int.reduceEq,Int.reduceNeg,Nat.reduceAdd,Nat.reduceLeDiff,g0,g1,g5,hlv,lt_true hlt,hp,hp2,l1,l2,maeq_c,hc];first|exact ⟨rfl,rfl⟩|exact rfl)) ?_|refine w_12 ?_|simp (maxDischargeDepth:=12) only [viz,↓reduceIte,Nat.reduceEqDiff,reduceCtorEq,Int.reduceEq,Int.reduceNeg,Nat.reduceAdd,Nat.reduceLeDiff,g0,g1,g5,hlv,lt_true hlt,hp,hp2,l1,l2,maeq_c]))
    exact ⟨hlt, succ_av (by omega)⟩
  · (repeat' (with_reducible first|refine w_1 ?_|refine w_2 ?_|refine w_3 ?_|refine w_4 ?_|refine w_5 ?_|refine w_6 ?_|refine w_7 ?_|(refine w_8 (fun hb=>?_) (fun hb=>?_)<;>(try simp only [Bool.not_eq_true',Bool.not_eq_false'] at hb)<;>try simp only [hb])|(refine w_9 ?_;simp (maxDischargeDepth:=12) only [viz,↓reduceIte,Nat.reduceEqDiff,reduceCtorEq,Int.reduceEq,Int.reduceNeg,Nat.reduceAdd,Nat.reduceLeDiff,g0,g1,g5,hlv,lt_false hlt])|refine w_10 (fun hc=>(by (try simp only [Bool.and_eq_true] at hc);simp (maxDischargeDepth:=12) only [viz,↓reduceIte,Nat.reduceEqDiff,reduceCtorEq,Int.reduceEq,Int.reduceNeg,Nat.reduceAdd,Nat.reduceLeDiff,g0,g1,g5,hlv,lt_false hlt,hc];first|exact ⟨rfl,rfl⟩|exact rfl)) ?_|refine w_11 (fun hc=>(by (try simp only [Bool.and_eq_true] at hc);simp (maxDischargeDepth:=12) only [viz,↓reduceIte,Nat.reduceEqDiff,reduceCtorEq,Int.reduceEq,Int.reduceNeg,Nat.reduceAdd,Nat.reduceLeDiff,g0,g1,g5,hlv,lt_false hlt,hc];first|exact ⟨rfl,rfl⟩|exact rfl)) ?_|refine w_12 ?_|simp (maxDischargeDepth:=12) only [viz,↓reduceIte,Nat.reduceEqDiff,reduceCtorEq,Int.reduceEq,Int.reduceNeg,Nat.reduceAdd,Nat.reduceLeDiff,g0,g1,g5,hlv,lt_false hlt]))
    exact hK
theorem iteq_c (x : Intent) : eqA (.st [.s, .i, .i, .i, .i, .i]) (.agg (intC x)) (.agg (intC x)) = some true := by
  simp [eqA, eqL, eqLf, intC]
theorem itsame_c {l : List Intent} {v w : AV} {D : Nat → Prop} {s : Mem} {K : AV → Mem → Prop} (hI : In D s) (hv : Ints s D v l) (hw : Ints s D w l) (hl : l.length < 1000000000)
    (hK : K (.bool true) s) : C tab 103 [v, w] s K := by
  refine C_enter (cf := cf103) rfl (Nat.le_of_ble_eq_true rfl) ?_
  simp only [cf103, oo, on, om, og, oc, ou]
  have hlv : lenA false v = some l.length := hv.lenB
  have hlw : lenA false w = some l.length := hw.lenB
  (repeat' (with_reducible first|refine w_1 ?_|refine w_2 ?_|refine w_3 ?_|refine w_4 ?_|refine w_5 ?_|refine w_6 ?_|refine w_7 ?_|(refine w_8 (fun hb=>?_) (fun hb=>?_)<;>(try simp only [Bool.not_eq_true',Bool.not_eq_false'] at hb)<;>try simp only [hb])|(refine w_9 ?_;simp (maxDischargeDepth:=12) only [viz,↓reduceIte,Nat.reduceEqDiff,reduceCtorEq,Int.reduceEq,Int.reduceNeg,Nat.reduceAdd,Nat.reduceLeDiff,hlv,hlw,bne_self_eq_false, Int.reduceBEq, Int.reduceBNe, Int.reduceLT, Int.reduceLE, Int.reduceGT, Int.reduceGE])|refine w_10 (fun hc=>(by (try simp only [Bool.and_eq_true] at hc);simp (maxDischargeDepth:=12) only [viz,↓reduceIte,Nat.reduceEqDiff,reduceCtorEq,Int.reduceEq,Int.reduceNeg,Nat.reduceAdd,Nat.reduceLeDiff,hlv,hlw,bne_self_eq_false, Int.reduceBEq, Int.reduceBNe, Int.reduceLT, Int.reduceLE, Int.reduceGT, Int.reduceGE,hc];first|exact ⟨rfl,rfl⟩|exact rfl)) ?_|refine w_11 (fun hc=>(by (try simp only [Bool.and_eq_true] at hc);simp (maxDischargeDepth:=12) only [viz,↓reduceIte,Nat.reduceEqDiff,reduceCtorEq,Int.reduceEq,Int.reduceNeg,Nat.reduceAdd,Nat.reduceLeDiff,hlv,hlw,bne_self_eq_false, Int.reduceBEq, Int.reduceBNe, Int.reduceLT, Int.reduceLE, Int.reduceGT, Int.reduceGE,hc];first|exact ⟨rfl,rfl⟩|exact rfl)) ?_|refine w_12 ?_|simp (maxDischargeDepth:=12) only [viz,↓reduceIte,Nat.reduceEqDiff,reduceCtorEq,Int.reduceEq,Int.reduceNeg,Nat.reduceAdd,Nat.reduceLeDiff,hlv,hlw,bne_self_eq_false, Int.reduceBEq, Int.reduceBNe, Int.reduceLT, Int.reduceLE, Int.reduceGT, Int.reduceGE]))
  refine W_inv l.length (fun i E s' => s' = s ∧ E.get 0 = v ∧ E.get 1 = w ∧ E.get 5 = .int .i64 i) (by delta cf103l0 oo on om og oc ou; exact rfl) ?_ ?_
  · (repeat' (with_reducible first|refine w_1 ?_|refine w_2 ?_|refine w_3 ?_|refine w_4 ?_|refine w_5 ?_|refine w_6 ?_|refine w_7 ?_|(refine w_8 (fun hb=>?_) (fun hb=>?_)<;>(try simp only [Bool.not_eq_true',Bool.not_eq_false'] at hb)<;>try simp only [hb])|(refine w_9 ?_;simp (maxDischargeDepth:=12) only [viz,↓reduceIte,Nat.reduceEqDiff,reduceCtorEq,Int.reduceEq,Int.reduceNeg,Nat.reduceAdd,Nat.reduceLeDiff])|refine w_10 (fun hc=>(by (try simp only [Bool.and_eq_true] at hc);simp (maxDischargeDepth:=12) only [viz,↓reduceIte,Nat.reduceEqDiff,reduceCtorEq,Int.reduceEq,Int.reduceNeg,Nat.reduceAdd,Nat.reduceLeDiff,hc];first|exact ⟨rfl,rfl⟩|exact rfl)) ?_|refine w_11 (fun hc=>(by (try simp only [Bool.and_eq_true] at hc);simp (maxDischargeDepth:=12) only [viz,↓reduceIte,Nat.reduceEqDiff,reduceCtorEq,Int.reduceEq,Int.reduceNeg,Nat.reduceAdd,Nat.reduceLeDiff,hc];first|exact ⟨rfl,rfl⟩|exact rfl)) ?_|refine w_12 ?_|simp (maxDischargeDepth:=12) only [viz,↓reduceIte,Nat.reduceEqDiff,reduceCtorEq,Int.reduceEq,Int.reduceNeg,Nat.reduceAdd,Nat.reduceLeDiff]))
    try rfl
  rintro i E s' hile _ ⟨rfl, g0, g1, g5⟩
  by_cases hlt : i < l.length
  · obtain ⟨x, hx⟩ := get_of hlt
    obtain ⟨p, hp, P, hld⟩ := hv.ldk hI hx rfl rfl
    obtain ⟨p2, hp2, P2, hld2⟩ := hw.ldk hI hx rfl rfl
    have l1 := hld _ (Keep.refl _ _)
    have l2 := hld2 _ (Keep.refl _ _)
    (repeat' (with_reducible first|refine w_1 ?_|refine w_2 ?_|refine w_3 ?_|refine w_4 ?_|refine w_5 ?_|refine w_6 ?_|refine w_7 ?_|(refine w_8 (fun hb=>?_) (fun hb=>?_)<;>(try simp only [Bool.not_eq_true',Bool.not_eq_false'] at hb)<;>try simp only [hb])|(refine w_9 ?_;simp (maxDischargeDepth:=12) only [viz,↓reduceIte,Nat.reduceEqDiff,reduceCtorEq,Int.reduceEq,Int.reduceNeg,Nat.reduceAdd,Nat.reduceLeDiff,g0,g1,g5,hlv,lt_true hlt,hp,hp2,l1,l2,iteq_c])|refine w_10 (fun hc=>(by (try simp only [Bool.and_eq_true] at hc);simp (maxDischargeDepth:=12) only [viz,↓reduceIte,Nat.reduceEqDiff,reduceCtorEq,Int.reduceEq,Int.reduceNeg,Nat.reduceAdd,Nat.reduceLeDiff,g0,g1,g5,hlv,lt_true hlt,hp,hp2,l1,l2,iteq_c,hc];first|exact ⟨rfl,rfl⟩|exact rfl)) ?_|refine w_11 (fun hc=>(by (try simp only [Bool.and_eq_true] at hc);simp (maxDischargeDepth:=12) only [viz,↓reduceIte,Nat.reduceEqDiff,reduceCtorEq,Int.reduceEq,Int.reduceNeg,Nat.reduceAdd,Nat.reduceLeDiff,g0,g1,g5,hlv,lt_true hlt,hp,hp2,l1,l2,iteq_c,hc];first|exact ⟨rfl,rfl⟩|exact rfl)) ?_|refine w_12 ?_|simp (maxDischargeDepth:=12) only [viz,↓reduceIte,Nat.reduceEqDiff,reduceCtorEq,Int.reduceEq,Int.reduceNeg,Nat.reduceAdd,Nat.reduceLeDiff,g0,g1,g5,hlv,lt_true hlt,hp,hp2,l1,l2,iteq_c]))
    exact ⟨hlt, succ_av (by omega)⟩
  · (repeat' (with_reducible first|refine w_1 ?_|refine w_2 ?_|refine w_3 ?_|refine w_4 ?_|refine w_5 ?_|refine w_6 ?_|refine w_7 ?_|(refine w_8 (fun hb=>?_) (fun hb=>?_)<;>(try simp only [Bool.not_eq_true',Bool.not_eq_false'] at hb)<;>try simp only [hb])|(refine w_9 ?_;simp (maxDischargeDepth:=12) only [viz,↓reduceIte,Nat.reduceEqDiff,reduceCtorEq,Int.reduceEq,Int.reduceNeg,Nat.reduceAdd,Nat.reduceLeDiff,g0,g1,g5,hlv,lt_false hlt])|refine w_10 (fun hc=>(by (try simp only [Bool.and_eq_true] at hc);simp (maxDischargeDepth:=12) only [viz,↓reduceIte,Nat.reduceEqDiff,reduceCtorEq,Int.reduceEq,Int.reduceNeg,Nat.reduceAdd,Nat.reduceLeDiff,g0,g1,g5,hlv,lt_false hlt,hc];first|exact ⟨rfl,rfl⟩|exact rfl)) ?_|refine w_11 (fun hc=>(by (try simp only [Bool.and_eq_true] at hc);simp (maxDischargeDepth:=12) only [viz,↓reduceIte,Nat.reduceEqDiff,reduceCtorEq,Int.reduceEq,Int.reduceNeg,Nat.reduceAdd,Nat.reduceLeDiff,g0,g1,g5,hlv,lt_false hlt,hc];first|exact ⟨rfl,rfl⟩|exact rfl)) ?_|refine w_12 ?_|simp (maxDischargeDepth:=12) only [viz,↓reduceIte,Nat.reduceEqDiff,reduceCtorEq,Int.reduceEq,Int.reduceNeg,Nat.reduceAdd,Nat.reduceLeDiff,g0,g1,g5,hlv,lt_false hlt]))
    exact hK
structure Small2 (t : Table) : Prop where
  sp : t.spans.length < 1000000000
  fr : t.frozen.length < 1000000000
  ho : t.holds.length < 1000000000
  ma : t.marks.length < 1000000000
  it : t.ints.length < 1000000000
theorem same_c {t : Table} {w u : TV} {D : Nat → Prop} {s : Mem} {K : AV → Mem → Prop} (hI : In D s) (hw : TabIn s D w t) (hu : TabIn s D u t) (hl : Small2 t)
    (hK : ∀ s', Keep s.next s s' → K (.bool true) s') : C tab 41 [.agg (tabC t w), .agg (tabC t u)] s K := by
  refine C_enter (cf := cf41) rfl (Nat.le_of_ble_eq_true rfl) ?_
  simp only [cf41, oo, on, om, og, oc, ou, tabC]
  have r0 := R2.of_push s ⟨27, 6, [[.int .i64 t.now, w.sp, w.fr, w.ho, w.ma, w.it]]⟩ ⟨27, 6, [[.int .i64 t.now, u.sp, u.fr, u.ho, u.ma, u.it]]⟩
  have k0 := (pushes s ⟨27, 6, [[.int .i64 t.now, w.sp, w.fr, w.ho, w.ma, w.it]]⟩).then (pushes _ ⟨27, 6, [[.int .i64 t.now, u.sp, u.fr, u.ho, u.ma, u.it]]⟩)
  (repeat' (with_reducible first|refine w_1 ?_|refine w_2 ?_|refine w_3 ?_|refine w_4 ?_|refine w_5 ?_|refine w_6 ?_|refine w_7 ?_|(refine w_8 (fun hb=>?_) (fun hb=>?_)<;>(try simp only [Bool.not_eq_true',Bool.not_eq_false'] at hb)<;>try simp only [hb])|(refine w_9 ?_;simp (maxDischargeDepth:=12) only [viz,↓reduceIte,Nat.reduceEqDiff,reduceCtorEq,Int.reduceEq,Int.reduceNeg,Nat.reduceAdd,Nat.reduceLeDiff,hw.sp.cell,hw.fr.cell,hw.ho.cell,hw.ma.cell,hw.it.cell,hu.sp.cell,hu.fr.cell,hu.ho.cell,hu.ma.cell,hu.it.cell])|refine w_10 (fun hc=>(by (try simp only [Bool.and_eq_true] at hc);simp (maxDischargeDepth:=12) only [viz,↓reduceIte,Nat.reduceEqDiff,reduceCtorEq,Int.reduceEq,Int.reduceNeg,Nat.reduceAdd,Nat.reduceLeDiff,hw.sp.cell,hw.fr.cell,hw.ho.cell,hw.ma.cell,hw.it.cell,hu.sp.cell,hu.fr.cell,hu.ho.cell,hu.ma.cell,hu.it.cell,hc];first|exact ⟨rfl,rfl⟩|exact rfl)) ?_|refine w_11 (fun hc=>(by (try simp only [Bool.and_eq_true] at hc);simp (maxDischargeDepth:=12) only [viz,↓reduceIte,Nat.reduceEqDiff,reduceCtorEq,Int.reduceEq,Int.reduceNeg,Nat.reduceAdd,Nat.reduceLeDiff,hw.sp.cell,hw.fr.cell,hw.ho.cell,hw.ma.cell,hw.it.cell,hu.sp.cell,hu.fr.cell,hu.ho.cell,hu.ma.cell,hu.it.cell,hc];first|exact ⟨rfl,rfl⟩|exact rfl)) ?_|refine w_12 ?_|simp (maxDischargeDepth:=12) only [viz,↓reduceIte,Nat.reduceEqDiff,reduceCtorEq,Int.reduceEq,Int.reduceNeg,Nat.reduceAdd,Nat.reduceLeDiff,hw.sp.cell,hw.fr.cell,hw.ho.cell,hw.ma.cell,hw.it.cell,hu.sp.cell,hu.fr.cell,hu.ho.cell,hu.ma.cell,hu.it.cell]))
  generalize (s.push _).push _ = S0 at *
  have w0 := hw.keep fun r hr => k0.get r (hI r hr)
  have u0 := hu.keep fun r hr => k0.get r (hI r hr)
  have I0 := hI.keep k0
  refine spsame_c I0 w0.sp u0.sp hl.sp ?_
  (repeat' (with_reducible first|refine w_1 ?_|refine w_2 ?_|refine w_3 ?_|refine w_4 ?_|refine w_5 ?_|refine w_6 ?_|refine w_7 ?_|(refine w_8 (fun hb=>?_) (fun hb=>?_)<;>(try simp only [Bool.not_eq_true',Bool.not_eq_false'] at hb)<;>try simp only [hb])|(refine w_9 ?_;simp (maxDischargeDepth:=12) only [viz,↓reduceIte,Nat.reduceEqDiff,reduceCtorEq,Int.reduceEq,Int.reduceNeg,Nat.reduceAdd,Nat.reduceLeDiff,r0.a,r0.b])|refine w_10 (fun hc=>(by (try simp only [Bool.and_eq_true] at hc);simp (maxDischargeDepth:=12) only [viz,↓reduceIte,Nat.reduceEqDiff,reduceCtorEq,Int.reduceEq,Int.reduceNeg,Nat.reduceAdd,Nat.reduceLeDiff,r0.a,r0.b,hc];first|exact ⟨rfl,rfl⟩|exact rfl)) ?_|refine w_11 (fun hc=>(by (try simp only [Bool.and_eq_true] at hc);simp (maxDischargeDepth:=12) only [viz,↓reduceIte,Nat.reduceEqDiff,reduceCtorEq,Int.reduceEq,Int.reduceNeg,Nat.reduceAdd,Nat.reduceLeDiff,r0.a,r0.b,hc];first|exact ⟨rfl,rfl⟩|exact rfl)) ?_|refine w_12 ?_|simp (maxDischargeDepth:=12) only [viz,↓reduceIte,Nat.reduceEqDiff,reduceCtorEq,Int.reduceEq,Int.reduceNeg,Nat.reduceAdd,Nat.reduceLeDiff,r0.a,r0.b]))
  refine spsame_c I0 w0.fr u0.fr hl.fr ?_
  (repeat' (with_reducible first|refine w_1 ?_|refine w_2 ?_|refine w_3 ?_|refine w_4 ?_|refine w_5 ?_|refine w_6 ?_|refine w_7 ?_|(refine w_8 (fun hb=>?_) (fun hb=>?_)<;>(try simp only [Bool.not_eq_true',Bool.not_eq_false'] at hb)<;>try simp only [hb])|(refine w_9 ?_;simp (maxDischargeDepth:=12) only [viz,↓reduceIte,Nat.reduceEqDiff,reduceCtorEq,Int.reduceEq,Int.reduceNeg,Nat.reduceAdd,Nat.reduceLeDiff,r0.a,r0.b])|refine w_10 (fun hc=>(by (try simp only [Bool.and_eq_true] at hc);simp (maxDischargeDepth:=12) only [viz,↓reduceIte,Nat.reduceEqDiff,reduceCtorEq,Int.reduceEq,Int.reduceNeg,Nat.reduceAdd,Nat.reduceLeDiff,r0.a,r0.b,hc];first|exact ⟨rfl,rfl⟩|exact rfl)) ?_|refine w_11 (fun hc=>(by (try simp only [Bool.and_eq_true] at hc);simp (maxDischargeDepth:=12) only [viz,↓reduceIte,Nat.reduceEqDiff,reduceCtorEq,Int.reduceEq,Int.reduceNeg,Nat.reduceAdd,Nat.reduceLeDiff,r0.a,r0.b,hc];first|exact ⟨rfl,rfl⟩|exact rfl)) ?_|refine w_12 ?_|simp (maxDischargeDepth:=12) only [viz,↓reduceIte,Nat.reduceEqDiff,reduceCtorEq,Int.reduceEq,Int.reduceNeg,Nat.reduceAdd,Nat.reduceLeDiff,r0.a,r0.b]))
  refine hosame_c I0 w0.ho u0.ho hl.ho ?_
  (repeat' (with_reducible first|refine w_1 ?_|refine w_2 ?_|refine w_3 ?_|refine w_4 ?_|refine w_5 ?_|refine w_6 ?_|refine w_7 ?_|(refine w_8 (fun hb=>?_) (fun hb=>?_)<;>(try simp only [Bool.not_eq_true',Bool.not_eq_false'] at hb)<;>try simp only [hb])|(refine w_9 ?_;simp (maxDischargeDepth:=12) only [viz,↓reduceIte,Nat.reduceEqDiff,reduceCtorEq,Int.reduceEq,Int.reduceNeg,Nat.reduceAdd,Nat.reduceLeDiff,r0.a,r0.b])|refine w_10 (fun hc=>(by (try simp only [Bool.and_eq_true] at hc);simp (maxDischargeDepth:=12) only [viz,↓reduceIte,Nat.reduceEqDiff,reduceCtorEq,Int.reduceEq,Int.reduceNeg,Nat.reduceAdd,Nat.reduceLeDiff,r0.a,r0.b,hc];first|exact ⟨rfl,rfl⟩|exact rfl)) ?_|refine w_11 (fun hc=>(by (try simp only [Bool.and_eq_true] at hc);simp (maxDischargeDepth:=12) only [viz,↓reduceIte,Nat.reduceEqDiff,reduceCtorEq,Int.reduceEq,Int.reduceNeg,Nat.reduceAdd,Nat.reduceLeDiff,r0.a,r0.b,hc];first|exact ⟨rfl,rfl⟩|exact rfl)) ?_|refine w_12 ?_|simp (maxDischargeDepth:=12) only [viz,↓reduceIte,Nat.reduceEqDiff,reduceCtorEq,Int.reduceEq,Int.reduceNeg,Nat.reduceAdd,Nat.reduceLeDiff,r0.a,r0.b]))
  refine masame_c I0 w0.ma u0.ma hl.ma ?_
  (repeat' (with_reducible first|refine w_1 ?_|refine w_2 ?_|refine w_3 ?_|refine w_4 ?_|refine w_5 ?_|refine w_6 ?_|refine w_7 ?_|(refine w_8 (fun hb=>?_) (fun hb=>?_)<;>(try simp only [Bool.not_eq_true',Bool.not_eq_false'] at hb)<;>try simp only [hb])|(refine w_9 ?_;simp (maxDischargeDepth:=12) only [viz,↓reduceIte,Nat.reduceEqDiff,reduceCtorEq,Int.reduceEq,Int.reduceNeg,Nat.reduceAdd,Nat.reduceLeDiff,r0.a,r0.b])|refine w_10 (fun hc=>(by (try simp only [Bool.and_eq_true] at hc);simp (maxDischargeDepth:=12) only [viz,↓reduceIte,Nat.reduceEqDiff,reduceCtorEq,Int.reduceEq,Int.reduceNeg,Nat.reduceAdd,Nat.reduceLeDiff,r0.a,r0.b,hc];first|exact ⟨rfl,rfl⟩|exact rfl)) ?_|refine w_11 (fun hc=>(by (try simp only [Bool.and_eq_true] at hc);simp (maxDischargeDepth:=12) only [viz,↓reduceIte,Nat.reduceEqDiff,reduceCtorEq,Int.reduceEq,Int.reduceNeg,Nat.reduceAdd,Nat.reduceLeDiff,r0.a,r0.b,hc];first|exact ⟨rfl,rfl⟩|exact rfl)) ?_|refine w_12 ?_|simp (maxDischargeDepth:=12) only [viz,↓reduceIte,Nat.reduceEqDiff,reduceCtorEq,Int.reduceEq,Int.reduceNeg,Nat.reduceAdd,Nat.reduceLeDiff,r0.a,r0.b]))
  refine itsame_c I0 w0.it u0.it hl.it ?_
  (repeat' (with_reducible first|refine w_1 ?_|refine w_2 ?_|refine w_3 ?_|refine w_4 ?_|refine w_5 ?_|refine w_6 ?_|refine w_7 ?_|(refine w_8 (fun hb=>?_) (fun hb=>?_)<;>(try simp only [Bool.not_eq_true',Bool.not_eq_false'] at hb)<;>try simp only [hb])|(refine w_9 ?_;simp (maxDischargeDepth:=12) only [viz,↓reduceIte,Nat.reduceEqDiff,reduceCtorEq,Int.reduceEq,Int.reduceNeg,Nat.reduceAdd,Nat.reduceLeDiff,r0.a,r0.b])|refine w_10 (fun hc=>(by (try simp only [Bool.and_eq_true] at hc);simp (maxDischargeDepth:=12) only [viz,↓reduceIte,Nat.reduceEqDiff,reduceCtorEq,Int.reduceEq,Int.reduceNeg,Nat.reduceAdd,Nat.reduceLeDiff,r0.a,r0.b,hc];first|exact ⟨rfl,rfl⟩|exact rfl)) ?_|refine w_11 (fun hc=>(by (try simp only [Bool.and_eq_true] at hc);simp (maxDischargeDepth:=12) only [viz,↓reduceIte,Nat.reduceEqDiff,reduceCtorEq,Int.reduceEq,Int.reduceNeg,Nat.reduceAdd,Nat.reduceLeDiff,r0.a,r0.b,hc];first|exact ⟨rfl,rfl⟩|exact rfl)) ?_|refine w_12 ?_|simp (maxDischargeDepth:=12) only [viz,↓reduceIte,Nat.reduceEqDiff,reduceCtorEq,Int.reduceEq,Int.reduceNeg,Nat.reduceAdd,Nat.reduceLeDiff,r0.a,r0.b]))
  exact hK _ k0
theorem lsame_c {t : Table} {w u : TV} {e : Int} {D : Nat → Prop} {s : Mem} {K : AV → Mem → Prop} (hI : In D s) (hw : TabIn s D w t) (hu : TabIn s D u t) (hl : Small2 t)
    (hK : ∀ s', Keep s.next s s' → K (.bool true) s') : C tab 12 [.agg (tabC t w), .int .i64 e, .agg (tabC t u), .int .i64 e] s K := by
  refine C_enter (cf := cf12) rfl (Nat.le_of_ble_eq_true rfl) ?_
  simp only [cf12, oo, on, om, og, oc, ou, tabC]
  have k0 := (pushes s ⟨27, 6, [[.int .i64 t.now, w.sp, w.fr, w.ho, w.ma, w.it]]⟩).then (pushes _ ⟨27, 6, [[.int .i64 t.now, u.sp, u.fr, u.ho, u.ma, u.it]]⟩)
  (repeat' (with_reducible first|refine w_1 ?_|refine w_2 ?_|refine w_3 ?_|refine w_4 ?_|refine w_5 ?_|refine w_6 ?_|refine w_7 ?_|(refine w_8 (fun hb=>?_) (fun hb=>?_)<;>(try simp only [Bool.not_eq_true',Bool.not_eq_false'] at hb)<;>try simp only [hb])|(refine w_9 ?_;simp (maxDischargeDepth:=12) only [viz,↓reduceIte,Nat.reduceEqDiff,reduceCtorEq,Int.reduceEq,Int.reduceNeg,Nat.reduceAdd,Nat.reduceLeDiff,hw.sp.cell,hw.fr.cell,hw.ho.cell,hw.ma.cell,hw.it.cell,hu.sp.cell,hu.fr.cell,hu.ho.cell,hu.ma.cell,hu.it.cell,bne_self_eq_false, Int.reduceBEq, Int.reduceBNe, Int.reduceLT, Int.reduceLE, Int.reduceGT, Int.reduceGE])|refine w_10 (fun hc=>(by (try simp only [Bool.and_eq_true] at hc);simp (maxDischargeDepth:=12) only [viz,↓reduceIte,Nat.reduceEqDiff,reduceCtorEq,Int.reduceEq,Int.reduceNeg,Nat.reduceAdd,Nat.reduceLeDiff,hw.sp.cell,hw.fr.cell,hw.ho.cell,hw.ma.cell,hw.it.cell,hu.sp.cell,hu.fr.cell,hu.ho.cell,hu.ma.cell,hu.it.cell,bne_self_eq_false, Int.reduceBEq, Int.reduceBNe, Int.reduceLT, Int.reduceLE, Int.reduceGT, Int.reduceGE,hc];first|exact ⟨rfl,rfl⟩|exact rfl)) ?_|refine w_11 (fun hc=>(by (try simp only [Bool.and_eq_true] at hc);simp (maxDischargeDepth:=12) only [viz,↓reduceIte,Nat.reduceEqDiff,reduceCtorEq,Int.reduceEq,Int.reduceNeg,Nat.reduceAdd,Nat.reduceLeDiff,hw.sp.cell,hw.fr.cell,hw.ho.cell,hw.ma.cell,hw.it.cell,hu.sp.cell,hu.fr.cell,hu.ho.cell,hu.ma.cell,hu.it.cell,bne_self_eq_false, Int.reduceBEq, Int.reduceBNe, Int.reduceLT, Int.reduceLE, Int.reduceGT, Int.reduceGE,hc];first|exact ⟨rfl,rfl⟩|exact rfl)) ?_|refine w_12 ?_|simp (maxDischargeDepth:=12) only [viz,↓reduceIte,Nat.reduceEqDiff,reduceCtorEq,Int.reduceEq,Int.reduceNeg,Nat.reduceAdd,Nat.reduceLeDiff,hw.sp.cell,hw.fr.cell,hw.ho.cell,hw.ma.cell,hw.it.cell,hu.sp.cell,hu.fr.cell,hu.ho.cell,hu.ma.cell,hu.it.cell,bne_self_eq_false, Int.reduceBEq, Int.reduceBNe, Int.reduceLT, Int.reduceLE, Int.reduceGT, Int.reduceGE]))
  generalize (s.push _).push _ = S0 at *
  refine same_c (t := t) (w := w) (u := u) (hI.keep k0) (hw.keep fun r hr => k0.get r (hI r hr)) (hu.keep fun r hr => k0.get r (hI r hr)) hl fun s1 h1 => ?_
  (repeat' (with_reducible first|refine w_1 ?_|refine w_2 ?_|refine w_3 ?_|refine w_4 ?_|refine w_5 ?_|refine w_6 ?_|refine w_7 ?_|(refine w_8 (fun hb=>?_) (fun hb=>?_)<;>(try simp only [Bool.not_eq_true',Bool.not_eq_false'] at hb)<;>try simp only [hb])|(refine w_9 ?_;simp (maxDischargeDepth:=12) only [viz,↓reduceIte,Nat.reduceEqDiff,reduceCtorEq,Int.reduceEq,Int.reduceNeg,Nat.reduceAdd,Nat.reduceLeDiff])|refine w_10 (fun hc=>(by (try simp only [Bool.and_eq_true] at hc);simp (maxDischargeDepth:=12) only [viz,↓reduceIte,Nat.reduceEqDiff,reduceCtorEq,Int.reduceEq,Int.reduceNeg,Nat.reduceAdd,Nat.reduceLeDiff,hc];first|exact ⟨rfl,rfl⟩|exact rfl)) ?_|refine w_11 (fun hc=>(by (try simp only [Bool.and_eq_true] at hc);simp (maxDischargeDepth:=12) only [viz,↓reduceIte,Nat.reduceEqDiff,reduceCtorEq,Int.reduceEq,Int.reduceNeg,Nat.reduceAdd,Nat.reduceLeDiff,hc];first|exact ⟨rfl,rfl⟩|exact rfl)) ?_|refine w_12 ?_|simp (maxDischargeDepth:=12) only [viz,↓reduceIte,Nat.reduceEqDiff,reduceCtorEq,Int.reduceEq,Int.reduceNeg,Nat.reduceAdd,Nat.reduceLeDiff]))
  exact hK _ (k0.then h1)
def lightS (t : Table) : Bool := decide (t.holds.length + t.marks.length + t.ints.length ≤ 100) && decide (t.spans.length + t.frozen.length ≤ 24)
structure Small3 (t : Table) : Prop where
  sp : t.spans.length < 1000000000000000000
  fr : t.frozen.length < 1000000000000000000
  ho : t.holds.length < 1000000000000000000
  ma : t.marks.length < 1000000000000000000
  it : t.ints.length < 1000000000000000000
theorem light_c {t : Table} {w : TV} {D : Nat → Prop} {s : Mem} {K : AV → Mem → Prop} (hw : TabIn s D w t) (hl : Small3 t)
    (hK : ∀ s', Keep s.next s s' → K (.bool (lightS t)) s') : C tab 8 [.agg (tabC t w)] s K := by
  refine C_enter (cf := cf8) rfl (Nat.le_of_ble_eq_true rfl) ?_
  simp only [cf8, oo, on, om, og, oc, ou, tabC]
  have h1 : lenA false w.sp = some t.spans.length := hw.sp.lenB
  have h2 : lenA false w.fr = some t.frozen.length := hw.fr.lenB
  have h3 : lenA false w.ho = some t.holds.length := hw.ho.lenB
  have h4 : lenA false w.ma = some t.marks.length := hw.ma.lenB
  have h5 : lenA false w.it = some t.ints.length := hw.it.lenB
  obtain ⟨a1, a2, a3, a4, a5⟩ := hl
  have e1 : decide (IntKind.i64.wrap (IntKind.i64.wrap ((t.holds.length : Int) + t.marks.length) + t.ints.length) ≤ 100) = decide (t.holds.length + t.marks.length + t.ints.length ≤ 100) := by
    rw [wrap_i64 (x := (t.holds.length : Int) + t.marks.length) (by omega), wrap_i64 (x := (t.holds.length : Int) + t.marks.length + t.ints.length) (by omega), decide_eq_decide]
    omega
  have e2 : decide (IntKind.i64.wrap ((t.spans.length : Int) + t.frozen.length) ≤ 24) = decide (t.spans.length + t.frozen.length ≤ 24) := by
    rw [wrap_i64 (by omega), decide_eq_decide]
    omega
  (repeat' (with_reducible first|refine w_1 ?_|refine w_2 ?_|refine w_3 ?_|refine w_4 ?_|refine w_5 ?_|refine w_6 ?_|refine w_7 ?_|(refine w_8 (fun hb=>?_) (fun hb=>?_)<;>(try simp only [Bool.not_eq_true',Bool.not_eq_false'] at hb)<;>try simp only [hb])|(refine w_9 ?_;simp (maxDischargeDepth:=12) only [viz,↓reduceIte,Nat.reduceEqDiff,reduceCtorEq,Int.reduceEq,Int.reduceNeg,Nat.reduceAdd,Nat.reduceLeDiff,hw.sp.cell,hw.fr.cell,hw.ho.cell,hw.ma.cell,hw.it.cell,h1,h2,h3,h4,h5,e1,e2])|refine w_10 (fun hc=>(by (try simp only [Bool.and_eq_true] at hc);simp (maxDischargeDepth:=12) only [viz,↓reduceIte,Nat.reduceEqDiff,reduceCtorEq,Int.reduceEq,Int.reduceNeg,Nat.reduceAdd,Nat.reduceLeDiff,hw.sp.cell,hw.fr.cell,hw.ho.cell,hw.ma.cell,hw.it.cell,h1,h2,h3,h4,h5,e1,e2,hc];first|exact ⟨rfl,rfl⟩|exact rfl)) ?_|refine w_11 (fun hc=>(by (try simp only [Bool.and_eq_true] at hc);simp (maxDischargeDepth:=12) only [viz,↓reduceIte,Nat.reduceEqDiff,reduceCtorEq,Int.reduceEq,Int.reduceNeg,Nat.reduceAdd,Nat.reduceLeDiff,hw.sp.cell,hw.fr.cell,hw.ho.cell,hw.ma.cell,hw.it.cell,h1,h2,h3,h4,h5,e1,e2,hc];first|exact ⟨rfl,rfl⟩|exact rfl)) ?_|refine w_12 ?_|simp (maxDischargeDepth:=12) only [viz,↓reduceIte,Nat.reduceEqDiff,reduceCtorEq,Int.reduceEq,Int.reduceNeg,Nat.reduceAdd,Nat.reduceLeDiff,hw.sp.cell,hw.fr.cell,hw.ho.cell,hw.ma.cell,hw.it.cell,h1,h2,h3,h4,h5,e1,e2]))
  exact hK _ (pushes _ _)
end Go.Proofs.YthibbbfhkfebkaaGreat

