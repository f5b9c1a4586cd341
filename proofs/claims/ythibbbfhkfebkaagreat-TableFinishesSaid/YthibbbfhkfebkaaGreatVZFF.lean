/- Transactions done with: the document. No statement of the seat is proved here. -/
import Derived.Test.YthibbbfhkfebkaaGreatVZFE
import Derived.Test.YthibbbfhkfebkaaGreatVZFD
import Derived.Test.YthibbbfhkfebkaaGreatVZVE
namespace Go.Proofs.YthibbbfhkfebkaaGreat
open Go Go.VI
set_option linter.unusedSimpArgs false
structure FinS (D : Nat → Prop) (a b : Nat) (M0 : Mem) (w : TV) (T : Table) (Z : List Intent) (ov hv mv : AV) (s : Mem) : Prop where
  row : s.get a = some ⟨27, 6, [[.int .i64 T.now, w.sp, w.fr, hv, mv, w.it]]⟩
  ho : Holds s (fun p => (D p ∨ (b ≤ p ∧ p < s.next)) ∧ ∀ i n z, ov ≠ .own p i n z) hv T.holds
  ma : Marks s (fun p => (D p ∨ (b ≤ p ∧ p < s.next)) ∧ ∀ i n z, ov ≠ .own p i n z) mv T.marks
  o : OwnL s b ov 70 6 (Z.map intC)
  oth : ∀ p, p < b → p ≠ a → s.get p = M0.get p
  nx : b ≤ s.next
  fl : s.floor = M0.floor
section
variable {D : Nat → Prop} {a b : Nat} {M0 : Mem} {w : TV} {T : Table} {Z : List Intent} {ov hv mv : AV} {s s' : Mem}
theorem FinS.keep (h : FinS D a b M0 w T Z ov hv mv s) (k : Keep s.next s s') (hD : ∀ p, D p → p < a) (hab : a < b) : FinS D a b M0 w T Z ov hv mv s' := by
  have hn := h.nx
  have kn := k.next
  have g : ∀ p, (D p ∨ (b ≤ p ∧ p < s.next)) ∧ (∀ i n z, ov ≠ .own p i n z) → s'.get p = s.get p := fun p hp => k.get p (by
    rcases hp.1 with hp | hp
    · have := hD p hp; omega
    · exact hp.2)
  have g2 : ∀ p, (D p ∨ (b ≤ p ∧ p < s.next)) ∧ (∀ i n z, ov ≠ .own p i n z) → (D p ∨ (b ≤ p ∧ p < s'.next)) ∧ ∀ i n z, ov ≠ .own p i n z := fun p hp => ⟨hp.1.imp id fun q => ⟨q.1, by omega⟩, hp.2⟩
  exact ⟨by rw [k.get a (by omega)]; exact h.row, (h.ho.keep g).mono g2, (h.ma.keep g).mono g2, h.o.keep k fun r e => (h.o.row r 0 _ 6 e).2, fun p p1 p2 => by rw [k.get p (by omega)]; exact h.oth p p1 p2, by omega, by rw [k.floor]; exact h.fl⟩
theorem FinS.app (h : FinS D a b M0 w T Z ov hv mv s) {ov2 : AV} {x : Intent} (k : KeepX ov s s') (ho : OwnL s' b ov2 70 6 ((Z ++ [x]).map intC)) (hr : ∀ r i n z, ov2 = .own r i n z → s.next ≤ r) (hD : ∀ p, D p → p < a) (hab : a < b) : FinS D a b M0 w T (Z ++ [x]) ov2 hv mv s' := by
  have hn := h.nx
  have kn := k.next
  have g : ∀ p, (D p ∨ (b ≤ p ∧ p < s.next)) ∧ (∀ i n z, ov ≠ .own p i n z) → s'.get p = s.get p := fun p hp => k.get p (by
    rcases hp.1 with hp | hp
    · have := hD p hp; omega
    · exact hp.2) hp.2
  have g2 : ∀ p, (D p ∨ (b ≤ p ∧ p < s.next)) ∧ (∀ i n z, ov ≠ .own p i n z) → (D p ∨ (b ≤ p ∧ p < s'.next)) ∧ ∀ i n z, ov2 ≠ .own p i n z := fun p hp => ⟨hp.1.imp id fun q => ⟨q.1, by omega⟩, fun i n z e => by
    have := hr p i n z e
    rcases hp.1 with hp | hp
    · have := hD p hp; omega
    · omega⟩
  have nb : ∀ p, p < b → ∀ i n z, ov ≠ .own p i n z := fun p hp i n z e => by have := h.o.row p i n z e; omega
  exact ⟨by rw [k.get a (by omega) (nb a hab)]; exact h.row, (h.ho.keep g).mono g2, (h.ma.keep g).mono g2, ho, fun p p1 p2 => by rw [k.get p (by omega) (nb p p1)]; exact h.oth p p1 p2, by omega, by rw [k.floor]; exact h.fl⟩
theorem FinS.set (h : FinS D a b M0 w T Z ov hv mv s) {T' : Table} {hv2 mv2 : AV} (hD : ∀ p, D p → p < a) (hab : a < b) (hh : Holds s (fun p => (D p ∨ (b ≤ p ∧ p < s.next)) ∧ ∀ i n z, ov ≠ .own p i n z) hv2 T'.holds) (hm : Marks s (fun p => (D p ∨ (b ≤ p ∧ p < s.next)) ∧ ∀ i n z, ov ≠ .own p i n z) mv2 T'.marks) (R : Row) (hR : R = ⟨27, 6, [[.int .i64 T'.now, w.sp, w.fr, hv2, mv2, w.it]]⟩) : FinS D a b M0 w T' Z ov hv2 mv2 (s.put a (some R)) := by
  have g : ∀ p, (D p ∨ (b ≤ p ∧ p < s.next)) ∧ (∀ i n z, ov ≠ .own p i n z) → (s.put a (some R)).get p = s.get p := fun p hp => by
    rw [Mem.get_put, if_neg]
    rcases hp.1 with hp | hp
    · have := hD p hp; omega
    · omega
  refine ⟨by rw [Mem.get_put, if_pos rfl, hR], hh.keep g, hm.keep g, ?_, fun p p1 p2 => by rw [Mem.get_put, if_neg p2]; exact h.oth p p1 p2, h.nx, h.fl⟩
  rcases h.o with e | ⟨p, a1, b2, c, d, e⟩
  · exact .inl e
  · exact .inr ⟨p, a1, by rw [Mem.get_put, if_neg (by omega)]; exact b2, c, d, e⟩
theorem FinS.new (h : FinS D a b M0 w T Z ov hv mv s) {ty sz : Nat} {v : AV} {xs : List (List AV)} (k : Keep s.next s s') (ho : OwnL s' s.next v ty sz xs) (hz : ∀ c ∈ xs, c.length = sz) : Sl s' (fun p => (D p ∨ (b ≤ p ∧ p < s'.next)) ∧ ∀ i n z, ov ≠ .own p i n z) v sz xs :=
  ho.sl hz fun r n e => by
    have h1 := ho.row r 0 n sz e
    have hn := h.nx
    exact ⟨.inr ⟨by omega, h1.2⟩, fun i n' z e2 => by have := h.o.row r i n' z e2; omega⟩
theorem FinS.rows (h : FinS D a b M0 w T Z ov hv mv s) (hD : ∀ p, D p → p < a) (hab : a < b) : In (fun p => (D p ∨ (b ≤ p ∧ p < s.next)) ∧ ∀ i n z, ov ≠ .own p i n z) s := fun p hp => by
  have hn := h.nx
  rcases hp.1 with hp | hp
  · have := hD p hp; omega
  · exact hp.2
end
theorem putG_self {α : Type} {key : α → Txt} {h : α} : ∀ {l : List α}, l.Pairwise (fun a b => bl (key a) (key b) = true) → h ∈ l → putG key h l = l
  | [], _, hm => by cases hm
  | x :: r, hp, hm => by
    have hc := List.pairwise_cons.mp hp
    rcases List.mem_cons.mp hm with rfl | hm
    · have hr : r.filter (fun y => !(key y == key h)) = r := by
        rw [List.filter_eq_self]
        intro y hy
        have h3 := hc.1 y hy
        have : key y ≠ key h := fun e => by rw [e, bl_irrefl] at h3; cases h3
        simp [this]
      simp [putG, bl_irrefl, hr]
    · have := hc.1 h hm
      simp [putG, this, putG_self hc.2 hm]
theorem turn_sp (t : Table) (x : Intent) : (turnT t x).spans = t.spans ∧ (turnT t x).frozen = t.frozen := by
  unfold turnT
  split
  · exact ⟨rfl, rfl⟩
  · split
    · exact ⟨rfl, rfl⟩
    · split <;> exact ⟨rfl, rfl⟩
theorem turns_sp : ∀ (ys : List Intent) (t : Table), (ys.foldl turnT t).spans = t.spans
  | [], _ => rfl
  | y :: ys, t => by rw [List.foldl_cons, turns_sp ys, (turn_sp t y).1]
theorem turns_fr : ∀ (ys : List Intent) (t : Table), (ys.foldl turnT t).frozen = t.frozen
  | [], _ => rfl
  | y :: ys, t => by rw [List.foldl_cons, turns_fr ys, (turn_sp t y).2]
attribute [local irreducible] Ws Wp W C
set_option maxHeartbeats 8000000
theorem rfinish_c {t : Table} {w : TV} {c q : Int} {commit : Bool} {D : Nat → Prop} {s : Mem} {K : AV → Mem → Prop} (hf : s.floor ≤ s.next) (hI : In D s) (hw : TabIn s D w t) (hs : Small t) (hl : t.holds.length ≤ 100 ∧ t.marks.length ≤ 100) (hli : t.ints.length ≤ 100) (htk : ∀ x ∈ t.ints, 0 ≤ x.token)
    (hK : ∀ w' s', Keep s.next s s' → TabIn s' (fun r => D r ∨ (s.next ≤ r ∧ r < s'.next)) w' (finP t c q commit).2.2 → K (.tup [.agg (tabC (finP t c q commit).2.2 w'), .int .i64 (finP t c q commit).2.1, .int .i64 (finP t c q commit).1]) s') : C tab 14 [.agg (tabC t w), .agg [.int .i64 c, .int .u64 q], .bool commit] s K := by
  refine C_enter (cf := cf14) rfl (Nat.le_of_ble_eq_true rfl) ?_
  simp only [cf14, oo, on, om, og, oc, ou, tabC]
  have hz : ∀ M e R, Keep s.next s M → finP t c q commit = (e, 0, zeroT) → K (.tup [.agg [.int .i64 0, .nilS, .nilS, .nilS, .nilS, .nilS], .int .i64 0, .int .i64 e]) (M.put (s.next + 1 + 1) R) := fun M e R hM h => by
    rw [h] at hK
    exact hK zeroW _ (hM.trans (Keep.put (by omega) _)) (zero_in _ _)
  have r0 := R3.of_push s ⟨27, 6, [[.int .i64 t.now, w.sp, w.fr, w.ho, w.ma, w.it]]⟩ ⟨30, 2, [[.int .i64 c, .int .u64 q]]⟩ ⟨27, 6, [[.int .i64 0, .nilS, .nilS, .nilS, .nilS, .nilS]]⟩
  have k0 := (pushes s ⟨27, 6, [[.int .i64 t.now, w.sp, w.fr, w.ho, w.ma, w.it]]⟩).then ((pushes _ ⟨30, 2, [[.int .i64 c, .int .u64 q]]⟩).then (pushes _ ⟨27, 6, [[.int .i64 0, .nilS, .nilS, .nilS, .nilS, .nilS]]⟩))
  (repeat' (with_reducible first|refine w_1 ?_|refine w_2 ?_|refine w_3 ?_|refine w_4 ?_|refine w_5 ?_|refine w_6 ?_|refine w_7 ?_|(refine w_8 (fun hb=>?_) (fun hb=>?_)<;>(try simp only [Bool.not_eq_true',Bool.not_eq_false'] at hb)<;>try simp only [hb])|refine w_13 (fun hc=>(by (try simp only [Bool.and_eq_true] at hc);simp (maxDischargeDepth:=12) only [viz,↓reduceIte,Nat.reduceEqDiff,reduceCtorEq,Int.reduceEq,Int.reduceNeg,Nat.reduceAdd,Nat.reduceLeDiff,hw.sp.cell,hw.fr.cell,hw.ho.cell,hw.ma.cell,hw.it.cell,r0.a,cond_true,cond_false,hc];first|exact ⟨rfl,rfl⟩|exact rfl)) ?_|refine w_12 ?_|((try refine w_9 ?_);simp (maxDischargeDepth:=12) only [viz,↓reduceIte,Nat.reduceEqDiff,reduceCtorEq,Int.reduceEq,Int.reduceNeg,Nat.reduceAdd,Nat.reduceLeDiff,hw.sp.cell,hw.fr.cell,hw.ho.cell,hw.ma.cell,hw.it.cell,r0.a])))
  generalize ((s.push _).push _).push _ = S0 at *
  refine rMay_c (D := D) (k0.ok hf) (hI.keep k0) (hw.keep fun r hr => k0.get r (hI r hr)) hs fun s1 h1 => ?_
  have r1 := r0.then h1
  have k1 := k0.then h1
  have f1 : s1.floor ≤ s.next := by rw [k1.floor]; exact hf
  have f1' : s1.floor ≤ s.next + 1 + 1 := by omega
  (repeat' (with_reducible first|refine w_1 ?_|refine w_2 ?_|refine w_3 ?_|refine w_4 ?_|refine w_5 ?_|refine w_6 ?_|refine w_7 ?_|(refine w_8 (fun hb=>?_) (fun hb=>?_)<;>(try simp only [Bool.not_eq_true',Bool.not_eq_false'] at hb)<;>try simp only [hb])|refine w_13 (fun hc=>(by (try simp only [Bool.and_eq_true] at hc);simp (maxDischargeDepth:=12) only [viz,↓reduceIte,Nat.reduceEqDiff,reduceCtorEq,Int.reduceEq,Int.reduceNeg,Nat.reduceAdd,Nat.reduceLeDiff,r1.a,r1.b,r1.c,f1',cond_true,cond_false,hc];first|exact ⟨rfl,rfl⟩|exact rfl)) ?_|refine w_12 ?_|((try refine w_9 ?_);simp (maxDischargeDepth:=12) only [viz,↓reduceIte,Nat.reduceEqDiff,reduceCtorEq,Int.reduceEq,Int.reduceNeg,Nat.reduceAdd,Nat.reduceLeDiff,r1.a,r1.b,r1.c,f1'])))
  · refine hz _ _ _ k1 ?_
    unfold finP
    rw [if_pos hb]
  have hmay : mayT t = true := hb
  have hgood := may_good hmay hl
  have hgi := may_goodI hmay htk
  have n1 := r1.n
  have hln : lenA false w.it = some t.ints.length := hw.it.lenB
  have hDa : ∀ p, D p → p < s.next := hI
  have hab : s.next < s1.next := by omega
  have it1 : Ints s1 D w.it t.ints := hw.it.keep fun r hr => k1.get r (hI r hr)
  refine W_inv t.ints.length (fun i E s' => ∃ ov hv mv, FinS D s.next s1.next s1 w (if commit then ((t.ints.take i).filter (isX c q)).foldl turnT t else t) ((t.ints.take i).filter fun x => !isX c q x) ov hv mv s' ∧ Good (100 + i) (if commit then ((t.ints.take i).filter (isX c q)).foldl turnT t else t) ∧ E.get 2 = .bool commit ∧ E.get 3 = .ptr s.next 0 0 ∧ E.get 4 = .ptr (s.next + 1) 0 0 ∧ E.get 6 = .ptr (s.next + 1 + 1) 0 0 ∧ E.get 9 = ov ∧ E.get 10 = .int .i64 (((t.ints.take i).filter (isX c q)).length : Nat) ∧ E.get 11 = .int .i64 i) (by delta cf14l0 oo on om og oc ou; exact rfl) ?_ ?_
  · have e0 : (if commit = true then ((t.ints.take 0).filter (isX c q)).foldl turnT t else t) = t := by cases commit <;> simp
    rw [e0]
    refine ⟨.emp, w.ho, w.ma, ⟨?_, ?_, ?_, OwnL.emp _ _ _ _, fun p p1 p2 => ?_, ?_, rfl⟩, hgood, ?_, ?_, ?_, ?_, ?_, ?_, ?_⟩
    · rw [Mem.get_push, if_neg (by omega)]; exact r1.a
    · exact (hw.ho.keep fun r hr => ((k1.then (pushes s1 _)).get r (hI r hr))).mono fun r hr => ⟨.inl hr, fun _ _ _ e => by cases e⟩
    · exact (hw.ma.keep fun r hr => ((k1.then (pushes s1 _)).get r (hI r hr))).mono fun r hr => ⟨.inl hr, fun _ _ _ e => by cases e⟩
    · rw [Mem.get_push, if_neg (by omega)]
    · rw [next_push']; omega
    all_goals simp only [ev, Env.get_set, ↓reduceIte, Nat.reduceEqDiff]
    all_goals rfl
  rintro i E s8 hile _ ⟨ov, hv, mv, F, hG, q2, q3, q4, q6, q9, q10, q11⟩
  have a8 := F.row
  have f8 : s8.floor ≤ s.next := by rw [F.fl]; exact f1
  have n8 := F.nx
  have f88 : s8.floor ≤ s8.next := by omega
  have b8 := (F.oth (s.next + 1) (by omega) (by omega)).trans r1.b
  have c8 := (F.oth (s.next + 1 + 1) (by omega) (by omega)).trans r1.c
  have k8 : Keep s.next s s8 := ⟨by have := k1.next; omega, by rw [F.fl]; exact k1.floor, fun r hr => by rw [F.oth r (by omega) (by omega)]; exact k1.get r hr⟩
  by_cases hlt : i < t.ints.length
  · obtain ⟨x, hx⟩ := get_of hlt
    have hgx := hgi x (List.mem_of_getElem? hx)
    obtain ⟨p, hp, P, hld⟩ := hw.it.ldk hI hx rfl rfl
    have hld' := hld _ k8
    simp only [intC] at hld'
    have ne8 : (s.next = s8.next) = False := by simp; omega
    have ne8b : (s.next + 1 = s8.next) = False := by simp; omega
    have ht1 : (t.ints.take (i + 1)).filter (isX c q) = (t.ints.take i).filter (isX c q) ++ (if isX c q x then [x] else []) := by
      rw [List.take_add_one, hx, Option.toList_some, List.filter_append]
      congr 1
      cases hq : isX c q x <;> simp [hq]
    have ht2 : (t.ints.take (i + 1)).filter (fun x => !isX c q x) = (t.ints.take i).filter (fun x => !isX c q x) ++ (if isX c q x then [] else [x]) := by
      rw [List.take_add_one, hx, Option.toList_some, List.filter_append]
      congr 1
      cases hq : isX c q x <;> simp [hq]
    have hzl : ((t.ints.take i).filter fun x => !isX c q x).length ≤ 100 := by
      have := List.length_filter_le (fun x => !isX c q x) (t.ints.take i)
      rw [List.length_take] at this; omega
    have hyl : ((t.ints.take i).filter (isX c q)).length ≤ 100 := by
      have := List.length_filter_le (isX c q) (t.ints.take i)
      rw [List.length_take] at this; omega
    have F1 := F.keep (pushes s8 ⟨70, 6, [[.str x.key, .int .i64 x.client, .int .u64 x.seq, .int .i64 x.kind, .int .u64 x.token, .int .i64 x.ttl]]⟩) hDa hab
    have xr := Kp.of_push s8 ⟨70, 6, [[.str x.key, .int .i64 x.client, .int .u64 x.seq, .int .i64 x.kind, .int .u64 x.token, .int .i64 x.ttl]]⟩
    (repeat' (with_reducible first|refine w_1 ?_|refine w_2 ?_|refine w_3 ?_|refine w_4 ?_|refine w_5 ?_|refine w_6 ?_|refine w_7 ?_|(refine w_8 (fun hb=>?_) (fun hb=>?_)<;>(try simp only [Bool.not_eq_true',Bool.not_eq_false'] at hb)<;>try simp only [hb])|refine w_13 (fun hc=>(by (try simp only [Bool.and_eq_true] at hc);simp (maxDischargeDepth:=12) only [viz,↓reduceIte,Nat.reduceEqDiff,reduceCtorEq,Int.reduceEq,Int.reduceNeg,Nat.reduceAdd,Nat.reduceLeDiff,q2,q3,q4,q6,q9,q10,q11,lt_true hlt,hln,hp,hld',f88,a8,b8,ne8,ne8b,eqA_id,cond_true,cond_false,hc];first|exact ⟨rfl,rfl⟩|exact rfl)) ?_|refine w_12 ?_|((try refine w_9 ?_);simp (maxDischargeDepth:=12) only [viz,↓reduceIte,Nat.reduceEqDiff,reduceCtorEq,Int.reduceEq,Int.reduceNeg,Nat.reduceAdd,Nat.reduceLeDiff,q2,q3,q4,q6,q9,q10,q11,lt_true hlt,hln,hp,hld',f88,a8,b8,ne8,ne8b,eqA_id])))
    · have hxf : isX c q x = false := hb
      rw [hxf] at ht1 ht2
      refine app_lit (v := ov) (k := 1) (b := s1.next) (xs := ((t.ints.take i).filter fun x => !isX c q x).map intC) (ys := [intC x]) (s := s8.push ⟨70, 6, [[.str x.key, .int .i64 x.client, .int .u64 x.seq, .int .i64 x.kind, .int .u64 x.token, .int .i64 x.ttl]]⟩) (by rw [F1.fl]; omega) F1.nx F1.o (by simp only [ev, Env.get_set, ↓reduceIte, Nat.reduceEqDiff]) (by simp only [ev, Env.get_set, ↓reduceIte, Nat.reduceEqDiff]; rfl) rfl rfl (room (by simp; omega) (by simp; omega)) ?_
      intro v2 s2 ho2 hx2 hr2 _
      (repeat' (with_reducible first|refine w_1 ?_|refine w_2 ?_|refine w_3 ?_|refine w_4 ?_|refine w_5 ?_|refine w_6 ?_|refine w_7 ?_|(refine w_8 (fun hb=>?_) (fun hb=>?_)<;>(try simp only [Bool.not_eq_true',Bool.not_eq_false'] at hb)<;>try simp only [hb])|refine w_13 (fun hc=>(by (try simp only [Bool.and_eq_true] at hc);simp (maxDischargeDepth:=12) only [viz,↓reduceIte,Nat.reduceEqDiff,reduceCtorEq,Int.reduceEq,Int.reduceNeg,Nat.reduceAdd,Nat.reduceLeDiff,q2,q3,q4,q6,q9,q10,q11,cond_true,cond_false,hc];first|exact ⟨rfl,rfl⟩|exact rfl)) ?_|refine w_12 ?_|((try refine w_9 ?_);simp (maxDischargeDepth:=12) only [viz,↓reduceIte,Nat.reduceEqDiff,reduceCtorEq,Int.reduceEq,Int.reduceNeg,Nat.reduceAdd,Nat.reduceLeDiff,q2,q3,q4,q6,q9,q10,q11])))
      have em : (((t.ints.take i).filter fun x => !isX c q x) ++ [x]).map intC = ((t.ints.take i).filter fun x => !isX c q x).map intC ++ [intC x] := by simp
      rw [← em] at ho2
      have ht1' : (t.ints.take (i + 1)).filter (isX c q) = (t.ints.take i).filter (isX c q) := by rw [ht1]; simp
      have ht2' : ((t.ints.take (i + 1)).filter fun x => !isX c q x) = ((t.ints.take i).filter fun x => !isX c q x) ++ [x] := by rw [ht2]; simp
      rw [ht1', ht2']
      exact ⟨hlt, v2, hv, mv, F1.app hx2 ho2 hr2 hDa hab, ⟨hG.ho, hG.ma, hG.n0, hG.n1, by have := hG.lh; omega, by have := hG.lm; omega⟩, rfl, rfl, succ_av (by omega)⟩
    · have hxt : isX c q x = true := hb
      rw [hxt] at ht1 ht2
      have hyt : (t.ints.take (i + 1)).filter (isX c q) = (t.ints.take i).filter (isX c q) ++ [x] := ht1
      have hzt : ((t.ints.take (i + 1)).filter fun x => !isX c q x) = (t.ints.take i).filter fun x => !isX c q x := by rw [ht2]; simp
      have hcn : IntKind.i64.wrap ((((t.ints.take i).filter (isX c q)).length : Int) + 1) = ((((t.ints.take (i + 1)).filter (isX c q)).length : Nat) : Int) := by
        rw [hyt, List.length_append, List.length_singleton]; exact succ_cast (by omega)
      have hfo : (if commit = true then ((t.ints.take (i + 1)).filter (isX c q)).foldl turnT t else t) = (if commit = true then turnT (if commit = true then ((t.ints.take i).filter (isX c q)).foldl turnT t else t) x else (if commit = true then ((t.ints.take i).filter (isX c q)).foldl turnT t else t)) := by
        cases commit with
        | false => rfl
        | true => simp only [if_true]; rw [hyt, List.foldl_append]; rfl
      generalize (if commit = true then ((t.ints.take i).filter (isX c q)).foldl turnT t else t) = T at *
      generalize ((t.ints.take i).filter fun x => !isX c q x) = Z at *
      have ho1 := F1.ho
      have hgT := hG.lh
      refine rfind_c (l := T.holds) (by rw [F1.fl]; have := F1.nx; omega) (F1.rows hDa hab) F1.ho (by omega) fun s2 h2 => ?_
      have F2 := F1.keep h2 hDa hab
      have x2 := xr.then h2
      have f2 : s2.floor ≤ s2.next := by rw [F2.fl]; have := F2.nx; omega
      have F3 := F2.keep (pushes s2 ⟨58, 3, [holdC (gotH (findH T.holds x.key))]⟩) hDa hab
      have x3 := x2.then (pushes s2 ⟨58, 3, [holdC (gotH (findH T.holds x.key))]⟩)
      have hr3 := Kp.of_push s2 ⟨58, 3, [holdC (gotH (findH T.holds x.key))]⟩
      simp only [holdC] at F3 x3 hr3 ⊢
      cases commit with
      | false =>
        simp only [Bool.false_eq_true, if_false] at hfo
        subst hfo
        (repeat' (with_reducible first|refine w_1 ?_|refine w_2 ?_|refine w_3 ?_|refine w_4 ?_|refine w_5 ?_|refine w_6 ?_|refine w_7 ?_|(refine w_8 (fun hb=>?_) (fun hb=>?_)<;>(try simp only [Bool.not_eq_true',Bool.not_eq_false'] at hb)<;>try simp only [hb])|refine w_13 (fun hc=>(by (try simp only [Bool.and_eq_true] at hc);simp (maxDischargeDepth:=12) only [viz,↓reduceIte,Nat.reduceEqDiff,reduceCtorEq,Int.reduceEq,Int.reduceNeg,Nat.reduceAdd,Nat.reduceLeDiff,q2,q3,q4,q6,q9,q10,q11,f2,hcn,cond_true,cond_false,hc];first|exact ⟨rfl,rfl⟩|exact rfl)) ?_|refine w_12 ?_|((try refine w_9 ?_);simp (maxDischargeDepth:=12) only [viz,↓reduceIte,Nat.reduceEqDiff,reduceCtorEq,Int.reduceEq,Int.reduceNeg,Nat.reduceAdd,Nat.reduceLeDiff,q2,q3,q4,q6,q9,q10,q11,f2,hcn])))
        rw [hzt]
        exact ⟨hlt, ov, hv, mv, F3, ⟨hG.ho, hG.ma, hG.n0, hG.n1, by have := hG.lh; omega, by have := hG.lm; omega⟩, rfl, succ_av (by omega)⟩
      | true =>
        simp only [if_true] at hfo
        have nx2 := F2.nx
        have n28 := x2.n
        have ne2 : (s.next = s2.next) = False := by simp; omega
        have ne2x : (s8.next = s2.next) = False := by simp; omega
        have ne2y : (s8.next = s.next) = False := by simp; omega
        have ne2z : (s2.next = s.next) = False := by simp; omega
        obtain ⟨t0, t1, t2, t3⟩ := hgx.ttl
        have gN := hG.turn hgx (by omega)
        have a2 := F2.row
        have a3 := F3.row
        have fN : ∀ M : Mem, M.floor = s1.floor → M.floor ≤ s.next := fun M h => by rw [h]; exact f1
        (repeat' (with_reducible first|refine w_1 ?_|refine w_2 ?_|refine w_3 ?_|refine w_4 ?_|refine w_5 ?_|refine w_6 ?_|refine w_7 ?_|(refine w_8 (fun hb=>?_) (fun hb=>?_)<;>(try simp only [Bool.not_eq_true',Bool.not_eq_false'] at hb)<;>try simp only [hb])|refine w_13 (fun hc=>(by (try simp only [Bool.and_eq_true] at hc);simp (maxDischargeDepth:=12) only [viz,↓reduceIte,Nat.reduceEqDiff,reduceCtorEq,Int.reduceEq,Int.reduceNeg,Nat.reduceAdd,Nat.reduceLeDiff,q2,q3,q4,q6,q9,q10,q11,f2,hcn,x3.g,a3,cond_true,cond_false,hc];first|exact ⟨rfl,rfl⟩|exact rfl)) ?_|refine w_12 ?_|((try refine w_9 ?_);simp (maxDischargeDepth:=12) only [viz,↓reduceIte,Nat.reduceEqDiff,reduceCtorEq,Int.reduceEq,Int.reduceNeg,Nat.reduceAdd,Nat.reduceLeDiff,q2,q3,q4,q6,q9,q10,q11,f2,hcn,x3.g,a3])))
        · have h1 : x.kind = 1 := by simpa using hb
          have e : turnT T x = ⟨T.now, T.spans, T.frozen, putG Hold.key ⟨x.key, x.token, untilS T.now x.ttl⟩ T.holds, dropM T.marks x.key, T.ints⟩ := by unfold turnT; rw [if_pos h1]
          generalize s2.push _ = S3 at *
          refine rmadrop_c (by rw [F3.fl]; have := F3.nx; omega) (F3.rows hDa hab) F3.ma (by have := hG.lm; omega) fun v4 s4 h4 ho4 => ?_
          have F4 := F3.keep h4 hDa hab
          have m4 := F3.new h4 ho4 (mark_cells _)
          have c4 := m4.cell
          have f4 := fN s4 F4.fl
          have x4 := (x3.then h4).g
          have a4 := F4.row
          have F5 := F4.set (T' := ⟨T.now, T.spans, T.frozen, T.holds, dropM T.marks x.key, T.ints⟩) hDa hab F4.ho m4 ⟨27, 6, [[.int .i64 T.now, w.sp, w.fr, hv, v4, w.it]]⟩ rfl
          (repeat' (with_reducible first|refine w_1 ?_|refine w_2 ?_|refine w_3 ?_|refine w_4 ?_|refine w_5 ?_|refine w_6 ?_|refine w_7 ?_|(refine w_8 (fun hb=>?_) (fun hb=>?_)<;>(try simp only [Bool.not_eq_true',Bool.not_eq_false'] at hb)<;>try simp only [hb])|refine w_13 (fun hc=>(by (try simp only [Bool.and_eq_true] at hc);simp (maxDischargeDepth:=12) only [viz,↓reduceIte,Nat.reduceEqDiff,reduceCtorEq,Int.reduceEq,Int.reduceNeg,Nat.reduceAdd,Nat.reduceLeDiff,q2,q3,q4,q6,q9,q10,q11,a4,x4,f4,c4,cells_cell c4,ne2y,cond_true,cond_false,hc];first|exact ⟨rfl,rfl⟩|exact rfl)) ?_|refine w_12 ?_|((try refine w_9 ?_);simp (maxDischargeDepth:=12) only [viz,↓reduceIte,Nat.reduceEqDiff,reduceCtorEq,Int.reduceEq,Int.reduceNeg,Nat.reduceAdd,Nat.reduceLeDiff,q2,q3,q4,q6,q9,q10,q11,a4,x4,f4,c4,cells_cell c4,ne2y])))
          refine runtil_c hG.n0 hG.n1 t0 t1 ?_
          rw [until_same (t2 (.inl h1))]
          (repeat' (with_reducible first|refine w_1 ?_|refine w_2 ?_|refine w_3 ?_|refine w_4 ?_|refine w_5 ?_|refine w_6 ?_|refine w_7 ?_|(refine w_8 (fun hb=>?_) (fun hb=>?_)<;>(try simp only [Bool.not_eq_true',Bool.not_eq_false'] at hb)<;>try simp only [hb])|refine w_13 (fun hc=>(by (try simp only [Bool.and_eq_true] at hc);simp (maxDischargeDepth:=12) only [viz,↓reduceIte,Nat.reduceEqDiff,reduceCtorEq,Int.reduceEq,Int.reduceNeg,Nat.reduceAdd,Nat.reduceLeDiff,q2,q3,q4,q6,q9,q10,q11,a4,x4,f4,c4,ne2y,cond_true,cond_false,hc];first|exact ⟨rfl,rfl⟩|exact rfl)) ?_|refine w_12 ?_|((try refine w_9 ?_);simp (maxDischargeDepth:=12) only [viz,↓reduceIte,Nat.reduceEqDiff,reduceCtorEq,Int.reduceEq,Int.reduceNeg,Nat.reduceAdd,Nat.reduceLeDiff,q2,q3,q4,q6,q9,q10,q11,a4,x4,f4,c4,ne2y])))
          have hcc := F5.ho.cell
          generalize hS5 : s4.put s.next _ = S5 at *
          refine rput_c (h := ⟨x.key, x.token, untilS T.now x.ttl⟩) (l := T.holds) (by rw [F5.fl]; have := F5.nx; omega) (F5.rows hDa hab) F5.ho (by omega) fun v6 s6 h6 ho6 => ?_
          have F6 := F5.keep h6 hDa hab
          have m6 := F5.new h6 ho6 (hold_cells _)
          have c6 := m6.cell
          have f6 := fN s6 F6.fl
          have a6 := F6.row
          have F7 := F6.set (T' := turnT T x) hDa hab (by rw [e]; exact m6) (by rw [e]; exact F6.ma) ⟨27, 6, [[.int .i64 T.now, w.sp, w.fr, v6, v4, w.it]]⟩ (by rw [e])
          (repeat' (with_reducible first|refine w_1 ?_|refine w_2 ?_|refine w_3 ?_|refine w_4 ?_|refine w_5 ?_|refine w_6 ?_|refine w_7 ?_|(refine w_8 (fun hb=>?_) (fun hb=>?_)<;>(try simp only [Bool.not_eq_true',Bool.not_eq_false'] at hb)<;>try simp only [hb])|refine w_13 (fun hc=>(by (try simp only [Bool.and_eq_true] at hc);simp (maxDischargeDepth:=12) only [viz,↓reduceIte,Nat.reduceEqDiff,reduceCtorEq,Int.reduceEq,Int.reduceNeg,Nat.reduceAdd,Nat.reduceLeDiff,q2,q3,q4,q6,q9,q10,q11,a6,f6,c6,cells_cell c6,cond_true,cond_false,hc];first|exact ⟨rfl,rfl⟩|exact rfl)) ?_|refine w_12 ?_|((try refine w_9 ?_);simp (maxDischargeDepth:=12) only [viz,↓reduceIte,Nat.reduceEqDiff,reduceCtorEq,Int.reduceEq,Int.reduceNeg,Nat.reduceAdd,Nat.reduceLeDiff,q2,q3,q4,q6,q9,q10,q11,a6,f6,c6,cells_cell c6])))
          rw [hfo, hzt]
          exact ⟨hlt, ov, v6, v4, F7, gN, rfl, succ_av (by omega)⟩
        · have h1 : ¬ x.kind = 1 := by simp_all
          have h2 : x.kind = 2 := by simpa using hb
          have e : turnT T x = ⟨T.now, T.spans, T.frozen, dropH T.holds x.key, putG Mark.key (mkM T.marks x.key x.token) T.marks, T.ints⟩ := by unfold turnT; rw [if_neg h1, if_pos h2]
          generalize s2.push _ = S3 at *
          refine rhodrop_c (by rw [F3.fl]; have := F3.nx; omega) (F3.rows hDa hab) F3.ho (by omega) fun v4 s4 h4 ho4 => ?_
          have F4 := F3.keep h4 hDa hab
          have m4 := F3.new h4 ho4 (hold_cells _)
          have c4 := m4.cell
          have f4 := fN s4 F4.fl
          have x4 := (x3.then h4).g
          have a4 := F4.row
          have F5 := F4.set (T' := ⟨T.now, T.spans, T.frozen, dropH T.holds x.key, T.marks, T.ints⟩) hDa hab m4 F4.ma ⟨27, 6, [[.int .i64 T.now, w.sp, w.fr, v4, mv, w.it]]⟩ rfl
          (repeat' (with_reducible first|refine w_1 ?_|refine w_2 ?_|refine w_3 ?_|refine w_4 ?_|refine w_5 ?_|refine w_6 ?_|refine w_7 ?_|(refine w_8 (fun hb=>?_) (fun hb=>?_)<;>(try simp only [Bool.not_eq_true',Bool.not_eq_false'] at hb)<;>try simp only [hb])|refine w_13 (fun hc=>(by (try simp only [Bool.and_eq_true] at hc);simp (maxDischargeDepth:=12) only [viz,↓reduceIte,Nat.reduceEqDiff,reduceCtorEq,Int.reduceEq,Int.reduceNeg,Nat.reduceAdd,Nat.reduceLeDiff,q2,q3,q4,q6,q9,q10,q11,a4,x4,f4,c4,cells_cell c4,ne2y,cond_true,cond_false,hc];first|exact ⟨rfl,rfl⟩|exact rfl)) ?_|refine w_12 ?_|((try refine w_9 ?_);simp (maxDischargeDepth:=12) only [viz,↓reduceIte,Nat.reduceEqDiff,reduceCtorEq,Int.reduceEq,Int.reduceNeg,Nat.reduceAdd,Nat.reduceLeDiff,q2,q3,q4,q6,q9,q10,q11,a4,x4,f4,c4,cells_cell c4,ne2y])))
          generalize hS5 : s4.put s.next _ = S5 at *
          refine rmark_c (l := T.marks) (by rw [F5.fl]; have := F5.nx; omega) (F5.rows hDa hab) F5.ma (by have := hG.lm; omega) hG.ma hgx.k hgx.t fun v6 s6 h6 ho6 => ?_
          have F6 := F5.keep h6 hDa hab
          have m6 := F5.new h6 ho6 (mark_cells _)
          have c6 := m6.cell
          have f6 := fN s6 F6.fl
          have a6 := F6.row
          have F7 := F6.set (T' := turnT T x) hDa hab (by rw [e]; exact F6.ho) (by rw [e]; exact m6) ⟨27, 6, [[.int .i64 T.now, w.sp, w.fr, v4, v6, w.it]]⟩ (by rw [e])
          (repeat' (with_reducible first|refine w_1 ?_|refine w_2 ?_|refine w_3 ?_|refine w_4 ?_|refine w_5 ?_|refine w_6 ?_|refine w_7 ?_|(refine w_8 (fun hb=>?_) (fun hb=>?_)<;>(try simp only [Bool.not_eq_true',Bool.not_eq_false'] at hb)<;>try simp only [hb])|refine w_13 (fun hc=>(by (try simp only [Bool.and_eq_true] at hc);simp (maxDischargeDepth:=12) only [viz,↓reduceIte,Nat.reduceEqDiff,reduceCtorEq,Int.reduceEq,Int.reduceNeg,Nat.reduceAdd,Nat.reduceLeDiff,q2,q3,q4,q6,q9,q10,q11,a6,f6,c6,cells_cell c6,cond_true,cond_false,hc];first|exact ⟨rfl,rfl⟩|exact rfl)) ?_|refine w_12 ?_|((try refine w_9 ?_);simp (maxDischargeDepth:=12) only [viz,↓reduceIte,Nat.reduceEqDiff,reduceCtorEq,Int.reduceEq,Int.reduceNeg,Nat.reduceAdd,Nat.reduceLeDiff,q2,q3,q4,q6,q9,q10,q11,a6,f6,c6,cells_cell c6])))
          rw [hfo, hzt]
          exact ⟨hlt, ov, v4, v6, F7, gN, rfl, succ_av (by omega)⟩
        · have h1 : ¬ x.kind = 1 := by simp_all
          have h2 : ¬ x.kind = 2 := by simp_all
          have h3 : x.kind = 3 := by omega
          have hsome : (findH T.holds x.key).isSome = true := by assumption
          have e : turnT T x = ⟨T.now, T.spans, T.frozen, putG Hold.key ⟨(gotH (findH T.holds x.key)).key, (gotH (findH T.holds x.key)).token, max (gotH (findH T.holds x.key)).till (untilS T.now x.ttl)⟩ T.holds, T.marks, T.ints⟩ := by unfold turnT; rw [if_neg h1, if_neg h2, if_pos ⟨h3, hsome⟩]
          (repeat' (with_reducible first|refine w_1 ?_|refine w_2 ?_|refine w_3 ?_|refine w_4 ?_|refine w_5 ?_|refine w_6 ?_|refine w_7 ?_|(refine w_8 (fun hb=>?_) (fun hb=>?_)<;>(try simp only [Bool.not_eq_true',Bool.not_eq_false'] at hb)<;>try simp only [hb])|refine w_13 (fun hc=>(by (try simp only [Bool.and_eq_true] at hc);simp (maxDischargeDepth:=12) only [viz,↓reduceIte,Nat.reduceEqDiff,reduceCtorEq,Int.reduceEq,Int.reduceNeg,Nat.reduceAdd,Nat.reduceLeDiff,q2,q3,q4,q6,q9,q10,q11,f2,hcn,x2.g,a2,ne2,ne2x,cond_true,cond_false,hc];first|exact ⟨rfl,rfl⟩|exact rfl)) ?_|refine w_12 ?_|((try refine w_9 ?_);simp (maxDischargeDepth:=12) only [viz,↓reduceIte,Nat.reduceEqDiff,reduceCtorEq,Int.reduceEq,Int.reduceNeg,Nat.reduceAdd,Nat.reduceLeDiff,q2,q3,q4,q6,q9,q10,q11,f2,hcn,x2.g,a2,ne2,ne2x])))
          refine runtil_c hG.n0 hG.n1 t0 t1 ?_
          rw [until_same (t2 (.inr h3))]
          (repeat' (with_reducible first|refine w_1 ?_|refine w_2 ?_|refine w_3 ?_|refine w_4 ?_|refine w_5 ?_|refine w_6 ?_|refine w_7 ?_|(refine w_8 (fun hb=>?_) (fun hb=>?_)<;>(try simp only [Bool.not_eq_true',Bool.not_eq_false'] at hb)<;>try simp only [hb])|refine w_13 (fun hc=>(by (try simp only [Bool.and_eq_true] at hc);simp (maxDischargeDepth:=12) only [viz,↓reduceIte,Nat.reduceEqDiff,reduceCtorEq,Int.reduceEq,Int.reduceNeg,Nat.reduceAdd,Nat.reduceLeDiff,q2,q3,q4,q6,q9,q10,q11,f2,hcn,x2.g,a2,ne2,ne2x,cond_true,cond_false,hc];first|exact ⟨rfl,rfl⟩|exact rfl)) ?_|refine w_12 ?_|((try refine w_9 ?_);simp (maxDischargeDepth:=12) only [viz,↓reduceIte,Nat.reduceEqDiff,reduceCtorEq,Int.reduceEq,Int.reduceNeg,Nat.reduceAdd,Nat.reduceLeDiff,q2,q3,q4,q6,q9,q10,q11,f2,hcn,x2.g,a2,ne2,ne2x])))
          · refine runtil_c hG.n0 hG.n1 t0 t1 ?_
            rw [until_same (t2 (.inr h3))]
            have F3b := F2.keep (pushes s2 ⟨58, 3, [holdC ⟨(gotH (findH T.holds x.key)).key, (gotH (findH T.holds x.key)).token, untilS T.now x.ttl⟩]⟩) hDa hab
            have f2b : s2.floor ≤ s2.next := f2
            simp only [holdC] at F3b
            (repeat' (with_reducible first|refine w_1 ?_|refine w_2 ?_|refine w_3 ?_|refine w_4 ?_|refine w_5 ?_|refine w_6 ?_|refine w_7 ?_|(refine w_8 (fun hb=>?_) (fun hb=>?_)<;>(try simp only [Bool.not_eq_true',Bool.not_eq_false'] at hb)<;>try simp only [hb])|refine w_13 (fun hc=>(by (try simp only [Bool.and_eq_true] at hc);simp (maxDischargeDepth:=12) only [viz,↓reduceIte,Nat.reduceEqDiff,reduceCtorEq,Int.reduceEq,Int.reduceNeg,Nat.reduceAdd,Nat.reduceLeDiff,q2,q3,q4,q6,q9,q10,q11,f2b,hcn,x2.g,a2,ne2,ne2x,cond_true,cond_false,hc];first|exact ⟨rfl,rfl⟩|exact rfl)) ?_|refine w_12 ?_|((try refine w_9 ?_);simp (maxDischargeDepth:=12) only [viz,↓reduceIte,Nat.reduceEqDiff,reduceCtorEq,Int.reduceEq,Int.reduceNeg,Nat.reduceAdd,Nat.reduceLeDiff,q2,q3,q4,q6,q9,q10,q11,f2b,hcn,x2.g,a2,ne2,ne2x])))
            generalize s2.push _ = S3 at *
            refine rput_c (h := ⟨(gotH (findH T.holds x.key)).key, (gotH (findH T.holds x.key)).token, untilS T.now x.ttl⟩) (l := T.holds) (by rw [F3b.fl]; have := F3b.nx; omega) (F3b.rows hDa hab) F3b.ho (by omega) fun v6 s6 h6 ho6 => ?_
            have F6 := F3b.keep h6 hDa hab
            have m6 := F3b.new h6 ho6 (hold_cells _)
            have c6 := m6.cell
            have f6 := fN s6 F6.fl
            have a6 := F6.row
            have hmax : max (gotH (findH T.holds x.key)).till (untilS T.now x.ttl) = untilS T.now x.ttl := by have := of_decide_eq_true hb; omega
            rw [hmax] at e
            have F7 := F6.set (T' := turnT T x) hDa hab (by rw [e]; exact m6) (by rw [e]; exact F6.ma) ⟨27, 6, [[.int .i64 T.now, w.sp, w.fr, v6, mv, w.it]]⟩ (by rw [e])
            (repeat' (with_reducible first|refine w_1 ?_|refine w_2 ?_|refine w_3 ?_|refine w_4 ?_|refine w_5 ?_|refine w_6 ?_|refine w_7 ?_|(refine w_8 (fun hb=>?_) (fun hb=>?_)<;>(try simp only [Bool.not_eq_true',Bool.not_eq_false'] at hb)<;>try simp only [hb])|refine w_13 (fun hc=>(by (try simp only [Bool.and_eq_true] at hc);simp (maxDischargeDepth:=12) only [viz,↓reduceIte,Nat.reduceEqDiff,reduceCtorEq,Int.reduceEq,Int.reduceNeg,Nat.reduceAdd,Nat.reduceLeDiff,q2,q3,q4,q6,q9,q10,q11,a6,f6,c6,cells_cell c6,cond_true,cond_false,hc];first|exact ⟨rfl,rfl⟩|exact rfl)) ?_|refine w_12 ?_|((try refine w_9 ?_);simp (maxDischargeDepth:=12) only [viz,↓reduceIte,Nat.reduceEqDiff,reduceCtorEq,Int.reduceEq,Int.reduceNeg,Nat.reduceAdd,Nat.reduceLeDiff,q2,q3,q4,q6,q9,q10,q11,a6,f6,c6,cells_cell c6])))
            rw [hfo, hzt]
            exact ⟨hlt, ov, v6, mv, F7, gN, rfl, succ_av (by omega)⟩
          · have hmax : max (gotH (findH T.holds x.key)).till (untilS T.now x.ttl) = (gotH (findH T.holds x.key)).till := by have := of_decide_eq_false hb; omega
            rw [hmax] at e
            have hps : putG Hold.key (gotH (findH T.holds x.key)) T.holds = T.holds := putG_self ((holds_iff _).mp hG.ho).2.2 (find_in hsome).1
            have e2 : turnT T x = T := e.trans (by
              have : (⟨(gotH (findH T.holds x.key)).key, (gotH (findH T.holds x.key)).token, (gotH (findH T.holds x.key)).till⟩ : Hold) = gotH (findH T.holds x.key) := rfl
              rw [this, hps])
            rw [hfo, hzt, e2]
            rw [e2] at gN
            exact ⟨hlt, ov, hv, mv, F3, gN, rfl, succ_av (by omega)⟩
        · have h1 : ¬ x.kind = 1 := by simp_all
          have h2 : ¬ x.kind = 2 := by simp_all
          have e : turnT T x = T := by unfold turnT; rw [if_neg h1, if_neg h2, if_neg (by simp_all)]
          rw [hfo, hzt, e]
          rw [e] at gN
          exact ⟨hlt, ov, hv, mv, F3, gN, rfl, succ_av (by omega)⟩
  · have hfull : t.ints.take i = t.ints := List.take_of_length_le (by omega)
    rw [hfull] at F hG q10 a8
    have f8c : s8.floor ≤ s.next + 1 + 1 := by omega
    have co : isCell ov = true := (F.o.sl (D := fun _ => True) (int_cells _) fun _ _ _ => trivial).cell
    have n33 : (s.next + 1 + 1 = s.next) = False := by simp; omega
    have ch := F.ho.cell
    have cm := F.ma.cell
    (repeat' (with_reducible first|refine w_1 ?_|refine w_2 ?_|refine w_3 ?_|refine w_4 ?_|refine w_5 ?_|refine w_6 ?_|refine w_7 ?_|(refine w_8 (fun hb=>?_) (fun hb=>?_)<;>(try simp only [Bool.not_eq_true',Bool.not_eq_false'] at hb)<;>try simp only [hb])|refine w_13 (fun hc=>(by (try simp only [Bool.and_eq_true] at hc);simp (maxDischargeDepth:=12) only [viz,↓reduceIte,Nat.reduceEqDiff,reduceCtorEq,Int.reduceEq,Int.reduceNeg,Nat.reduceAdd,Nat.reduceLeDiff,q2,q3,q4,q6,q9,q10,q11,lt_false hlt,hln,a8,b8,c8,f8,f8c,co,cells_cell co,n33,ch,cm,hw.sp.cell,hw.fr.cell,cond_true,cond_false,hc];first|exact ⟨rfl,rfl⟩|exact rfl)) ?_|refine w_12 ?_|((try refine w_9 ?_);simp (maxDischargeDepth:=12) only [viz,↓reduceIte,Nat.reduceEqDiff,reduceCtorEq,Int.reduceEq,Int.reduceNeg,Nat.reduceAdd,Nat.reduceLeDiff,q2,q3,q4,q6,q9,q10,q11,lt_false hlt,hln,a8,b8,c8,f8,f8c,co,cells_cell co,n33,ch,cm,hw.sp.cell,hw.fr.cell])))
    · refine hz _ _ _ k8 ?_
      have e0 : t.ints.filter (isX c q) = [] := by
        cases h : t.ints.filter (isX c q) with
        | nil => rfl
        | cons a b => rw [h] at hb; simp at hb; omega
      unfold finP
      rw [if_neg (by rw [hmay]; simp), if_pos e0]
    · have hne : t.ints.filter (isX c q) ≠ [] := by
        intro h; rw [h] at hb; simp at hb
      have hfin : finP t c q commit = (0, ((t.ints.filter (isX c q)).length : Int), withI2 (if commit then (t.ints.filter (isX c q)).foldl turnT t else t) (t.ints.filter fun x => !isX c q x)) := by
        unfold finP
        rw [if_neg (by rw [hmay]; simp), if_neg hne]
      rw [hfin] at hK
      generalize hPe : Mem.put _ _ _ = Q
      have hPg : ∀ p, p ≠ s.next → p ≠ s.next + 1 + 1 → Q.get p = s8.get p := fun p h1 h2 => by
        rw [← hPe]
        simp only [Mem.get_put, h1, h2, if_false]
      have hPn : Q.next = s8.next := by rw [← hPe]; rfl
      have hPf : Q.floor = s8.floor := by rw [← hPe]; rfl
      have kQ : Keep s.next s Q := ⟨by rw [hPn]; exact k8.next, by rw [hPf]; exact k8.floor, fun r hr => by rw [hPg r (by omega) (by omega)]; exact k8.get r hr⟩
      have hD : ∀ r, D r → Q.get r = s.get r := fun r hr => kQ.get r (hI r hr)
      have sp0 := (hw.sp.keep hD).mono (D' := fun q => D q ∨ (s.next ≤ q ∧ q < Q.next)) fun r hr => .inl hr
      have fr0 := (hw.fr.keep hD).mono (D' := fun q => D q ∨ (s.next ≤ q ∧ q < Q.next)) fun r hr => .inl hr
      have hg2 : ∀ p, (D p ∨ (s1.next ≤ p ∧ p < s8.next)) ∧ (∀ i n z, ov ≠ .own p i n z) → Q.get p = s8.get p := fun p hp => hPg p (by
        rcases hp.1 with hp | hp
        · have := hDa p hp; omega
        · omega) (by
        rcases hp.1 with hp | hp
        · have := hDa p hp; omega
        · omega)
      have hm2 : ∀ p, (D p ∨ (s1.next ≤ p ∧ p < s8.next)) ∧ (∀ i n z, ov ≠ .own p i n z) → D p ∨ (s.next ≤ p ∧ p < Q.next) := fun p hp => hp.1.imp id fun hq => ⟨by omega, by omega⟩
      have eo := F.o.sl (D := fun p => s1.next ≤ p ∧ p < s8.next) (int_cells _) fun r n h => F.o.row r 0 n 6 h
      have esp : (withI2 (if commit = true then (t.ints.filter (isX c q)).foldl turnT t else t) (t.ints.filter fun x => !isX c q x)).spans = t.spans := by
        cases commit with
        | false => rfl
        | true => exact turns_sp _ t
      have efr : (withI2 (if commit = true then (t.ints.filter (isX c q)).foldl turnT t else t) (t.ints.filter fun x => !isX c q x)).frozen = t.frozen := by
        cases commit with
        | false => rfl
        | true => exact turns_fr _ t
      exact hK ⟨w.sp, w.fr, hv, mv, ov⟩ Q kQ ⟨by rw [esp]; exact sp0, by rw [efr]; exact fr0, (F.ho.keep hg2).mono hm2, (F.ma.keep hg2).mono hm2, (eo.keep fun p hp => hPg p (by omega) (by omega)).mono fun r hr => .inr ⟨by omega, by omega⟩⟩
end Go.Proofs.YthibbbfhkfebkaaGreat

