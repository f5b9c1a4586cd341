/- Whose intents; keys alike. No statement of the seat is proved here. -/
import Derived.Test.YthibbbfhkfebkaaGreatVZTI
import Derived.Test.YthibbbfhkfebkaaGreatVZVE
namespace Go.Proofs.YthibbbfhkfebkaaGreat
open Go Go.VI
set_option linter.unusedSimpArgs false
attribute [local irreducible] Ws Wp W C
set_option maxHeartbeats 4000000
end Go.Proofs.YthibbbfhkfebkaaGreat
/- Intents that are put in, in order: the plain law. No statement of the seat is proved here. -/
namespace Go.Proofs.YthibbbfhkfebkaaGreat
open Go Go.VI
set_option linter.unusedSimpArgs false
theorem rising_up {α : Type} {key : α → Txt} {ok : Option α → α → Bool} (hok : ∀ q x, ok (some q) x = true → bl (key q) (key x) = true) : ∀ (l : List α) (p : Option α), rising ok p l = true → l.Pairwise fun a b => bl (key a) (key b) = true
  | [], _, _ => List.Pairwise.nil
  | x :: l, p, h => by
    simp only [rising, Bool.and_eq_true] at h
    have ih := rising_up hok l (some x) h.2
    refine List.pairwise_cons.mpr ⟨fun z hz => ?_, ih⟩
    cases l with
    | nil => cases hz
    | cons y r =>
      have h1 : bl (key x) (key y) = true := hok x y (by simp only [rising, Bool.and_eq_true] at h; exact h.2.1)
      rcases List.mem_cons.mp hz with rfl | hz
      · exact h1
      · exact bl_trans h1 ((List.pairwise_cons.mp ih).1 z hz)
end Go.Proofs.YthibbbfhkfebkaaGreat
/- Keys are about to turn: the program. No statement of the seat is proved here. -/
namespace Go.Proofs.YthibbbfhkfebkaaGreat
open Go Go.VI
set_option linter.unusedSimpArgs false
structure R4 (q : Nat) (A B C E : Row) (M : Mem) : Prop where
  a : M.get q = some A
  b : M.get (q + 1) = some B
  c : M.get (q + 1 + 1) = some C
  e : M.get (q + 1 + 1 + 1) = some E
  n : q + 1 + 1 + 1 < M.next
theorem R4.of_push (s : Mem) (A B C E : Row) : R4 s.next A B C E ((((s.push A).push B).push C).push E) := ⟨by
  simp only [Mem.get_push, next_push']; rw [if_neg (by omega), if_neg (by omega), if_neg (by omega), if_pos trivial], by
  simp only [Mem.get_push, next_push']; rw [if_neg (by omega), if_neg (by omega), if_pos trivial], by
  simp only [Mem.get_push, next_push']; rw [if_neg (by omega), if_pos trivial], by
  simp only [Mem.get_push, next_push']; rw [if_pos trivial], by simp only [next_push']; omega⟩
theorem R4.then {q : Nat} {A B C E : Row} {M N : Mem} (h : R4 q A B C E M) (k : Keep M.next M N) : R4 q A B C E N := by
  have := h.n
  exact ⟨by rw [k.get _ (by omega)]; exact h.a, by rw [k.get _ (by omega)]; exact h.b, by rw [k.get _ (by omega)]; exact h.c, by rw [k.get _ (by omega)]; exact h.e, Nat.lt_of_lt_of_le h.n k.next⟩
theorem R4.put {q : Nat} {A B C E : Row} {M : Mem} (h : R4 q A B C E M) (A' : Row) : R4 q A' B C E (M.put q (some A')) :=
  ⟨by rw [Mem.get_put, if_pos rfl], by rw [Mem.get_put, if_neg (by omega)]; exact h.b, by rw [Mem.get_put, if_neg (by omega)]; exact h.c, by rw [Mem.get_put, if_neg (by omega)]; exact h.e, h.n⟩
theorem ins_run {ty sz bytes : Nat} {vv : AV} {xs ys : List (List AV)} {i p b : Nat} {M : Mem} (hf : M.floor ≤ b) (hb : b ≤ M.next) (ho : OwnL M b vv ty sz xs) (hi : i ≤ xs.length) (hp : M.get p = some ⟨ty, sz, ys⟩) (hm : 0 < ys.length) (hne : ∀ n, vv ≠ .own p 0 n sz) (hr : roomOk (xs.length + ys.length) bytes = true) :
    ∃ v' s', insA ty sz bytes [vv, .int .i64 i, .own p 0 ys.length sz] M = some (v', s') ∧ OwnL s' b v' ty sz (xs.take i ++ ys ++ xs.drop i) ∧ Keep b M s' := by
  have t1 : toNat? (i : Int) = some i := by simp [toNat?]
  rcases ho with ⟨h, e⟩ | ⟨q, rfl, h1, h2, h3, h4⟩
  · subst e
    have i0 : i = 0 := by simpa using hi
    subst i0
    have hr' : roomOk ys.length bytes = true := by simpa using hr
    refine ⟨.own M.next 0 ys.length sz, M.push ⟨ty, sz, ys⟩, ?_, ?_, Keep.push hb _⟩
    · rcases h with rfl | rfl <;> simp [insA, toNat?, hp, hm, hr']
    · simpa using OwnL.of_push (ty := ty) (sz := sz) (xs := ys) hf hb
  · have hqp : p ≠ q := fun h => hne _ (by rw [h])
    refine ⟨.own M.next 0 (xs.length + ys.length) sz, (M.put q none).push ⟨ty, sz, xs.take i ++ ys ++ xs.drop i⟩, ?_, ?_, (Keep.put h3 _).trans (Keep.push (by rw [next_put']; exact hb) _)⟩
    · have e2 : xs.take xs.length = xs := List.take_length
      simp [insA, t1, hp, h1, e2, hi, hm, hqp, h2, hr]
    · have hl : (xs.take i ++ ys ++ xs.drop i).length = xs.length + ys.length := by simp; omega
      have := OwnL.of_push (s := M.put q none) (b := b) (ty := ty) (sz := sz) (xs := xs.take i ++ ys ++ xs.drop i) hf hb
      rw [hl] at this
      exact this
def zeroT : Table := ⟨0, [], [], [], [], []⟩
def zeroW : TV := ⟨.nilS, .nilS, .nilS, .nilS, .nilS⟩
theorem zero_in (s : Mem) (D : Nat → Prop) : TabIn s D zeroW zeroT := ⟨Sl.nil _ _ _, Sl.nil _ _ _, Sl.nil _ _ _, Sl.nil _ _ _, Sl.nil _ _ _⟩
def withI (t : Table) (l : List Intent) : Table := ⟨t.now, t.spans, t.frozen, t.holds, t.marks, l⟩
theorem OwnT.turn {S s' : Mem} {b m : Nat} {w : TV} {t : Table} {it : AV} {l : List Intent} (h : OwnT S b m w t) (hq : ∀ q, b ≤ q → q < m → s'.get q = S.get q) (hm : m ≤ s'.next) (ho : OwnL s' m it 70 6 (l.map intC)) : OwnT s' b m ⟨w.sp, w.fr, w.ho, w.ma, it⟩ (withI t l) :=
  ⟨h.sp.keep fun q g => hq q g.1 g.2, h.fr.keep fun q g => hq q g.1 g.2, h.ho.keep fun q g => hq q g.1 g.2, h.ma.keep fun q g => hq q g.1 g.2, ho, h.bm, hm⟩
theorem OwnT.put {S : Mem} {b m r : Nat} {w : TV} {t : Table} (h : OwnT S b m w t) (hr : r < b) (x : Option Row) : OwnT (S.put r x) b m w t := by
  have hb := h.bm
  have hq : ∀ q, b ≤ q → q < m → (S.put r x).get q = S.get q := fun q h1 h2 => by rw [Mem.get_put, if_neg (by omega)]
  refine OwnT.turn h hq h.mn ?_
  rcases h.it with e | ⟨p, a, b2, c, d, e⟩
  · exact .inl e
  · exact .inr ⟨p, a, by rw [Mem.get_put, if_neg (by omega)]; exact b2, c, d, e⟩
attribute [local irreducible] Ws Wp W C
set_option maxHeartbeats 4000000
end Go.Proofs.YthibbbfhkfebkaaGreat
/- Keys are about to turn: the document. No statement of the seat is proved here. -/
namespace Go.Proofs.YthibbbfhkfebkaaGreat
open Go Go.VI
set_option linter.unusedSimpArgs false
attribute [local irreducible] Ws Wp W C
set_option maxHeartbeats 4000000
end Go.Proofs.YthibbbfhkfebkaaGreat
/- Tables alike. No statement of the seat is proved here. -/
namespace Go.Proofs.YthibbbfhkfebkaaGreat
open Go Go.VI
set_option linter.unusedSimpArgs false
attribute [local irreducible] Ws Wp W C
set_option maxHeartbeats 4000000
theorem speq_c (x : Span) : eqA (.st [.s, .s]) (.agg (spanC x)) (.agg (spanC x)) = some true := by
  simp [eqA, eqL, eqLf, spanC]
theorem spsame_c {l : List Span} {v w : AV} {D : Nat → Prop} {s : Mem} {K : AV → Mem → Prop} (hI : In D s) (hv : Spans s D v l) (hw : Spans s D w l) (hl : l.length < 1000000000)
    (hK : K (.bool true) s) : C tab 102 [v, w] s K := by
  refine C_enter (cf := cf102) rfl (Nat.le_of_ble_eq_true rfl) ?_
  simp only [cf102, oo, on, om, og, oc, ou]
  have hlv : lenA false v = some l.length := hv.lenB
  have hlw : lenA false w = some l.length := hw.lenB
  (repeat' (with_reducible first|refine w_1 ?_|refine w_2 ?_|refine w_3 ?_|refine w_4 ?_|refine w_5 ?_|simp (maxDischargeDepth:=12) only [viz,↓reduceIte,Nat.reduceEqDiff,Nat.reduceAdd,hlv,hlw,bne_self_eq_false, Int.reduceBEq, Int.reduceBNe, Int.reduceLT, Int.reduceLE, Int.reduceGT, Int.reduceGE]))
  refine W_inv l.length (fun i E s' => s' = s ∧ E.get 0 = v ∧ E.get 1 = w ∧ E.get 5 = .int .i64 i) (by delta cf102l0 oo on om og oc ou; exact rfl) ?_ ?_
  · (repeat' with_reducible simp (maxDischargeDepth:=12) only [viz,↓reduceIte,Nat.reduceEqDiff,reduceCtorEq])
    try rfl
  rintro i E s' hile _ ⟨rfl, g0, g1, g5⟩
  by_cases hlt : i < l.length
  · obtain ⟨x, hx⟩ := get_of hlt
    obtain ⟨p, hp, P, hld⟩ := hv.ldk hI hx rfl rfl
    obtain ⟨p2, hp2, P2, hld2⟩ := hw.ldk hI hx rfl rfl
    have l1 := hld _ (Keep.refl _ _)
    have l2 := hld2 _ (Keep.refl _ _)
    (repeat' (with_reducible first|refine w_1 ?_|refine w_2 ?_|refine w_3 ?_|refine w_4 ?_|refine w_5 ?_|simp (maxDischargeDepth:=12) only [viz,↓reduceIte,Nat.reduceEqDiff,reduceCtorEq,g0,g1,g5,hlv,lt_true hlt,hp,hp2,l1,l2,speq_c]))
    exact ⟨hlt, succ_av (by omega)⟩
  · (repeat' (with_reducible first|refine w_1 ?_|refine w_2 ?_|refine w_4 ?_|refine w_6 ?_|refine w_7 ?_|simp (maxDischargeDepth:=12) only [viz,↓reduceIte,reduceCtorEq,g0,g5,hlv,lt_false hlt]))
    exact hK
theorem hoeq_c (x : Hold) : eqA (.st [.s, .i, .i]) (.agg (holdC x)) (.agg (holdC x)) = some true := by
  simp [eqA, eqL, eqLf, holdC]
theorem hosame_c {l : List Hold} {v w : AV} {D : Nat → Prop} {s : Mem} {K : AV → Mem → Prop} (hI : In D s) (hv : Holds s D v l) (hw : Holds s D w l) (hl : l.length < 1000000000)
    (hK : K (.bool true) s) : C tab 64 [v, w] s K := by
  refine C_enter (cf := cf64) rfl (Nat.le_of_ble_eq_true rfl) ?_
  simp only [cf64, oo, on, om, og, oc, ou]
  have hlv : lenA false v = some l.length := hv.lenB
  have hlw : lenA false w = some l.length := hw.lenB
  (repeat' (with_reducible first|refine w_1 ?_|refine w_2 ?_|refine w_3 ?_|refine w_4 ?_|refine w_5 ?_|simp (maxDischargeDepth:=12) only [viz,↓reduceIte,Nat.reduceEqDiff,Nat.reduceAdd,hlv,hlw,bne_self_eq_false, Int.reduceBEq, Int.reduceBNe, Int.reduceLT, Int.reduceLE, Int.reduceGT, Int.reduceGE]))
  refine W_inv l.length (fun i E s' => s' = s ∧ E.get 0 = v ∧ E.get 1 = w ∧ E.get 5 = .int .i64 i) (by delta cf64l0 oo on om og oc ou; exact rfl) ?_ ?_
  · (repeat' with_reducible simp (maxDischargeDepth:=12) only [viz,↓reduceIte,Nat.reduceEqDiff,reduceCtorEq])
    try rfl
  rintro i E s' hile _ ⟨rfl, g0, g1, g5⟩
  by_cases hlt : i < l.length
  · obtain ⟨x, hx⟩ := get_of hlt
    obtain ⟨p, hp, P, hld⟩ := hv.ldk hI hx rfl rfl
    obtain ⟨p2, hp2, P2, hld2⟩ := hw.ldk hI hx rfl rfl
    have l1 := hld _ (Keep.refl _ _)
    have l2 := hld2 _ (Keep.refl _ _)
    (repeat' (with_reducible first|refine w_1 ?_|refine w_2 ?_|refine w_3 ?_|refine w_4 ?_|refine w_5 ?_|simp (maxDischargeDepth:=12) only [viz,↓reduceIte,Nat.reduceEqDiff,reduceCtorEq,g0,g1,g5,hlv,lt_true hlt,hp,hp2,l1,l2,hoeq_c]))
    exact ⟨hlt, succ_av (by omega)⟩
  · (repeat' (with_reducible first|refine w_1 ?_|refine w_2 ?_|refine w_4 ?_|refine w_6 ?_|refine w_7 ?_|simp (maxDischargeDepth:=12) only [viz,↓reduceIte,reduceCtorEq,g0,g5,hlv,lt_false hlt]))
    exact hK
theorem maeq_c (x : Mark) : eqA (.st [.s, .i]) (.agg (markC x)) (.agg (markC x)) = some true := by
  simp [eqA, eqL, eqLf, markC]
theorem masame_c {l : List Mark} {v w : AV} {D : Nat → Prop} {s : Mem} {K : AV → Mem → Prop} (hI : In D s) (hv : Marks s D v l) (hw : Marks s D w l) (hl : l.length < 1000000000)
    (hK : K (.bool true) s) : C tab 65 [v, w] s K := by
  refine C_enter (cf := cf65) rfl (Nat.le_of_ble_eq_true rfl) ?_
  simp only [cf65, oo, on, om, og, oc, ou]
  have hlv : lenA false v = some l.length := hv.lenB
  have hlw : lenA false w = some l.length := hw.lenB
  (repeat' (with_reducible first|refine w_1 ?_|refine w_2 ?_|refine w_3 ?_|refine w_4 ?_|refine w_5 ?_|simp (maxDischargeDepth:=12) only [viz,↓reduceIte,Nat.reduceEqDiff,Nat.reduceAdd,hlv,hlw,bne_self_eq_false, Int.reduceBEq, Int.reduceBNe, Int.reduceLT, Int.reduceLE, Int.reduceGT, Int.reduceGE]))
  refine W_inv l.length (fun i E s' => s' = s ∧ E.get 0 = v ∧ E.get 1 = w ∧ E.get 5 = .int .i64 i) (by delta cf65l0 oo on om og oc ou; exact rfl) ?_ ?_
  · (repeat' with_reducible simp (maxDischargeDepth:=12) only [viz,↓reduceIte,Nat.reduceEqDiff,reduceCtorEq])
    try rfl
  rintro i E s' hile _ ⟨rfl, g0, g1, g5⟩
  by_cases hlt : i < l.length
  · obtain ⟨x, hx⟩ := get_of hlt
    obtain ⟨p, hp, P, hld⟩ := hv.ldk hI hx rfl rfl
    obtain ⟨p2, hp2, P2, hld2⟩ := hw.ldk hI hx rfl rfl
    have l1 := hld _ (Keep.refl _ _)
    have l2 := hld2 _ (Keep.refl _ _)
    (repeat' (with_reducible first|refine w_1 ?_|refine w_2 ?_|refine w_3 ?_|refine w_4 ?_|refine w_5 ?_|simp (maxDischargeDepth:=12) only [viz,↓reduceIte,Nat.reduceEqDiff,reduceCtorEq,g0,g1,g5,hlv,lt_true hlt,hp,hp2,l1,l2,maeq_c]))
    exact ⟨hlt, succ_av (by omega)⟩
  · (repeat' (with_reducible first|refine w_1 ?_|refine w_2 ?_|refine w_4 ?_|refine w_6 ?_|refine w_7 ?_|simp (maxDischargeDepth:=12) only [viz,↓reduceIte,reduceCtorEq,g0,g5,hlv,lt_false hlt]))
    exact hK
theorem iteq_c (x : Intent) : eqA (.st [.s, .i, .i, .i, .i, .i]) (.agg (intC x)) (.agg (intC x)) = some true := by
  simp [eqA, eqL, eqLf, intC]
theorem itsame_c {l : List Intent} {v w : AV} {D : Nat → Prop} {s : Mem} {K : AV → Mem → Prop} (hI : In D s) (hv : Ints s D v l) (hw : Ints s D w l) (hl : l.length < 1000000000)
    (hK : K (.bool true) s) : C tab 103 [v, w] s K := by
  refine C_enter (cf := cf103) rfl (Nat.le_of_ble_eq_true rfl) ?_
  simp only [cf103, oo, on, om, og, oc, ou]
  have hlv : lenA false v = some l.length := hv.lenB
  have hlw : lenA false w = some l.length := hw.lenB
  (repeat' (with_reducible first|refine w_1 ?_|refine w_2 ?_|refine w_3 ?_|refine w_4 ?_|refine w_5 ?_|simp (maxDischargeDepth:=12) only [viz,↓reduceIte,Nat.reduceEqDiff,Nat.reduceAdd,hlv,hlw,bne_self_eq_false, Int.reduceBEq, Int.reduceBNe, Int.reduceLT, Int.reduceLE, Int.reduceGT, Int.reduceGE]))
  refine W_inv l.length (fun i E s' => s' = s ∧ E.get 0 = v ∧ E.get 1 = w ∧ E.get 5 = .int .i64 i) (by delta cf103l0 oo on om og oc ou; exact rfl) ?_ ?_
  · (repeat' with_reducible simp (maxDischargeDepth:=12) only [viz,↓reduceIte,Nat.reduceEqDiff,reduceCtorEq])
    try rfl
  rintro i E s' hile _ ⟨rfl, g0, g1, g5⟩
  by_cases hlt : i < l.length
  · obtain ⟨x, hx⟩ := get_of hlt
    obtain ⟨p, hp, P, hld⟩ := hv.ldk hI hx rfl rfl
    obtain ⟨p2, hp2, P2, hld2⟩ := hw.ldk hI hx rfl rfl
    have l1 := hld _ (Keep.refl _ _)
    have l2 := hld2 _ (Keep.refl _ _)
    (repeat' (with_reducible first|refine w_1 ?_|refine w_2 ?_|refine w_3 ?_|refine w_4 ?_|refine w_5 ?_|simp (maxDischargeDepth:=12) only [viz,↓reduceIte,Nat.reduceEqDiff,reduceCtorEq,g0,g1,g5,hlv,lt_true hlt,hp,hp2,l1,l2,iteq_c]))
    exact ⟨hlt, succ_av (by omega)⟩
  · (repeat' (with_reducible first|refine w_1 ?_|refine w_2 ?_|refine w_4 ?_|refine w_6 ?_|refine w_7 ?_|simp (maxDischargeDepth:=12) only [viz,↓reduceIte,reduceCtorEq,g0,g5,hlv,lt_false hlt]))
    exact hK
structure Small2 (t : Table) : Prop where
  sp : t.spans.length < 1000000000
  fr : t.frozen.length < 1000000000
  ho : t.holds.length < 1000000000
  ma : t.marks.length < 1000000000
  it : t.ints.length < 1000000000
theorem same_c {t : Table} {w u : TV} {D : Nat → Prop} {s : Mem} {K : AV → Mem → Prop} (hI : In D s) (hw : TabIn s D w t) (hu : TabIn s D u t) (hl : Small2 t)
    (hK : ∀ s', Keep s.next s s' → K (.bool true) s') : C tab 41 [.agg (tabC t w), .agg (tabC t u)] s K := by
  refine C_enter (cf := cf41) rfl (Nat.le_of_ble_eq_true rfl) ?_
  simp only [cf41, oo, on, om, og, oc, ou, tabC]
  have r0 := R2.of_push s ⟨27, 6, [[.int .i64 t.now, w.sp, w.fr, w.ho, w.ma, w.it]]⟩ ⟨27, 6, [[.int .i64 t.now, u.sp, u.fr, u.ho, u.ma, u.it]]⟩
  have k0 := (pushes s ⟨27, 6, [[.int .i64 t.now, w.sp, w.fr, w.ho, w.ma, w.it]]⟩).then (pushes _ ⟨27, 6, [[.int .i64 t.now, u.sp, u.fr, u.ho, u.ma, u.it]]⟩)
  (repeat' (with_reducible first|refine w_1 ?_|refine w_2 ?_|((try refine w_9 ?_);simp (maxDischargeDepth:=12) only [viz,↓reduceIte,Nat.reduceEqDiff,Nat.reduceAdd,hw.sp.cell,hw.fr.cell,hw.ho.cell,hw.ma.cell,hw.it.cell,hu.sp.cell,hu.fr.cell,hu.ho.cell,hu.ma.cell,hu.it.cell])))
  generalize (s.push _).push _ = S0 at *
  have w0 := hw.keep fun r hr => k0.get r (hI r hr)
  have u0 := hu.keep fun r hr => k0.get r (hI r hr)
  have I0 := hI.keep k0
  refine spsame_c I0 w0.sp u0.sp hl.sp ?_
  (repeat' with_reducible ((try refine w_9 ?_);simp (maxDischargeDepth:=12) only [viz,↓reduceIte,Nat.reduceEqDiff,Nat.reduceAdd,r0.a,r0.b]))
  refine spsame_c I0 w0.fr u0.fr hl.fr ?_
  (repeat' with_reducible ((try refine w_9 ?_);simp (maxDischargeDepth:=12) only [viz,↓reduceIte,Nat.reduceEqDiff,Nat.reduceAdd,r0.a,r0.b]))
  refine hosame_c I0 w0.ho u0.ho hl.ho ?_
  (repeat' with_reducible ((try refine w_9 ?_);simp (maxDischargeDepth:=12) only [viz,↓reduceIte,Nat.reduceEqDiff,Nat.reduceAdd,r0.a,r0.b]))
  refine masame_c I0 w0.ma u0.ma hl.ma ?_
  (repeat' with_reducible ((try refine w_9 ?_);simp (maxDischargeDepth:=12) only [viz,↓reduceIte,Nat.reduceEqDiff,Nat.reduceAdd,r0.a,r0.b]))
  refine itsame_c I0 w0.it u0.it hl.it ?_
  (repeat' (with_reducible first|refine w_6 ?_|simp (maxDischargeDepth:=12) only [viz,↓reduceIte]))
  exact hK _ k0
theorem lsame_c {t : Table} {w u : TV} {e : Int} {D : Nat → Prop} {s : Mem} {K : AV → Mem → Prop} (hI : In D s) (hw : TabIn s D w t) (hu : TabIn s D u t) (hl : Small2 t)
    (hK : ∀ s', Keep s.next s s' → K (.bool true) s') : C tab 12 [.agg (tabC t w), .int .i64 e, .agg (tabC t u), .int .i64 e] s K := by
  refine C_enter (cf := cf12) rfl (Nat.le_of_ble_eq_true rfl) ?_
  simp only [cf12, oo, on, om, og, oc, ou, tabC]
  have k0 := (pushes s ⟨27, 6, [[.int .i64 t.now, w.sp, w.fr, w.ho, w.ma, w.it]]⟩).then (pushes _ ⟨27, 6, [[.int .i64 t.now, u.sp, u.fr, u.ho, u.ma, u.it]]⟩)
  (repeat' (with_reducible first|refine w_1 ?_|refine w_2 ?_|((try refine w_9 ?_);simp (maxDischargeDepth:=12) only [viz,↓reduceIte,Nat.reduceEqDiff,Nat.reduceAdd,hw.sp.cell,hw.fr.cell,hw.ho.cell,hw.ma.cell,hw.it.cell,hu.sp.cell,hu.fr.cell,hu.ho.cell,hu.ma.cell,hu.it.cell, Int.reduceBEq, Int.reduceBNe, Int.reduceLT, Int.reduceLE, Int.reduceGT, Int.reduceGE])))
  generalize (s.push _).push _ = S0 at *
  refine same_c (t := t) (w := w) (u := u) (hI.keep k0) (hw.keep fun r hr => k0.get r (hI r hr)) (hu.keep fun r hr => k0.get r (hI r hr)) hl fun s1 h1 => ?_
  (repeat' (with_reducible first|refine w_6 ?_|simp (maxDischargeDepth:=12) only [viz,↓reduceIte]))
  exact hK _ (k0.then h1)
def lightS (t : Table) : Bool := decide (t.holds.length + t.marks.length + t.ints.length ≤ 100) && decide (t.spans.length + t.frozen.length ≤ 24)
structure Small3 (t : Table) : Prop where
  sp : t.spans.length < 1000000000000000000
  fr : t.frozen.length < 1000000000000000000
  ho : t.holds.length < 1000000000000000000
  ma : t.marks.length < 1000000000000000000
  it : t.ints.length < 1000000000000000000
theorem light_c {t : Table} {w : TV} {D : Nat → Prop} {s : Mem} {K : AV → Mem → Prop} (hw : TabIn s D w t) (hl : Small3 t)
    (hK : ∀ s', Keep s.next s s' → K (.bool (lightS t)) s') : C tab 8 [.agg (tabC t w)] s K := by
  refine C_enter (cf := cf8) rfl (Nat.le_of_ble_eq_true rfl) ?_
  simp only [cf8, oo, on, om, og, oc, ou, tabC]
  have h1 : lenA false w.sp = some t.spans.length := hw.sp.lenB
  have h2 : lenA false w.fr = some t.frozen.length := hw.fr.lenB
  have h3 : lenA false w.ho = some t.holds.length := hw.ho.lenB
  have h4 : lenA false w.ma = some t.marks.length := hw.ma.lenB
  have h5 : lenA false w.it = some t.ints.length := hw.it.lenB
  obtain ⟨a1, a2, a3, a4, a5⟩ := hl
  have e1 : decide (IntKind.i64.wrap (IntKind.i64.wrap ((t.holds.length : Int) + t.marks.length) + t.ints.length) ≤ 100) = decide (t.holds.length + t.marks.length + t.ints.length ≤ 100) := by
    rw [wrap_i64 (x := (t.holds.length : Int) + t.marks.length) (by omega), wrap_i64 (x := (t.holds.length : Int) + t.marks.length + t.ints.length) (by omega), decide_eq_decide]
    omega
  have e2 : decide (IntKind.i64.wrap ((t.spans.length : Int) + t.frozen.length) ≤ 24) = decide (t.spans.length + t.frozen.length ≤ 24) := by
    rw [wrap_i64 (by omega), decide_eq_decide]
    omega
  (repeat' (with_reducible first|refine w_1 ?_|refine w_2 ?_|refine w_6 ?_|refine w_13 (fun hc=>(by (try simp only [Bool.and_eq_true] at hc);simp (maxDischargeDepth:=12) only [viz,↓reduceIte,Nat.reduceEqDiff,Nat.reduceAdd,h1,h2,e2,cond_false,hc];first|exact ⟨rfl,rfl⟩|exact rfl)) ?_|((try refine w_9 ?_);simp (maxDischargeDepth:=12) only [viz,↓reduceIte,Nat.reduceEqDiff,Nat.reduceAdd,hw.sp.cell,hw.fr.cell,hw.ho.cell,hw.ma.cell,hw.it.cell,h3,h4,h5,e1])))
  exact hK _ (pushes _ _)
end Go.Proofs.YthibbbfhkfebkaaGreat

