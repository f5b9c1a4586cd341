/- Whose intents; keys alike. No statement of the seat is proved here. -/
import Derived.Test.YthibbbfhkfebkaaVZTI
import Derived.Test.YthibbbfhkfebkaaVZVE
namespace Go.Proofs.Ythibbbfhkfebkaa
open Go Go.VI
set_option linter.unusedSimpArgs false
theorem eqL_id (a b c d : Int) : eqL [.i, .i] [.int .i64 a, .int .u64 b] [.int .i64 c, .int .u64 d] = some (a == c && b == d) := by
  have h1 : eqLf .i (.int .i64 a) (.int .i64 c) = some (a == c) := by simp only [eqLf, if_true]
  have h2 : eqLf .i (.int .u64 b) (.int .u64 d) = some (b == d) := by simp only [eqLf, if_true]
  simp only [eqL, h1, h2]
  cases a == c <;> cases b == d <;> rfl
theorem eqA_id (a b c d : Int) : eqA (.st [.i, .i]) (.agg [.int .i64 a, .int .u64 b]) (.agg [.int .i64 c, .int .u64 d]) = some (a == c && b == d) := by
  simp only [eqA, List.length_cons, List.length_nil, and_self, if_true]
  exact eqL_id a b c d
def isX (c q : Int) (x : Intent) : Bool := x.client == c && x.seq == q
def theirsP (l : List Intent) (c q : Int) : List Txt := (l.filter (isX c q)).map Intent.key
theorem theirs_snoc {l : List Intent} {i : Nat} {x : Intent} (h : l[i]? = some x) (c q : Int) : theirsP (l.take (i + 1)) c q = theirsP (l.take i) c q ++ (if isX c q x then [x.key] else []) := by
  unfold theirsP
  rw [List.take_add_one, h, Option.toList_some, List.filter_append, List.map_append]
  congr 1
  cases hx : isX c q x <;> simp [hx]
theorem theirs_len (l : List Intent) (c q : Int) : (theirsP l c q).length ≤ l.length := by
  unfold theirsP; rw [List.length_map]; exact List.length_filter_le _ _
theorem txt_cells (l : List Txt) : ∀ c ∈ l.map txtC, c.length = 1 := fun c hc => by
  obtain ⟨y, _, rfl⟩ := List.mem_map.mp hc; rfl
attribute [local irreducible] Ws Wp W C
set_option maxHeartbeats 4000000
theorem theirs_c {t : Table} {w : TV} {c q : Int} {D : Nat → Prop} {s : Mem} {K : AV → Mem → Prop} (hf : s.floor ≤ s.next) (hI : In D s) (hw : TabIn s D w t) (hlen : t.ints.length < 5000)
    (hK : ∀ v s', Keep s.next s s' → OwnL s' s.next v 9 1 ((theirsP t.ints c q).map txtC) → K v s') : C tab 16 [.agg (tabC t w), .agg [.int .i64 c, .int .u64 q]] s K := by
  refine C_enter (cf := cf16) rfl (Nat.le_of_ble_eq_true rfl) ?_
  simp only [cf16, oo, on, om, og, oc, ou, tabC]
  have hln : lenA false w.it = some t.ints.length := hw.it.lenB
  have r0 := R2.of_push s ⟨27, 6, [[.int .i64 t.now, w.sp, w.fr, w.ho, w.ma, w.it]]⟩ ⟨30, 2, [[.int .i64 c, .int .u64 q]]⟩
  have k0 := (pushes s ⟨27, 6, [[.int .i64 t.now, w.sp, w.fr, w.ho, w.ma, w.it]]⟩).then (pushes _ ⟨30, 2, [[.int .i64 c, .int .u64 q]]⟩)
  have n0 : ((s.push ⟨27, 6, [[.int .i64 t.now, w.sp, w.fr, w.ho, w.ma, w.it]]⟩).push ⟨30, 2, [[.int .i64 c, .int .u64 q]]⟩).next = s.next + 2 := by simp only [next_push']
  (repeat' (with_reducible first|refine w_1 ?_|refine w_2 ?_|refine w_3 ?_|refine w_4 ?_|refine w_5 ?_|refine w_6 ?_|refine w_7 ?_|(refine w_8 (fun hb=>?_) (fun hb=>?_)<;>(try simp only [Bool.not_eq_true',Bool.not_eq_false'] at hb)<;>try simp only [hb])|refine w_13 (fun hc=>(by (try simp only [Bool.and_eq_true] at hc);simp (maxDischargeDepth:=12) only [viz,↓reduceIte,Nat.reduceEqDiff,reduceCtorEq,Int.reduceEq,Int.reduceNeg,Nat.reduceAdd,Nat.reduceLeDiff,hw.sp.cell,hw.fr.cell,hw.ho.cell,hw.ma.cell,hw.it.cell,hln,cond_true,cond_false,hc];first|exact ⟨rfl,rfl⟩|exact rfl)) ?_|refine w_12 ?_|((try refine w_9 ?_);simp (maxDischargeDepth:=12) only [viz,↓reduceIte,Nat.reduceEqDiff,reduceCtorEq,Int.reduceEq,Int.reduceNeg,Nat.reduceAdd,Nat.reduceLeDiff,hw.sp.cell,hw.fr.cell,hw.ho.cell,hw.ma.cell,hw.it.cell,hln])))
  generalize (s.push _).push _ = S0 at *
  refine W_inv t.ints.length (fun i E s' => ∃ v, Keep S0.next S0 s' ∧ OwnL s' S0.next v 9 1 ((theirsP (t.ints.take i) c q).map txtC) ∧ E.get 3 = .ptr (s.next + 1) 0 0 ∧ E.get 5 = v ∧ E.get 9 = w.it ∧ E.get 10 = .int .i64 t.ints.length ∧ E.get 11 = .int .i64 i) (by delta cf16l0 oo on om og oc ou; exact rfl) ?_ ?_
  · refine ⟨.nilS, Keep.refl _ _, OwnL.nil _ _ _ _, (by simp only [ev, Env.get_set, ↓reduceIte, Nat.reduceEqDiff]), (by simp only [ev, Env.get_set, ↓reduceIte, Nat.reduceEqDiff]), (by simp only [ev, Env.get_set, ↓reduceIte, Nat.reduceEqDiff]), (by simp only [ev, Env.get_set, ↓reduceIte, Nat.reduceEqDiff]), ?_⟩
    simp only [ev, Env.get_set, ↓reduceIte, Nat.reduceEqDiff]; rfl
  rintro i E s' hile _ ⟨v, hk, ho, g3, g5, g9, g10, g11⟩
  have hkS := k0.then hk
  have r := r0.then hk
  have hfl : s'.floor ≤ s'.next := hkS.ok hf
  have hn := hk.next
  by_cases hlt : i < t.ints.length
  · obtain ⟨x, hx⟩ := get_of hlt
    obtain ⟨p, hp, P, hld⟩ := hw.it.ldk hI hx rfl rfl
    have hld' := hld _ hkS
    simp only [intC] at hld'
    have ne : (s.next + 1 = s'.next) = False := by simp; omega
    have tl := theirs_len (t.ints.take i) c q
    rw [List.length_take] at tl
    have hp1 := pushes s' ⟨46, 6, [[.str x.key, .int .i64 x.client, .int .u64 x.seq, .int .i64 x.kind, .int .u64 x.token, .int .i64 x.ttl]]⟩
    have hts := theirs_snoc hx c q
    (repeat' (with_reducible first|refine w_1 ?_|refine w_2 ?_|refine w_3 ?_|refine w_4 ?_|refine w_5 ?_|refine w_6 ?_|refine w_7 ?_|(refine w_8 (fun hb=>?_) (fun hb=>?_)<;>(try simp only [Bool.not_eq_true',Bool.not_eq_false'] at hb)<;>try simp only [hb])|refine w_13 (fun hc=>(by (try simp only [Bool.and_eq_true] at hc);simp (maxDischargeDepth:=12) only [viz,↓reduceIte,Nat.reduceEqDiff,reduceCtorEq,Int.reduceEq,Int.reduceNeg,Nat.reduceAdd,Nat.reduceLeDiff,g3,g5,g9,g10,g11,lt_true hlt,hp,hld',hfl,r.b,ne,eqA_id,cond_true,cond_false,hc];first|exact ⟨rfl,rfl⟩|exact rfl)) ?_|refine w_12 ?_|((try refine w_9 ?_);simp (maxDischargeDepth:=12) only [viz,↓reduceIte,Nat.reduceEqDiff,reduceCtorEq,Int.reduceEq,Int.reduceNeg,Nat.reduceAdd,Nat.reduceLeDiff,g3,g5,g9,g10,g11,lt_true hlt,hp,hld',hfl,r.b,ne,eqA_id])))
    · refine app_lit (v := v) (k := 1) (b := S0.next) (xs := (theirsP (t.ints.take i) c q).map txtC) (ys := [txtC x.key]) (by rw [floor_push', hkS.floor]; omega) (by rw [next_push']; omega) (ho.push _) (by simp only [ev, Env.get_set, ↓reduceIte, Nat.reduceEqDiff]) (by simp only [ev, Env.get_set, ↓reduceIte, Nat.reduceEqDiff]; rfl) rfl rfl (room (by simp; omega) (by simp; omega)) ?_
      intro v2 s2 ho2 hx2 _ _
      have hk2 : Keep S0.next S0 s2 := (hk.trans (hp1.le hn)).trans (hx2.keep (by rw [next_push']; omega) fun r i n z h => (ho.row r i n z h).1)
      (repeat' (with_reducible first|refine w_1 ?_|refine w_2 ?_|refine w_3 ?_|refine w_4 ?_|refine w_5 ?_|refine w_6 ?_|refine w_7 ?_|(refine w_8 (fun hb=>?_) (fun hb=>?_)<;>(try simp only [Bool.not_eq_true',Bool.not_eq_false'] at hb)<;>try simp only [hb])|refine w_13 (fun hc=>(by (try simp only [Bool.and_eq_true] at hc);simp (maxDischargeDepth:=12) only [viz,↓reduceIte,Nat.reduceEqDiff,reduceCtorEq,Int.reduceEq,Int.reduceNeg,Nat.reduceAdd,Nat.reduceLeDiff,g3,g5,g9,g10,g11,cond_true,cond_false,hc];first|exact ⟨rfl,rfl⟩|exact rfl)) ?_|refine w_12 ?_|((try refine w_9 ?_);simp (maxDischargeDepth:=12) only [viz,↓reduceIte,Nat.reduceEqDiff,reduceCtorEq,Int.reduceEq,Int.reduceNeg,Nat.reduceAdd,Nat.reduceLeDiff,g3,g5,g9,g10,g11])))
      refine ⟨hlt, v2, hk2, ?_, rfl, succ_av (by omega)⟩
      have : isX c q x = true := hb
      rw [hts, this, if_pos rfl, List.map_append]
      exact ho2
    · refine ⟨hlt, v, hk.trans (hp1.le hn), ?_, rfl, succ_av (by omega)⟩
      have : isX c q x = false := hb
      rw [hts, this]
      simpa using ho.push _
  · (repeat' (with_reducible first|refine w_1 ?_|refine w_2 ?_|refine w_3 ?_|refine w_4 ?_|refine w_5 ?_|refine w_6 ?_|refine w_7 ?_|(refine w_8 (fun hb=>?_) (fun hb=>?_)<;>(try simp only [Bool.not_eq_true',Bool.not_eq_false'] at hb)<;>try simp only [hb])|refine w_13 (fun hc=>(by (try simp only [Bool.and_eq_true] at hc);simp (maxDischargeDepth:=12) only [viz,↓reduceIte,Nat.reduceEqDiff,reduceCtorEq,Int.reduceEq,Int.reduceNeg,Nat.reduceAdd,Nat.reduceLeDiff,g3,g5,g9,g10,g11,lt_false hlt,cond_true,cond_false,hc];first|exact ⟨rfl,rfl⟩|exact rfl)) ?_|refine w_12 ?_|((try refine w_9 ?_);simp (maxDischargeDepth:=12) only [viz,↓reduceIte,Nat.reduceEqDiff,reduceCtorEq,Int.reduceEq,Int.reduceNeg,Nat.reduceAdd,Nat.reduceLeDiff,g3,g5,g9,g10,g11,lt_false hlt])))
    rw [List.take_of_length_le (by omega)] at ho
    exact hK _ _ hkS (ho.le (by omega))
theorem equal_c {l m : List Txt} {v w : AV} {D : Nat → Prop} {s : Mem} {K : AV → Mem → Prop} (hI : In D s) (hv : Sl s D v 1 (l.map txtC)) (hw : Sl s D w 1 (m.map txtC)) (hl : l.length < 1000000000)
    (hK : K (.bool (l == m)) s) : C tab 17 [v, w] s K := by
  refine C_enter (cf := cf17) rfl (Nat.le_of_ble_eq_true rfl) ?_
  simp only [cf17, oo, on, om, og, oc, ou]
  have hlv : lenA false v = some l.length := hv.lenB
  have hlw : lenA false w = some m.length := hw.lenB
  (repeat' (with_reducible first|refine w_1 ?_|refine w_2 ?_|refine w_3 ?_|refine w_4 ?_|refine w_5 ?_|refine w_6 ?_|refine w_7 ?_|(refine w_8 (fun hb=>?_) (fun hb=>?_)<;>(try simp only [Bool.not_eq_true',Bool.not_eq_false'] at hb)<;>try simp only [hb])|refine w_13 (fun hc=>(by (try simp only [Bool.and_eq_true] at hc);simp (maxDischargeDepth:=12) only [viz,↓reduceIte,Nat.reduceEqDiff,reduceCtorEq,Int.reduceEq,Int.reduceNeg,Nat.reduceAdd,Nat.reduceLeDiff,hlv,hlw,cond_true,cond_false,hc];first|exact ⟨rfl,rfl⟩|exact rfl)) ?_|refine w_12 ?_|((try refine w_9 ?_);simp (maxDischargeDepth:=12) only [viz,↓reduceIte,Nat.reduceEqDiff,reduceCtorEq,Int.reduceEq,Int.reduceNeg,Nat.reduceAdd,Nat.reduceLeDiff,hlv,hlw])))
  · have : (l == m) = false := by
      rw [beq_eq_false_iff_ne]; intro e; subst e; simp at hb
    rw [this] at hK; exact hK
  have hlm : l.length = m.length := by simp at hb; omega
  refine W_inv l.length (fun i E s' => s' = s ∧ E.get 0 = v ∧ E.get 1 = w ∧ E.get 12 = .int .i64 l.length ∧ E.get 13 = .int .i64 i ∧ ∀ j, j < i → l[j]? = m[j]?) (by delta cf17l0 oo on om og oc ou; exact rfl) ?_ ?_
  · (repeat' (with_reducible first|refine w_1 ?_|refine w_2 ?_|refine w_3 ?_|refine w_4 ?_|refine w_5 ?_|refine w_6 ?_|refine w_7 ?_|(refine w_8 (fun hb=>?_) (fun hb=>?_)<;>(try simp only [Bool.not_eq_true',Bool.not_eq_false'] at hb)<;>try simp only [hb])|refine w_13 (fun hc=>(by (try simp only [Bool.and_eq_true] at hc);simp (maxDischargeDepth:=12) only [viz,↓reduceIte,Nat.reduceEqDiff,reduceCtorEq,Int.reduceEq,Int.reduceNeg,Nat.reduceAdd,Nat.reduceLeDiff,cond_true,cond_false,hc];first|exact ⟨rfl,rfl⟩|exact rfl)) ?_|refine w_12 ?_|((try refine w_9 ?_);simp (maxDischargeDepth:=12) only [viz,↓reduceIte,Nat.reduceEqDiff,reduceCtorEq,Int.reduceEq,Int.reduceNeg,Nat.reduceAdd,Nat.reduceLeDiff])))
    exact ⟨rfl, by omega⟩
  rintro i E s' hile _ ⟨rfl, g0, g1, g12, g13, hq⟩
  by_cases hlt : i < l.length
  · obtain ⟨x, hx⟩ := get_of hlt
    obtain ⟨y, hy⟩ := get_of (l := m) (i := i) (by omega)
    obtain ⟨p, hp, P, _⟩ := hv.ldk hI hx rfl rfl
    obtain ⟨p2, hp2, P2, _⟩ := hw.ldk hI hy rfl rfl
    have l1 : loadA s' false 1 p = some (.str x) := by rw [P.ld _ (Keep.refl _ _)]; rfl
    have l2 : loadA s' false 1 p2 = some (.str y) := by rw [P2.ld _ (Keep.refl _ _)]; rfl
    (repeat' (with_reducible first|refine w_1 ?_|refine w_2 ?_|refine w_3 ?_|refine w_4 ?_|refine w_5 ?_|refine w_6 ?_|refine w_7 ?_|(refine w_8 (fun hb=>?_) (fun hb=>?_)<;>(try simp only [Bool.not_eq_true',Bool.not_eq_false'] at hb)<;>try simp only [hb])|refine w_13 (fun hc=>(by (try simp only [Bool.and_eq_true] at hc);simp (maxDischargeDepth:=12) only [viz,↓reduceIte,Nat.reduceEqDiff,reduceCtorEq,Int.reduceEq,Int.reduceNeg,Nat.reduceAdd,Nat.reduceLeDiff,g0,g1,g12,g13,lt_true hlt,hp,hp2,l1,l2,cond_true,cond_false,hc];first|exact ⟨rfl,rfl⟩|exact rfl)) ?_|refine w_12 ?_|((try refine w_9 ?_);simp (maxDischargeDepth:=12) only [viz,↓reduceIte,Nat.reduceEqDiff,reduceCtorEq,Int.reduceEq,Int.reduceNeg,Nat.reduceAdd,Nat.reduceLeDiff,g0,g1,g12,g13,lt_true hlt,hp,hp2,l1,l2])))
    · have : (l == m) = false := by
        rw [beq_eq_false_iff_ne]; intro e; subst e; rw [hx] at hy; obtain rfl := Option.some.inj hy; simp at hb
      rw [this] at hK; exact hK
    · refine ⟨hlt, succ_av (by omega), fun j hj => ?_⟩
      by_cases hji : j = i
      · rw [hji, hx, hy]; simp at hb; rw [hb]
      · exact hq j (by omega)
  · (repeat' (with_reducible first|refine w_1 ?_|refine w_2 ?_|refine w_3 ?_|refine w_4 ?_|refine w_5 ?_|refine w_6 ?_|refine w_7 ?_|(refine w_8 (fun hb=>?_) (fun hb=>?_)<;>(try simp only [Bool.not_eq_true',Bool.not_eq_false'] at hb)<;>try simp only [hb])|refine w_13 (fun hc=>(by (try simp only [Bool.and_eq_true] at hc);simp (maxDischargeDepth:=12) only [viz,↓reduceIte,Nat.reduceEqDiff,reduceCtorEq,Int.reduceEq,Int.reduceNeg,Nat.reduceAdd,Nat.reduceLeDiff,g0,g1,g12,g13,lt_false hlt,cond_true,cond_false,hc];first|exact ⟨rfl,rfl⟩|exact rfl)) ?_|refine w_12 ?_|((try refine w_9 ?_);simp (maxDischargeDepth:=12) only [viz,↓reduceIte,Nat.reduceEqDiff,reduceCtorEq,Int.reduceEq,Int.reduceNeg,Nat.reduceAdd,Nat.reduceLeDiff,g0,g1,g12,g13,lt_false hlt])))
    have : (l == m) = true := by
      rw [beq_iff_eq]
      apply List.ext_getElem?
      intro j
      by_cases hj : j < i
      · exact hq j hj
      · rw [List.getElem?_eq_none (by omega), List.getElem?_eq_none (by omega)]
    rw [this] at hK; exact hK
end Go.Proofs.Ythibbbfhkfebkaa
/- Intents that are put in, in order: the plain law. No statement of the seat is proved here. -/
namespace Go.Proofs.Ythibbbfhkfebkaa
open Go Go.VI
set_option linter.unusedSimpArgs false
def newI (c q : Int) (k : Call) (token : Int) (key : Txt) : Intent := ⟨key, c, q, k.kind, if k.kind = 1 then token else k.token, k.ttl⟩
def mg : List Intent → List Intent → List Intent
  | [], xs => xs
  | y :: ys, [] => y :: ys
  | y :: ys, x :: xs => if bl y.key x.key then y :: mg ys (x :: xs) else x :: mg (y :: ys) xs
theorem mg_nil (ys : List Intent) : mg ys [] = ys := by cases ys <;> simp [mg]
def insP : List Intent → Intent → List Intent
  | [], y => [y]
  | x :: xs, y => if bl x.key y.key then x :: insP xs y else y :: x :: xs
abbrev UpI (l : List Intent) : Prop := l.Pairwise fun a b => bl a.key b.key = true
theorem mg_ins : ∀ (xs ys : List Intent) (y : Intent), (∀ z ∈ ys, bl y.key z.key = true) → (∀ x ∈ xs, x.key ≠ y.key) → mg (y :: ys) xs = mg ys (insP xs y)
  | [], ys, y, hy, _ => by
    cases ys with
    | nil => simp [mg, insP]
    | cons z zs =>
      have := bl_asymm (hy z (by simp))
      simp [mg, insP, this, mg_nil]
  | x :: xs, ys, y, hy, hx => by
    have ih := mg_ins xs ys y hy fun z hz => hx z (by simp [hz])
    unfold insP
    cases hxy : bl x.key y.key with
    | true =>
      have h1 := bl_asymm hxy
      simp only [mg, h1, if_true, ih]
      cases ys with
      | nil => simp [mg]
      | cons z zs =>
        have h2 := bl_asymm (bl_trans hxy (hy z (by simp)))
        simp [mg, h2]
    | false =>
      have h1 : bl y.key x.key = true := by
        cases h : bl y.key x.key with
        | true => rfl
        | false => exact absurd (bl_total hxy h) (hx x (by simp))
      simp only [mg, h1, if_true]
      cases ys with
      | nil => simp [mg]
      | cons z zs =>
        have h2 := bl_asymm (hy z (by simp))
        simp [mg, h2]
theorem insP_mem {xs : List Intent} {y z : Intent} : z ∈ insP xs y ↔ z ∈ xs ∨ z = y := by
  induction xs with
  | nil => simp [insP]
  | cons x xs ih =>
    unfold insP
    split
    · rw [List.mem_cons, ih, List.mem_cons]; grind
    · simp only [List.mem_cons]; grind
theorem insP_up {xs : List Intent} (y : Intent) (h : UpI xs) (hx : ∀ x ∈ xs, x.key ≠ y.key) : UpI (insP xs y) := by
  induction xs with
  | nil => simp [insP, UpI]
  | cons x xs ih =>
    have hc := List.pairwise_cons.mp h
    have ih' := ih hc.2 fun z hz => hx z (by simp [hz])
    unfold insP
    split
    · rename_i hxy
      refine List.pairwise_cons.mpr ⟨fun z hz => ?_, ih'⟩
      rcases insP_mem.mp hz with hz | rfl
      · exact hc.1 z hz
      · exact hxy
    · rename_i hxy
      have hxy : bl x.key y.key = false := by simpa using hxy
      have h1 : bl y.key x.key = true := by
        cases h : bl y.key x.key with
        | true => rfl
        | false => exact absurd (bl_total hxy h) (hx x (by simp))
      refine List.pairwise_cons.mpr ⟨fun z hz => ?_, h⟩
      rcases List.mem_cons.mp hz with rfl | hz
      · exact h1
      · exact bl_trans h1 (hc.1 z hz)
theorem insP_at : ∀ {xs : List Intent} {y : Intent} {i : Nat}, (∀ (j : Nat) (a : Intent), j < i → xs[j]? = some a → bl a.key y.key = true) → (∀ (j : Nat) (a : Intent), i ≤ j → xs[j]? = some a → bl a.key y.key = false) → i ≤ xs.length →
    insP xs y = xs.take i ++ y :: xs.drop i
  | [], y, i, _, _, h => by
    have : i = 0 := by simpa using h
    subst this; simp [insP]
  | x :: xs, y, 0, _, h2, _ => by
    have := h2 0 x (Nat.le_refl _) rfl
    simp [insP, this]
  | x :: xs, y, i + 1, h1, h2, h => by
    have h0 := h1 0 x (by omega) rfl
    have ih := insP_at (xs := xs) (y := y) (i := i) (fun j a hj ha => h1 (j + 1) a (by omega) (by simpa using ha)) (fun j a hj ha => h2 (j + 1) a (by omega) (by simpa using ha)) (by simpa using h)
    simp [insP, h0, ih]
theorem UpI.upK {l : List Intent} (h : UpI l) : UpK Intent.key l := by
  intro i j a b hij ha hb
  obtain ⟨h1, rfl⟩ := List.getElem?_eq_some_iff.mp ha
  obtain ⟨h2, rfl⟩ := List.getElem?_eq_some_iff.mp hb
  exact List.pairwise_iff_getElem.mp h i j h1 h2 hij
theorem rising_up {α : Type} {key : α → Txt} {ok : Option α → α → Bool} (hok : ∀ q x, ok (some q) x = true → bl (key q) (key x) = true) : ∀ (l : List α) (p : Option α), rising ok p l = true → l.Pairwise fun a b => bl (key a) (key b) = true
  | [], _, _ => List.Pairwise.nil
  | x :: l, p, h => by
    simp only [rising, Bool.and_eq_true] at h
    have ih := rising_up hok l (some x) h.2
    refine List.pairwise_cons.mpr ⟨fun z hz => ?_, ih⟩
    cases l with
    | nil => cases hz
    | cons y r =>
      have h1 : bl (key x) (key y) = true := hok x y (by simp only [rising, Bool.and_eq_true] at h; exact h.2.1)
      rcases List.mem_cons.mp hz with rfl | hz
      · exact h1
      · exact bl_trans h1 ((List.pairwise_cons.mp ih).1 z hz)
theorem mayT_up {t : Table} (h : mayT t = true) : UpI t.ints := by
  simp only [mayT, Bool.and_eq_true] at h
  refine rising_up (key := Intent.key) (fun q x hq => ?_) t.ints none h.2
  simp only [intR, intOk, Bool.and_eq_true] at hq
  exact hq.1.2
theorem callS_up {c : Call} (h : callS c = true) : c.keys.Pairwise fun a b => bl a b = true := by
  simp only [callS, Bool.and_eq_true] at h
  refine rising_up (key := id) (fun q x hq => ?_) c.keys none h.2
  simp only [keyOk2, Bool.and_eq_true] at hq
  exact hq.2
theorem callS_len {c : Call} (h : callS c = true) : ∀ k ∈ c.keys, k.length ≤ 64 := fun k hk => by
  simp only [callS, Bool.and_eq_true] at h
  obtain ⟨q, hq⟩ := rising_mem h.2 k hk
  simp only [keyOk2, Bool.and_eq_true, decide_eq_true_eq] at hq
  exact hq.1
theorem ins_all : ∀ (ys xs : List Intent), UpI ys → (∀ y ∈ ys, ∀ x ∈ xs, x.key ≠ y.key) → ys.foldl insP xs = mg ys xs
  | [], xs, _, _ => by simp [mg]
  | y :: ys, xs, hu, hd => by
    have hc := List.pairwise_cons.mp hu
    rw [List.foldl_cons, ins_all ys (insP xs y) hc.2 fun z hz x hx => ?_, mg_ins xs ys y hc.1 fun x hx => hd y (by simp) x hx]
    rcases insP_mem.mp hx with hx | rfl
    · exact hd z (by simp [hz]) x hx
    · intro e
      have := hc.1 z hz
      rw [e, bl_irrefl] at this; cases this
end Go.Proofs.Ythibbbfhkfebkaa
/- Keys are about to turn: the program. No statement of the seat is proved here. -/
namespace Go.Proofs.Ythibbbfhkfebkaa
open Go Go.VI
set_option linter.unusedSimpArgs false
theorem put_cells (l : List Intent) (y : Intent) (p : Nat) : (l.map intC).take p ++ [intC y] ++ (l.map intC).drop p = (l.take p ++ y :: l.drop p).map intC := by simp
structure R4 (q : Nat) (A B C E : Row) (M : Mem) : Prop where
  a : M.get q = some A
  b : M.get (q + 1) = some B
  c : M.get (q + 1 + 1) = some C
  e : M.get (q + 1 + 1 + 1) = some E
  n : q + 1 + 1 + 1 < M.next
theorem R4.of_push (s : Mem) (A B C E : Row) : R4 s.next A B C E ((((s.push A).push B).push C).push E) := ⟨by
  simp only [Mem.get_push, next_push']; rw [if_neg (by omega), if_neg (by omega), if_neg (by omega), if_pos trivial], by
  simp only [Mem.get_push, next_push']; rw [if_neg (by omega), if_neg (by omega), if_pos trivial], by
  simp only [Mem.get_push, next_push']; rw [if_neg (by omega), if_pos trivial], by
  simp only [Mem.get_push, next_push']; rw [if_pos trivial], by simp only [next_push']; omega⟩
theorem R4.then {q : Nat} {A B C E : Row} {M N : Mem} (h : R4 q A B C E M) (k : Keep M.next M N) : R4 q A B C E N := by
  have := h.n
  exact ⟨by rw [k.get _ (by omega)]; exact h.a, by rw [k.get _ (by omega)]; exact h.b, by rw [k.get _ (by omega)]; exact h.c, by rw [k.get _ (by omega)]; exact h.e, Nat.lt_of_lt_of_le h.n k.next⟩
theorem R4.then' {q b : Nat} {A B C E : Row} {M N : Mem} (h : R4 q A B C E M) (k : Keep b M N) (hb : q + 1 + 1 + 1 < b) : R4 q A B C E N := by
  have := h.n
  exact ⟨by rw [k.get _ (by omega)]; exact h.a, by rw [k.get _ (by omega)]; exact h.b, by rw [k.get _ (by omega)]; exact h.c, by rw [k.get _ (by omega)]; exact h.e, Nat.lt_of_lt_of_le h.n k.next⟩
theorem R4.put {q : Nat} {A B C E : Row} {M : Mem} (h : R4 q A B C E M) (A' : Row) : R4 q A' B C E (M.put q (some A')) :=
  ⟨by rw [Mem.get_put, if_pos rfl], by rw [Mem.get_put, if_neg (by omega)]; exact h.b, by rw [Mem.get_put, if_neg (by omega)]; exact h.c, by rw [Mem.get_put, if_neg (by omega)]; exact h.e, h.n⟩
theorem ins_run {ty sz bytes : Nat} {vv : AV} {xs ys : List (List AV)} {i p b : Nat} {M : Mem} (hf : M.floor ≤ b) (hb : b ≤ M.next) (ho : OwnL M b vv ty sz xs) (hi : i ≤ xs.length) (hp : M.get p = some ⟨ty, sz, ys⟩) (hm : 0 < ys.length) (hne : ∀ n, vv ≠ .own p 0 n sz) (hr : roomOk (xs.length + ys.length) bytes = true) :
    ∃ v' s', insA ty sz bytes [vv, .int .i64 i, .own p 0 ys.length sz] M = some (v', s') ∧ OwnL s' b v' ty sz (xs.take i ++ ys ++ xs.drop i) ∧ Keep b M s' := by
  have t1 : toNat? (i : Int) = some i := by simp [toNat?]
  rcases ho with ⟨h, e⟩ | ⟨q, rfl, h1, h2, h3, h4⟩
  · subst e
    have i0 : i = 0 := by simpa using hi
    subst i0
    have hr' : roomOk ys.length bytes = true := by simpa using hr
    refine ⟨.own M.next 0 ys.length sz, M.push ⟨ty, sz, ys⟩, ?_, ?_, Keep.push hb _⟩
    · rcases h with rfl | rfl <;> simp [insA, toNat?, hp, hm, hr']
    · simpa using OwnL.of_push (ty := ty) (sz := sz) (xs := ys) hf hb
  · have hqp : p ≠ q := fun h => hne _ (by rw [h])
    refine ⟨.own M.next 0 (xs.length + ys.length) sz, (M.put q none).push ⟨ty, sz, xs.take i ++ ys ++ xs.drop i⟩, ?_, ?_, (Keep.put h3 _).trans (Keep.push (by rw [next_put']; exact hb) _)⟩
    · have e2 : xs.take xs.length = xs := List.take_length
      simp [insA, t1, hp, h1, e2, hi, hm, hqp, h2, hr]
    · have hl : (xs.take i ++ ys ++ xs.drop i).length = xs.length + ys.length := by simp; omega
      have := OwnL.of_push (s := M.put q none) (b := b) (ty := ty) (sz := sz) (xs := xs.take i ++ ys ++ xs.drop i) hf hb
      rw [hl] at this
      exact this
theorem key_at {kv : AV} {l : List Txt} (hk : isSl kv (l.map txtC)) {i : Nat} {x : Txt} (hx : l[i]? = some x) : ∀ j, atA 1 kv (.int j (i : Int)) = some (.ref [.str x]) := fun j => by
  rcases hk with ⟨_, h⟩ | rfl
  · have : l = [] := by simpa using h
    rw [this] at hx; simp at hx
  · exact isSl.at_ (.inr rfl) (xs := l.map txtC) (c := txtC x) (by rw [List.getElem?_map, hx]; rfl) rfl
theorem insP_len (xs : List Intent) (y : Intent) : (insP xs y).length = xs.length + 1 := by
  induction xs with
  | nil => rfl
  | cons x xs ih =>
    unfold insP
    split
    · simp only [List.length_cons, ih]
    · simp only [List.length_cons]
theorem cur_ok {ys xs : List Intent} (hu : UpI ys) (hd : ∀ y ∈ ys, ∀ x ∈ xs, x.key ≠ y.key) (hx : UpI xs) : ∀ i, i ≤ ys.length → UpI ((ys.take i).foldl insP xs) ∧ (∀ z ∈ (ys.take i).foldl insP xs, z ∈ xs ∨ z ∈ ys.take i) ∧ ((ys.take i).foldl insP xs).length = xs.length + i
  | 0, _ => by simpa using hx
  | i + 1, h => by
    obtain ⟨h1, h2, h3⟩ := cur_ok hu hd hx i (by omega)
    obtain ⟨y, hy⟩ := get_of (l := ys) (i := i) (by omega)
    have e : ys.take (i + 1) = ys.take i ++ [y] := by rw [List.take_add_one, hy]; rfl
    rw [e, List.foldl_append]
    simp only [List.foldl_cons, List.foldl_nil]
    refine ⟨insP_up y h1 fun z hz => ?_, fun z hz => ?_, by rw [insP_len, h3]; omega⟩
    · rcases h2 z hz with hz | hz
      · exact hd y (List.mem_of_getElem? hy) z hz
      · obtain ⟨j, hj⟩ := List.mem_iff_getElem?.mp hz
        rw [List.getElem?_take] at hj
        split at hj
        · have := hu.upK j i z y (by assumption) hj hy
          intro e; rw [e, bl_irrefl] at this; cases this
        · cases hj
    · rcases insP_mem.mp hz with hz | rfl
      · rcases h2 z hz with hz | hz
        · exact .inl hz
        · exact .inr (List.mem_append_left _ hz)
      · exact .inr (List.mem_append_right _ (by simp))
theorem ref_has {t : Table} {key : Txt} {k : Call} {token : Int} (h : refE t key k token = 0) : ∀ x ∈ t.ints, x.key ≠ key := by
  have : hasI t key = false := by
    cases hh : hasI t key with
    | false => rfl
    | true =>
      exfalso
      unfold refE at h
      rw [hh] at h
      simp only [Bool.true_or, if_true] at h
      split at h <;> simp at h
  intro x hx e
  have h2 : hasI t key = true := List.any_eq_true.mpr ⟨x, hx, by simp [e]⟩
  rw [this] at h2; cases h2
def zeroT : Table := ⟨0, [], [], [], [], []⟩
def zeroW : TV := ⟨.nilS, .nilS, .nilS, .nilS, .nilS⟩
theorem zero_in (s : Mem) (D : Nat → Prop) : TabIn s D zeroW zeroT := ⟨Sl.nil _ _ _, Sl.nil _ _ _, Sl.nil _ _ _, Sl.nil _ _ _, Sl.nil _ _ _⟩
def withI (t : Table) (l : List Intent) : Table := ⟨t.now, t.spans, t.frozen, t.holds, t.marks, l⟩
def prepP (t : Table) (c q : Int) (k : Call) (token : Int) : Int × Table :=
  if (mayT t && callS k && idS c q && !decide (token = 0)) = false then (1, zeroT)
  else if theirsP t.ints c q ≠ [] then (if theirsP t.ints c q == k.keys then (0, t) else (9, zeroT))
  else match k.keys.find? fun key => !decide (refE t key k token = 0) with
    | some key => (refE t key k token, zeroT)
    | none => if t.holds.length + t.marks.length + t.ints.length + k.keys.length > 1024 then (2, zeroT) else (0, withI t (mg (k.keys.map (newI c q k token)) t.ints))
theorem OwnT.turn {S s' : Mem} {b m : Nat} {w : TV} {t : Table} {it : AV} {l : List Intent} (h : OwnT S b m w t) (hq : ∀ q, b ≤ q → q < m → s'.get q = S.get q) (hm : m ≤ s'.next) (ho : OwnL s' m it 46 6 (l.map intC)) : OwnT s' b m ⟨w.sp, w.fr, w.ho, w.ma, it⟩ (withI t l) :=
  ⟨h.sp.keep fun q g => hq q g.1 g.2, h.fr.keep fun q g => hq q g.1 g.2, h.ho.keep fun q g => hq q g.1 g.2, h.ma.keep fun q g => hq q g.1 g.2, ho, h.bm, hm⟩
theorem OwnT.put {S : Mem} {b m r : Nat} {w : TV} {t : Table} (h : OwnT S b m w t) (hr : r < b) (x : Option Row) : OwnT (S.put r x) b m w t := by
  have hb := h.bm
  have hq : ∀ q, b ≤ q → q < m → (S.put r x).get q = S.get q := fun q h1 h2 => by rw [Mem.get_put, if_neg (by omega)]
  refine OwnT.turn h hq h.mn ?_
  rcases h.it with e | ⟨p, a, b2, c, d, e⟩
  · exact .inl e
  · exact .inr ⟨p, a, by rw [Mem.get_put, if_neg (by omega)]; exact b2, c, d, e⟩
attribute [local irreducible] Ws Wp W C
set_option maxHeartbeats 4000000
theorem prepare_c {t : Table} {w : TV} {c q : Int} {k : Call} {kv : AV} {token : Int} {D : Nat → Prop} {s : Mem} {K : AV → Mem → Prop} (hf : s.floor ≤ s.next) (hI : In D s) (hw : TabIn s D w t) (hs : Small t) (hk : isSl kv (k.keys.map txtC)) (hkl : k.keys.length ≤ 40)
    (hK : ∀ w' s', Keep s.next s s' → TabIn s' (fun r => D r ∨ (s.next ≤ r ∧ r < s'.next)) w' (prepP t c q k token).2 → K (.tup [.agg (tabC (prepP t c q k token).2 w'), .int .i64 (prepP t c q k token).1]) s') : C tab 6 [.agg (tabC t w), .agg [.int .i64 c, .int .u64 q], .agg (callC kv k), .int .u64 token] s K := by
  refine C_enter (cf := cf6) rfl (Nat.le_of_ble_eq_true rfl) ?_
  simp only [cf6, oo, on, om, og, oc, ou, tabC, callC]
  have hkc : isCell kv = true := by rcases hk with ⟨rfl, _⟩ | rfl <;> rfl
  have hg : ∀ M w' T, Keep s.next s M → prepP t c q k token = (0, T) → TabIn M (fun r => s.next ≤ r ∧ r < M.next) w' T → K (.tup [.agg [.int .i64 T.now, w'.sp, w'.fr, w'.ho, w'.ma, w'.it], .int .i64 0]) M := fun M w' T hM h hT => by
    rw [h] at hK
    exact hK w' _ hM (hT.mono fun r hr => .inr hr)
  have hz : ∀ M e R, Keep s.next s M → prepP t c q k token = (e, zeroT) → K (.tup [.agg [.int .i64 0, .nilS, .nilS, .nilS, .nilS, .nilS], .int .i64 e]) (M.put (s.next + 1 + 1 + 1) R) := fun M e R hM h => by
    rw [h] at hK
    exact hK zeroW _ (hM.trans (Keep.put (by omega) _)) (zero_in _ _)
  have r0 := R4.of_push s ⟨27, 6, [[.int .i64 t.now, w.sp, w.fr, w.ho, w.ma, w.it]]⟩ ⟨30, 2, [[.int .i64 c, .int .u64 q]]⟩ ⟨33, 4, [[.int .i64 k.kind, kv, .int .u64 k.token, .int .i64 k.ttl]]⟩ ⟨27, 6, [[.int .i64 0, .nilS, .nilS, .nilS, .nilS, .nilS]]⟩
  have k0 := (pushes s ⟨27, 6, [[.int .i64 t.now, w.sp, w.fr, w.ho, w.ma, w.it]]⟩).then ((pushes _ ⟨30, 2, [[.int .i64 c, .int .u64 q]]⟩).then ((pushes _ ⟨33, 4, [[.int .i64 k.kind, kv, .int .u64 k.token, .int .i64 k.ttl]]⟩).then (pushes _ ⟨27, 6, [[.int .i64 0, .nilS, .nilS, .nilS, .nilS, .nilS]]⟩)))
  (repeat' (with_reducible first|refine w_1 ?_|refine w_2 ?_|refine w_3 ?_|refine w_4 ?_|refine w_5 ?_|refine w_6 ?_|refine w_7 ?_|(refine w_8 (fun hb=>?_) (fun hb=>?_)<;>(try simp only [Bool.not_eq_true',Bool.not_eq_false'] at hb)<;>try simp only [hb])|refine w_13 (fun hc=>(by (try simp only [Bool.and_eq_true] at hc);simp (maxDischargeDepth:=12) only [viz,↓reduceIte,Nat.reduceEqDiff,reduceCtorEq,Int.reduceEq,Int.reduceNeg,Nat.reduceAdd,Nat.reduceLeDiff,hw.sp.cell,hw.fr.cell,hw.ho.cell,hw.ma.cell,hw.it.cell,hkc,r0.a,cond_true,cond_false,hc];first|exact ⟨rfl,rfl⟩|exact rfl)) ?_|refine w_12 ?_|((try refine w_9 ?_);simp (maxDischargeDepth:=12) only [viz,↓reduceIte,Nat.reduceEqDiff,reduceCtorEq,Int.reduceEq,Int.reduceNeg,Nat.reduceAdd,Nat.reduceLeDiff,hw.sp.cell,hw.fr.cell,hw.ho.cell,hw.ma.cell,hw.it.cell,hkc,r0.a])))
  generalize (((s.push _).push _).push _).push _ = S0 at *
  refine check_c (D := D) (k0.ok hf) (hI.keep k0) (hw.keep fun r hr => k0.get r (hI r hr)) hs fun s1 h1 => ?_
  rw [tab_same]
  have r1 := r0.then h1
  have k1 := k0.then h1
  have f1 : s1.floor ≤ s.next + 1 + 1 + 1 := by rw [k1.floor]; omega
  have e1 : (mayT t && callS k && idS c q && !decide (token = 0)) = false → prepP t c q k token = (1, zeroT) := fun h => by unfold prepP; rw [if_pos h]
  (repeat' (with_reducible first|refine w_1 ?_|refine w_2 ?_|refine w_3 ?_|refine w_4 ?_|refine w_5 ?_|refine w_6 ?_|refine w_7 ?_|(refine w_8 (fun hb=>?_) (fun hb=>?_)<;>(try simp only [Bool.not_eq_true',Bool.not_eq_false'] at hb)<;>try simp only [hb])|refine w_13 (fun hc=>(by (try simp only [Bool.and_eq_true] at hc);simp (maxDischargeDepth:=12) only [viz,↓reduceIte,Nat.reduceEqDiff,reduceCtorEq,Int.reduceEq,Int.reduceNeg,Nat.reduceAdd,Nat.reduceLeDiff,r1.a,r1.b,r1.c,r1.e,f1,cond_true,cond_false,hc];first|exact ⟨rfl,rfl⟩|exact rfl)) ?_|refine w_12 ?_|((try refine w_9 ?_);simp (maxDischargeDepth:=12) only [viz,↓reduceIte,Nat.reduceEqDiff,reduceCtorEq,Int.reduceEq,Int.reduceNeg,Nat.reduceAdd,Nat.reduceLeDiff,r1.a,r1.b,r1.c,r1.e,f1])))
  all_goals first | exact hz _ _ _ k1 (e1 (by grind)) | skip
  refine checkCall_c (c := k) hk fun s2 h2 => ?_
  have r2 := r1.then h2
  have k2 := k1.then h2
  have f2 : s2.floor ≤ s.next + 1 + 1 + 1 := by rw [k2.floor]; omega
  (repeat' (with_reducible first|refine w_1 ?_|refine w_2 ?_|refine w_3 ?_|refine w_4 ?_|refine w_5 ?_|refine w_6 ?_|refine w_7 ?_|(refine w_8 (fun hb=>?_) (fun hb=>?_)<;>(try simp only [Bool.not_eq_true',Bool.not_eq_false'] at hb)<;>try simp only [hb])|refine w_13 (fun hc=>(by (try simp only [Bool.and_eq_true] at hc);simp (maxDischargeDepth:=12) only [viz,↓reduceIte,Nat.reduceEqDiff,reduceCtorEq,Int.reduceEq,Int.reduceNeg,Nat.reduceAdd,Nat.reduceLeDiff,r2.a,r2.b,r2.c,r2.e,f2,cond_true,cond_false,hc];first|exact ⟨rfl,rfl⟩|exact rfl)) ?_|refine w_12 ?_|((try refine w_9 ?_);simp (maxDischargeDepth:=12) only [viz,↓reduceIte,Nat.reduceEqDiff,reduceCtorEq,Int.reduceEq,Int.reduceNeg,Nat.reduceAdd,Nat.reduceLeDiff,r2.a,r2.b,r2.c,r2.e,f2])))
  all_goals first | exact hz _ _ _ k2 (e1 (by grind)) | skip
  refine id_c fun s3 h3 => ?_
  have r3 := r2.then h3
  have k3 := k2.then h3
  have f3 : s3.floor ≤ s.next + 1 + 1 + 1 := by rw [k3.floor]; omega
  (repeat' (with_reducible first|refine w_1 ?_|refine w_2 ?_|refine w_3 ?_|refine w_4 ?_|refine w_5 ?_|refine w_6 ?_|refine w_7 ?_|(refine w_8 (fun hb=>?_) (fun hb=>?_)<;>(try simp only [Bool.not_eq_true',Bool.not_eq_false'] at hb)<;>try simp only [hb])|refine w_13 (fun hc=>(by (try simp only [Bool.and_eq_true] at hc);simp (maxDischargeDepth:=12) only [viz,↓reduceIte,Nat.reduceEqDiff,reduceCtorEq,Int.reduceEq,Int.reduceNeg,Nat.reduceAdd,Nat.reduceLeDiff,r3.a,r3.b,r3.c,r3.e,f3,cond_true,cond_false,hc];first|exact ⟨rfl,rfl⟩|exact rfl)) ?_|refine w_12 ?_|((try refine w_9 ?_);simp (maxDischargeDepth:=12) only [viz,↓reduceIte,Nat.reduceEqDiff,reduceCtorEq,Int.reduceEq,Int.reduceNeg,Nat.reduceAdd,Nat.reduceLeDiff,r3.a,r3.b,r3.c,r3.e,f3])))
  all_goals first | exact hz _ _ _ k3 (e1 (by grind)) | skip
  have hok : (mayT t && callS k && idS c q && !decide (token = 0)) = true := by grind
  have hmay : mayT t = true := by grind
  have hcal : callS k = true := by grind
  have hup := mayT_up hmay
  have hfs : formS t.spans = true := by simp only [mayT] at hmay; grind
  have hff : formS t.frozen = true := by simp only [mayT] at hmay; grind
  refine own_c (D := D) (k3.ok hf) (hI.keep k3) (hw.keep fun r hr => k3.get r (hI r hr)) hs fun w1 m s4 h4 o4 => ?_
  have r4 := r3.then h4
  have k4 := k3.then h4
  have f4 : s4.floor ≤ s.next := by rw [k4.floor]; exact hf
  have n3 := k3.next
  have n3' := r3.n
  have n4 := h4.next
  have om := o4.mn
  have ob := o4.bm
  have w1t := o4.tab
  have o4' := o4.put (r := s.next) (by omega) (some ⟨27, 6, [[.int .i64 t.now, w1.sp, w1.fr, w1.ho, w1.ma, w1.it]]⟩)
  have r4' := r4.put ⟨27, 6, [[.int .i64 t.now, w1.sp, w1.fr, w1.ho, w1.ma, w1.it]]⟩
  have k4' : Keep s.next s (s4.put s.next (some ⟨27, 6, [[.int .i64 t.now, w1.sp, w1.fr, w1.ho, w1.ma, w1.it]]⟩)) := k4.trans (Keep.put (Nat.le_refl _) _)
  simp only [tabC]
  (repeat' (with_reducible first|refine w_1 ?_|refine w_2 ?_|refine w_3 ?_|refine w_4 ?_|refine w_5 ?_|refine w_6 ?_|refine w_7 ?_|(refine w_8 (fun hb=>?_) (fun hb=>?_)<;>(try simp only [Bool.not_eq_true',Bool.not_eq_false'] at hb)<;>try simp only [hb])|refine w_13 (fun hc=>(by (try simp only [Bool.and_eq_true] at hc);simp (maxDischargeDepth:=12) only [viz,↓reduceIte,Nat.reduceEqDiff,reduceCtorEq,Int.reduceEq,Int.reduceNeg,Nat.reduceAdd,Nat.reduceLeDiff,r4.a,r4.b,r4.c,r4.e,f4,w1t.sp.cell,w1t.fr.cell,w1t.ho.cell,w1t.ma.cell,w1t.it.cell,cond_true,cond_false,hc];first|exact ⟨rfl,rfl⟩|exact rfl)) ?_|refine w_12 ?_|((try refine w_9 ?_);simp (maxDischargeDepth:=12) only [viz,↓reduceIte,Nat.reduceEqDiff,reduceCtorEq,Int.reduceEq,Int.reduceNeg,Nat.reduceAdd,Nat.reduceLeDiff,r4.a,r4.b,r4.c,r4.e,f4,w1t.sp.cell,w1t.fr.cell,w1t.ho.cell,w1t.ma.cell,w1t.it.cell])))
  generalize hS4 : s4.put s.next _ = S4 at *
  have n4S : S4.next = s4.next := by rw [← hS4]; rfl
  have w1t := o4'.tab
  have I4 : In (fun q => s3.next ≤ q ∧ q < S4.next) S4 := fun q hq => hq.2
  refine theirs_c (t := t) (w := w1) (k4'.ok hf) I4 w1t (by have := hs.it; omega) fun v5 s5 h5 o5 => ?_
  have r5 := r4'.then h5
  have k5 := k4'.then h5
  have f5 : s5.floor ≤ s.next := by rw [k5.floor]; exact hf
  have ow5 := o4'.keep h5
  have hl5 : lenA false v5 = some (theirsP t.ints c q).length := by rw [o5.len, List.length_map]
  have e5 := o5.sl (D := fun q => S4.next ≤ q ∧ q < s5.next) (txt_cells _) fun r n h => o5.row r 0 n 1 h
  (repeat' (with_reducible first|refine w_1 ?_|refine w_2 ?_|refine w_3 ?_|refine w_4 ?_|refine w_5 ?_|refine w_6 ?_|refine w_7 ?_|(refine w_8 (fun hb=>?_) (fun hb=>?_)<;>(try simp only [Bool.not_eq_true',Bool.not_eq_false'] at hb)<;>try simp only [hb])|refine w_13 (fun hc=>(by (try simp only [Bool.and_eq_true] at hc);simp (maxDischargeDepth:=12) only [viz,↓reduceIte,Nat.reduceEqDiff,reduceCtorEq,Int.reduceEq,Int.reduceNeg,Nat.reduceAdd,Nat.reduceLeDiff,hl5,cond_true,cond_false,hc];first|exact ⟨rfl,rfl⟩|exact rfl)) ?_|refine w_12 ?_|((try refine w_9 ?_);simp (maxDischargeDepth:=12) only [viz,↓reduceIte,Nat.reduceEqDiff,reduceCtorEq,Int.reduceEq,Int.reduceNeg,Nat.reduceAdd,Nat.reduceLeDiff,hl5])))
  · have hne : theirsP t.ints c q ≠ [] := by
      intro h; rw [h] at hb; simp at hb
    have hkS : Sl s5 (fun q => S4.next ≤ q ∧ q < s5.next) kv 1 (k.keys.map txtC) := Sl.of_isSl hk (txt_cells _)
    (repeat' (with_reducible first|refine w_1 ?_|refine w_2 ?_|refine w_3 ?_|refine w_4 ?_|refine w_5 ?_|refine w_6 ?_|refine w_7 ?_|(refine w_8 (fun hb=>?_) (fun hb=>?_)<;>(try simp only [Bool.not_eq_true',Bool.not_eq_false'] at hb)<;>try simp only [hb])|refine w_13 (fun hc=>(by (try simp only [Bool.and_eq_true] at hc);simp (maxDischargeDepth:=12) only [viz,↓reduceIte,Nat.reduceEqDiff,reduceCtorEq,Int.reduceEq,Int.reduceNeg,Nat.reduceAdd,Nat.reduceLeDiff,r5.a,r5.b,r5.c,r5.e,cond_true,cond_false,hc];first|exact ⟨rfl,rfl⟩|exact rfl)) ?_|refine w_12 ?_|((try refine w_9 ?_);simp (maxDischargeDepth:=12) only [viz,↓reduceIte,Nat.reduceEqDiff,reduceCtorEq,Int.reduceEq,Int.reduceNeg,Nat.reduceAdd,Nat.reduceLeDiff,r5.a,r5.b,r5.c,r5.e])))
    refine equal_c (fun q hq => hq.2) e5 hkS (by have := theirs_len t.ints c q; have := hs.it; omega) ?_
    have f5' : s5.floor ≤ s.next + 1 + 1 + 1 := by omega
    (repeat' (with_reducible first|refine w_1 ?_|refine w_2 ?_|refine w_3 ?_|refine w_4 ?_|refine w_5 ?_|refine w_6 ?_|refine w_7 ?_|(refine w_8 (fun hb=>?_) (fun hb=>?_)<;>(try simp only [Bool.not_eq_true',Bool.not_eq_false'] at hb)<;>try simp only [hb])|refine w_13 (fun hc=>(by (try simp only [Bool.and_eq_true] at hc);simp (maxDischargeDepth:=12) only [viz,↓reduceIte,Nat.reduceEqDiff,reduceCtorEq,Int.reduceEq,Int.reduceNeg,Nat.reduceAdd,Nat.reduceLeDiff,r5.a,r5.b,r5.c,r5.e,f5',w1t.sp.cell,w1t.fr.cell,w1t.ho.cell,w1t.ma.cell,w1t.it.cell,cond_true,cond_false,hc];first|exact ⟨rfl,rfl⟩|exact rfl)) ?_|refine w_12 ?_|((try refine w_9 ?_);simp (maxDischargeDepth:=12) only [viz,↓reduceIte,Nat.reduceEqDiff,reduceCtorEq,Int.reduceEq,Int.reduceNeg,Nat.reduceAdd,Nat.reduceLeDiff,r5.a,r5.b,r5.c,r5.e,f5',w1t.sp.cell,w1t.fr.cell,w1t.ho.cell,w1t.ma.cell,w1t.it.cell])))
    · refine hg _ w1 t (k5.trans (Keep.put (by omega) _)) ?_ ((ow5.put (r := s.next + 1 + 1 + 1) (by omega) _).tab.mono fun r hr => ⟨by omega, hr.2⟩)
      unfold prepP
      rw [if_neg (by rw [hok]; simp), if_pos hne, if_pos hb]
    · refine hz _ _ _ k5 ?_
      unfold prepP
      rw [if_neg (by rw [hok]; simp), if_pos hne, if_neg (by rw [hb]; simp)]
  have hne : theirsP t.ints c q = [] := by
    cases h : theirsP t.ints c q with
    | nil => rfl
    | cons a b => rw [h] at hb; simp at hb
  have hlk : lenA false kv = some k.keys.length := (Sl.of_isSl (s := s) (D := D) hk (txt_cells _)).lenB
  (repeat' (with_reducible first|refine w_1 ?_|refine w_2 ?_|refine w_3 ?_|refine w_4 ?_|refine w_5 ?_|refine w_6 ?_|refine w_7 ?_|(refine w_8 (fun hb=>?_) (fun hb=>?_)<;>(try simp only [Bool.not_eq_true',Bool.not_eq_false'] at hb)<;>try simp only [hb])|refine w_13 (fun hc=>(by (try simp only [Bool.and_eq_true] at hc);simp (maxDischargeDepth:=12) only [viz,↓reduceIte,Nat.reduceEqDiff,reduceCtorEq,Int.reduceEq,Int.reduceNeg,Nat.reduceAdd,Nat.reduceLeDiff,r5.a,r5.b,r5.c,r5.e,hlk,cond_true,cond_false,hc];first|exact ⟨rfl,rfl⟩|exact rfl)) ?_|refine w_12 ?_|((try refine w_9 ?_);simp (maxDischargeDepth:=12) only [viz,↓reduceIte,Nat.reduceEqDiff,reduceCtorEq,Int.reduceEq,Int.reduceNeg,Nat.reduceAdd,Nat.reduceLeDiff,r5.a,r5.b,r5.c,r5.e,hlk])))
  refine W_inv k.keys.length (fun i E s' => Keep s5.next s5 s' ∧ E.get 3 = .int .u64 token ∧ E.get 4 = .ptr s.next 0 0 ∧ E.get 5 = .ptr (s.next + 1) 0 0 ∧ E.get 6 = .ptr (s.next + 1 + 1) 0 0 ∧ E.get 8 = .ptr (s.next + 1 + 1 + 1) 0 0 ∧ E.get 51 = kv ∧ E.get 52 = .int .i64 k.keys.length ∧ E.get 53 = .int .i64 i ∧ ∀ j key, j < i → k.keys[j]? = some key → (!decide (refE t key k token = 0)) = false) (by delta cf6l0 oo on om og oc ou; exact rfl) ?_ ?_
  · (repeat' (with_reducible first|refine w_1 ?_|refine w_2 ?_|refine w_3 ?_|refine w_4 ?_|refine w_5 ?_|refine w_6 ?_|refine w_7 ?_|(refine w_8 (fun hb=>?_) (fun hb=>?_)<;>(try simp only [Bool.not_eq_true',Bool.not_eq_false'] at hb)<;>try simp only [hb])|refine w_13 (fun hc=>(by (try simp only [Bool.and_eq_true] at hc);simp (maxDischargeDepth:=12) only [viz,↓reduceIte,Nat.reduceEqDiff,reduceCtorEq,Int.reduceEq,Int.reduceNeg,Nat.reduceAdd,Nat.reduceLeDiff,cond_true,cond_false,hc];first|exact ⟨rfl,rfl⟩|exact rfl)) ?_|refine w_12 ?_|((try refine w_9 ?_);simp (maxDischargeDepth:=12) only [viz,↓reduceIte,Nat.reduceEqDiff,reduceCtorEq,Int.reduceEq,Int.reduceNeg,Nat.reduceAdd,Nat.reduceLeDiff])))
    exact ⟨rfl, by omega⟩
  rintro i E s6 hile _ ⟨h6, g3, g4, g5, g6, g8, g51, g52, g53, hno⟩
  have r6 := r5.then h6
  have k6 := k5.then h6
  have ow6 := ow5.keep h6
  have w6t := ow6.tab
  have f6 : s6.floor ≤ s.next + 1 + 1 + 1 := by rw [k6.floor]; omega
  by_cases hlt : i < k.keys.length
  · obtain ⟨key, hkey⟩ := get_of hlt
    have hp := key_at hk hkey
    (repeat' (with_reducible first|refine w_1 ?_|refine w_2 ?_|refine w_3 ?_|refine w_4 ?_|refine w_5 ?_|refine w_6 ?_|refine w_7 ?_|(refine w_8 (fun hb=>?_) (fun hb=>?_)<;>(try simp only [Bool.not_eq_true',Bool.not_eq_false'] at hb)<;>try simp only [hb])|refine w_13 (fun hc=>(by (try simp only [Bool.and_eq_true] at hc);simp (maxDischargeDepth:=12) only [viz,↓reduceIte,Nat.reduceEqDiff,reduceCtorEq,Int.reduceEq,Int.reduceNeg,Nat.reduceAdd,Nat.reduceLeDiff,g3,g4,g5,g6,g8,g51,g52,g53,lt_true hlt,hp,r6.a,r6.b,r6.c,cond_true,cond_false,hc];first|exact ⟨rfl,rfl⟩|exact rfl)) ?_|refine w_12 ?_|((try refine w_9 ?_);simp (maxDischargeDepth:=12) only [viz,↓reduceIte,Nat.reduceEqDiff,reduceCtorEq,Int.reduceEq,Int.reduceNeg,Nat.reduceAdd,Nat.reduceLeDiff,g3,g4,g5,g6,g8,g51,g52,g53,lt_true hlt,hp,r6.a,r6.b,r6.c])))
    refine refused_c (t := t) (w := w1) (c := k) (D := fun q => s3.next ≤ q ∧ q < s6.next) (k6.ok hf) (fun q hq => hq.2) w6t hs hup.upK hkc (callS_len hcal key (List.mem_of_getElem? hkey)) hfs hff fun s7 h7 => ?_
    have r7 := r6.then h7
    have k7 := k6.then h7
    have f7 : s7.floor ≤ s.next + 1 + 1 + 1 := by rw [k7.floor]; omega
    (repeat' (with_reducible first|refine w_1 ?_|refine w_2 ?_|refine w_3 ?_|refine w_4 ?_|refine w_5 ?_|refine w_6 ?_|refine w_7 ?_|(refine w_8 (fun hb=>?_) (fun hb=>?_)<;>(try simp only [Bool.not_eq_true',Bool.not_eq_false'] at hb)<;>try simp only [hb])|refine w_13 (fun hc=>(by (try simp only [Bool.and_eq_true] at hc);simp (maxDischargeDepth:=12) only [viz,↓reduceIte,Nat.reduceEqDiff,reduceCtorEq,Int.reduceEq,Int.reduceNeg,Nat.reduceAdd,Nat.reduceLeDiff,g3,g4,g5,g6,g8,g51,g52,g53,r7.e,f7,cond_true,cond_false,hc];first|exact ⟨rfl,rfl⟩|exact rfl)) ?_|refine w_12 ?_|((try refine w_9 ?_);simp (maxDischargeDepth:=12) only [viz,↓reduceIte,Nat.reduceEqDiff,reduceCtorEq,Int.reduceEq,Int.reduceNeg,Nat.reduceAdd,Nat.reduceLeDiff,g3,g4,g5,g6,g8,g51,g52,g53,r7.e,f7])))
    · refine hz _ _ _ k7 ?_
      have hr : (!decide (refE t key k token = 0)) = true := by simpa using hb
      unfold prepP
      rw [if_neg (by rw [hok]; simp), if_neg (by simp [hne]), find_at (p := fun key => !decide (refE t key k token = 0)) hkey hr hno]
    · refine ⟨hlt, h6.then h7, succ_av (by omega), fun j y hj hy => ?_⟩
      by_cases hji : j = i
      · rw [hji, hkey] at hy; obtain rfl := Option.some.inj hy; simpa using hb
      · exact hno j y (by omega) hy
  · have hnone := find_no (l := k.keys) (p := fun key => !decide (refE t key k token = 0)) fun j x hj => hno j x (by omega)
    have hlh : lenA false w1.ho = some t.holds.length := w6t.ho.lenB
    have hlm : lenA false w1.ma = some t.marks.length := w6t.ma.lenB
    have hli : lenA false w1.it = some t.ints.length := w6t.it.lenB
    have hroom : decide (IntKind.i64.wrap (IntKind.i64.wrap (IntKind.i64.wrap ((t.holds.length : Int) + t.marks.length) + t.ints.length) + k.keys.length) > 1024) = decide (t.holds.length + t.marks.length + t.ints.length + k.keys.length > 1024) := by
      have := hs.ho
      have := hs.ma
      have := hs.it
      rw [wrap_i64 (x := (t.holds.length : Int) + t.marks.length) (by omega), wrap_i64 (x := (t.holds.length : Int) + t.marks.length + t.ints.length) (by omega), wrap_i64 (x := (t.holds.length : Int) + t.marks.length + t.ints.length + k.keys.length) (by omega)]
      by_cases h : t.holds.length + t.marks.length + t.ints.length + k.keys.length > 1024
      · simp [h]; omega
      · simp [h]; omega
    have hsame : ∀ j key, k.keys[j]? = some key → refE t key k token = 0 := fun j key hj => by
      have := hno j key (by have := (List.getElem?_eq_some_iff.mp hj).1; omega) hj
      simpa using this
    have hups : UpI (k.keys.map (newI c q k token)) := by
      refine List.pairwise_map.mpr ((callS_up hcal).imp fun {a b} h => ?_)
      exact h
    have hd : ∀ y ∈ k.keys.map (newI c q k token), ∀ x ∈ t.ints, x.key ≠ y.key := fun y hy x hx => by
      obtain ⟨key, hkey, rfl⟩ := List.mem_map.mp hy
      obtain ⟨j, hj⟩ := List.mem_iff_getElem?.mp hkey
      exact ref_has (hsame j key hj) x hx
    have cur := cur_ok hups hd hup
    have hres : decide (t.holds.length + t.marks.length + t.ints.length + k.keys.length > 1024) = false → prepP t c q k token = (0, withI t ((k.keys.map (newI c q k token)).foldl insP t.ints)) := fun hrm => by
      unfold prepP
      rw [if_neg (by rw [hok]; simp), if_neg (by simp [hne]), hnone, ins_all _ _ hups hd]
      simp only
      rw [if_neg (by simpa using hrm)]
    have ln : (k.keys.map (newI c q k token)).length = k.keys.length := List.length_map ..
    have done : decide (t.holds.length + t.marks.length + t.ints.length + k.keys.length > 1024) = false → ∀ s' w', Keep s.next s s' → OwnT s' s3.next m w' (withI t ((k.keys.map (newI c q k token)).foldl insP t.ints)) → ∀ R, K (.tup [.agg [.int .i64 t.now, w'.sp, w'.fr, w'.ho, w'.ma, w'.it], .int .i64 0]) (s'.put (s.next + 1 + 1 + 1) R) := fun hrm s' w' hk' ho R => by
      exact hg (s'.put (s.next + 1 + 1 + 1) R) w' (withI t ((k.keys.map (newI c q k token)).foldl insP t.ints)) (hk'.trans (Keep.put (by omega) _)) (hres hrm) ((ho.put (r := s.next + 1 + 1 + 1) (by omega) _).tab.mono fun r hr => ⟨by omega, hr.2⟩)
    (repeat' (with_reducible first|refine w_1 ?_|refine w_2 ?_|refine w_3 ?_|refine w_4 ?_|refine w_5 ?_|refine w_6 ?_|refine w_7 ?_|(refine w_8 (fun hb=>?_) (fun hb=>?_)<;>(try simp only [Bool.not_eq_true',Bool.not_eq_false'] at hb)<;>try simp only [hb])|refine w_13 (fun hc=>(by (try simp only [Bool.and_eq_true] at hc);simp (maxDischargeDepth:=12) only [viz,↓reduceIte,Nat.reduceEqDiff,reduceCtorEq,Int.reduceEq,Int.reduceNeg,Nat.reduceAdd,Nat.reduceLeDiff,g3,g4,g5,g6,g8,g51,g52,g53,lt_false hlt,r6.a,r6.b,r6.c,r6.e,f6,hlk,hlh,hlm,hli,hroom,cond_true,cond_false,hc];first|exact ⟨rfl,rfl⟩|exact rfl)) ?_|refine w_12 ?_|((try refine w_9 ?_);simp (maxDischargeDepth:=12) only [viz,↓reduceIte,Nat.reduceEqDiff,reduceCtorEq,Int.reduceEq,Int.reduceNeg,Nat.reduceAdd,Nat.reduceLeDiff,g3,g4,g5,g6,g8,g51,g52,g53,lt_false hlt,r6.a,r6.b,r6.c,r6.e,f6,hlk,hlh,hlm,hli,hroom])))
    · refine hz _ _ _ k6 ?_
      unfold prepP
      rw [if_neg (by rw [hok]; simp), if_neg (by simp [hne]), hnone]
      simp only
      rw [if_pos (of_decide_eq_true hb)]
    all_goals
      refine W_inv k.keys.length (fun i E s' => ∃ it, R4 s.next ⟨27, 6, [[.int .i64 t.now, w1.sp, w1.fr, w1.ho, w1.ma, it]]⟩ ⟨30, 2, [[.int .i64 c, .int .u64 q]]⟩ ⟨33, 4, [[.int .i64 k.kind, kv, .int .u64 k.token, .int .i64 k.ttl]]⟩ ⟨27, 6, [[.int .i64 0, .nilS, .nilS, .nilS, .nilS, .nilS]]⟩ s' ∧ OwnT s' s3.next m ⟨w1.sp, w1.fr, w1.ho, w1.ma, it⟩ (withI t (((k.keys.map (newI c q k token)).take i).foldl insP t.ints)) ∧ Keep s.next s s' ∧ E.get 3 = .int .u64 (if k.kind = 1 then token else k.token) ∧ E.get 4 = .ptr s.next 0 0 ∧ E.get 5 = .ptr (s.next + 1) 0 0 ∧ E.get 6 = .ptr (s.next + 1 + 1) 0 0 ∧ E.get 8 = .ptr (s.next + 1 + 1 + 1) 0 0 ∧ E.get 90 = kv ∧ E.get 91 = .int .i64 k.keys.length ∧ E.get 92 = .int .i64 i) (by delta cf6l1 oo on om og oc ou; exact rfl) ?_ ?_
      · refine ⟨w1.it, r6, ow6, k6, ?_, ?_, ?_, ?_, ?_, ?_, ?_, ?_⟩
        all_goals simp only [ev, Env.get_set, ↓reduceIte, Nat.reduceEqDiff, g3, g4, g5, g6, g8]
        all_goals first | rfl | (congr 1; grind) | skip
      rintro j E2 s8 hjle _ ⟨it, r8, o8, k8, q3, q4, q5, q6, q8, q90, q91, q92⟩
      have w8t := o8.tab
      have f8 : s8.floor ≤ s.next := by rw [k8.floor]; exact hf
      have f8' : s8.floor ≤ s.next + 1 + 1 + 1 := by omega
      by_cases hjl : j < k.keys.length
      · obtain ⟨key, hkey⟩ := get_of hjl
        have hp := key_at hk hkey
        (repeat' (with_reducible first|refine w_1 ?_|refine w_2 ?_|refine w_3 ?_|refine w_4 ?_|refine w_5 ?_|refine w_6 ?_|refine w_7 ?_|(refine w_8 (fun hb=>?_) (fun hb=>?_)<;>(try simp only [Bool.not_eq_true',Bool.not_eq_false'] at hb)<;>try simp only [hb])|refine w_13 (fun hc=>(by (try simp only [Bool.and_eq_true] at hc);simp (maxDischargeDepth:=12) only [viz,↓reduceIte,Nat.reduceEqDiff,reduceCtorEq,Int.reduceEq,Int.reduceNeg,Nat.reduceAdd,Nat.reduceLeDiff,q3,q4,q5,q6,q8,q90,q91,q92,lt_true hjl,hp,r8.a,r8.b,r8.c,cond_true,cond_false,hc];first|exact ⟨rfl,rfl⟩|exact rfl)) ?_|refine w_12 ?_|((try refine w_9 ?_);simp (maxDischargeDepth:=12) only [viz,↓reduceIte,Nat.reduceEqDiff,reduceCtorEq,Int.reduceEq,Int.reduceNeg,Nat.reduceAdd,Nat.reduceLeDiff,q3,q4,q5,q6,q8,q90,q91,q92,lt_true hjl,hp,r8.a,r8.b,r8.c])))
        obtain ⟨u1, u2, u3⟩ := cur j (by rw [ln]; exact hjle)
        have hy : (k.keys.map (newI c q k token))[j]? = some (newI c q k token key) := by rw [List.getElem?_map, hkey]; rfl
        have hlc := hs.it
        refine tfind_c (t := withI t (((k.keys.map (newI c q k token)).take j).foldl insP t.ints)) (w := ⟨w1.sp, w1.fr, w1.ho, w1.ma, it⟩) (D := fun q => s3.next ≤ q ∧ q < s8.next) (fun q hq => hq.2) w8t (by show (((k.keys.map (newI c q k token)).take j).foldl insP t.ints).length < 5000; rw [u3]; omega) u1.upK fun p s9 hpl h9 b1 b2 => ?_
        have r9 := r8.then h9
        have k9 := k8.then h9
        have o9 := o8.keep h9
        have f9 : s9.floor ≤ s.next := by rw [k9.floor]; exact hf
        have om9 := o9.mn
        (repeat' (with_reducible first|refine w_1 ?_|refine w_2 ?_|refine w_3 ?_|refine w_4 ?_|refine w_5 ?_|refine w_6 ?_|refine w_7 ?_|(refine w_8 (fun hb=>?_) (fun hb=>?_)<;>(try simp only [Bool.not_eq_true',Bool.not_eq_false'] at hb)<;>try simp only [hb])|refine w_13 (fun hc=>(by (try simp only [Bool.and_eq_true] at hc);simp (maxDischargeDepth:=12) only [viz,↓reduceIte,Nat.reduceEqDiff,reduceCtorEq,Int.reduceEq,Int.reduceNeg,Nat.reduceAdd,Nat.reduceLeDiff,q3,q4,q5,q6,q8,q90,q91,q92,r9.a,r9.b,r9.c,cond_true,cond_false,hc];first|exact ⟨rfl,rfl⟩|exact rfl)) ?_|refine w_12 ?_|((try refine w_9 ?_);simp (maxDischargeDepth:=12) only [viz,↓reduceIte,Nat.reduceEqDiff,reduceCtorEq,Int.reduceEq,Int.reduceNeg,Nat.reduceAdd,Nat.reduceLeDiff,q3,q4,q5,q6,q8,q90,q91,q92,r9.a,r9.b,r9.c])))
        have hR : R4 s.next ⟨27, 6, [[.int .i64 t.now, w1.sp, w1.fr, w1.ho, w1.ma, it]]⟩ ⟨30, 2, [[.int .i64 c, .int .u64 q]]⟩ ⟨33, 4, [[.int .i64 k.kind, kv, .int .u64 k.token, .int .i64 k.ttl]]⟩ ⟨27, 6, [[.int .i64 0, .nilS, .nilS, .nilS, .nilS, .nilS]]⟩ (s9.push ⟨46, 6, [intC (newI c q k token key)]⟩) := r9.then (pushes _ _)
        have hpl' : p ≤ (((k.keys.map (newI c q k token)).take j).foldl insP t.ints).length := hpl
        obtain ⟨v', s10, hins, ho10, k10⟩ := ins_run (bytes := 56) (M := s9.push ⟨46, 6, [intC (newI c q k token key)]⟩) (p := s9.next) (b := m) (ys := [intC (newI c q k token key)]) (i := p) (by rw [floor_push', k9.floor]; omega) (by rw [next_push']; omega) (o9.it.push _) (by rw [List.length_map]; exact hpl') (by rw [Mem.get_push, if_pos rfl]) (by simp) (fun n e => by have := (o9.it.row _ _ _ _ e).2; omega) (room (by rw [List.length_map]; show ((((k.keys.map (newI c q k token)).take j).foldl insP t.ints).length + 1) * 56 ≤ _; rw [u3]; omega) (by rw [List.length_map]; show (((k.keys.map (newI c q k token)).take j).foldl insP t.ints).length + 1 ≤ _; rw [u3]; omega))
        refine C_prim (p := .ins 46 6 56) (cf := cf20) rfl rfl (fun _ h => by cases h) rfl hins ?_
        have rA := hR.then' k10 (by omega)
        have f10 : s10.floor ≤ s.next := by rw [k10.floor, floor_push']; exact f9
        have c10 : isCell v' = true := (ho10.sl (D := fun _ => True) (by rw [put_cells]; exact int_cells _) fun _ _ _ => trivial).cell
        (repeat' (with_reducible first|refine w_1 ?_|refine w_2 ?_|refine w_3 ?_|refine w_4 ?_|refine w_5 ?_|refine w_6 ?_|refine w_7 ?_|(refine w_8 (fun hb=>?_) (fun hb=>?_)<;>(try simp only [Bool.not_eq_true',Bool.not_eq_false'] at hb)<;>try simp only [hb])|refine w_13 (fun hc=>(by (try simp only [Bool.and_eq_true] at hc);simp (maxDischargeDepth:=12) only [viz,↓reduceIte,Nat.reduceEqDiff,reduceCtorEq,Int.reduceEq,Int.reduceNeg,Nat.reduceAdd,Nat.reduceLeDiff,q3,q4,q5,q6,q8,q90,q91,q92,rA.a,f10,c10,cells_cell c10,cond_true,cond_false,hc];first|exact ⟨rfl,rfl⟩|exact rfl)) ?_|refine w_12 ?_|((try refine w_9 ?_);simp (maxDischargeDepth:=12) only [viz,↓reduceIte,Nat.reduceEqDiff,reduceCtorEq,Int.reduceEq,Int.reduceNeg,Nat.reduceAdd,Nat.reduceLeDiff,q3,q4,q5,q6,q8,q90,q91,q92,rA.a,f10,c10,cells_cell c10])))
        have hk10 : Keep s.next s s10 := (k9.then (pushes _ _)).trans (k10.le (by omega))
        refine ⟨hjl, v', rA.put _, ?_, hk10.trans (Keep.put (Nat.le_refl _) _), succ_av (by omega)⟩
        have e : (k.keys.map (newI c q k token)).take (j + 1) = (k.keys.map (newI c q k token)).take j ++ [newI c q k token key] := by rw [List.take_add_one, hy]; rfl
        rw [e, List.foldl_append, List.foldl_cons, List.foldl_nil, insP_at b1 b2 hpl']
        rw [put_cells] at ho10
        have hn10 := k10.next
        rw [next_push'] at hn10
        refine OwnT.put (OwnT.turn o9 (fun r h1 h2 => ?_) (by omega) ho10) (by omega) _
        rw [k10.get r h2, Mem.get_push, if_neg (by omega)]
      · (repeat' (with_reducible first|refine w_1 ?_|refine w_2 ?_|refine w_3 ?_|refine w_4 ?_|refine w_5 ?_|refine w_6 ?_|refine w_7 ?_|(refine w_8 (fun hb=>?_) (fun hb=>?_)<;>(try simp only [Bool.not_eq_true',Bool.not_eq_false'] at hb)<;>try simp only [hb])|refine w_13 (fun hc=>(by (try simp only [Bool.and_eq_true] at hc);simp (maxDischargeDepth:=12) only [viz,↓reduceIte,Nat.reduceEqDiff,reduceCtorEq,Int.reduceEq,Int.reduceNeg,Nat.reduceAdd,Nat.reduceLeDiff,q3,q4,q5,q6,q8,q90,q91,q92,lt_false hjl,r8.a,r8.b,r8.c,r8.e,f8',w8t.sp.cell,w8t.fr.cell,w8t.ho.cell,w8t.ma.cell,w8t.it.cell,cond_true,cond_false,hc];first|exact ⟨rfl,rfl⟩|exact rfl)) ?_|refine w_12 ?_|((try refine w_9 ?_);simp (maxDischargeDepth:=12) only [viz,↓reduceIte,Nat.reduceEqDiff,reduceCtorEq,Int.reduceEq,Int.reduceNeg,Nat.reduceAdd,Nat.reduceLeDiff,q3,q4,q5,q6,q8,q90,q91,q92,lt_false hjl,r8.a,r8.b,r8.c,r8.e,f8',w8t.sp.cell,w8t.fr.cell,w8t.ho.cell,w8t.ma.cell,w8t.it.cell])))
        rw [List.take_of_length_le (by rw [ln]; omega)] at o8
        exact done (by assumption) s8 _ k8 o8 _
end Go.Proofs.Ythibbbfhkfebkaa
/- Keys are about to turn: the document. No statement of the seat is proved here. -/
namespace Go.Proofs.Ythibbbfhkfebkaa
open Go Go.VI
set_option linter.unusedSimpArgs false
attribute [local irreducible] Ws Wp W C
set_option maxHeartbeats 4000000
end Go.Proofs.Ythibbbfhkfebkaa
/- Tables alike. No statement of the seat is proved here. -/
namespace Go.Proofs.Ythibbbfhkfebkaa
open Go Go.VI
set_option linter.unusedSimpArgs false
attribute [local irreducible] Ws Wp W C
set_option maxHeartbeats 4000000
theorem speq_c (x : Span) : eqA (.st [.s, .s]) (.agg (spanC x)) (.agg (spanC x)) = some true := by
  simp [eqA, eqL, eqLf, spanC]
theorem spsame_c {l : List Span} {v w : AV} {D : Nat → Prop} {s : Mem} {K : AV → Mem → Prop} (hI : In D s) (hv : Spans s D v l) (hw : Spans s D w l) (hl : l.length < 1000000000)
    (hK : K (.bool true) s) : C tab 21 [v, w] s K := by
  refine C_enter (cf := cf21) rfl (Nat.le_of_ble_eq_true rfl) ?_
  simp only [cf21, oo, on, om, og, oc, ou]
  have hlv : lenA false v = some l.length := hv.lenB
  have hlw : lenA false w = some l.length := hw.lenB
  (repeat' (with_reducible first|refine w_1 ?_|refine w_2 ?_|refine w_3 ?_|refine w_4 ?_|refine w_5 ?_|refine w_6 ?_|refine w_7 ?_|(refine w_8 (fun hb=>?_) (fun hb=>?_)<;>(try simp only [Bool.not_eq_true',Bool.not_eq_false'] at hb)<;>try simp only [hb])|refine w_13 (fun hc=>(by (try simp only [Bool.and_eq_true] at hc);simp (maxDischargeDepth:=12) only [viz,↓reduceIte,Nat.reduceEqDiff,reduceCtorEq,Int.reduceEq,Int.reduceNeg,Nat.reduceAdd,Nat.reduceLeDiff,hlv,hlw,bne_self_eq_false, Int.reduceBEq, Int.reduceBNe, Int.reduceLT, Int.reduceLE, Int.reduceGT, Int.reduceGE,cond_true,cond_false,hc];first|exact ⟨rfl,rfl⟩|exact rfl)) ?_|refine w_12 ?_|((try refine w_9 ?_);simp (maxDischargeDepth:=12) only [viz,↓reduceIte,Nat.reduceEqDiff,reduceCtorEq,Int.reduceEq,Int.reduceNeg,Nat.reduceAdd,Nat.reduceLeDiff,hlv,hlw,bne_self_eq_false, Int.reduceBEq, Int.reduceBNe, Int.reduceLT, Int.reduceLE, Int.reduceGT, Int.reduceGE])))
  refine W_inv l.length (fun i E s' => s' = s ∧ E.get 0 = v ∧ E.get 1 = w ∧ E.get 5 = .int .i64 i) (by delta cf21l0 oo on om og oc ou; exact rfl) ?_ ?_
  · (repeat' (with_reducible first|refine w_1 ?_|refine w_2 ?_|refine w_3 ?_|refine w_4 ?_|refine w_5 ?_|refine w_6 ?_|refine w_7 ?_|(refine w_8 (fun hb=>?_) (fun hb=>?_)<;>(try simp only [Bool.not_eq_true',Bool.not_eq_false'] at hb)<;>try simp only [hb])|refine w_13 (fun hc=>(by (try simp only [Bool.and_eq_true] at hc);simp (maxDischargeDepth:=12) only [viz,↓reduceIte,Nat.reduceEqDiff,reduceCtorEq,Int.reduceEq,Int.reduceNeg,Nat.reduceAdd,Nat.reduceLeDiff,cond_true,cond_false,hc];first|exact ⟨rfl,rfl⟩|exact rfl)) ?_|refine w_12 ?_|((try refine w_9 ?_);simp (maxDischargeDepth:=12) only [viz,↓reduceIte,Nat.reduceEqDiff,reduceCtorEq,Int.reduceEq,Int.reduceNeg,Nat.reduceAdd,Nat.reduceLeDiff])))
    try rfl
  rintro i E s' hile _ ⟨rfl, g0, g1, g5⟩
  by_cases hlt : i < l.length
  · obtain ⟨x, hx⟩ := get_of hlt
    obtain ⟨p, hp, P, hld⟩ := hv.ldk hI hx rfl rfl
    obtain ⟨p2, hp2, P2, hld2⟩ := hw.ldk hI hx rfl rfl
    have l1 := hld _ (Keep.refl _ _)
    have l2 := hld2 _ (Keep.refl _ _)
    (repeat' (with_reducible first|refine w_1 ?_|refine w_2 ?_|refine w_3 ?_|refine w_4 ?_|refine w_5 ?_|refine w_6 ?_|refine w_7 ?_|(refine w_8 (fun hb=>?_) (fun hb=>?_)<;>(try simp only [Bool.not_eq_true',Bool.not_eq_false'] at hb)<;>try simp only [hb])|refine w_13 (fun hc=>(by (try simp only [Bool.and_eq_true] at hc);simp (maxDischargeDepth:=12) only [viz,↓reduceIte,Nat.reduceEqDiff,reduceCtorEq,Int.reduceEq,Int.reduceNeg,Nat.reduceAdd,Nat.reduceLeDiff,g0,g1,g5,hlv,lt_true hlt,hp,hp2,l1,l2,speq_c,cond_true,cond_false,hc];first|exact ⟨rfl,rfl⟩|exact rfl)) ?_|refine w_12 ?_|((try refine w_9 ?_);simp (maxDischargeDepth:=12) only [viz,↓reduceIte,Nat.reduceEqDiff,reduceCtorEq,Int.reduceEq,Int.reduceNeg,Nat.reduceAdd,Nat.reduceLeDiff,g0,g1,g5,hlv,lt_true hlt,hp,hp2,l1,l2,speq_c])))
    exact ⟨hlt, succ_av (by omega)⟩
  · (repeat' (with_reducible first|refine w_1 ?_|refine w_2 ?_|refine w_3 ?_|refine w_4 ?_|refine w_5 ?_|refine w_6 ?_|refine w_7 ?_|(refine w_8 (fun hb=>?_) (fun hb=>?_)<;>(try simp only [Bool.not_eq_true',Bool.not_eq_false'] at hb)<;>try simp only [hb])|refine w_13 (fun hc=>(by (try simp only [Bool.and_eq_true] at hc);simp (maxDischargeDepth:=12) only [viz,↓reduceIte,Nat.reduceEqDiff,reduceCtorEq,Int.reduceEq,Int.reduceNeg,Nat.reduceAdd,Nat.reduceLeDiff,g0,g1,g5,hlv,lt_false hlt,cond_true,cond_false,hc];first|exact ⟨rfl,rfl⟩|exact rfl)) ?_|refine w_12 ?_|((try refine w_9 ?_);simp (maxDischargeDepth:=12) only [viz,↓reduceIte,Nat.reduceEqDiff,reduceCtorEq,Int.reduceEq,Int.reduceNeg,Nat.reduceAdd,Nat.reduceLeDiff,g0,g1,g5,hlv,lt_false hlt])))
    exact hK
theorem hoeq_c (x : Hold) : eqA (.st [.s, .i, .i]) (.agg (holdC x)) (.agg (holdC x)) = some true := by
  simp [eqA, eqL, eqLf, holdC]
theorem hosame_c {l : List Hold} {v w : AV} {D : Nat → Prop} {s : Mem} {K : AV → Mem → Prop} (hI : In D s) (hv : Holds s D v l) (hw : Holds s D w l) (hl : l.length < 1000000000)
    (hK : K (.bool true) s) : C tab 9 [v, w] s K := by
  refine C_enter (cf := cf9) rfl (Nat.le_of_ble_eq_true rfl) ?_
  simp only [cf9, oo, on, om, og, oc, ou]
  have hlv : lenA false v = some l.length := hv.lenB
  have hlw : lenA false w = some l.length := hw.lenB
  (repeat' (with_reducible first|refine w_1 ?_|refine w_2 ?_|refine w_3 ?_|refine w_4 ?_|refine w_5 ?_|refine w_6 ?_|refine w_7 ?_|(refine w_8 (fun hb=>?_) (fun hb=>?_)<;>(try simp only [Bool.not_eq_true',Bool.not_eq_false'] at hb)<;>try simp only [hb])|refine w_13 (fun hc=>(by (try simp only [Bool.and_eq_true] at hc);simp (maxDischargeDepth:=12) only [viz,↓reduceIte,Nat.reduceEqDiff,reduceCtorEq,Int.reduceEq,Int.reduceNeg,Nat.reduceAdd,Nat.reduceLeDiff,hlv,hlw,bne_self_eq_false, Int.reduceBEq, Int.reduceBNe, Int.reduceLT, Int.reduceLE, Int.reduceGT, Int.reduceGE,cond_true,cond_false,hc];first|exact ⟨rfl,rfl⟩|exact rfl)) ?_|refine w_12 ?_|((try refine w_9 ?_);simp (maxDischargeDepth:=12) only [viz,↓reduceIte,Nat.reduceEqDiff,reduceCtorEq,Int.reduceEq,Int.reduceNeg,Nat.reduceAdd,Nat.reduceLeDiff,hlv,hlw,bne_self_eq_false, Int.reduceBEq, Int.reduceBNe, Int.reduceLT, Int.reduceLE, Int.reduceGT, Int.reduceGE])))
  refine W_inv l.length (fun i E s' => s' = s ∧ E.get 0 = v ∧ E.get 1 = w ∧ E.get 5 = .int .i64 i) (by delta cf9l0 oo on om og oc ou; exact rfl) ?_ ?_
  · (repeat' (with_reducible first|refine w_1 ?_|refine w_2 ?_|refine w_3 ?_|refine w_4 ?_|refine w_5 ?_|refine w_6 ?_|refine w_7 ?_|(refine w_8 (fun hb=>?_) (fun hb=>?_)<;>(try simp only [Bool.not_eq_true',Bool.not_eq_false'] at hb)<;>try simp only [hb])|refine w_13 (fun hc=>(by (try simp only [Bool.and_eq_true] at hc);simp (maxDischargeDepth:=12) only [viz,↓reduceIte,Nat.reduceEqDiff,reduceCtorEq,Int.reduceEq,Int.reduceNeg,Nat.reduceAdd,Nat.reduceLeDiff,cond_true,cond_false,hc];first|exact ⟨rfl,rfl⟩|exact rfl)) ?_|refine w_12 ?_|((try refine w_9 ?_);simp (maxDischargeDepth:=12) only [viz,↓reduceIte,Nat.reduceEqDiff,reduceCtorEq,Int.reduceEq,Int.reduceNeg,Nat.reduceAdd,Nat.reduceLeDiff])))
    try rfl
  rintro i E s' hile _ ⟨rfl, g0, g1, g5⟩
  by_cases hlt : i < l.length
  · obtain ⟨x, hx⟩ := get_of hlt
    obtain ⟨p, hp, P, hld⟩ := hv.ldk hI hx rfl rfl
    obtain ⟨p2, hp2, P2, hld2⟩ := hw.ldk hI hx rfl rfl
    have l1 := hld _ (Keep.refl _ _)
    have l2 := hld2 _ (Keep.refl _ _)
    (repeat' (with_reducible first|refine w_1 ?_|refine w_2 ?_|refine w_3 ?_|refine w_4 ?_|refine w_5 ?_|refine w_6 ?_|refine w_7 ?_|(refine w_8 (fun hb=>?_) (fun hb=>?_)<;>(try simp only [Bool.not_eq_true',Bool.not_eq_false'] at hb)<;>try simp only [hb])|refine w_13 (fun hc=>(by (try simp only [Bool.and_eq_true] at hc);simp (maxDischargeDepth:=12) only [viz,↓reduceIte,Nat.reduceEqDiff,reduceCtorEq,Int.reduceEq,Int.reduceNeg,Nat.reduceAdd,Nat.reduceLeDiff,g0,g1,g5,hlv,lt_true hlt,hp,hp2,l1,l2,hoeq_c,cond_true,cond_false,hc];first|exact ⟨rfl,rfl⟩|exact rfl)) ?_|refine w_12 ?_|((try refine w_9 ?_);simp (maxDischargeDepth:=12) only [viz,↓reduceIte,Nat.reduceEqDiff,reduceCtorEq,Int.reduceEq,Int.reduceNeg,Nat.reduceAdd,Nat.reduceLeDiff,g0,g1,g5,hlv,lt_true hlt,hp,hp2,l1,l2,hoeq_c])))
    exact ⟨hlt, succ_av (by omega)⟩
  · (repeat' (with_reducible first|refine w_1 ?_|refine w_2 ?_|refine w_3 ?_|refine w_4 ?_|refine w_5 ?_|refine w_6 ?_|refine w_7 ?_|(refine w_8 (fun hb=>?_) (fun hb=>?_)<;>(try simp only [Bool.not_eq_true',Bool.not_eq_false'] at hb)<;>try simp only [hb])|refine w_13 (fun hc=>(by (try simp only [Bool.and_eq_true] at hc);simp (maxDischargeDepth:=12) only [viz,↓reduceIte,Nat.reduceEqDiff,reduceCtorEq,Int.reduceEq,Int.reduceNeg,Nat.reduceAdd,Nat.reduceLeDiff,g0,g1,g5,hlv,lt_false hlt,cond_true,cond_false,hc];first|exact ⟨rfl,rfl⟩|exact rfl)) ?_|refine w_12 ?_|((try refine w_9 ?_);simp (maxDischargeDepth:=12) only [viz,↓reduceIte,Nat.reduceEqDiff,reduceCtorEq,Int.reduceEq,Int.reduceNeg,Nat.reduceAdd,Nat.reduceLeDiff,g0,g1,g5,hlv,lt_false hlt])))
    exact hK
theorem maeq_c (x : Mark) : eqA (.st [.s, .i]) (.agg (markC x)) (.agg (markC x)) = some true := by
  simp [eqA, eqL, eqLf, markC]
theorem masame_c {l : List Mark} {v w : AV} {D : Nat → Prop} {s : Mem} {K : AV → Mem → Prop} (hI : In D s) (hv : Marks s D v l) (hw : Marks s D w l) (hl : l.length < 1000000000)
    (hK : K (.bool true) s) : C tab 22 [v, w] s K := by
  refine C_enter (cf := cf22) rfl (Nat.le_of_ble_eq_true rfl) ?_
  simp only [cf22, oo, on, om, og, oc, ou]
  have hlv : lenA false v = some l.length := hv.lenB
  have hlw : lenA false w = some l.length := hw.lenB
  (repeat' (with_reducible first|refine w_1 ?_|refine w_2 ?_|refine w_3 ?_|refine w_4 ?_|refine w_5 ?_|refine w_6 ?_|refine w_7 ?_|(refine w_8 (fun hb=>?_) (fun hb=>?_)<;>(try simp only [Bool.not_eq_true',Bool.not_eq_false'] at hb)<;>try simp only [hb])|refine w_13 (fun hc=>(by (try simp only [Bool.and_eq_true] at hc);simp (maxDischargeDepth:=12) only [viz,↓reduceIte,Nat.reduceEqDiff,reduceCtorEq,Int.reduceEq,Int.reduceNeg,Nat.reduceAdd,Nat.reduceLeDiff,hlv,hlw,bne_self_eq_false, Int.reduceBEq, Int.reduceBNe, Int.reduceLT, Int.reduceLE, Int.reduceGT, Int.reduceGE,cond_true,cond_false,hc];first|exact ⟨rfl,rfl⟩|exact rfl)) ?_|refine w_12 ?_|((try refine w_9 ?_);simp (maxDischargeDepth:=12) only [viz,↓reduceIte,Nat.reduceEqDiff,reduceCtorEq,Int.reduceEq,Int.reduceNeg,Nat.reduceAdd,Nat.reduceLeDiff,hlv,hlw,bne_self_eq_false, Int.reduceBEq, Int.reduceBNe, Int.reduceLT, Int.reduceLE, Int.reduceGT, Int.reduceGE])))
  refine W_inv l.length (fun i E s' => s' = s ∧ E.get 0 = v ∧ E.get 1 = w ∧ E.get 5 = .int .i64 i) (by delta cf22l0 oo on om og oc ou; exact rfl) ?_ ?_
  · (repeat' (with_reducible first|refine w_1 ?_|refine w_2 ?_|refine w_3 ?_|refine w_4 ?_|refine w_5 ?_|refine w_6 ?_|refine w_7 ?_|(refine w_8 (fun hb=>?_) (fun hb=>?_)<;>(try simp only [Bool.not_eq_true',Bool.not_eq_false'] at hb)<;>try simp only [hb])|refine w_13 (fun hc=>(by (try simp only [Bool.and_eq_true] at hc);simp (maxDischargeDepth:=12) only [viz,↓reduceIte,Nat.reduceEqDiff,reduceCtorEq,Int.reduceEq,Int.reduceNeg,Nat.reduceAdd,Nat.reduceLeDiff,cond_true,cond_false,hc];first|exact ⟨rfl,rfl⟩|exact rfl)) ?_|refine w_12 ?_|((try refine w_9 ?_);simp (maxDischargeDepth:=12) only [viz,↓reduceIte,Nat.reduceEqDiff,reduceCtorEq,Int.reduceEq,Int.reduceNeg,Nat.reduceAdd,Nat.reduceLeDiff])))
    try rfl
  rintro i E s' hile _ ⟨rfl, g0, g1, g5⟩
  by_cases hlt : i < l.length
  · obtain ⟨x, hx⟩ := get_of hlt
    obtain ⟨p, hp, P, hld⟩ := hv.ldk hI hx rfl rfl
    obtain ⟨p2, hp2, P2, hld2⟩ := hw.ldk hI hx rfl rfl
    have l1 := hld _ (Keep.refl _ _)
    have l2 := hld2 _ (Keep.refl _ _)
    (repeat' (with_reducible first|refine w_1 ?_|refine w_2 ?_|refine w_3 ?_|refine w_4 ?_|refine w_5 ?_|refine w_6 ?_|refine w_7 ?_|(refine w_8 (fun hb=>?_) (fun hb=>?_)<;>(try simp only [Bool.not_eq_true',Bool.not_eq_false'] at hb)<;>try simp only [hb])|refine w_13 (fun hc=>(by (try simp only [Bool.and_eq_true] at hc);simp (maxDischargeDepth:=12) only [viz,↓reduceIte,Nat.reduceEqDiff,reduceCtorEq,Int.reduceEq,Int.reduceNeg,Nat.reduceAdd,Nat.reduceLeDiff,g0,g1,g5,hlv,lt_true hlt,hp,hp2,l1,l2,maeq_c,cond_true,cond_false,hc];first|exact ⟨rfl,rfl⟩|exact rfl)) ?_|refine w_12 ?_|((try refine w_9 ?_);simp (maxDischargeDepth:=12) only [viz,↓reduceIte,Nat.reduceEqDiff,reduceCtorEq,Int.reduceEq,Int.reduceNeg,Nat.reduceAdd,Nat.reduceLeDiff,g0,g1,g5,hlv,lt_true hlt,hp,hp2,l1,l2,maeq_c])))
    exact ⟨hlt, succ_av (by omega)⟩
  · (repeat' (with_reducible first|refine w_1 ?_|refine w_2 ?_|refine w_3 ?_|refine w_4 ?_|refine w_5 ?_|refine w_6 ?_|refine w_7 ?_|(refine w_8 (fun hb=>?_) (fun hb=>?_)<;>(try simp only [Bool.not_eq_true',Bool.not_eq_false'] at hb)<;>try simp only [hb])|refine w_13 (fun hc=>(by (try simp only [Bool.and_eq_true] at hc);simp (maxDischargeDepth:=12) only [viz,↓reduceIte,Nat.reduceEqDiff,reduceCtorEq,Int.reduceEq,Int.reduceNeg,Nat.reduceAdd,Nat.reduceLeDiff,g0,g1,g5,hlv,lt_false hlt,cond_true,cond_false,hc];first|exact ⟨rfl,rfl⟩|exact rfl)) ?_|refine w_12 ?_|((try refine w_9 ?_);simp (maxDischargeDepth:=12) only [viz,↓reduceIte,Nat.reduceEqDiff,reduceCtorEq,Int.reduceEq,Int.reduceNeg,Nat.reduceAdd,Nat.reduceLeDiff,g0,g1,g5,hlv,lt_false hlt])))
    exact hK
theorem iteq_c (x : Intent) : eqA (.st [.s, .i, .i, .i, .i, .i]) (.agg (intC x)) (.agg (intC x)) = some true := by
  simp [eqA, eqL, eqLf, intC]
theorem itsame_c {l : List Intent} {v w : AV} {D : Nat → Prop} {s : Mem} {K : AV → Mem → Prop} (hI : In D s) (hv : Ints s D v l) (hw : Ints s D w l) (hl : l.length < 1000000000)
    (hK : K (.bool true) s) : C tab 23 [v, w] s K := by
  refine C_enter (cf := cf23) rfl (Nat.le_of_ble_eq_true rfl) ?_
  simp only [cf23, oo, on, om, og, oc, ou]
  have hlv : lenA false v = some l.length := hv.lenB
  have hlw : lenA false w = some l.length := hw.lenB
  (repeat' (with_reducible first|refine w_1 ?_|refine w_2 ?_|refine w_3 ?_|refine w_4 ?_|refine w_5 ?_|refine w_6 ?_|refine w_7 ?_|(refine w_8 (fun hb=>?_) (fun hb=>?_)<;>(try simp only [Bool.not_eq_true',Bool.not_eq_false'] at hb)<;>try simp only [hb])|refine w_13 (fun hc=>(by (try simp only [Bool.and_eq_true] at hc);simp (maxDischargeDepth:=12) only [viz,↓reduceIte,Nat.reduceEqDiff,reduceCtorEq,Int.reduceEq,Int.reduceNeg,Nat.reduceAdd,Nat.reduceLeDiff,hlv,hlw,bne_self_eq_false, Int.reduceBEq, Int.reduceBNe, Int.reduceLT, Int.reduceLE, Int.reduceGT, Int.reduceGE,cond_true,cond_false,hc];first|exact ⟨rfl,rfl⟩|exact rfl)) ?_|refine w_12 ?_|((try refine w_9 ?_);simp (maxDischargeDepth:=12) only [viz,↓reduceIte,Nat.reduceEqDiff,reduceCtorEq,Int.reduceEq,Int.reduceNeg,Nat.reduceAdd,Nat.reduceLeDiff,hlv,hlw,bne_self_eq_false, Int.reduceBEq, Int.reduceBNe, Int.reduceLT, Int.reduceLE, Int.reduceGT, Int.reduceGE])))
  refine W_inv l.length (fun i E s' => s' = s ∧ E.get 0 = v ∧ E.get 1 = w ∧ E.get 5 = .int .i64 i) (by delta cf23l0 oo on om og oc ou; exact rfl) ?_ ?_
  · (repeat' (with_reducible first|refine w_1 ?_|refine w_2 ?_|refine w_3 ?_|refine w_4 ?_|refine w_5 ?_|refine w_6 ?_|refine w_7 ?_|(refine w_8 (fun hb=>?_) (fun hb=>?_)<;>(try simp only [Bool.not_eq_true',Bool.not_eq_false'] at hb)<;>try simp only [hb])|refine w_13 (fun hc=>(by (try simp only [Bool.and_eq_true] at hc);simp (maxDischargeDepth:=12) only [viz,↓reduceIte,Nat.reduceEqDiff,reduceCtorEq,Int.reduceEq,Int.reduceNeg,Nat.reduceAdd,Nat.reduceLeDiff,cond_true,cond_false,hc];first|exact ⟨rfl,rfl⟩|exact rfl)) ?_|refine w_12 ?_|((try refine w_9 ?_);simp (maxDischargeDepth:=12) only [viz,↓reduceIte,Nat.reduceEqDiff,reduceCtorEq,Int.reduceEq,Int.reduceNeg,Nat.reduceAdd,Nat.reduceLeDiff])))
    try rfl
  rintro i E s' hile _ ⟨rfl, g0, g1, g5⟩
  by_cases hlt : i < l.length
  · obtain ⟨x, hx⟩ := get_of hlt
    obtain ⟨p, hp, P, hld⟩ := hv.ldk hI hx rfl rfl
    obtain ⟨p2, hp2, P2, hld2⟩ := hw.ldk hI hx rfl rfl
    have l1 := hld _ (Keep.refl _ _)
    have l2 := hld2 _ (Keep.refl _ _)
    (repeat' (with_reducible first|refine w_1 ?_|refine w_2 ?_|refine w_3 ?_|refine w_4 ?_|refine w_5 ?_|refine w_6 ?_|refine w_7 ?_|(refine w_8 (fun hb=>?_) (fun hb=>?_)<;>(try simp only [Bool.not_eq_true',Bool.not_eq_false'] at hb)<;>try simp only [hb])|refine w_13 (fun hc=>(by (try simp only [Bool.and_eq_true] at hc);simp (maxDischargeDepth:=12) only [viz,↓reduceIte,Nat.reduceEqDiff,reduceCtorEq,Int.reduceEq,Int.reduceNeg,Nat.reduceAdd,Nat.reduceLeDiff,g0,g1,g5,hlv,lt_true hlt,hp,hp2,l1,l2,iteq_c,cond_true,cond_false,hc];first|exact ⟨rfl,rfl⟩|exact rfl)) ?_|refine w_12 ?_|((try refine w_9 ?_);simp (maxDischargeDepth:=12) only [viz,↓reduceIte,Nat.reduceEqDiff,reduceCtorEq,Int.reduceEq,Int.reduceNeg,Nat.reduceAdd,Nat.reduceLeDiff,g0,g1,g5,hlv,lt_true hlt,hp,hp2,l1,l2,iteq_c])))
    exact ⟨hlt, succ_av (by omega)⟩
  · (repeat' (with_reducible first|refine w_1 ?_|refine w_2 ?_|refine w_3 ?_|refine w_4 ?_|refine w_5 ?_|refine w_6 ?_|refine w_7 ?_|(refine w_8 (fun hb=>?_) (fun hb=>?_)<;>(try simp only [Bool.not_eq_true',Bool.not_eq_false'] at hb)<;>try simp only [hb])|refine w_13 (fun hc=>(by (try simp only [Bool.and_eq_true] at hc);simp (maxDischargeDepth:=12) only [viz,↓reduceIte,Nat.reduceEqDiff,reduceCtorEq,Int.reduceEq,Int.reduceNeg,Nat.reduceAdd,Nat.reduceLeDiff,g0,g1,g5,hlv,lt_false hlt,cond_true,cond_false,hc];first|exact ⟨rfl,rfl⟩|exact rfl)) ?_|refine w_12 ?_|((try refine w_9 ?_);simp (maxDischargeDepth:=12) only [viz,↓reduceIte,Nat.reduceEqDiff,reduceCtorEq,Int.reduceEq,Int.reduceNeg,Nat.reduceAdd,Nat.reduceLeDiff,g0,g1,g5,hlv,lt_false hlt])))
    exact hK
structure Small2 (t : Table) : Prop where
  sp : t.spans.length < 1000000000
  fr : t.frozen.length < 1000000000
  ho : t.holds.length < 1000000000
  ma : t.marks.length < 1000000000
  it : t.ints.length < 1000000000
theorem same_c {t : Table} {w u : TV} {D : Nat → Prop} {s : Mem} {K : AV → Mem → Prop} (hI : In D s) (hw : TabIn s D w t) (hu : TabIn s D u t) (hl : Small2 t)
    (hK : ∀ s', Keep s.next s s' → K (.bool true) s') : C tab 7 [.agg (tabC t w), .agg (tabC t u)] s K := by
  refine C_enter (cf := cf7) rfl (Nat.le_of_ble_eq_true rfl) ?_
  simp only [cf7, oo, on, om, og, oc, ou, tabC]
  have r0 := R2.of_push s ⟨27, 6, [[.int .i64 t.now, w.sp, w.fr, w.ho, w.ma, w.it]]⟩ ⟨27, 6, [[.int .i64 t.now, u.sp, u.fr, u.ho, u.ma, u.it]]⟩
  have k0 := (pushes s ⟨27, 6, [[.int .i64 t.now, w.sp, w.fr, w.ho, w.ma, w.it]]⟩).then (pushes _ ⟨27, 6, [[.int .i64 t.now, u.sp, u.fr, u.ho, u.ma, u.it]]⟩)
  (repeat' (with_reducible first|refine w_1 ?_|refine w_2 ?_|refine w_3 ?_|refine w_4 ?_|refine w_5 ?_|refine w_6 ?_|refine w_7 ?_|(refine w_8 (fun hb=>?_) (fun hb=>?_)<;>(try simp only [Bool.not_eq_true',Bool.not_eq_false'] at hb)<;>try simp only [hb])|refine w_13 (fun hc=>(by (try simp only [Bool.and_eq_true] at hc);simp (maxDischargeDepth:=12) only [viz,↓reduceIte,Nat.reduceEqDiff,reduceCtorEq,Int.reduceEq,Int.reduceNeg,Nat.reduceAdd,Nat.reduceLeDiff,hw.sp.cell,hw.fr.cell,hw.ho.cell,hw.ma.cell,hw.it.cell,hu.sp.cell,hu.fr.cell,hu.ho.cell,hu.ma.cell,hu.it.cell,cond_true,cond_false,hc];first|exact ⟨rfl,rfl⟩|exact rfl)) ?_|refine w_12 ?_|((try refine w_9 ?_);simp (maxDischargeDepth:=12) only [viz,↓reduceIte,Nat.reduceEqDiff,reduceCtorEq,Int.reduceEq,Int.reduceNeg,Nat.reduceAdd,Nat.reduceLeDiff,hw.sp.cell,hw.fr.cell,hw.ho.cell,hw.ma.cell,hw.it.cell,hu.sp.cell,hu.fr.cell,hu.ho.cell,hu.ma.cell,hu.it.cell])))
  generalize (s.push _).push _ = S0 at *
  have w0 := hw.keep fun r hr => k0.get r (hI r hr)
  have u0 := hu.keep fun r hr => k0.get r (hI r hr)
  have I0 := hI.keep k0
  refine spsame_c I0 w0.sp u0.sp hl.sp ?_
  (repeat' (with_reducible first|refine w_1 ?_|refine w_2 ?_|refine w_3 ?_|refine w_4 ?_|refine w_5 ?_|refine w_6 ?_|refine w_7 ?_|(refine w_8 (fun hb=>?_) (fun hb=>?_)<;>(try simp only [Bool.not_eq_true',Bool.not_eq_false'] at hb)<;>try simp only [hb])|refine w_13 (fun hc=>(by (try simp only [Bool.and_eq_true] at hc);simp (maxDischargeDepth:=12) only [viz,↓reduceIte,Nat.reduceEqDiff,reduceCtorEq,Int.reduceEq,Int.reduceNeg,Nat.reduceAdd,Nat.reduceLeDiff,r0.a,r0.b,cond_true,cond_false,hc];first|exact ⟨rfl,rfl⟩|exact rfl)) ?_|refine w_12 ?_|((try refine w_9 ?_);simp (maxDischargeDepth:=12) only [viz,↓reduceIte,Nat.reduceEqDiff,reduceCtorEq,Int.reduceEq,Int.reduceNeg,Nat.reduceAdd,Nat.reduceLeDiff,r0.a,r0.b])))
  refine spsame_c I0 w0.fr u0.fr hl.fr ?_
  (repeat' (with_reducible first|refine w_1 ?_|refine w_2 ?_|refine w_3 ?_|refine w_4 ?_|refine w_5 ?_|refine w_6 ?_|refine w_7 ?_|(refine w_8 (fun hb=>?_) (fun hb=>?_)<;>(try simp only [Bool.not_eq_true',Bool.not_eq_false'] at hb)<;>try simp only [hb])|refine w_13 (fun hc=>(by (try simp only [Bool.and_eq_true] at hc);simp (maxDischargeDepth:=12) only [viz,↓reduceIte,Nat.reduceEqDiff,reduceCtorEq,Int.reduceEq,Int.reduceNeg,Nat.reduceAdd,Nat.reduceLeDiff,r0.a,r0.b,cond_true,cond_false,hc];first|exact ⟨rfl,rfl⟩|exact rfl)) ?_|refine w_12 ?_|((try refine w_9 ?_);simp (maxDischargeDepth:=12) only [viz,↓reduceIte,Nat.reduceEqDiff,reduceCtorEq,Int.reduceEq,Int.reduceNeg,Nat.reduceAdd,Nat.reduceLeDiff,r0.a,r0.b])))
  refine hosame_c I0 w0.ho u0.ho hl.ho ?_
  (repeat' (with_reducible first|refine w_1 ?_|refine w_2 ?_|refine w_3 ?_|refine w_4 ?_|refine w_5 ?_|refine w_6 ?_|refine w_7 ?_|(refine w_8 (fun hb=>?_) (fun hb=>?_)<;>(try simp only [Bool.not_eq_true',Bool.not_eq_false'] at hb)<;>try simp only [hb])|refine w_13 (fun hc=>(by (try simp only [Bool.and_eq_true] at hc);simp (maxDischargeDepth:=12) only [viz,↓reduceIte,Nat.reduceEqDiff,reduceCtorEq,Int.reduceEq,Int.reduceNeg,Nat.reduceAdd,Nat.reduceLeDiff,r0.a,r0.b,cond_true,cond_false,hc];first|exact ⟨rfl,rfl⟩|exact rfl)) ?_|refine w_12 ?_|((try refine w_9 ?_);simp (maxDischargeDepth:=12) only [viz,↓reduceIte,Nat.reduceEqDiff,reduceCtorEq,Int.reduceEq,Int.reduceNeg,Nat.reduceAdd,Nat.reduceLeDiff,r0.a,r0.b])))
  refine masame_c I0 w0.ma u0.ma hl.ma ?_
  (repeat' (with_reducible first|refine w_1 ?_|refine w_2 ?_|refine w_3 ?_|refine w_4 ?_|refine w_5 ?_|refine w_6 ?_|refine w_7 ?_|(refine w_8 (fun hb=>?_) (fun hb=>?_)<;>(try simp only [Bool.not_eq_true',Bool.not_eq_false'] at hb)<;>try simp only [hb])|refine w_13 (fun hc=>(by (try simp only [Bool.and_eq_true] at hc);simp (maxDischargeDepth:=12) only [viz,↓reduceIte,Nat.reduceEqDiff,reduceCtorEq,Int.reduceEq,Int.reduceNeg,Nat.reduceAdd,Nat.reduceLeDiff,r0.a,r0.b,cond_true,cond_false,hc];first|exact ⟨rfl,rfl⟩|exact rfl)) ?_|refine w_12 ?_|((try refine w_9 ?_);simp (maxDischargeDepth:=12) only [viz,↓reduceIte,Nat.reduceEqDiff,reduceCtorEq,Int.reduceEq,Int.reduceNeg,Nat.reduceAdd,Nat.reduceLeDiff,r0.a,r0.b])))
  refine itsame_c I0 w0.it u0.it hl.it ?_
  (repeat' (with_reducible first|refine w_1 ?_|refine w_2 ?_|refine w_3 ?_|refine w_4 ?_|refine w_5 ?_|refine w_6 ?_|refine w_7 ?_|(refine w_8 (fun hb=>?_) (fun hb=>?_)<;>(try simp only [Bool.not_eq_true',Bool.not_eq_false'] at hb)<;>try simp only [hb])|refine w_13 (fun hc=>(by (try simp only [Bool.and_eq_true] at hc);simp (maxDischargeDepth:=12) only [viz,↓reduceIte,Nat.reduceEqDiff,reduceCtorEq,Int.reduceEq,Int.reduceNeg,Nat.reduceAdd,Nat.reduceLeDiff,r0.a,r0.b,cond_true,cond_false,hc];first|exact ⟨rfl,rfl⟩|exact rfl)) ?_|refine w_12 ?_|((try refine w_9 ?_);simp (maxDischargeDepth:=12) only [viz,↓reduceIte,Nat.reduceEqDiff,reduceCtorEq,Int.reduceEq,Int.reduceNeg,Nat.reduceAdd,Nat.reduceLeDiff,r0.a,r0.b])))
  exact hK _ k0
def lightS (t : Table) : Bool := decide (t.holds.length + t.marks.length + t.ints.length ≤ 100) && decide (t.spans.length + t.frozen.length ≤ 24)
structure Small3 (t : Table) : Prop where
  sp : t.spans.length < 1000000000000000000
  fr : t.frozen.length < 1000000000000000000
  ho : t.holds.length < 1000000000000000000
  ma : t.marks.length < 1000000000000000000
  it : t.ints.length < 1000000000000000000
theorem light_c {t : Table} {w : TV} {D : Nat → Prop} {s : Mem} {K : AV → Mem → Prop} (hw : TabIn s D w t) (hl : Small3 t)
    (hK : ∀ s', Keep s.next s s' → K (.bool (lightS t)) s') : C tab 4 [.agg (tabC t w)] s K := by
  refine C_enter (cf := cf4) rfl (Nat.le_of_ble_eq_true rfl) ?_
  simp only [cf4, oo, on, om, og, oc, ou, tabC]
  have h1 : lenA false w.sp = some t.spans.length := hw.sp.lenB
  have h2 : lenA false w.fr = some t.frozen.length := hw.fr.lenB
  have h3 : lenA false w.ho = some t.holds.length := hw.ho.lenB
  have h4 : lenA false w.ma = some t.marks.length := hw.ma.lenB
  have h5 : lenA false w.it = some t.ints.length := hw.it.lenB
  obtain ⟨a1, a2, a3, a4, a5⟩ := hl
  have e1 : decide (IntKind.i64.wrap (IntKind.i64.wrap ((t.holds.length : Int) + t.marks.length) + t.ints.length) ≤ 100) = decide (t.holds.length + t.marks.length + t.ints.length ≤ 100) := by
    rw [wrap_i64 (x := (t.holds.length : Int) + t.marks.length) (by omega), wrap_i64 (x := (t.holds.length : Int) + t.marks.length + t.ints.length) (by omega), decide_eq_decide]
    omega
  have e2 : decide (IntKind.i64.wrap ((t.spans.length : Int) + t.frozen.length) ≤ 24) = decide (t.spans.length + t.frozen.length ≤ 24) := by
    rw [wrap_i64 (by omega), decide_eq_decide]
    omega
  (repeat' (with_reducible first|refine w_1 ?_|refine w_2 ?_|refine w_3 ?_|refine w_4 ?_|refine w_5 ?_|refine w_6 ?_|refine w_7 ?_|(refine w_8 (fun hb=>?_) (fun hb=>?_)<;>(try simp only [Bool.not_eq_true',Bool.not_eq_false'] at hb)<;>try simp only [hb])|refine w_13 (fun hc=>(by (try simp only [Bool.and_eq_true] at hc);simp (maxDischargeDepth:=12) only [viz,↓reduceIte,Nat.reduceEqDiff,reduceCtorEq,Int.reduceEq,Int.reduceNeg,Nat.reduceAdd,Nat.reduceLeDiff,hw.sp.cell,hw.fr.cell,hw.ho.cell,hw.ma.cell,hw.it.cell,h1,h2,h3,h4,h5,e1,e2,cond_true,cond_false,hc];first|exact ⟨rfl,rfl⟩|exact rfl)) ?_|refine w_12 ?_|((try refine w_9 ?_);simp (maxDischargeDepth:=12) only [viz,↓reduceIte,Nat.reduceEqDiff,reduceCtorEq,Int.reduceEq,Int.reduceNeg,Nat.reduceAdd,Nat.reduceLeDiff,hw.sp.cell,hw.fr.cell,hw.ho.cell,hw.ma.cell,hw.it.cell,h1,h2,h3,h4,h5,e1,e2])))
  exact hK _ (pushes _ _)
end Go.Proofs.Ythibbbfhkfebkaa

