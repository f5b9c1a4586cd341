/- Pieces of either kind by the document. No statement of the seat is proved here. -/
import Derived.Test.YthibbbfhkfebkaaGreatVZME
import Derived.Test.YthibbbfhkfebkaaGreatVZVE
import Derived.Test.YthibbbfhkfebkaaGreatVZTG
namespace Go.Proofs.YthibbbfhkfebkaaGreat
open Go Go.VI
set_option linter.unusedSimpArgs false
attribute [local irreducible] Ws Wp W C
set_option maxHeartbeats 4000000
end Go.Proofs.YthibbbfhkfebkaaGreat
/- Keys that are to be handed over: the document. No statement of the seat is proved here. -/
namespace Go.Proofs.YthibbbfhkfebkaaGreat
open Go Go.VI
set_option linter.unusedSimpArgs false
theorem TabIn.put {M : Mem} {D : Nat → Prop} {w : TV} {t : Table} (h : TabIn M D w t) {a : Nat} (R : Option Row) (hD : ∀ r, D r → r ≠ a) : TabIn (M.put a R) D w t := h.keep fun r hr => by rw [Mem.get_put, if_neg (hD r hr)]
attribute [local irreducible] Ws Wp W C
set_option maxHeartbeats 4000000
end Go.Proofs.YthibbbfhkfebkaaGreat
/- Keys handed over: the document. No statement of the seat is proved here. -/
namespace Go.Proofs.YthibbbfhkfebkaaGreat
open Go Go.VI
set_option linter.unusedSimpArgs false
structure ExpM (pr : Nat) (R : AV → Row) (ty sz : Nat) (kept acc : List (List AV)) (w lv : AV) (M : Mem) : Prop where
  g : M.get pr = some (R lv)
  o6 : OwnL M (pr + 1) w ty sz kept
  o7 : OwnL M (pr + 1) lv ty sz acc
  ne : ∀ p i n z i' n' z', w = .own p i n z → lv ≠ .own p i' n' z'
  n : pr < M.next
  f : M.floor ≤ pr
section
variable {pr ty sz : Nat} {R : AV → Row} {kept acc : List (List AV)} {w lv v : AV} {M N : Mem} {c : List AV}
theorem ExpM.keep (h : ExpM pr R ty sz kept acc w lv M) (k : Keep M.next M N) : ExpM pr R ty sz kept acc w lv N := by
  have := h.n
  exact ⟨by rw [k.get _ (by omega)]; exact h.g, h.o6.keep k fun r e => (h.o6.row r 0 _ _ e).2, h.o7.keep k fun r e => (h.o7.row r 0 _ _ e).2, h.ne, Nat.lt_of_lt_of_le h.n k.next, by rw [k.floor]; exact h.f⟩
theorem ExpM.push (h : ExpM pr R ty sz kept acc w lv M) (Q : Row) : ExpM pr R ty sz kept acc w lv (M.push Q) := h.keep (pushes M Q)
theorem ExpM.lo (h : ExpM pr R ty sz kept acc w lv M) (ho : OwnL N (pr + 1) v ty sz (kept ++ [c])) (hx : KeepX w M N) (hv : ∀ r i n z, v = .own r i n z → M.next ≤ r) : ExpM pr R ty sz (kept ++ [c]) acc v lv N := by
  have hn := h.n
  refine ⟨?_, ho, ?_, ?_, by have := hx.next; omega, by rw [hx.floor]; exact h.f⟩
  · rw [hx.get pr hn fun i n z e => by have := h.o6.row _ _ _ _ e; omega]; exact h.g
  · refine h.o7.stay (fun r i n z e => hx.get r (h.o7.row _ _ _ _ e).2 fun i' n' z' e' => ?_) hx.floor hx.next
    exact h.ne _ _ _ _ _ _ _ e' e
  · intro p i n z i' n' z' e e'
    have := hv _ _ _ _ e
    have := (h.o7.row _ _ _ _ e').2
    omega
theorem ExpM.hi (h : ExpM pr R ty sz kept acc w lv M) (ho : OwnL N (pr + 1) v ty sz (acc ++ [c])) (hx : KeepX lv M N) (hv : ∀ r i n z, v = .own r i n z → M.next ≤ r) : ExpM pr R ty sz kept (acc ++ [c]) w v (N.put pr (some (R v))) := by
  have hn := h.n
  refine ⟨by rw [Mem.get_put, if_pos rfl], ?_, ?_, ?_, by rw [next_put']; have := hx.next; omega, by rw [floor_put', hx.floor]; exact h.f⟩
  · refine h.o6.stay (fun r i n z e => ?_) (by rw [floor_put']; exact hx.floor) (by rw [next_put']; exact hx.next)
    have h1 := h.o6.row _ _ _ _ e
    rw [Mem.get_put, if_neg (by omega)]
    exact hx.get r h1.2 fun i' n' z' e' => h.ne _ _ _ _ _ _ _ e e'
  · rcases ho with e | ⟨p, a1, b2, c, d, e⟩
    · exact .inl e
    · exact .inr ⟨p, a1, by rw [Mem.get_put, if_neg (by omega)]; exact b2, c, d, e⟩
  · intro p i n z i' n' z' e e'
    have := hv _ _ _ _ e'
    have := (h.o6.row _ _ _ _ e).2
    omega
theorem ExpM.put (h : ExpM pr R ty sz kept acc w lv M) {r : Nat} (hr : r ≠ pr) (h1 : ∀ i n z, w ≠ .own r i n z) (h2 : ∀ i n z, lv ≠ .own r i n z) (Q : Option Row) : ExpM pr R ty sz kept acc w lv (M.put r Q) := by
  refine ⟨by rw [Mem.get_put, if_neg (Ne.symm hr)]; exact h.g, h.o6.stay (fun q i n z e => ?_) rfl (Nat.le_refl _), h.o7.stay (fun q i n z e => ?_) rfl (Nat.le_refl _), h.ne, h.n, h.f⟩
  · rw [Mem.get_put, if_neg]; rintro rfl; exact h1 _ _ _ e
  · rw [Mem.get_put, if_neg]; rintro rfl; exact h2 _ _ _ e
end
structure R5 (q : Nat) (A B C E F : Row) (M : Mem) : Prop where
  a : M.get q = some A
  b : M.get (q + 1) = some B
  c : M.get (q + 1 + 1) = some C
  e : M.get (q + 1 + 1 + 1) = some E
  f : M.get (q + 1 + 1 + 1 + 1) = some F
  n : q + 1 + 1 + 1 + 1 < M.next
theorem R5.of_push (s : Mem) (A B C E F : Row) : R5 s.next A B C E F (((((s.push A).push B).push C).push E).push F) := by
  have r := R4.of_push s A B C E
  have n : ((((s.push A).push B).push C).push E).next = s.next + 1 + 1 + 1 + 1 := by simp only [next_push']
  generalize (((s.push A).push B).push C).push E = S at *
  refine ⟨?_, ?_, ?_, ?_, by rw [Mem.get_push, n, if_pos rfl], by rw [next_push', n]; omega⟩
  · rw [Mem.get_push, n, if_neg (by omega)]; exact r.a
  · rw [Mem.get_push, n, if_neg (by omega)]; exact r.b
  · rw [Mem.get_push, n, if_neg (by omega)]; exact r.c
  · rw [Mem.get_push, n, if_neg (by omega)]; exact r.e
theorem R5.then {q : Nat} {A B C E F : Row} {M N : Mem} (h : R5 q A B C E F M) (k : Keep M.next M N) : R5 q A B C E F N := by
  have := h.n
  exact ⟨by rw [k.get _ (by omega)]; exact h.a, by rw [k.get _ (by omega)]; exact h.b, by rw [k.get _ (by omega)]; exact h.c, by rw [k.get _ (by omega)]; exact h.e, by rw [k.get _ (by omega)]; exact h.f, Nat.lt_of_lt_of_le h.n k.next⟩
theorem R5.low {q b : Nat} {A B C E F : Row} {M N : Mem} (h : R5 q A B C E F M) (k : Keep b M N) (hb : q + 1 + 1 + 1 + 1 < b) : R5 q A B C E F N := by
  have := h.n
  exact ⟨by rw [k.get _ (by omega)]; exact h.a, by rw [k.get _ (by omega)]; exact h.b, by rw [k.get _ (by omega)]; exact h.c, by rw [k.get _ (by omega)]; exact h.e, by rw [k.get _ (by omega)]; exact h.f, Nat.lt_of_lt_of_le h.n k.next⟩
theorem may_keys {t : Table} (h : mayT t = true) : (∀ x ∈ t.holds, x.key.length ≤ 64) ∧ (∀ x ∈ t.marks, x.key.length ≤ 64) ∧ ∀ x ∈ t.ints, x.key.length ≤ 64 := by
  obtain ⟨_, _, h1, h2⟩ := may_parts h
  refine ⟨fun x hx => ?_, fun x hx => ?_, fun x hx => ?_⟩
  · have := ((holds_iff _).mp h1).2.1 x hx
    simp only [mayH, Bool.and_eq_true, decide_eq_true_eq] at this
    exact this.1.1.1
  · have := ((marks_iff _).mp h2).2.1 x hx
    simp only [mayM, Bool.and_eq_true, decide_eq_true_eq] at this
    exact this.1
  · simp only [mayT, Bool.and_eq_true] at h
    obtain ⟨q, hq⟩ := rising_mem h.2 x hx
    simp only [intR, intOk, Bool.and_eq_true, decide_eq_true_eq] at hq
    exact hq.1.1.1.1.1
end Go.Proofs.YthibbbfhkfebkaaGreat
/- Pieces that two have by the document. No statement of the seat is proved here. -/
namespace Go.Proofs.YthibbbfhkfebkaaGreat
open Go Go.VI
set_option linter.unusedSimpArgs false
attribute [local irreducible] Ws Wp W C
set_option maxHeartbeats 4000000
theorem piece2_c {l : List Span} {x : Span} {v : AV} {D : Nat → Prop} {s : Mem} {K : AV → Mem → Prop} (hf : s.floor ≤ s.next) (hI : In D s) (hv : Spans s D v l) (hl : l.length < 200)
    (hK : ∀ v' s', Keep s.next s s' → OwnL s' s.next v' 47 2 ((pieceP l x 2).map spanC) → K v' s') : C tab 22 [v, .agg (spanC x), .int .i64 2] s K := by
  refine C_enter (cf := cf22) rfl (Nat.le_of_ble_eq_true rfl) ?_
  simp only [cf22, oo, on, om, og, oc, ou, spanC]
  (repeat' (with_reducible first|refine w_1 ?_|refine w_2 ?_|simp (maxDischargeDepth:=12) only [viz,↓reduceIte,Nat.reduceEqDiff,reduceCtorEq,Nat.reduceAdd]))
  refine app_x (b := s.next + 1 + 1) (xs := []) (ys := l.map spanC) (Nat.le_refl _) (Nat.le_refl _) (by simp only [ev, Env.get_set, ↓reduceIte, Nat.reduceEqDiff]; exact OwnL.emp _ _ _ _) ?_ ?_ (room (by simp; omega) (by simp; omega)) ?_
  · simp only [ev, Env.get_set, ↓reduceIte, Nat.reduceEqDiff]
    exact (mat_read _ _ _).trans (hv.readk hI _ ((pushes s ⟨47, 2, [[.str x.frm, .str x.to]]⟩).then (pushes _ ⟨47, 2, []⟩)))
  · exact hv.uni
  · intro v3 s3 ho3 hx3 _ hr3
    rw [List.nil_append] at ho3
    have hk3 : Keep (s.next + 1 + 1) (((s.push ⟨47, 2, [[.str x.frm, .str x.to]]⟩).at (s.next + 1 + 1)).push ⟨47, 2, []⟩) s3 := hx3.keep (Nat.le_refl _) fun r i n z h => by simp only [ev, Env.get_set, ↓reduceIte, Nat.reduceEqDiff, reduceCtorEq] at h
    have hkA : Keep s.next s (s3.at s.floor) := ((pushes s ⟨47, 2, [[.str x.frm, .str x.to]]⟩).then (pushes _ ⟨47, 2, []⟩)).then (Keep.of_at (s := (s.push ⟨47, 2, [[.str x.frm, .str x.to]]⟩).push ⟨47, 2, []⟩) hk3)
    have hg3 : s3.get s.next = some ⟨47, 2, [[.str x.frm, .str x.to]]⟩ := by
      rw [hk3.get _ (by omega)]
      simp only [Mem.get_push, mat_get, mat_next, next_push']
      rw [if_neg (by omega), if_pos trivial]
    have a3 : s.next + 1 + 1 ≤ s3.next := hk3.next
    have hf3 : s.floor ≤ s3.next := by omega
    have ho3' : OwnL (s3.at s.floor) (s.next + 1 + 1) v3 47 2 (l.map spanC) := ho3.at (by omega)
    (repeat' with_reducible simp (maxDischargeDepth:=12) only [viz,↓reduceIte,Nat.reduceAdd,hg3])
    refine app_lit (k := 1) (b := s.next + 1 + 1) (xs := l.map spanC) (ys := [spanC x]) (s := s3.at s.floor) (show s.floor ≤ s.next + 1 + 1 by omega) a3 ho3' (by simp only [ev, Env.get_set, ↓reduceIte, Nat.reduceEqDiff]) (by simp only [ev, Env.get_set, ↓reduceIte, Nat.reduceEqDiff]; rfl) rfl rfl (room (by simp; omega) (by simp; omega)) ?_
    intro v4 s4 ho4 hx4 hr4 _
    have hk34 : Keep (s.next + 1 + 1) (s3.at s.floor) s4 := hx4.keep a3 fun r i n z h => (ho3'.row r i n z h).1
    have hk4 : Keep s.next s s4 := hkA.trans (hk34.le (by omega))
    have hg4 : s4.get s.next = some ⟨47, 2, [[.str x.frm, .str x.to]]⟩ := (hk34.get _ (by omega)).trans hg3
    have a4 : s3.next ≤ s4.next := hx4.next
    have em : l.map spanC ++ [spanC x] = (l ++ [x]).map spanC := by simp
    rw [em] at ho4
    (repeat' with_reducible simp (maxDischargeDepth:=12) only [viz,↓reduceIte,Nat.reduceEqDiff,reduceCtorEq,Int.reduceEq,Int.reduceNeg,Nat.reduceAdd,Nat.reduceLeDiff])
    refine places_c (l := l ++ [x]) (hk4.ok hf) (D := fun q => s.next + 1 + 1 ≤ q ∧ q < s4.next) (fun q hq => hq.2) (ho4.sl (span_cells _) fun r n h => ho4.row r 0 n 2 h) (by simp; omega) fun v5 s5 hk45 hp5 => ?_
    have hk5 := hk4.then hk45
    have a5 := hk45.next
    have hg5 : s5.get s.next = some ⟨47, 2, [[.str x.frm, .str x.to]]⟩ := (hk45.get _ (by omega)).trans hg4
    have hv5 : Spans s5 D v l := hv.keep fun q hq => hk5.get q (hI q hq)
    have hI5 : In D s5 := fun q hq => Nat.lt_of_lt_of_le (hI q hq) hk5.next
    have hp5I : In (fun q => s4.next ≤ q ∧ q < s5.next) s5 := fun q hq => hq.2
    have plen := placesP_len (l ++ [x])
    rw [List.length_append, List.length_singleton] at plen
    have hlp : lenA false v5 = some (placesP (l ++ [x])).length := hp5.lenB
    have hup : Up (placesP (l ++ [x])) := (places_ok (l ++ [x]) [[]] (by simp [Up]) (by simp)).1
    (repeat' (with_reducible first|refine w_1 ?_|refine w_2 ?_|refine w_3 ?_|simp (maxDischargeDepth:=12) only [viz,↓reduceIte]))
    refine W_inv (placesP (l ++ [x])).length (fun i E s' => ∃ w, Keep s5.next s5 s' ∧ OwnL s' s5.next w 47 2 ((scanTo (isK l x 2) ((placesP (l ++ [x])).take i)).2.map spanC) ∧ E.get 0 = v ∧ E.get 2 = .int .i64 2 ∧ E.get 4 = .ptr s.next 0 0 ∧ E.get 7 = v5 ∧ E.get 8 = w ∧ E.get 9 = .bool (scanTo (isK l x 2) ((placesP (l ++ [x])).take i)).1 ∧ E.get 10 = .int .i64 i) (by delta cf22l0 oo on om og oc ou; exact rfl) ?_ ?_
    · refine ⟨.emp, pushes s5 _, OwnL.emp _ _ _ _, (by simp only [ev, Env.get_set, ↓reduceIte, Nat.reduceEqDiff]), (by simp only [ev, Env.get_set, ↓reduceIte, Nat.reduceEqDiff]), (by simp only [ev, Env.get_set, ↓reduceIte, Nat.reduceEqDiff]), (by simp only [ev, Env.get_set, ↓reduceIte, Nat.reduceEqDiff]), ?_, ?_, ?_⟩
      all_goals simp only [ev, Env.get_set, ↓reduceIte, Nat.reduceEqDiff]
      all_goals rfl
    rintro i E s' hile _ ⟨w, hk, hw, g0, g2, g4, g7, g8, g9, g10⟩
    by_cases hlt : i < (placesP (l ++ [x])).length
    · obtain ⟨a, ha⟩ := get_of hlt
      obtain ⟨p, hp, P, _⟩ := hp5.ldk hp5I ha rfl rfl
      have l0 : ∀ M, Keep s5.next s5 M → loadA M false 1 p = some (.str a) := fun M hM => by
        rw [P.ld _ hM]; rfl
      have hg' : s'.get s.next = some ⟨47, 2, [[.str x.frm, .str x.to]]⟩ := (hk.get _ (by omega)).trans hg5
      (repeat' (with_reducible first|refine w_1 ?_|refine w_2 ?_|refine w_3 ?_|refine w_4 ?_|refine w_5 ?_|simp (maxDischargeDepth:=12) only [viz,↓reduceIte,Nat.reduceEqDiff,reduceCtorEq,g0,g4,g7,g10,hlp,lt_true hlt,hp,l0 _ hk]))
      refine rin_c (D := D) (s := s'.at s'.next) (fun q hq => Nat.lt_of_lt_of_le (hI5 q hq) hk.next) ((hv5.keep fun q hq => hk.get q (hI5 q hq)).at_) (by omega) fun s2 h2 => ?_
      have h2A : Keep s'.next s' (s2.at s'.floor) := Keep.of_at h2
      have a2 := h2A.next
      have an := hk.next
      simp only [mat_next] at a2
      have hg2 : s2.get s.next = some ⟨47, 2, [[.str x.frm, .str x.to]]⟩ := (h2A.get _ (by omega)).trans hg'
      have l2 : loadA s2 false 1 p = some (.str a) := by
        have := l0 _ (hk.then h2A)
        rwa [mat_load] at this
      (repeat' with_reducible simp (maxDischargeDepth:=12) only [viz,hg2,l2])
      refine rhas_c (x := x) fun s6 h6 => ?_
      have hk6 := h2A.then h6
      have hk56 := hk.then hk6
      have hw6 : OwnL s6 s5.next w 47 2 ((scanTo (isK l x 2) ((placesP (l ++ [x])).take i)).2.map spanC) := hw.keep (c := s'.next) hk6 fun r e => (hw.row r 0 _ 2 e).2
      have l6 := l0 _ hk56
      have hst : scanTo (isK l x 2) ((placesP (l ++ [x])).take (i + 1)) = (isK l x 2 a, nextOut (isK l x 2) (scanTo (isK l x 2) ((placesP (l ++ [x])).take i)).1 (scanTo (isK l x 2) ((placesP (l ++ [x])).take i)).2 a) := by
        have e : (placesP (l ++ [x])).take (i + 1) = (placesP (l ++ [x])).take i ++ [a] := by rw [List.take_add_one, ha]; rfl
        rw [e, scan_snoc]
      have hPI := scan_pi (isK l x 2) _ hup i hile
      have hsl := scan_len (isK l x 2) ((placesP (l ++ [x])).take i) (false, []) 0 (by simp)
      rw [List.length_take] at hsl
      have hsl2 : 2 * (scanTo (isK l x 2) ((placesP (l ++ [x])).take i)).2.length ≤ (placesP (l ++ [x])).length + 1 := by
        have : (scanTo (isK l x 2) ((placesP (l ++ [x])).take i)).2 = (((placesP (l ++ [x])).take i).foldl (fun st a => (isK l x 2 a, nextOut (isK l x 2) st.1 st.2 a)) (false, [])).2 := rfl
        rw [this]; omega
      have hia : isK l x 2 a = ((l.any fun x => hasS x a) && hasS x a) := by simp [isK]
      generalize scanTo (isK l x 2) ((placesP (l ++ [x])).take i) = st at hst hPI hsl2 hw6 g9
      (repeat' (with_reducible first|refine w_1 ?_|refine w_2 ?_|refine w_4 ?_|refine w_5 ?_|(refine w_8 (fun hb=>?_) (fun hb=>?_)<;>(try simp only [Bool.not_eq_true',Bool.not_eq_false'] at hb)<;>try simp only [hb])|refine w_13 (fun hc=>(by (try simp only [Bool.and_eq_true] at hc);simp (maxDischargeDepth:=12) only [viz,↓reduceIte,Nat.reduceEqDiff,g9, Int.reduceBEq, Int.reduceBNe, Int.reduceLT, Int.reduceLE, Int.reduceGT, Int.reduceGE,cond_false,hc];first|exact ⟨rfl,rfl⟩|exact rfl)) ?_|((try refine w_9 ?_);simp (maxDischargeDepth:=12) only [viz,↓reduceIte,Nat.reduceEqDiff,reduceCtorEq,Nat.reduceAdd,g0,g2,g4,g7,g8,g10,hp,l6, Int.reduceBEq, Int.reduceBNe, Int.reduceLT, Int.reduceLE, Int.reduceGT, Int.reduceGE])))
      · refine app_lit (v := w) (k := 1) (b := s5.next) (xs := st.2.map spanC) (ys := [spanC ⟨a, []⟩]) (by rw [hk56.floor]; exact hk5.ok hf) hk56.next hw6 (by simp only [ev, Env.get_set, ↓reduceIte, Nat.reduceEqDiff]) (by simp only [ev, Env.get_set, ↓reduceIte, Nat.reduceEqDiff]) rfl rfl (room (by simp; omega) (by simp; omega)) ?_
        intro w7 s7 ho7 hx7 hr7 _
        have hk57 : Keep s5.next s5 s7 := hk56.trans (hx7.keep hk56.next fun r i n z h => (hw6.row r i n z h).1)
        have hq : (!((l.any fun x => hasS x a) && hasS x a) && st.1) = false := next_1 hb
        (repeat' (with_reducible first|refine w_1 ?_|refine w_2 ?_|refine w_4 ?_|refine w_5 ?_|refine w_13 (fun hc=>(by (try simp only [Bool.and_eq_true] at hc);simp (maxDischargeDepth:=12) only [viz,↓reduceIte,Nat.reduceEqDiff,g9,cond_false,hc];first|exact ⟨rfl,rfl⟩|exact rfl)) ?_|((try refine w_9 ?_);simp (maxDischargeDepth:=12) only [viz,↓reduceIte,Nat.reduceEqDiff,reduceCtorEq,g0,g2,g4,g7,g10,hq])))
        have e : (st.2 ++ [(⟨a, []⟩ : Span)]).map spanC = st.2.map spanC ++ [spanC ⟨a, []⟩] := by simp
        refine ⟨hlt, w7, hk57, ?_, rfl, ?_, succ_av (by omega)⟩
        · rw [hst]; simp only [nextOut, hia, hb, if_true]; rw [e]; exact ho7
        · rw [hst]; simp only [hia]
      · obtain ⟨y, hy⟩ : ∃ y, st.2[st.2.length - 1]? = some y := by
          have : st.2 ≠ [] := by
            obtain ⟨cl, h, _⟩ := hPI.sp
            rcases h with ⟨_, h⟩ | ⟨f, h, _⟩
            · simp [h] at hb
            · rw [h]; simp
          have := List.length_pos_iff.mpr this
          exact get_of (by omega)
        have hyl := (List.getElem?_eq_some_iff.mp hy).1
        obtain ⟨r, rfl, hr, hbr, hrn⟩ : ∃ r, w = .own r 0 st.2.length 2 ∧ s6.get r = some ⟨47, 2, st.2.map spanC⟩ ∧ s5.next ≤ r ∧ r < s6.next := by
          rcases hw6 with ⟨_, h⟩ | ⟨r, h0, h1, _, h3, h4⟩
          · have : st.2 = [] := by simpa using h
            rw [this] at hyl; simp at hyl
          · exact ⟨r, by rw [h0, List.length_map], h1, h3, h4⟩
        have hat : atA 2 (.own r 0 st.2.length 2) (.int .i64 ((st.2.length - 1 : Nat) : Int)) = some (.ptr r (st.2.length - 1) 0) := at0 (by omega)
        have hpc : IntKind.i64.wrap ((st.2.length : Int) - 1) = ((st.2.length - 1 : Nat) : Int) := by
          have := pred_cast (st.2.length - 1) (by omega)
          rw [show st.2.length - 1 + 1 = st.2.length by omega] at this
          exact this
        have hsto := store_to (a := a) hr (i := st.2.length - 1) (by rw [List.getElem?_map, hy]; rfl) (by rw [hk56.floor]; have := hk5.ok hf; omega)
        have hlw : lenA false (.own r 0 st.2.length 2) = some st.2.length := rfl
        (repeat' (with_reducible first|refine w_2 ?_|simp (maxDischargeDepth:=12) only [vis,↓reduceIte,Nat.reduceEqDiff,reduceCtorEq,g0,g2,g4,g7,g8,g10,l6,hlw,hpc,hat,Nat.zero_add,hsto]))
        refine ⟨hlt, _, hk56.trans (Keep.put hbr _), ?_, rfl, ?_, succ_av (by omega)⟩
        · rw [hst]
          have : nextOut (isK l x 2) st.1 st.2 a = setTo st.2 a := next_2 hia hb
          rw [this, setTo_set a hy]
          exact .inr ⟨r, by simp, by rw [Mem.get_put, if_pos rfl], by rw [floor_put', hk56.floor]; have := hk5.ok hf; omega, hbr, by rw [Mem.next_put]; exact hrn⟩
        · rw [hst]; simp only [hia]
      · refine ⟨hlt, w, hk56, ?_, rfl, ?_, succ_av (by omega)⟩
        · rw [hst]
          have : nextOut (isK l x 2) st.1 st.2 a = st.2 := next_3 hia (by assumption) hb
          rw [this]; exact hw6
        · rw [hst]; simp only [hia]
    · (repeat' (with_reducible first|refine w_1 ?_|refine w_2 ?_|refine w_4 ?_|refine w_6 ?_|refine w_7 ?_|simp (maxDischargeDepth:=12) only [viz,↓reduceIte,Nat.reduceEqDiff,g7,g8,g10,hlp,lt_false hlt]))
      rw [List.take_of_length_le (by omega)] at hw
      exact hK _ _ (hk5.then hk) (hw.le hk5.next)
end Go.Proofs.YthibbbfhkfebkaaGreat

