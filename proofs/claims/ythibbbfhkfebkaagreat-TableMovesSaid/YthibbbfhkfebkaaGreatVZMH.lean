/- Keys taken on: the document. No statement of the seat is proved here. -/
import Derived.Test.YthibbbfhkfebkaaGreatVZMG
import Derived.Test.YthibbbfhkfebkaaGreatVZMF
import Derived.Test.YthibbbfhkfebkaaGreatVZFE
import Derived.Test.YthibbbfhkfebkaaGreatVZVE
import Derived.Test.YthibbbfhkfebkaaGreatVZFG
namespace Go.Proofs.YthibbbfhkfebkaaGreat
open Go Go.VI
set_option linter.unusedSimpArgs false
theorem unp_same {now n : Int} : untilR now n = unpG now n := by unfold untilR unpG; split <;> omega
theorem mayP_iff (p : Parcel) : (mayS p.sp && holdsS p.ho && marksS p.ma && withinS [p.sp] p.ho p.ma) = mayP p := by
  unfold mayP
  cases h1 : mayS p.sp with
  | false => rfl
  | true =>
    cases h2 : holdsS p.ho with
    | false => rfl
    | true =>
      cases h3 : marksS p.ma with
      | false => rfl
      | true =>
        have := here_same (t := ⟨0, [p.sp], [], p.ho, p.ma, []⟩) (by simp [formS, rising, formOk, h1]) h2 h3
        simp only at this
        rw [this]
attribute [local irreducible] Ws Wp W C
set_option maxHeartbeats 8000000
theorem rmayP_c {p : Parcel} {hv mv : AV} {D : Nat → Prop} {s : Mem} {K : AV → Mem → Prop} (hI : In D s) (hh : Holds s D hv p.ho) (hm : Marks s D mv p.ma) (hpl : p.ho.length ≤ 2000 ∧ p.ma.length ≤ 2000)
    (hK : ∀ s', Keep s.next s s' → K (.bool (mayP p)) s') : C tab 75 [.agg (parC p hv mv)] s K := by
  refine C_enter (cf := cf75) rfl (Nat.le_of_ble_eq_true rfl) ?_
  simp only [cf75, oo, on, om, og, oc, ou, parC]
  rw [← mayP_iff] at hK
  have q0 := Kp.of_push s ⟨49, 5, [[.int .u64 p.plan, .str p.sp.frm, .str p.sp.to, hv, mv]]⟩
  (repeat' (with_reducible first|refine w_1 ?_|refine w_2 ?_|simp (maxDischargeDepth:=12) only [viz,↓reduceIte,Nat.reduceAdd,hh.cell,hm.cell]))
  refine rmayS_c (x := p.sp) fun s1 h1 => ?_
  have q1 := q0.then h1
  have g1 := q1.g
  (repeat' (with_reducible first|refine w_6 ?_|(refine w_8 (fun hb=>?_) (fun hb=>?_)<;>(try simp only [Bool.not_eq_true',Bool.not_eq_false'] at hb)<;>try simp only [hb])|refine w_13 (fun hc=>(by (try simp only [Bool.and_eq_true] at hc);simp (maxDischargeDepth:=12) only [viz,↓reduceIte,Nat.reduceAdd,g1,cond_false,hc];first|exact ⟨rfl,rfl⟩|exact rfl)) ?_|refine w_12 ?_|((try refine w_9 ?_);simp (maxDischargeDepth:=12) only [viz,↓reduceIte,Nat.reduceEqDiff])))
  · refine rmayH_c (l := p.ho) (D := D) (hI.keep q1.k) (hh.keep fun r hr => q1.k.get r (hI r hr)) fun s2 h2 => ?_
    have q2 := q1.then h2
    have g2 := q2.g
    (repeat' (with_reducible first|refine w_6 ?_|(refine w_8 (fun hb=>?_) (fun hb=>?_)<;>(try simp only [Bool.not_eq_true',Bool.not_eq_false'] at hb)<;>try simp only [hb])|refine w_13 (fun hc=>(by (try simp only [Bool.and_eq_true] at hc);simp (maxDischargeDepth:=12) only [viz,↓reduceIte,Nat.reduceEqDiff,Nat.reduceAdd,g2,cond_false,hc];first|exact ⟨rfl,rfl⟩|exact rfl)) ?_|refine w_12 ?_|((try refine w_9 ?_);simp (maxDischargeDepth:=12) only [viz,↓reduceIte,Nat.reduceEqDiff])))
    · refine rmarks_c (l := p.ma) (D := D) (hI.keep q2.k) (hm.keep fun r hr => q2.k.get r (hI r hr)) ?_
      have y1 : (s.next = s2.next) = False := by have := q2.n; simp; omega
      (repeat' (with_reducible first|refine w_6 ?_|(refine w_8 (fun hb=>?_) (fun hb=>?_)<;>(try simp only [Bool.not_eq_true',Bool.not_eq_false'] at hb)<;>try simp only [hb])|refine w_13 (fun hc=>(by (try simp only [Bool.and_eq_true] at hc);simp (maxDischargeDepth:=12) only [viz,↓reduceIte,Nat.reduceEqDiff,Nat.reduceAdd,g2,cond_false,hc];first|exact ⟨rfl,rfl⟩|exact rfl)) ?_|refine w_12 ?_|((try refine w_9 ?_);simp (maxDischargeDepth:=12) only [viz,↓reduceIte,Nat.reduceEqDiff,Nat.reduceAdd,g2,y1])))
      · have kp := pushes s2 ⟨47, 2, [[.str p.sp.frm, .str p.sp.to]]⟩
        have k3 := q2.k.then kp
        refine within_c (sp := [p.sp]) (ho := p.ho) (ma := p.ma) (D := fun q => D q ∨ q = s2.next) (fun q hq => by rcases hq with hq | hq; exact hI.keep k3 q hq; rw [next_push']; omega) (Sl.of_row (ty := 47) (by rw [Mem.get_push, if_pos rfl]; rfl) (.inr rfl) (span_cells [p.sp]) rfl) ((hh.keep fun r hr => k3.get r (hI r hr)).mono fun _ => .inl) ((hm.keep fun r hr => k3.get r (hI r hr)).mono fun _ => .inl) (by simp) hpl.1 hpl.2 fun s4 h4 => ?_
        (repeat' (with_reducible first|refine w_6 ?_|simp (maxDischargeDepth:=12) only [viz,↓reduceIte]))
        exact K_of hK (k3.then h4) (by simp_all)
      · exact K_of hK q2.k (by simp_all)
    · exact K_of hK q2.k (by simp_all)
  · exact K_of hK q1.k (by simp_all)
theorem rimport_c {t : Table} {w : TV} {p : Parcel} {hv mv : AV} {D : Nat → Prop} {s : Mem} {K : AV → Mem → Prop} (hf : s.floor ≤ s.next) (hI : In D s) (hw : TabIn s D w t) (hs : Small t) (hh : Holds s D hv p.ho) (hm : Marks s D mv p.ma)
    (hl : t.holds.length ≤ 300 ∧ t.marks.length ≤ 300) (hpl : p.ho.length ≤ 300 ∧ p.ma.length ≤ 300) (hmk : ∀ m ∈ p.ma, 0 ≤ m.token)
    (hK : ∀ w' s', Keep s.next s s' → TabIn s' (fun r => D r ∨ (s.next ≤ r ∧ r < s'.next)) w' (impP t p).2 → K (.tup [.agg (tabC (impP t p).2 w'), .int .i64 (impP t p).1]) s') : C tab 21 [.agg (tabC t w), .agg (parC p hv mv)] s K := by
  refine C_enter (cf := cf21) rfl (Nat.le_of_ble_eq_true rfl) ?_
  simp only [cf21, oo, on, om, og, oc, ou, tabC, parC]
  have hz : ∀ M e R, Keep s.next s M → impP t p = (e, zeroT) → K (.tup [.agg [.int .i64 0, .nilS, .nilS, .nilS, .nilS, .nilS], .int .i64 e]) (M.put (s.next + 1 + 1) R) := fun M e R hM h => by
    rw [h] at hK
    exact hK zeroW _ (hM.trans (Keep.put (by omega) _)) (zero_in _ _)
  have r0 := R3.of_push s ⟨27, 6, [[.int .i64 t.now, w.sp, w.fr, w.ho, w.ma, w.it]]⟩ ⟨49, 5, [[.int .u64 p.plan, .str p.sp.frm, .str p.sp.to, hv, mv]]⟩ ⟨27, 6, [[.int .i64 0, .nilS, .nilS, .nilS, .nilS, .nilS]]⟩
  have k0 := (pushes s ⟨27, 6, [[.int .i64 t.now, w.sp, w.fr, w.ho, w.ma, w.it]]⟩).then ((pushes _ ⟨49, 5, [[.int .u64 p.plan, .str p.sp.frm, .str p.sp.to, hv, mv]]⟩).then (pushes _ ⟨27, 6, [[.int .i64 0, .nilS, .nilS, .nilS, .nilS, .nilS]]⟩))
  have chv := hh.cell
  have cmv := hm.cell
  (repeat' (with_reducible first|refine w_1 ?_|refine w_2 ?_|simp (maxDischargeDepth:=12) only [viz,↓reduceIte,Nat.reduceAdd,hw.sp.cell,hw.fr.cell,hw.ho.cell,hw.ma.cell,hw.it.cell,chv,cmv,r0.a]))
  generalize ((s.push _).push _).push _ = S0 at *
  refine rMay_c (D := D) (k0.ok hf) (hI.keep k0) (hw.keep fun r hr => k0.get r (hI r hr)) hs fun s1 h1 => ?_
  have r1 := r0.then h1
  have k1 := k0.then h1
  have f1 : s1.floor ≤ s.next + 1 + 1 := by rw [k1.floor]; omega
  (repeat' (with_reducible first|refine w_1 ?_|refine w_2 ?_|refine w_4 ?_|refine w_6 ?_|(refine w_8 (fun hb=>?_) (fun hb=>?_)<;>(try simp only [Bool.not_eq_true',Bool.not_eq_false'] at hb)<;>try simp only [hb])|refine w_13 (fun hc=>(by (try simp only [Bool.and_eq_true] at hc);simp (maxDischargeDepth:=12) only [viz,↓reduceIte,Nat.reduceEqDiff,r1.b,cond_false,hc];first|exact ⟨rfl,rfl⟩|exact rfl)) ?_|refine w_12 ?_|((try refine w_9 ?_);simp (maxDischargeDepth:=12) only [viz,↓reduceIte,Nat.reduceEqDiff,Nat.reduceAdd,r1.c,f1])))
  case' _ => skip
  · refine rmayP_c (p := p) (D := D) (hI.keep k1) (hh.keep fun r hr => k1.get r (hI r hr)) (hm.keep fun r hr => k1.get r (hI r hr)) (by omega) fun s5 h5 => ?_
    have r5 := r1.then h5
    have k5 := k1.then h5
    have f5 : s5.floor ≤ s.next + 1 + 1 := by rw [k5.floor]; omega
    (repeat' (with_reducible first|refine w_1 ?_|refine w_2 ?_|refine w_4 ?_|refine w_5 ?_|refine w_6 ?_|(refine w_8 (fun hb=>?_) (fun hb=>?_)<;>(try simp only [Bool.not_eq_true',Bool.not_eq_false'] at hb)<;>try simp only [hb])|((try refine w_9 ?_);simp (maxDischargeDepth:=12) only [viz,↓reduceIte,Nat.reduceEqDiff,Nat.reduceAdd,r5.a,r5.b,r5.c,f5])))
    · refine hz _ _ _ k5 ?_
      unfold impP
      rw [if_pos (by grind)]
    have hmt : mayT t = true := by grind
    have hmp : mayP p = true := by grind
    have hx0 : (mayT t && mayP p) = true := by rw [hmt, hmp]; rfl
    have hmp' := hmp
    simp only [mayP, Bool.and_eq_true] at hmp'
    obtain ⟨⟨⟨hms, hmh⟩, hmm⟩, _⟩ := hmp'
    obtain ⟨fo1, fo2⟩ := may_form hmt
    obtain ⟨n0, n1, hoo, mao⟩ := may_parts hmt
    have hsm : ∀ y ∈ t.spans, mayS y = true := by
      have h := fo1
      simp only [formS, Bool.and_eq_true] at h
      exact (rising_form t.spans none h.2).1
    refine piece2_c (x := p.sp) (l := t.spans) (D := D) (k5.ok hf) (hI.keep k5) (hw.sp.keep fun r hr => k5.get r (hI r hr)) (by have := hs.sp; omega) fun v6 s6 h6 o6 => ?_
    have r6 := r5.then h6
    have k6 := k5.then h6
    have f6 : s6.floor ≤ s.next + 1 + 1 := by rw [k6.floor]; omega
    have l6 : lenA false v6 = some (pieceP t.spans p.sp 2).length := by rw [o6.len, List.length_map]
    have hmeet := meet_piece hsm hms
    (repeat' (with_reducible first|refine w_1 ?_|refine w_2 ?_|refine w_4 ?_|refine w_5 ?_|refine w_6 ?_|(refine w_8 (fun hb=>?_) (fun hb=>?_)<;>(try simp only [Bool.not_eq_true',Bool.not_eq_false'] at hb)<;>try simp only [hb])|simp (maxDischargeDepth:=12) only [viz,↓reduceIte,Nat.reduceEqDiff,Nat.reduceAdd,r6.a,r6.b,r6.c,f6,l6]))
    · refine hz _ _ _ k6 ?_
      have : t.spans.any (meetB p.sp) = true := by
        rw [hmeet]
        cases h : pieceP t.spans p.sp 2 with
        | nil => rw [h] at hb; simp at hb
        | cons a b => rfl
      unfold impP
      rw [if_neg (by rw [hx0]; simp), if_pos this]
    have hno : ¬ t.spans.any (meetB p.sp) = true := by
      rw [hmeet]
      cases h : pieceP t.spans p.sp 2 with
      | nil => simp
      | cons a b => rw [h] at hb; simp at hb
    refine piece0_c (x := p.sp) (l := t.spans) (D := D) (k6.ok hf) (hI.keep k6) (hw.sp.keep fun r hr => k6.get r (hI r hr)) (by have := hs.sp; omega) fun v7 s7 h7 o7 => ?_
    rw [piece_add (form_canon fo1) (may_ok hms)] at o7
    have r7 := r6.then h7
    have k7 := k6.then h7
    have n6 := r6.n
    have n67 := h7.next
    have f7 : s7.floor ≤ s.next + 1 + 1 := by rw [k7.floor]; omega
    have l7 : lenA false v7 = some (addP t.spans p.sp).length := by rw [o7.len, List.length_map]
    have l1 : lenA false w.ho = some t.holds.length := hw.ho.lenB
    have l2 : lenA false w.ma = some t.marks.length := hw.ma.lenB
    have l3 : lenA false w.it = some t.ints.length := hw.it.lenB
    have l4 : lenA false hv = some p.ho.length := hh.lenB
    have l5 : lenA false mv = some p.ma.length := hm.lenB
    have hsi := hs.it
    have a1 := wrap_add (a := t.holds.length) (b := t.marks.length) (by omega)
    have a2 := wrap_add (a := t.holds.length + t.marks.length) (b := t.ints.length) (by omega)
    have a3 := wrap_add (a := t.holds.length + t.marks.length + t.ints.length) (b := p.ho.length) (by omega)
    have a4 := wrap_add (a := t.holds.length + t.marks.length + t.ints.length + p.ho.length) (b := p.ma.length) (by omega)
    have f7' : s7.floor ≤ s.next := by rw [k7.floor]; exact hf
    have c7 := own_cell o7
    by_cases h64 : (addP t.spans p.sp).length ≤ 64
    case neg =>
      have d1 : decide (((addP t.spans p.sp).length : Int) > 64) = true := by simp; omega
      (repeat' (with_reducible first|refine w_1 ?_|refine w_2 ?_|refine w_4 ?_|refine w_6 ?_|((try refine w_9 ?_);simp (maxDischargeDepth:=12) only [viz,↓reduceIte,Nat.reduceEqDiff,Nat.reduceAdd,r7.c,f7,l7,d1])))
      refine hz _ _ _ k7 ?_
      unfold impP
      rw [if_neg (by rw [hx0]; simp), if_neg hno, if_neg fun h => h64 h.1]
    have d1 : decide (((addP t.spans p.sp).length : Int) > 64) = false := by simp; omega
    (repeat' (with_reducible first|refine w_1 ?_|refine w_2 ?_|refine w_3 ?_|refine w_4 ?_|refine w_5 ?_|refine w_6 ?_|(refine w_8 (fun hb=>?_) (fun hb=>?_)<;>(try simp only [Bool.not_eq_true',Bool.not_eq_false'] at hb)<;>try simp only [hb])|((try refine w_9 ?_);simp (maxDischargeDepth:=12) only [viz,↓reduceIte,Nat.reduceEqDiff,Nat.reduceAdd,r7.a,r7.b,r7.c,f7,f7',l7,d1,l1,l2,l3,l4,l5,a1,a2,a3,a4,c7,cells_cell c7])))
    · refine hz _ _ _ k7 ?_
      unfold impP
      rw [if_neg (by rw [hx0]; simp), if_neg hno, if_neg fun h => by have := h.2; simp only [decide_eq_true_eq] at *; omega]
    have hroom : t.holds.length + t.marks.length + t.ints.length + p.ho.length + p.ma.length ≤ 1024 := by simp only [decide_eq_false_iff_not] at *; omega
    have hfz : impP t p = (0, inT t p) := by
      unfold impP
      rw [if_neg (by rw [hx0]; simp), if_neg hno, if_pos ⟨h64, hroom⟩]
    rw [hfz] at hK
    clear hz
    have sp7 : Spans s7 (fun q => s6.next ≤ q ∧ q < s7.next) v7 (addP t.spans p.sp) := o7.sl (D := fun q => s6.next ≤ q ∧ q < s7.next) (span_cells _) fun r n e => o7.row r 0 n 2 e
    generalize hS7 : s7.put s.next _ = S7
    have S7n : S7.next = s7.next := by rw [← hS7]; rfl
    have S7f : S7.floor = s7.floor := by rw [← hS7]; rfl
    have S7g : ∀ q, q ≠ s.next → S7.get q = s7.get q := fun q hq => by rw [← hS7]; simp only [Mem.get_put, if_neg hq]
    have S7t : S7.get s.next = some ⟨27, 6, [[.int .i64 t.now, v7, w.fr, w.ho, w.ma, w.it]]⟩ := by rw [← hS7]; simp only [Mem.get_put, if_pos]
    clear hS7
    have hmks : ∀ m ∈ p.ma, m.key.length ≤ 64 ∧ 0 < m.token := fun m hx => by
      have h1 := ((marks_iff _).mp hmm).2.1 m hx
      have h2 := hmk m hx
      simp only [mayM, Bool.and_eq_true, decide_eq_true_eq, Bool.not_eq_true', decide_eq_false_iff_not] at h1
      exact ⟨h1.1, by have := h1.2; omega⟩
    have hDl : ∀ r, D r → S7.get r = s.get r := fun r hr => by
      have := hI r hr
      rw [S7g r (by omega)]; exact k7.get r this
    have hHS := till_may (now := t.now) n0 hmh
    have k7' : Keep s.next s S7 := ⟨by rw [S7n]; exact k7.next, by rw [S7f]; exact k7.floor, fun q hq => by rw [S7g q (by omega)]; exact k7.get q hq⟩
    have n7 := r7.n
    have ti7 : TabIn S7 (fun q => D q ∨ (s6.next ≤ q ∧ q < S7.next)) ⟨v7, w.fr, w.ho, w.ma, w.it⟩ (putT t (addP t.spans p.sp) [] []) :=
      ⟨(sp7.keep fun q hq => S7g q (by omega)).mono fun q hq => .inr (by omega), (hw.fr.keep hDl).mono fun q => .inl, (hw.ho.keep hDl).mono fun q => .inl, (hw.ma.keep hDl).mono fun q => .inl, (hw.it.keep hDl).mono fun q => .inl⟩
    have p7 : S7.get (s.next + 1) = _ := (S7g _ (by omega)).trans r7.b
    have q7 : S7.get (s.next + 1 + 1) = _ := (S7g _ (by omega)).trans r7.c
    have f7S : S7.floor ≤ s.next := by rw [S7f]; exact f7'
    refine W_inv p.ho.length (fun i E s' => ∃ w', s'.get s.next = some ⟨27, 6, [tabC (putT t (addP t.spans p.sp) ((p.ho.take i).map (tillG (unpG t.now))) []) w']⟩ ∧ TabIn s' (fun q => D q ∨ (s6.next ≤ q ∧ q < s'.next)) w' (putT t (addP t.spans p.sp) ((p.ho.take i).map (tillG (unpG t.now))) []) ∧ ((∀ q, q < S7.next → q ≠ s.next → s'.get q = S7.get q) ∧ S7.next ≤ s'.next ∧ s'.floor = S7.floor) ∧ E.get 2 = .ptr s.next 0 0 ∧ E.get 3 = .ptr (s.next + 1) 0 0 ∧ E.get 4 = .ptr (s.next + 1 + 1) 0 0 ∧ E.get 7 = .int .i64 i) (by delta cf21l0 oo on om og oc ou; exact rfl) ?_ ?_
    · refine ⟨⟨v7, w.fr, w.ho, w.ma, w.it⟩, S7t, ti7, ⟨fun q _ _ => rfl, Nat.le_refl _, rfl⟩, (by simp only [ev, Env.get_set, ↓reduceIte, Nat.reduceEqDiff]), (by simp only [ev, Env.get_set, ↓reduceIte, Nat.reduceEqDiff]), (by simp only [ev, Env.get_set, ↓reduceIte, Nat.reduceEqDiff]), ?_⟩
      simp only [ev, Env.get_set, ↓reduceIte, Nat.reduceEqDiff]; rfl
    rintro i E s10 hile _ ⟨w', a10, t10, ⟨o10, n10, f10⟩, q2, q3, q4, qi⟩
    have f10' : s10.floor ≤ s.next := by rw [f10]; exact f7S
    have f10'' : s10.floor ≤ s10.next := by omega
    have p10 : s10.get (s.next + 1) = _ := (o10 _ (by omega) (by omega)).trans p7
    have kD : ∀ q, D q → s10.get q = s.get q := fun q hq => by have := hI q hq; rw [o10 q (by omega) (by omega)]; exact hDl q hq
    by_cases hlt : i < p.ho.length
    · obtain ⟨x, hx⟩ := get_of hlt
      obtain ⟨q, hq, P, hld⟩ := (hh.keep kD).ldk (fun q hq => by have := hI q hq; omega) hx rfl rfl
      have hld' := hld _ (Keep.refl _ _)
      simp only [holdC] at hld'
      have ne10 : (s.next = s10.next) = False := by simp; omega
      have ne11 : (s.next + 1 = s10.next) = False := by simp; omega
      have ne12 : (s10.next = s.next) = False := by simp; omega
      have htk : (p.ho.take (i + 1)).map (tillG (unpG t.now)) = (p.ho.take i).map (tillG (unpG t.now)) ++ [tillG (unpG t.now) x] := by rw [List.take_add_one, hx]; simp
      have hxm := hold_may hmh x (List.mem_of_getElem? hx)
      simp only [mayH, Bool.and_eq_true, decide_eq_true_eq] at hxm
      obtain ⟨z1, z2⟩ := setFs_ok ((p.ho.take i).map (tillG (unpG t.now))) t.holds hoo (fun y hy => hHS y (by
        obtain ⟨z, hz, rfl⟩ := List.mem_map.mp hy
        exact List.mem_map_of_mem (List.mem_of_mem_take hz))) (by rw [List.length_map, List.length_take]; omega)
      rw [List.length_map, List.length_take] at z2
      simp only [tabC] at a10
      have enow : (putT t (addP t.spans p.sp) ((p.ho.take i).map (tillG (unpG t.now))) []).now = t.now := rfl
      rw [enow] at a10
      (repeat' (with_reducible first|refine w_1 ?_|refine w_2 ?_|refine w_3 ?_|refine w_4 ?_|refine w_5 ?_|simp (maxDischargeDepth:=12) only [viz,↓reduceIte,Nat.reduceEqDiff,Nat.reduceAdd,q2,q3,qi,p10,l4,lt_true hlt,hq,hld',f10'',a10,ne10]))
      refine runtil_c n0 n1 hxm.1.2 hxm.2 ?_
      rw [unp_same]
      (repeat' (with_reducible first|refine w_2 ?_|simp (maxDischargeDepth:=12) only [viz,↓reduceIte,Nat.reduceEqDiff,Nat.reduceAdd,q2,a10,ne10,f10'']))
      generalize hS : s10.push _ = S11
      have hp10 : Keep s10.next s10 S11 := by rw [← hS]; exact pushes _ _
      have np : S11.next = s10.next + 1 := by rw [← hS, next_push']
      clear hS
      refine rput_c (l := ((p.ho.take i).map (tillG (unpG t.now))).foldl setF t.holds) (h := tillG (unpG t.now) x) (D := fun q => D q ∨ (s6.next ≤ q ∧ q < s10.next)) (hp10.ok f10'') (fun q hq => by
        rcases hq with hq | hq
        · have := hI q hq; omega
        · omega) (t10.ho.keep fun q hq => hp10.get q (by
        rcases hq with hq | hq
        · have := hI q hq; omega
        · exact hq.2)) (by omega) fun v11 s11 h11 e11 => ?_
      have h11' := hp10.then h11
      have n11 := h11'.next
      have a11 := (h11'.get s.next (by omega)).trans a10
      have f11 : s11.floor ≤ s.next := by rw [h11'.floor]; exact f10'
      have c11 := own_cell e11
      (repeat' (with_reducible first|refine w_2 ?_|simp (maxDischargeDepth:=12) only [viz,↓reduceIte,Nat.reduceEqDiff,Nat.reduceAdd,q2,q3,q4,qi,a11,f11,c11,cells_cell c11]))
      refine ⟨hlt, ⟨w'.sp, w'.fr, v11, w'.ma, w'.it⟩, rfl, ?_, ⟨fun q p1 p2 => ?_, by omega, by rw [h11'.floor]; exact f10⟩, succ_av (by omega)⟩
      · have g : ∀ q, D q ∨ (s6.next ≤ q ∧ q < s10.next) → (s11.put s.next (some ⟨27, 6, [[.int .i64 t.now, w'.sp, w'.fr, v11, w'.ma, w'.it]]⟩)).get q = s10.get q := fun q hq => by
          have : q < s10.next ∧ q ≠ s.next := by
            rcases hq with hq | hq
            · have := hI q hq; omega
            · omega
          rw [Mem.get_put, if_neg this.2]; exact h11'.get q this.1
        have m : ∀ q, D q ∨ (s6.next ≤ q ∧ q < s10.next) → D q ∨ (s6.next ≤ q ∧ q < s11.next) := fun q hq => hq.imp id fun hq => by omega
        refine ⟨(t10.sp.keep g).mono m, (t10.fr.keep g).mono m, ?_, (t10.ma.keep g).mono m, (t10.it.keep g).mono m⟩
        show Holds _ _ v11 (((p.ho.take (i + 1)).map (tillG (unpG t.now))).foldl setF t.holds)
        rw [htk, List.foldl_append]
        exact ((e11.sl (D := fun q => S11.next ≤ q ∧ q < s11.next) (hold_cells _) fun r n e => e11.row r 0 n 3 e).keep fun q hq => by rw [Mem.get_put, if_neg (by omega)]).mono fun q hq => .inr (by omega)
      · rw [if_neg p2, h11'.get q (by omega)]; exact o10 q p1 p2
    have hfull : p.ho.take i = p.ho := List.take_of_length_le (by omega)
    rw [hfull] at a10 t10
    have hK3 : ∀ w' s', Keep s.next s s' → TabIn s' (fun r => D r ∨ (s.next ≤ r ∧ r < s'.next)) w' (putT t (addP t.spans p.sp) (p.ho.map (tillG (unpG t.now))) p.ma) → K (.tup [.agg (tabC (putT t (addP t.spans p.sp) (p.ho.map (tillG (unpG t.now))) p.ma) w'), .int .i64 0]) s' := hK
    clear hK
    generalize p.ho.map (tillG (unpG t.now)) = HS at *
    have hK2 : ∀ w' s', Keep s.next s s' → TabIn s' (fun r => D r ∨ (s.next ≤ r ∧ r < s'.next)) w' (putT t (addP t.spans p.sp) HS p.ma) → K (.tup [.agg (tabC (putT t (addP t.spans p.sp) HS p.ma) w'), .int .i64 0]) s' := hK3
    (repeat' (with_reducible first|refine w_1 ?_|refine w_2 ?_|refine w_3 ?_|refine w_4 ?_|refine w_7 ?_|simp (maxDischargeDepth:=12) only [viz,↓reduceIte,Nat.reduceEqDiff,Nat.reduceAdd,q3,qi,p10,l4,lt_false hlt]))
    refine W_inv p.ma.length (fun i E s' => ∃ w', s'.get s.next = some ⟨27, 6, [tabC (putT t (addP t.spans p.sp) HS (p.ma.take i)) w']⟩ ∧ TabIn s' (fun q => D q ∨ (s6.next ≤ q ∧ q < s'.next)) w' (putT t (addP t.spans p.sp) HS (p.ma.take i)) ∧ ((∀ q, q < S7.next → q ≠ s.next → s'.get q = S7.get q) ∧ S7.next ≤ s'.next ∧ s'.floor = S7.floor) ∧ E.get 2 = .ptr s.next 0 0 ∧ E.get 3 = .ptr (s.next + 1) 0 0 ∧ E.get 4 = .ptr (s.next + 1 + 1) 0 0 ∧ E.get 9 = .int .i64 i) (by delta cf21l1 oo on om og oc ou; exact rfl) ?_ ?_
    · refine ⟨w', a10, t10, ⟨o10, n10, f10⟩, ?_, ?_, ?_, ?_⟩
      all_goals simp only [ev, Env.get_set, ↓reduceIte, Nat.reduceEqDiff, q2, q3, q4]
      all_goals rfl
    rintro i E s10 hile _ ⟨w', a10, t10, ⟨o10, n10, f10⟩, q2, q3, q4, qi⟩
    have f10' : s10.floor ≤ s.next := by rw [f10]; exact f7S
    have f10'' : s10.floor ≤ s10.next := by omega
    have p10 : s10.get (s.next + 1) = _ := (o10 _ (by omega) (by omega)).trans p7
    have kD : ∀ q, D q → s10.get q = s.get q := fun q hq => by have := hI q hq; rw [o10 q (by omega) (by omega)]; exact hDl q hq
    by_cases hlt : i < p.ma.length
    · obtain ⟨x, hx⟩ := get_of hlt
      obtain ⟨q, hq, P, _⟩ := (hm.keep kD).ldk (fun q hq => by have := hI q hq; omega) hx rfl rfl
      have l0 : loadA s10 false 1 (VI.adr q 0) = some (.str x.key) := by
        have := P.ldf _ (Keep.refl _ _) 0 false 1 (by simp [markC])
        rw [this]; rfl
      have l1' : loadA s10 false 1 (VI.adr q 1) = some (.int .u64 x.token) := by
        have := P.ldf _ (Keep.refl _ _) 1 false 1 (by simp [markC])
        rw [this]; rfl
      have htk : p.ma.take (i + 1) = p.ma.take i ++ [x] := by rw [List.take_add_one, hx]; rfl
      obtain ⟨x1, x2⟩ := hmks x (List.mem_of_getElem? hx)
      obtain ⟨z1, z2⟩ := markFs_ok (p.ma.take i) t.marks mao (fun y hy => hmks y (List.mem_of_mem_take hy)) (by rw [List.length_take]; omega)
      rw [List.length_take] at z2
      simp only [tabC] at a10
      (repeat' (with_reducible first|refine w_1 ?_|refine w_2 ?_|refine w_3 ?_|refine w_4 ?_|refine w_5 ?_|simp (maxDischargeDepth:=12) only [viz,↓reduceIte,Nat.reduceEqDiff,Nat.reduceAdd,q2,q3,qi,p10,l5,lt_true hlt,hq,P.adr,l0,l1',a10]))
      refine rmark_c (l := (p.ma.take i).foldl markF t.marks) (k := x.key) (token := x.token) (D := fun q => D q ∨ (s6.next ≤ q ∧ q < s10.next)) f10'' (fun q hq => by
        rcases hq with hq | hq
        · have := hI q hq; omega
        · exact hq.2) t10.ma (by omega) z1 x1 x2 fun v11 s11 h11' e11 => ?_
      have n11 := h11'.next
      have a11 := (h11'.get s.next (by omega)).trans a10
      have f11 : s11.floor ≤ s.next := by rw [h11'.floor]; exact f10'
      have c11 := own_cell e11
      (repeat' (with_reducible first|refine w_2 ?_|simp (maxDischargeDepth:=12) only [viz,↓reduceIte,Nat.reduceEqDiff,Nat.reduceAdd,q2,q3,q4,qi,a11,f11,c11,cells_cell c11]))
      refine ⟨hlt, ⟨w'.sp, w'.fr, w'.ho, v11, w'.it⟩, rfl, ?_, ⟨fun q p1 p2 => ?_, by omega, by rw [h11'.floor]; exact f10⟩, succ_av (by omega)⟩
      · have g : ∀ q, D q ∨ (s6.next ≤ q ∧ q < s10.next) → (s11.put s.next (some ⟨27, 6, [[.int .i64 (putT t (addP t.spans p.sp) HS (p.ma.take i)).now, w'.sp, w'.fr, w'.ho, v11, w'.it]]⟩)).get q = s10.get q := fun q hq => by
          have : q < s10.next ∧ q ≠ s.next := by
            rcases hq with hq | hq
            · have := hI q hq; omega
            · omega
          rw [Mem.get_put, if_neg this.2]; exact h11'.get q this.1
        have m : ∀ q, D q ∨ (s6.next ≤ q ∧ q < s10.next) → D q ∨ (s6.next ≤ q ∧ q < s11.next) := fun q hq => hq.imp id fun hq => by omega
        refine ⟨(t10.sp.keep g).mono m, (t10.fr.keep g).mono m, (t10.ho.keep g).mono m, ?_, (t10.it.keep g).mono m⟩
        show Marks _ _ v11 ((p.ma.take (i + 1)).foldl markF t.marks)
        rw [htk, List.foldl_append]
        exact ((e11.sl (D := fun q => s10.next ≤ q ∧ q < s11.next) (mark_cells _) fun r n e => e11.row r 0 n 2 e).keep fun q hq => by rw [Mem.get_put, if_neg (by omega)]).mono fun q hq => .inr (by omega)
      · rw [if_neg p2, h11'.get q (by omega)]; exact o10 q p1 p2
    have hfull : p.ma.take i = p.ma := List.take_of_length_le (by omega)
    rw [hfull] at a10 t10
    have c10 : s10.get (s.next + 1 + 1) = _ := (o10 _ (by omega) (by omega)).trans q7
    have f10c : s10.floor ≤ s.next + 1 + 1 := by omega
    simp only [tabC] at a10
    (repeat' (with_reducible first|refine w_1 ?_|refine w_2 ?_|refine w_4 ?_|refine w_6 ?_|refine w_7 ?_|simp (maxDischargeDepth:=12) only [viz,↓reduceIte,Nat.reduceEqDiff,Nat.reduceAdd,q2,q3,q4,qi,p10,l5,lt_false hlt,a10,c10,f10c,t10.sp.cell,t10.fr.cell,t10.ho.cell,t10.ma.cell,t10.it.cell]))
    generalize hPe : Mem.put _ _ _ = P
    have hPg : ∀ q, q ≠ s.next + 1 + 1 → P.get q = s10.get q := fun q h1 => by rw [← hPe, Mem.get_put, if_neg h1]
    have hPn : P.next = s10.next := by rw [← hPe]; rfl
    have hPf : P.floor = s10.floor := by rw [← hPe]; rfl
    refine hK2 w' P ⟨by have := k7'.next; omega, by rw [hPf, f10]; exact k7'.floor, fun q hq => by rw [hPg q (by omega), o10 q (by omega) (by omega)]; exact k7'.get q hq⟩ ((t10.keep fun q hq => hPg q ?_).mono fun q hq => hq.imp id fun hq => by omega)
    rcases hq with hq | hq
    · have := hI q hq; omega
    · omega
  · refine hz _ _ _ k1 ?_
    unfold impP
    rw [if_pos (by grind)]
end Go.Proofs.YthibbbfhkfebkaaGreat
/- Parcels as arguments; parcels alike; what comes of moves is small. No statement of the seat is proved here. -/
namespace Go.Proofs.YthibbbfhkfebkaaGreat
open Go Go.VI Go.RowKit
set_option maxRecDepth 100000
set_option linter.unusedSimpArgs false
theorem ty_mark2 {B d : Nat} {c : List AV} (h : Ty Tryz.prog B (d + 2) 68 c) : ∃ a, c = markC a ∧ 0 ≤ a.token := by
  obtain ⟨a, _, rfl, h1, b, _, rfl, h2, rfl⟩ := Ty.fields (ts := [9, 28]) (by kernel_rfl) h
  obtain ⟨n, rfl, _⟩ := Ty.str (by kernel_rfl) h1
  obtain ⟨m, rfl, hm⟩ := Ty.int (k := .u64) (by kernel_rfl) h2
  exact ⟨⟨n, m⟩, rfl, wf_u64 hm⟩
theorem ty_marks {B d : Nat} {c : List AV} (h : Ty Tryz.prog B (d + 3) 24 c) : ∃ v l, c = [v] ∧ isSl v (List.map markC l) ∧ l.length ≤ B ∧ ∀ x ∈ l, 0 ≤ x.token := by
  rcases Ty.slice (e := 68) (by kernel_rfl) h with rfl | ⟨xs, rfl, h1, h2⟩
  · exact ⟨.nilS, [], rfl, .inl ⟨rfl, rfl⟩, Nat.zero_le _, by simp⟩
  · have hxl : xs.length ≤ B := Nat.le_trans (Nat.le_mul_of_pos_right _ (Nat.le_of_ble_eq_true (by kernel_rfl))) h1
    have : ∃ l, xs = List.map markC l ∧ ∀ x ∈ l, 0 ≤ x.token := by
      clear h h1 hxl
      induction xs with
      | nil => exact ⟨[], rfl, by simp⟩
      | cons x xs ih =>
        obtain ⟨l, g1, g3⟩ := ih (fun y hy => h2 y (List.mem_cons_of_mem _ hy))
        obtain ⟨a, g2, g4⟩ := ty_mark2 (h2 x (List.mem_cons_self ..))
        refine ⟨a :: l, by rw [g1, g2]; rfl, fun y hy => ?_⟩
        rcases List.mem_cons.mp hy with rfl | hy
        · exact g4
        · exact g3 y hy
    obtain ⟨l, rfl, hl⟩ := this
    exact ⟨_, l, rfl, .inr rfl, by simpa using hxl, hl⟩
theorem tyV_span {B d : Nat} {c : AV} (h : TyV Tryz.prog B (d + 2) 47 c) : ∃ x : Span, c = .agg (spanC x) := by
  obtain ⟨h1, a, h2, h3⟩ := h
  obtain ⟨x, hx⟩ := ty_span h1
  have : cAgg Tryz.prog 47 = some true := by kernel_rfl
  rw [this] at h2
  obtain rfl := Option.some.inj h2
  refine ⟨x, ?_⟩
  rw [hx] at h3
  simpa using h3
theorem tyV_parcel {d : Nat} {c : AV} (h : TyV Tryz.prog reachBytes (d + 5) 49 c) : ∃ (p : Parcel) (hv mv : AV), c = .agg (parC p hv mv) ∧ (∀ s D, Holds s D hv p.ho) ∧ (∀ s D, Marks s D mv p.ma) ∧ p.ho.length < 1000000000000000000 ∧ p.ma.length < 1000000000000000000 ∧ ∀ x ∈ p.ma, 0 ≤ x.token := by
  obtain ⟨h1, a, h2, h3⟩ := h
  obtain ⟨x0, _, hx, t0, x1, _, rfl, t1, x2, _, rfl, t2, x3, _, rfl, t3, rfl⟩ := Ty.fields (ts := [28, 47, 23, 24]) (by kernel_rfl) h1
  obtain ⟨n0, rfl, _⟩ := Ty.int (k := .u64) (by kernel_rfl) t0
  obtain ⟨sp, rfl⟩ := ty_span t1
  obtain ⟨v3, l3, rfl, p3, q3⟩ := ty_list (f := holdC) (e := 58) (by kernel_rfl) (fun x hx => ty_hold hx) (by kernel_rfl) t2
  obtain ⟨v4, l4, rfl, p4, q4, hk⟩ := ty_marks t3
  have : cAgg Tryz.prog 49 = some true := by kernel_rfl
  rw [this] at h2
  obtain rfl := Option.some.inj h2
  have hb : reachBytes < 1000000000000000000 := by decide
  refine ⟨⟨n0, sp, l3, l4⟩, v3, v4, ?_, fun s D => Sl.of_isSl p3 (hold_cells _), fun s D => Sl.of_isSl p4 (mark_cells _), Nat.lt_of_le_of_lt q3 hb, Nat.lt_of_le_of_lt q4 hb, hk⟩
  rw [hx] at h3
  have h4 : c = .agg [.int .u64 n0, .str sp.frm, .str sp.to, v3, v4] := by simpa [spanC] using h3
  exact h4
theorem frz_small {t : Table} {x : Span} (hs : Small t) : Small2 (frzP t x).2 := by
  have z : Small2 zeroT := ⟨by decide, by decide, by decide, by decide, by decide⟩
  obtain ⟨a1, a2, a3, a4, a5⟩ := hs
  have := add_len t.frozen x
  unfold frzP
  repeat' split
  all_goals first | exact z | exact ⟨by show t.spans.length < _; omega, by show (addP t.frozen x).length < _; omega, by show t.holds.length < _; omega, by show t.marks.length < _; omega, by show t.ints.length < _; omega⟩
theorem exp_small {t : Table} {plan : Int} {x : Span} (hs : Small t) : Small2 (expP t plan x).2.1 ∧ (expP t plan x).2.2.ho.length ≤ t.holds.length ∧ (expP t plan x).2.2.ma.length ≤ t.marks.length := by
  have z : Small2 zeroT := ⟨by decide, by decide, by decide, by decide, by decide⟩
  obtain ⟨a1, a2, a3, a4, a5⟩ := hs
  have b1 := less_len t.spans x
  have b2 := less_len t.frozen x
  have c1 := List.length_filter_le (fun h : Hold => !hasP x h.key) t.holds
  have c2 := List.length_filter_le (fun h : Hold => hasP x h.key) t.holds
  have c3 := List.length_filter_le (fun h : Mark => !hasP x h.key) t.marks
  have c4 := List.length_filter_le (fun h : Mark => hasP x h.key) t.marks
  unfold expP
  repeat' split
  all_goals first
    | exact ⟨z, Nat.zero_le _, Nat.zero_le _⟩
    | exact ⟨⟨by show (lessP t.spans x).length < _; omega, by show (lessP t.frozen x).length < _; omega, by show (t.holds.filter fun h => !hasP x h.key).length < _; omega, by show (t.marks.filter fun h => !hasP x h.key).length < _; omega, by show t.ints.length < _; omega⟩, by show ((t.holds.filter fun h => hasP x h.key).map _).length ≤ _; rw [List.length_map]; exact c2, c4⟩
theorem fold_set_len (hs l : List Hold) : (hs.foldl setF l).length ≤ l.length + hs.length := by
  induction hs generalizing l with
  | nil => simp
  | cons x hs ih =>
    have := ih (setF l x)
    have := putG_len Hold.key x l
    rw [List.foldl_cons, List.length_cons]
    unfold setF at *
    omega
theorem fold_mark_len (ms l : List Mark) : (ms.foldl markF l).length ≤ l.length + ms.length := by
  induction ms generalizing l with
  | nil => simp
  | cons x ms ih =>
    have := ih (markF l x)
    have := putG_len Mark.key (mkM l x.key x.token) l
    rw [List.foldl_cons, List.length_cons]
    unfold markF at *
    omega
theorem imp_small {t : Table} {p : Parcel} (hs : Small t) (hpl : p.ho.length ≤ 300 ∧ p.ma.length ≤ 300) : Small2 (impP t p).2 := by
  have z : Small2 zeroT := ⟨by decide, by decide, by decide, by decide, by decide⟩
  obtain ⟨a1, a2, a3, a4, a5⟩ := hs
  have b1 := add_len t.spans p.sp
  have b2 := fold_set_len (p.ho.map (tillG (unpG t.now))) t.holds
  have b3 := fold_mark_len p.ma t.marks
  rw [List.length_map] at b2
  unfold impP
  repeat' split
  all_goals first
    | exact z
    | exact ⟨by show (addP t.spans p.sp).length < _; omega, by show t.frozen.length < _; omega, by show ((p.ho.map (tillG (unpG t.now))).foldl setF t.holds).length < _; omega, by show (p.ma.foldl markF t.marks).length < _; omega, by show t.ints.length < _; omega⟩
attribute [local irreducible] Ws Wp W C
set_option maxHeartbeats 4000000
theorem psame_c {p : Parcel} {hv mv hu mu : AV} {D : Nat → Prop} {s : Mem} {K : AV → Mem → Prop} (hI : In D s) (h1 : Holds s D hv p.ho) (h2 : Marks s D mv p.ma) (h3 : Holds s D hu p.ho) (h4 : Marks s D mu p.ma) (hl : p.ho.length < 1000000000 ∧ p.ma.length < 1000000000)
    (hK : ∀ s', Keep s.next s s' → K (.bool true) s') : C tab 19 [.agg (parC p hv mv), .agg (parC p hu mu)] s K := by
  refine C_enter (cf := cf19) rfl (Nat.le_of_ble_eq_true rfl) ?_
  simp only [cf19, oo, on, om, og, oc, ou, parC]
  have r0 := R2.of_push s ⟨49, 5, [[.int .u64 p.plan, .str p.sp.frm, .str p.sp.to, hv, mv]]⟩ ⟨49, 5, [[.int .u64 p.plan, .str p.sp.frm, .str p.sp.to, hu, mu]]⟩
  have k0 := (pushes s ⟨49, 5, [[.int .u64 p.plan, .str p.sp.frm, .str p.sp.to, hv, mv]]⟩).then (pushes _ ⟨49, 5, [[.int .u64 p.plan, .str p.sp.frm, .str p.sp.to, hu, mu]]⟩)
  have es := speq_c p.sp
  simp only [spanC] at es
  (repeat' (with_reducible first|refine w_1 ?_|refine w_2 ?_|((try refine w_9 ?_);simp (maxDischargeDepth:=12) only [viz,↓reduceIte,Nat.reduceEqDiff,Nat.reduceAdd,h1.cell,h2.cell,h3.cell,h4.cell,es])))
  generalize (s.push _).push _ = S0 at *
  have I0 := hI.keep k0
  have g : ∀ r, D r → S0.get r = s.get r := fun r hr => k0.get r (hI r hr)
  refine hosame_c I0 (h1.keep g) (h3.keep g) hl.1 ?_
  (repeat' with_reducible ((try refine w_9 ?_);simp (maxDischargeDepth:=12) only [viz,↓reduceIte,Nat.reduceEqDiff,Nat.reduceAdd,r0.a,r0.b]))
  refine masame_c I0 (h2.keep g) (h4.keep g) hl.2 ?_
  (repeat' (with_reducible first|refine w_6 ?_|simp (maxDischargeDepth:=12) only [viz,↓reduceIte]))
  exact hK _ k0
end Go.Proofs.YthibbbfhkfebkaaGreat

