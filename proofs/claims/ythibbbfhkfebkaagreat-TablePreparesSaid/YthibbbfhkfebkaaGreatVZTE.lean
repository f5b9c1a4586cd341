/- Pieces by the document. No statement of the seat is proved here. -/
import Derived.Test.YthibbbfhkfebkaaGreatVZTD
import Derived.Test.YthibbbfhkfebkaaGreatVZVE
import Derived.Test.YthibbbfhkfebkaaGreatVZTC
namespace Go.Proofs.YthibbbfhkfebkaaGreat
open Go Go.VI
set_option linter.unusedSimpArgs false
theorem span_cells (l : List Span) : ∀ c ∈ l.map spanC, c.length = 2 := fun c hc => by
  obtain ⟨y, _, rfl⟩ := List.mem_map.mp hc; rfl
theorem store_to {M : Mem} {r i ty : Nat} {els : List (List AV)} {f t a : Txt} (h : M.get r = some ⟨ty, 2, els⟩) (hc : els[i]? = some [.str f, .str t]) (hf : M.floor ≤ r) :
    storeA M 1 (.ptr r i 1) (.str a) = some (M.put r (some ⟨ty, 2, els.set i [.str f, .str a]⟩)) := by
  simp only [viz,↓reduceIte,Nat.reduceEqDiff,reduceCtorEq,Int.reduceEq,Int.reduceNeg,Nat.reduceAdd,Nat.reduceLeDiff, h, hc, hf]
theorem setTo_set {out : List Span} {x : Span} (a : Txt) (h : out[out.length - 1]? = some x) : (setTo out a).map spanC = (out.map spanC).set (out.length - 1) [.str x.frm, .str a] := by
  have hg : out.getLast? = some x := by rw [List.getLast?_eq_getElem?]; exact h
  obtain ⟨ys, rfl⟩ := List.getLast?_eq_some_iff.mp hg
  rw [setTo_snoc]
  simp [spanC]
theorem next_1 {q op : Bool} (h : (q && !op) = true) : (!q && op) = false := by cases q <;> cases op <;> simp_all
theorem next_2 {is : Txt → Bool} {q op : Bool} {out : List Span} {a : Txt} (e : is a = q) (h : (!q && op) = true) : nextOut is op out a = setTo out a := by
  subst e; unfold nextOut; cases h1 : is a <;> cases op <;> simp_all
theorem next_3 {is : Txt → Bool} {q op : Bool} {out : List Span} {a : Txt} (e : is a = q) (h1 : (q && !op) = false) (h2 : (!q && op) = false) : nextOut is op out a = out := by
  subst e; unfold nextOut; cases h1 : is a <;> cases op <;> simp_all
attribute [local irreducible] Ws Wp W C
set_option maxHeartbeats 4000000
theorem piece_c {l : List Span} {x : Span} {v : AV} {D : Nat → Prop} {s : Mem} {K : AV → Mem → Prop} (hf : s.floor ≤ s.next) (hI : In D s) (hv : Spans s D v l) (hl : l.length < 200)
    (hK : ∀ v' s', Keep s.next s s' → OwnL s' s.next v' 47 2 ((pieceP l x 1).map spanC) → K v' s') : C tab 22 [v, .agg (spanC x), .int .i64 1] s K := by
  refine C_enter (cf := cf22) rfl (Nat.le_of_ble_eq_true rfl) ?_
  simp only [cf22, oo, on, om, og, oc, ou, spanC]
  (repeat' (with_reducible first|refine w_1 ?_|refine w_2 ?_|refine w_3 ?_|refine w_4 ?_|refine w_5 ?_|refine w_6 ?_|refine w_7 ?_|(refine w_8 (fun hb=>?_) (fun hb=>?_)<;>(try simp only [Bool.not_eq_true',Bool.not_eq_false'] at hb)<;>try simp only [hb])|(refine w_9 ?_;simp (maxDischargeDepth:=12) only [viz,↓reduceIte,Nat.reduceEqDiff,reduceCtorEq,Int.reduceEq,Int.reduceNeg,Nat.reduceAdd,Nat.reduceLeDiff])|refine w_10 (fun hc=>(by (try simp only [Bool.and_eq_true] at hc);simp (maxDischargeDepth:=12) only [viz,↓reduceIte,Nat.reduceEqDiff,reduceCtorEq,Int.reduceEq,Int.reduceNeg,Nat.reduceAdd,Nat.reduceLeDiff,hc];first|exact ⟨rfl,rfl⟩|exact rfl)) ?_|refine w_11 (fun hc=>(by (try simp only [Bool.and_eq_true] at hc);simp (maxDischargeDepth:=12) only [viz,↓reduceIte,Nat.reduceEqDiff,reduceCtorEq,Int.reduceEq,Int.reduceNeg,Nat.reduceAdd,Nat.reduceLeDiff,hc];first|exact ⟨rfl,rfl⟩|exact rfl)) ?_|refine w_12 ?_|simp (maxDischargeDepth:=12) only [viz,↓reduceIte,Nat.reduceEqDiff,reduceCtorEq,Int.reduceEq,Int.reduceNeg,Nat.reduceAdd,Nat.reduceLeDiff]))
  refine app_x (b := s.next + 1 + 1) (xs := []) (ys := l.map spanC) (Nat.le_refl _) (Nat.le_refl _) (by simp only [ev, Env.get_set, ↓reduceIte, Nat.reduceEqDiff]; exact OwnL.emp _ _ _ _) ?_ ?_ (room (by simp; omega) (by simp; omega)) ?_
  · simp only [ev, Env.get_set, ↓reduceIte, Nat.reduceEqDiff]
    exact (mat_read _ _ _).trans (hv.readk hI _ ((pushes s ⟨47, 2, [[.str x.frm, .str x.to]]⟩).then (pushes _ ⟨47, 2, []⟩)))
  · exact hv.uni
  · intro v3 s3 ho3 hx3 _ hr3
    rw [List.nil_append] at ho3
    have hk3 : Keep (s.next + 1 + 1) (((s.push ⟨47, 2, [[.str x.frm, .str x.to]]⟩).at (s.next + 1 + 1)).push ⟨47, 2, []⟩) s3 := hx3.keep (Nat.le_refl _) fun r i n z h => by simp only [ev, Env.get_set, ↓reduceIte, Nat.reduceEqDiff, reduceCtorEq] at h
    have hkA : Keep s.next s (s3.at s.floor) := ((pushes s ⟨47, 2, [[.str x.frm, .str x.to]]⟩).then (pushes _ ⟨47, 2, []⟩)).then (Keep.of_at (s := (s.push ⟨47, 2, [[.str x.frm, .str x.to]]⟩).push ⟨47, 2, []⟩) hk3)
    have hg3 : s3.get s.next = some ⟨47, 2, [[.str x.frm, .str x.to]]⟩ := by
      rw [hk3.get _ (by omega)]
      simp only [Mem.get_push, mat_get, mat_next, next_push']
      rw [if_neg (by omega), if_pos trivial]
    have a3 : s.next + 1 + 1 ≤ s3.next := hk3.next
    have hf3 : s.floor ≤ s3.next := by omega
    have ho3' : OwnL (s3.at s.floor) (s.next + 1 + 1) v3 47 2 (l.map spanC) := ho3.at (by omega)
    (repeat' (with_reducible first|refine w_1 ?_|refine w_2 ?_|refine w_3 ?_|refine w_4 ?_|refine w_5 ?_|refine w_6 ?_|refine w_7 ?_|(refine w_8 (fun hb=>?_) (fun hb=>?_)<;>(try simp only [Bool.not_eq_true',Bool.not_eq_false'] at hb)<;>try simp only [hb])|(refine w_9 ?_;simp (maxDischargeDepth:=12) only [viz,↓reduceIte,Nat.reduceEqDiff,reduceCtorEq,Int.reduceEq,Int.reduceNeg,Nat.reduceAdd,Nat.reduceLeDiff,hg3,hf3,le_s1 hf3])|refine w_10 (fun hc=>(by (try simp only [Bool.and_eq_true] at hc);simp (maxDischargeDepth:=12) only [viz,↓reduceIte,Nat.reduceEqDiff,reduceCtorEq,Int.reduceEq,Int.reduceNeg,Nat.reduceAdd,Nat.reduceLeDiff,hg3,hf3,le_s1 hf3,hc];first|exact ⟨rfl,rfl⟩|exact rfl)) ?_|refine w_11 (fun hc=>(by (try simp only [Bool.and_eq_true] at hc);simp (maxDischargeDepth:=12) only [viz,↓reduceIte,Nat.reduceEqDiff,reduceCtorEq,Int.reduceEq,Int.reduceNeg,Nat.reduceAdd,Nat.reduceLeDiff,hg3,hf3,le_s1 hf3,hc];first|exact ⟨rfl,rfl⟩|exact rfl)) ?_|refine w_12 ?_|simp (maxDischargeDepth:=12) only [viz,↓reduceIte,Nat.reduceEqDiff,reduceCtorEq,Int.reduceEq,Int.reduceNeg,Nat.reduceAdd,Nat.reduceLeDiff,hg3,hf3,le_s1 hf3]))
    refine app_lit (k := 1) (b := s.next + 1 + 1) (xs := l.map spanC) (ys := [spanC x]) (s := s3.at s.floor) (show s.floor ≤ s.next + 1 + 1 by omega) a3 ho3' (by simp only [ev, Env.get_set, ↓reduceIte, Nat.reduceEqDiff]) (by simp only [ev, Env.get_set, ↓reduceIte, Nat.reduceEqDiff]; rfl) rfl rfl (room (by simp; omega) (by simp; omega)) ?_
    intro v4 s4 ho4 hx4 hr4 _
    have hk34 : Keep (s.next + 1 + 1) (s3.at s.floor) s4 := hx4.keep a3 fun r i n z h => (ho3'.row r i n z h).1
    have hk4 : Keep s.next s s4 := hkA.trans (hk34.le (by omega))
    have hg4 : s4.get s.next = some ⟨47, 2, [[.str x.frm, .str x.to]]⟩ := (hk34.get _ (by omega)).trans hg3
    have a4 : s3.next ≤ s4.next := hx4.next
    have em : l.map spanC ++ [spanC x] = (l ++ [x]).map spanC := by simp
    rw [em] at ho4
    (repeat' (with_reducible first|refine w_1 ?_|refine w_2 ?_|refine w_3 ?_|refine w_4 ?_|refine w_5 ?_|refine w_6 ?_|refine w_7 ?_|(refine w_8 (fun hb=>?_) (fun hb=>?_)<;>(try simp only [Bool.not_eq_true',Bool.not_eq_false'] at hb)<;>try simp only [hb])|(refine w_9 ?_;simp (maxDischargeDepth:=12) only [viz,↓reduceIte,Nat.reduceEqDiff,reduceCtorEq,Int.reduceEq,Int.reduceNeg,Nat.reduceAdd,Nat.reduceLeDiff])|refine w_10 (fun hc=>(by (try simp only [Bool.and_eq_true] at hc);simp (maxDischargeDepth:=12) only [viz,↓reduceIte,Nat.reduceEqDiff,reduceCtorEq,Int.reduceEq,Int.reduceNeg,Nat.reduceAdd,Nat.reduceLeDiff,hc];first|exact ⟨rfl,rfl⟩|exact rfl)) ?_|refine w_11 (fun hc=>(by (try simp only [Bool.and_eq_true] at hc);simp (maxDischargeDepth:=12) only [viz,↓reduceIte,Nat.reduceEqDiff,reduceCtorEq,Int.reduceEq,Int.reduceNeg,Nat.reduceAdd,Nat.reduceLeDiff,hc];first|exact ⟨rfl,rfl⟩|exact rfl)) ?_|refine w_12 ?_|simp (maxDischargeDepth:=12) only [viz,↓reduceIte,Nat.reduceEqDiff,reduceCtorEq,Int.reduceEq,Int.reduceNeg,Nat.reduceAdd,Nat.reduceLeDiff]))
    refine places_c (l := l ++ [x]) (hk4.ok hf) (D := fun q => s.next + 1 + 1 ≤ q ∧ q < s4.next) (fun q hq => hq.2) (ho4.sl (span_cells _) fun r n h => ho4.row r 0 n 2 h) (by simp; omega) fun v5 s5 hk45 hp5 => ?_
    have hk5 := hk4.then hk45
    have a5 := hk45.next
    have hg5 : s5.get s.next = some ⟨47, 2, [[.str x.frm, .str x.to]]⟩ := (hk45.get _ (by omega)).trans hg4
    have hv5 : Spans s5 D v l := hv.keep fun q hq => hk5.get q (hI q hq)
    have hI5 : In D s5 := fun q hq => Nat.lt_of_lt_of_le (hI q hq) hk5.next
    have hp5I : In (fun q => s4.next ≤ q ∧ q < s5.next) s5 := fun q hq => hq.2
    have plen := placesP_len (l ++ [x])
    rw [List.length_append, List.length_singleton] at plen
    have hlp : lenA false v5 = some (placesP (l ++ [x])).length := hp5.lenB
    have hup : Up (placesP (l ++ [x])) := (places_ok (l ++ [x]) [[]] (by simp [Up]) (by simp)).1
    (repeat' (with_reducible first|refine w_1 ?_|refine w_2 ?_|refine w_3 ?_|refine w_4 ?_|refine w_5 ?_|refine w_6 ?_|refine w_7 ?_|(refine w_8 (fun hb=>?_) (fun hb=>?_)<;>(try simp only [Bool.not_eq_true',Bool.not_eq_false'] at hb)<;>try simp only [hb])|(refine w_9 ?_;simp (maxDischargeDepth:=12) only [viz,↓reduceIte,Nat.reduceEqDiff,reduceCtorEq,Int.reduceEq,Int.reduceNeg,Nat.reduceAdd,Nat.reduceLeDiff])|refine w_10 (fun hc=>(by (try simp only [Bool.and_eq_true] at hc);simp (maxDischargeDepth:=12) only [viz,↓reduceIte,Nat.reduceEqDiff,reduceCtorEq,Int.reduceEq,Int.reduceNeg,Nat.reduceAdd,Nat.reduceLeDiff,hc];first|exact ⟨rfl,rfl⟩|exact rfl)) ?_|refine w_11 (fun hc=>(by (try simp only [Bool.and_eq_true] at hc);simp (maxDischargeDepth:=12) only [viz,↓reduceIte,Nat.reduceEqDiff,reduceCtorEq,Int.reduceEq,Int.reduceNeg,Nat.reduceAdd,Nat.reduceLeDiff,hc];first|exact ⟨rfl,rfl⟩|exact rfl)) ?_|refine w_12 ?_|simp (maxDischargeDepth:=12) only [viz,↓reduceIte,Nat.reduceEqDiff,reduceCtorEq,Int.reduceEq,Int.reduceNeg,Nat.reduceAdd,Nat.reduceLeDiff]))
    refine W_inv (placesP (l ++ [x])).length (fun i E s' => ∃ w, Keep s5.next s5 s' ∧ OwnL s' s5.next w 47 2 ((scanTo (isK l x 1) ((placesP (l ++ [x])).take i)).2.map spanC) ∧ E.get 0 = v ∧ E.get 2 = .int .i64 1 ∧ E.get 4 = .ptr s.next 0 0 ∧ E.get 7 = v5 ∧ E.get 8 = w ∧ E.get 9 = .bool (scanTo (isK l x 1) ((placesP (l ++ [x])).take i)).1 ∧ E.get 10 = .int .i64 i) (by delta cf22l0 oo on om og oc ou; exact rfl) ?_ ?_
    · refine ⟨.emp, pushes s5 _, OwnL.emp _ _ _ _, (by simp only [ev, Env.get_set, ↓reduceIte, Nat.reduceEqDiff]), (by simp only [ev, Env.get_set, ↓reduceIte, Nat.reduceEqDiff]), (by simp only [ev, Env.get_set, ↓reduceIte, Nat.reduceEqDiff]), (by simp only [ev, Env.get_set, ↓reduceIte, Nat.reduceEqDiff]), ?_, ?_, ?_⟩
      all_goals simp only [ev, Env.get_set, ↓reduceIte, Nat.reduceEqDiff]
      all_goals rfl
    rintro i E s' hile _ ⟨w, hk, hw, g0, g2, g4, g7, g8, g9, g10⟩
    by_cases hlt : i < (placesP (l ++ [x])).length
    · obtain ⟨a, ha⟩ := get_of hlt
      obtain ⟨p, hp, P, _⟩ := hp5.ldk hp5I ha rfl rfl
      have l0 : ∀ M, Keep s5.next s5 M → loadA M false 1 p = some (.str a) := fun M hM => by
        rw [P.ld _ hM]; rfl
      have hg' : s'.get s.next = some ⟨47, 2, [[.str x.frm, .str x.to]]⟩ := (hk.get _ (by omega)).trans hg5
      (repeat' (with_reducible first|refine w_1 ?_|refine w_2 ?_|refine w_3 ?_|refine w_4 ?_|refine w_5 ?_|refine w_6 ?_|refine w_7 ?_|(refine w_8 (fun hb=>?_) (fun hb=>?_)<;>(try simp only [Bool.not_eq_true',Bool.not_eq_false'] at hb)<;>try simp only [hb])|(refine w_9 ?_;simp (maxDischargeDepth:=12) only [viz,↓reduceIte,Nat.reduceEqDiff,reduceCtorEq,Int.reduceEq,Int.reduceNeg,Nat.reduceAdd,Nat.reduceLeDiff,g0,g2,g4,g7,g8,g9,g10,hlp,lt_true hlt,hp,l0 _ hk])|refine w_10 (fun hc=>(by (try simp only [Bool.and_eq_true] at hc);simp (maxDischargeDepth:=12) only [viz,↓reduceIte,Nat.reduceEqDiff,reduceCtorEq,Int.reduceEq,Int.reduceNeg,Nat.reduceAdd,Nat.reduceLeDiff,g0,g2,g4,g7,g8,g9,g10,hlp,lt_true hlt,hp,l0 _ hk,hc];first|exact ⟨rfl,rfl⟩|exact rfl)) ?_|refine w_11 (fun hc=>(by (try simp only [Bool.and_eq_true] at hc);simp (maxDischargeDepth:=12) only [viz,↓reduceIte,Nat.reduceEqDiff,reduceCtorEq,Int.reduceEq,Int.reduceNeg,Nat.reduceAdd,Nat.reduceLeDiff,g0,g2,g4,g7,g8,g9,g10,hlp,lt_true hlt,hp,l0 _ hk,hc];first|exact ⟨rfl,rfl⟩|exact rfl)) ?_|refine w_12 ?_|simp (maxDischargeDepth:=12) only [viz,↓reduceIte,Nat.reduceEqDiff,reduceCtorEq,Int.reduceEq,Int.reduceNeg,Nat.reduceAdd,Nat.reduceLeDiff,g0,g2,g4,g7,g8,g9,g10,hlp,lt_true hlt,hp,l0 _ hk]))
      refine rin_c (D := D) (s := s'.at s'.next) (fun q hq => Nat.lt_of_lt_of_le (hI5 q hq) hk.next) ((hv5.keep fun q hq => hk.get q (hI5 q hq)).at_) (by omega) fun s2 h2 => ?_
      have h2A : Keep s'.next s' (s2.at s'.floor) := Keep.of_at h2
      have a2 := h2A.next
      have an := hk.next
      simp only [mat_next] at a2
      have hg2 : s2.get s.next = some ⟨47, 2, [[.str x.frm, .str x.to]]⟩ := (h2A.get _ (by omega)).trans hg'
      have l2 : loadA s2 false 1 p = some (.str a) := by
        have := l0 _ (hk.then h2A)
        rwa [mat_load] at this
      (repeat' (with_reducible first|refine w_1 ?_|refine w_2 ?_|refine w_3 ?_|refine w_4 ?_|refine w_5 ?_|refine w_6 ?_|refine w_7 ?_|(refine w_8 (fun hb=>?_) (fun hb=>?_)<;>(try simp only [Bool.not_eq_true',Bool.not_eq_false'] at hb)<;>try simp only [hb])|(refine w_9 ?_;simp (maxDischargeDepth:=12) only [viz,↓reduceIte,Nat.reduceEqDiff,reduceCtorEq,Int.reduceEq,Int.reduceNeg,Nat.reduceAdd,Nat.reduceLeDiff,g0,g2,g4,g7,g8,g9,g10,hlp,hp,hg2,l2])|refine w_10 (fun hc=>(by (try simp only [Bool.and_eq_true] at hc);simp (maxDischargeDepth:=12) only [viz,↓reduceIte,Nat.reduceEqDiff,reduceCtorEq,Int.reduceEq,Int.reduceNeg,Nat.reduceAdd,Nat.reduceLeDiff,g0,g2,g4,g7,g8,g9,g10,hlp,hp,hg2,l2,hc];first|exact ⟨rfl,rfl⟩|exact rfl)) ?_|refine w_11 (fun hc=>(by (try simp only [Bool.and_eq_true] at hc);simp (maxDischargeDepth:=12) only [viz,↓reduceIte,Nat.reduceEqDiff,reduceCtorEq,Int.reduceEq,Int.reduceNeg,Nat.reduceAdd,Nat.reduceLeDiff,g0,g2,g4,g7,g8,g9,g10,hlp,hp,hg2,l2,hc];first|exact ⟨rfl,rfl⟩|exact rfl)) ?_|refine w_12 ?_|simp (maxDischargeDepth:=12) only [viz,↓reduceIte,Nat.reduceEqDiff,reduceCtorEq,Int.reduceEq,Int.reduceNeg,Nat.reduceAdd,Nat.reduceLeDiff,g0,g2,g4,g7,g8,g9,g10,hlp,hp,hg2,l2]))
      refine rhas_c (x := x) fun s6 h6 => ?_
      have hk6 := h2A.then h6
      have hk56 := hk.then hk6
      have hw6 : OwnL s6 s5.next w 47 2 ((scanTo (isK l x 1) ((placesP (l ++ [x])).take i)).2.map spanC) := hw.keep (c := s'.next) hk6 fun r e => (hw.row r 0 _ 2 e).2
      have l6 := l0 _ hk56
      have hst : scanTo (isK l x 1) ((placesP (l ++ [x])).take (i + 1)) = (isK l x 1 a, nextOut (isK l x 1) (scanTo (isK l x 1) ((placesP (l ++ [x])).take i)).1 (scanTo (isK l x 1) ((placesP (l ++ [x])).take i)).2 a) := by
        have e : (placesP (l ++ [x])).take (i + 1) = (placesP (l ++ [x])).take i ++ [a] := by rw [List.take_add_one, ha]; rfl
        rw [e, scan_snoc]
      have hPI := scan_pi (isK l x 1) _ hup i hile
      have hsl := scan_len (isK l x 1) ((placesP (l ++ [x])).take i) (false, []) 0 (by simp)
      rw [List.length_take] at hsl
      have hsl2 : 2 * (scanTo (isK l x 1) ((placesP (l ++ [x])).take i)).2.length ≤ (placesP (l ++ [x])).length + 1 := by
        have : (scanTo (isK l x 1) ((placesP (l ++ [x])).take i)).2 = (((placesP (l ++ [x])).take i).foldl (fun st a => (isK l x 1 a, nextOut (isK l x 1) st.1 st.2 a)) (false, [])).2 := rfl
        rw [this]; omega
      have hia : isK l x 1 a = ((l.any fun x => hasS x a) && !hasS x a) := by simp [isK]
      generalize scanTo (isK l x 1) ((placesP (l ++ [x])).take i) = st at hst hPI hsl2 hw6 g9
      (repeat' (with_reducible first|refine w_1 ?_|refine w_2 ?_|refine w_3 ?_|refine w_4 ?_|refine w_5 ?_|refine w_6 ?_|refine w_7 ?_|(refine w_8 (fun hb=>?_) (fun hb=>?_)<;>(try simp only [Bool.not_eq_true',Bool.not_eq_false'] at hb)<;>try simp only [hb])|(refine w_9 ?_;simp (maxDischargeDepth:=12) only [viz,↓reduceIte,Nat.reduceEqDiff,reduceCtorEq,Int.reduceEq,Int.reduceNeg,Nat.reduceAdd,Nat.reduceLeDiff,g0,g2,g4,g7,g8,g9,g10,hlp,hp,l6,bne_self_eq_false, Int.reduceBEq, Int.reduceBNe, Int.reduceLT, Int.reduceLE, Int.reduceGT, Int.reduceGE])|refine w_10 (fun hc=>(by (try simp only [Bool.and_eq_true] at hc);simp (maxDischargeDepth:=12) only [viz,↓reduceIte,Nat.reduceEqDiff,reduceCtorEq,Int.reduceEq,Int.reduceNeg,Nat.reduceAdd,Nat.reduceLeDiff,g0,g2,g4,g7,g8,g9,g10,hlp,hp,l6,bne_self_eq_false, Int.reduceBEq, Int.reduceBNe, Int.reduceLT, Int.reduceLE, Int.reduceGT, Int.reduceGE,hc];first|exact ⟨rfl,rfl⟩|exact rfl)) ?_|refine w_11 (fun hc=>(by (try simp only [Bool.and_eq_true] at hc);simp (maxDischargeDepth:=12) only [viz,↓reduceIte,Nat.reduceEqDiff,reduceCtorEq,Int.reduceEq,Int.reduceNeg,Nat.reduceAdd,Nat.reduceLeDiff,g0,g2,g4,g7,g8,g9,g10,hlp,hp,l6,bne_self_eq_false, Int.reduceBEq, Int.reduceBNe, Int.reduceLT, Int.reduceLE, Int.reduceGT, Int.reduceGE,hc];first|exact ⟨rfl,rfl⟩|exact rfl)) ?_|refine w_12 ?_|simp (maxDischargeDepth:=12) only [viz,↓reduceIte,Nat.reduceEqDiff,reduceCtorEq,Int.reduceEq,Int.reduceNeg,Nat.reduceAdd,Nat.reduceLeDiff,g0,g2,g4,g7,g8,g9,g10,hlp,hp,l6,bne_self_eq_false, Int.reduceBEq, Int.reduceBNe, Int.reduceLT, Int.reduceLE, Int.reduceGT, Int.reduceGE]))
      · refine app_lit (v := w) (k := 1) (b := s5.next) (xs := st.2.map spanC) (ys := [spanC ⟨a, []⟩]) (by rw [hk56.floor]; exact hk5.ok hf) hk56.next hw6 (by simp only [ev, Env.get_set, ↓reduceIte, Nat.reduceEqDiff]) (by simp only [ev, Env.get_set, ↓reduceIte, Nat.reduceEqDiff]) rfl rfl (room (by simp; omega) (by simp; omega)) ?_
        intro w7 s7 ho7 hx7 hr7 _
        have hk57 : Keep s5.next s5 s7 := hk56.trans (hx7.keep hk56.next fun r i n z h => (hw6.row r i n z h).1)
        have hq : (!((l.any fun x => hasS x a) && !hasS x a) && st.1) = false := next_1 hb
        (repeat' (with_reducible first|refine w_1 ?_|refine w_2 ?_|refine w_3 ?_|refine w_4 ?_|refine w_5 ?_|refine w_6 ?_|refine w_7 ?_|(refine w_8 (fun hb=>?_) (fun hb=>?_)<;>(try simp only [Bool.not_eq_true',Bool.not_eq_false'] at hb)<;>try simp only [hb])|(refine w_9 ?_;simp (maxDischargeDepth:=12) only [viz,↓reduceIte,Nat.reduceEqDiff,reduceCtorEq,Int.reduceEq,Int.reduceNeg,Nat.reduceAdd,Nat.reduceLeDiff,g0,g2,g4,g7,g8,g9,g10,hq])|refine w_10 (fun hc=>(by (try simp only [Bool.and_eq_true] at hc);simp (maxDischargeDepth:=12) only [viz,↓reduceIte,Nat.reduceEqDiff,reduceCtorEq,Int.reduceEq,Int.reduceNeg,Nat.reduceAdd,Nat.reduceLeDiff,g0,g2,g4,g7,g8,g9,g10,hq,hc];first|exact ⟨rfl,rfl⟩|exact rfl)) ?_|refine w_11 (fun hc=>(by (try simp only [Bool.and_eq_true] at hc);simp (maxDischargeDepth:=12) only [viz,↓reduceIte,Nat.reduceEqDiff,reduceCtorEq,Int.reduceEq,Int.reduceNeg,Nat.reduceAdd,Nat.reduceLeDiff,g0,g2,g4,g7,g8,g9,g10,hq,hc];first|exact ⟨rfl,rfl⟩|exact rfl)) ?_|refine w_12 ?_|simp (maxDischargeDepth:=12) only [viz,↓reduceIte,Nat.reduceEqDiff,reduceCtorEq,Int.reduceEq,Int.reduceNeg,Nat.reduceAdd,Nat.reduceLeDiff,g0,g2,g4,g7,g8,g9,g10,hq]))
        have e : (st.2 ++ [(⟨a, []⟩ : Span)]).map spanC = st.2.map spanC ++ [spanC ⟨a, []⟩] := by simp
        refine ⟨hlt, w7, hk57, ?_, rfl, ?_, succ_av (by omega)⟩
        · rw [hst]; simp only [nextOut, hia, hb, if_true]; rw [e]; exact ho7
        · rw [hst]; simp only [hia]
      · obtain ⟨y, hy⟩ : ∃ y, st.2[st.2.length - 1]? = some y := by
          have : st.2 ≠ [] := by
            obtain ⟨cl, h, _⟩ := hPI.sp
            rcases h with ⟨_, h⟩ | ⟨f, h, _⟩
            · simp [h] at hb
            · rw [h]; simp
          have := List.length_pos_iff.mpr this
          exact get_of (by omega)
        have hyl := (List.getElem?_eq_some_iff.mp hy).1
        obtain ⟨r, rfl, hr, hbr, hrn⟩ : ∃ r, w = .own r 0 st.2.length 2 ∧ s6.get r = some ⟨47, 2, st.2.map spanC⟩ ∧ s5.next ≤ r ∧ r < s6.next := by
          rcases hw6 with ⟨_, h⟩ | ⟨r, h0, h1, _, h3, h4⟩
          · have : st.2 = [] := by simpa using h
            rw [this] at hyl; simp at hyl
          · exact ⟨r, by rw [h0, List.length_map], h1, h3, h4⟩
        have hat : atA 2 (.own r 0 st.2.length 2) (.int .i64 ((st.2.length - 1 : Nat) : Int)) = some (.ptr r (st.2.length - 1) 0) := at0 (by omega)
        have hpc : IntKind.i64.wrap ((st.2.length : Int) - 1) = ((st.2.length - 1 : Nat) : Int) := by
          have := pred_cast (st.2.length - 1) (by omega)
          rw [show st.2.length - 1 + 1 = st.2.length by omega] at this
          exact this
        have hsto := store_to (a := a) hr (i := st.2.length - 1) (by rw [List.getElem?_map, hy]; rfl) (by rw [hk56.floor]; have := hk5.ok hf; omega)
        have hlw : lenA false (.own r 0 st.2.length 2) = some st.2.length := rfl
        (repeat' (with_reducible first|refine w_1 ?_|refine w_2 ?_|refine w_3 ?_|refine w_4 ?_|refine w_5 ?_|refine w_6 ?_|refine w_7 ?_|(refine w_8 (fun hb=>?_) (fun hb=>?_)<;>(try simp only [Bool.not_eq_true',Bool.not_eq_false'] at hb)<;>try simp only [hb])|(refine w_9 ?_;simp (maxDischargeDepth:=12) only [vis,↓reduceIte,Nat.reduceEqDiff,reduceCtorEq,Int.reduceEq,Int.reduceNeg,Nat.reduceAdd,Nat.reduceLeDiff,g0,g2,g4,g7,g8,g9,g10,hlp,hp,l6,hlw,hpc,hat,addrA_ptr,Nat.zero_add,hsto])|refine w_10 (fun hc=>(by (try simp only [Bool.and_eq_true] at hc);simp (maxDischargeDepth:=12) only [vis,↓reduceIte,Nat.reduceEqDiff,reduceCtorEq,Int.reduceEq,Int.reduceNeg,Nat.reduceAdd,Nat.reduceLeDiff,g0,g2,g4,g7,g8,g9,g10,hlp,hp,l6,hlw,hpc,hat,addrA_ptr,Nat.zero_add,hsto,hc];first|exact ⟨rfl,rfl⟩|exact rfl)) ?_|refine w_11 (fun hc=>(by (try simp only [Bool.and_eq_true] at hc);simp (maxDischargeDepth:=12) only [vis,↓reduceIte,Nat.reduceEqDiff,reduceCtorEq,Int.reduceEq,Int.reduceNeg,Nat.reduceAdd,Nat.reduceLeDiff,g0,g2,g4,g7,g8,g9,g10,hlp,hp,l6,hlw,hpc,hat,addrA_ptr,Nat.zero_add,hsto,hc];first|exact ⟨rfl,rfl⟩|exact rfl)) ?_|refine w_12 ?_|simp (maxDischargeDepth:=12) only [vis,↓reduceIte,Nat.reduceEqDiff,reduceCtorEq,Int.reduceEq,Int.reduceNeg,Nat.reduceAdd,Nat.reduceLeDiff,g0,g2,g4,g7,g8,g9,g10,hlp,hp,l6,hlw,hpc,hat,addrA_ptr,Nat.zero_add,hsto]))
        refine ⟨hlt, _, hk56.trans (Keep.put hbr _), ?_, rfl, ?_, succ_av (by omega)⟩
        · rw [hst]
          have : nextOut (isK l x 1) st.1 st.2 a = setTo st.2 a := next_2 hia hb
          rw [this, setTo_set a hy]
          exact .inr ⟨r, by simp, by rw [Mem.get_put, if_pos rfl], by rw [floor_put', hk56.floor]; have := hk5.ok hf; omega, hbr, by rw [Mem.next_put]; exact hrn⟩
        · rw [hst]; simp only [hia]
      · refine ⟨hlt, w, hk56, ?_, rfl, ?_, succ_av (by omega)⟩
        · rw [hst]
          have : nextOut (isK l x 1) st.1 st.2 a = st.2 := next_3 hia (by assumption) hb
          rw [this]; exact hw6
        · rw [hst]; simp only [hia]
    · (repeat' (with_reducible first|refine w_1 ?_|refine w_2 ?_|refine w_3 ?_|refine w_4 ?_|refine w_5 ?_|refine w_6 ?_|refine w_7 ?_|(refine w_8 (fun hb=>?_) (fun hb=>?_)<;>(try simp only [Bool.not_eq_true',Bool.not_eq_false'] at hb)<;>try simp only [hb])|(refine w_9 ?_;simp (maxDischargeDepth:=12) only [viz,↓reduceIte,Nat.reduceEqDiff,reduceCtorEq,Int.reduceEq,Int.reduceNeg,Nat.reduceAdd,Nat.reduceLeDiff,g0,g2,g4,g7,g8,g9,g10,hlp,lt_false hlt])|refine w_10 (fun hc=>(by (try simp only [Bool.and_eq_true] at hc);simp (maxDischargeDepth:=12) only [viz,↓reduceIte,Nat.reduceEqDiff,reduceCtorEq,Int.reduceEq,Int.reduceNeg,Nat.reduceAdd,Nat.reduceLeDiff,g0,g2,g4,g7,g8,g9,g10,hlp,lt_false hlt,hc];first|exact ⟨rfl,rfl⟩|exact rfl)) ?_|refine w_11 (fun hc=>(by (try simp only [Bool.and_eq_true] at hc);simp (maxDischargeDepth:=12) only [viz,↓reduceIte,Nat.reduceEqDiff,reduceCtorEq,Int.reduceEq,Int.reduceNeg,Nat.reduceAdd,Nat.reduceLeDiff,g0,g2,g4,g7,g8,g9,g10,hlp,lt_false hlt,hc];first|exact ⟨rfl,rfl⟩|exact rfl)) ?_|refine w_12 ?_|simp (maxDischargeDepth:=12) only [viz,↓reduceIte,Nat.reduceEqDiff,reduceCtorEq,Int.reduceEq,Int.reduceNeg,Nat.reduceAdd,Nat.reduceLeDiff,g0,g2,g4,g7,g8,g9,g10,hlp,lt_false hlt]))
      rw [List.take_of_length_le (by omega)] at hw
      exact hK _ _ (hk5.then hk) (hw.le hk5.next)
end Go.Proofs.YthibbbfhkfebkaaGreat
/- Covers by the document. No statement of the seat is proved here. -/
namespace Go.Proofs.YthibbbfhkfebkaaGreat
open Go Go.VI
set_option linter.unusedSimpArgs false
theorem flat_len (z : Span) : ∀ l : List Span, (l.flatMap fun y => pieceP [y] z 1).length ≤ 3 * l.length
  | [] => Nat.le_refl _
  | y :: l => by
    have := flat_len z l
    have := piece_len [y] z 1
    simp only [List.flatMap_cons, List.length_append, List.length_cons, List.length_nil] at *; omega
theorem left_snoc (l : List Span) (z : Span) (left : List Span) : leftTo (l ++ [z]) left = (leftTo l left).flatMap fun y => pieceP [y] z 1 := by simp [leftTo]
theorem left_len (x : Span) (l : List Span) : ∀ i, i ≤ l.length → (leftTo (l.take i) [x]).length ≤ 3 ^ i
  | 0, _ => by simp [leftTo]
  | i + 1, h => by
    have ih := left_len x l i (by omega)
    obtain ⟨z, hz⟩ := get_of (l := l) (i := i) (by omega)
    have e : l.take (i + 1) = l.take i ++ [z] := by rw [List.take_add_one, hz]; rfl
    rw [e, left_snoc]
    have := flat_len z (leftTo (l.take i) [x])
    rw [Nat.pow_succ]; omega
theorem pow24 {i : Nat} (h : i ≤ 24) : 3 ^ i ≤ 282429536481 := Nat.le_trans (Nat.pow_le_pow_right (by omega) h) (by decide)
attribute [local irreducible] Ws Wp W C
set_option maxHeartbeats 4000000
theorem rcovers_c {l : List Span} {x : Span} {v : AV} {D : Nat → Prop} {s : Mem} {K : AV → Mem → Prop} (hf : s.floor ≤ s.next) (hI : In D s) (hv : Spans s D v l) (hl : l.length ≤ 24)
    (hK : ∀ s', Keep s.next s s' → K (.bool (leftTo l [x]).isEmpty) s') : C tab 54 [v, .agg (spanC x)] s K := by
  refine C_enter (cf := cf54) rfl (Nat.le_of_ble_eq_true rfl) ?_
  simp only [cf54, oo, on, om, og, oc, ou, spanC]
  have hlen : lenA false v = some l.length := hv.lenB
  (repeat' (with_reducible first|refine w_1 ?_|refine w_2 ?_|refine w_3 ?_|refine w_4 ?_|refine w_5 ?_|refine w_6 ?_|refine w_7 ?_|(refine w_8 (fun hb=>?_) (fun hb=>?_)<;>(try simp only [Bool.not_eq_true',Bool.not_eq_false'] at hb)<;>try simp only [hb])|(refine w_9 ?_;simp (maxDischargeDepth:=12) only [viz,↓reduceIte,Nat.reduceEqDiff,reduceCtorEq,Int.reduceEq,Int.reduceNeg,Nat.reduceAdd,Nat.reduceLeDiff])|refine w_10 (fun hc=>(by (try simp only [Bool.and_eq_true] at hc);simp (maxDischargeDepth:=12) only [viz,↓reduceIte,Nat.reduceEqDiff,reduceCtorEq,Int.reduceEq,Int.reduceNeg,Nat.reduceAdd,Nat.reduceLeDiff,hc];first|exact ⟨rfl,rfl⟩|exact rfl)) ?_|refine w_11 (fun hc=>(by (try simp only [Bool.and_eq_true] at hc);simp (maxDischargeDepth:=12) only [viz,↓reduceIte,Nat.reduceEqDiff,reduceCtorEq,Int.reduceEq,Int.reduceNeg,Nat.reduceAdd,Nat.reduceLeDiff,hc];first|exact ⟨rfl,rfl⟩|exact rfl)) ?_|refine w_12 ?_|simp (maxDischargeDepth:=12) only [viz,↓reduceIte,Nat.reduceEqDiff,reduceCtorEq,Int.reduceEq,Int.reduceNeg,Nat.reduceAdd,Nat.reduceLeDiff]))
  refine W_inv l.length (fun i E s' => ∃ w, Keep s.next s s' ∧ Sl s' (fun q => s.next ≤ q ∧ q < s'.next) w 2 ((leftTo (l.take i) [x]).map spanC) ∧ E.get 0 = v ∧ E.get 5 = w ∧ E.get 6 = .int .i64 i) (by delta cf54l0 oo on om og oc ou; exact rfl) ?_ ?_
  · refine ⟨_, (pushes s _).then (pushes _ _), Sl.of_row (r := s.next + 1) (n := 1) (ty := 47) ?_ ?_ (span_cells _) rfl, (by simp only [ev, Env.get_set, ↓reduceIte, Nat.reduceEqDiff]), (by simp only [ev, Env.get_set, ↓reduceIte, Nat.reduceEqDiff]), (by simp only [ev, Env.get_set, ↓reduceIte, Nat.reduceEqDiff]; rfl)⟩
    · simp only [Mem.get_push, next_push']; rw [if_pos trivial]; rfl
    · simp only [next_push']; omega
  rintro i E s' hile _ ⟨w, hk, hw, g0, g5, g6⟩
  have hn := hk.next
  have lb := left_len x l i hile
  have pb := pow24 (Nat.le_trans hile hl)
  by_cases hlt : i < l.length
  · obtain ⟨z, hz⟩ := get_of hlt
    have e : l.take (i + 1) = l.take i ++ [z] := by rw [List.take_add_one, hz]; rfl
    have lb2 := left_len x l (i + 1) hlt
    have pb2 := pow24 (Nat.le_trans hlt hl)
    rw [e, left_snoc] at lb2
    obtain ⟨p, hp, P, _⟩ := hv.ldk hI hz rfl rfl
    have lz : ∀ M, Keep s.next s M → loadA M true 2 p = some (.agg [.str z.frm, .str z.to]) := fun M hM => by
      rw [P.ld _ hM]; rfl
    (repeat' (with_reducible first|refine w_1 ?_|refine w_2 ?_|refine w_3 ?_|refine w_4 ?_|refine w_5 ?_|refine w_6 ?_|refine w_7 ?_|(refine w_8 (fun hb=>?_) (fun hb=>?_)<;>(try simp only [Bool.not_eq_true',Bool.not_eq_false'] at hb)<;>try simp only [hb])|(refine w_9 ?_;simp (maxDischargeDepth:=12) only [viz,↓reduceIte,Nat.reduceEqDiff,reduceCtorEq,Int.reduceEq,Int.reduceNeg,Nat.reduceAdd,Nat.reduceLeDiff,g0,g5,g6,hlen,lt_true hlt])|refine w_10 (fun hc=>(by (try simp only [Bool.and_eq_true] at hc);simp (maxDischargeDepth:=12) only [viz,↓reduceIte,Nat.reduceEqDiff,reduceCtorEq,Int.reduceEq,Int.reduceNeg,Nat.reduceAdd,Nat.reduceLeDiff,g0,g5,g6,hlen,lt_true hlt,hc];first|exact ⟨rfl,rfl⟩|exact rfl)) ?_|refine w_11 (fun hc=>(by (try simp only [Bool.and_eq_true] at hc);simp (maxDischargeDepth:=12) only [viz,↓reduceIte,Nat.reduceEqDiff,reduceCtorEq,Int.reduceEq,Int.reduceNeg,Nat.reduceAdd,Nat.reduceLeDiff,g0,g5,g6,hlen,lt_true hlt,hc];first|exact ⟨rfl,rfl⟩|exact rfl)) ?_|refine w_12 ?_|simp (maxDischargeDepth:=12) only [viz,↓reduceIte,Nat.reduceEqDiff,reduceCtorEq,Int.reduceEq,Int.reduceNeg,Nat.reduceAdd,Nat.reduceLeDiff,g0,g5,g6,hlen,lt_true hlt]))
    generalize hL : leftTo (l.take i) [x] = L at hw lb lb2
    have hlw : lenA false w = some L.length := hw.lenB
    have hwI : In (fun q => s.next ≤ q ∧ q < s'.next) s' := fun q hq => hq.2
    refine W_inv L.length (fun k E' s2 => ∃ w2, Keep s'.next s' s2 ∧ OwnL s2 s'.next w2 47 2 (((L.take k).flatMap fun y => pieceP [y] z 1).map spanC) ∧ E'.get 0 = v ∧ E'.get 5 = w ∧ E'.get 6 = .int .i64 i ∧ E'.get 7 = w2 ∧ E'.get 8 = .int .i64 k) (by delta cf54l1 oo on om og oc ou; exact rfl) ?_ ?_
    · refine ⟨.emp, pushes s' _, OwnL.emp _ _ _ _, ?_, ?_, ?_, ?_, ?_⟩
      all_goals simp only [ev, Env.get_set, ↓reduceIte, Nat.reduceEqDiff, g0, g5, g6]
      all_goals rfl
    rintro k E' s2 hkle _ ⟨w2, hk2, hw2, f0, f5, f6, f7, f8⟩
    have hn2 := hk2.next
    by_cases hlt2 : k < L.length
    · obtain ⟨y, hy⟩ := get_of hlt2
      obtain ⟨p2, hp2, P2, _⟩ := hw.ldk hwI hy rfl rfl
      have ly : ∀ M, Keep s'.next s' M → loadA M true 2 p2 = some (.agg [.str y.frm, .str y.to]) := fun M hM => by
        rw [P2.ld _ hM]; rfl
      have e2 : L.take (k + 1) = L.take k ++ [y] := by rw [List.take_add_one, hy]; rfl
      have fl := flat_len z (L.take k)
      rw [List.length_take] at fl
      have pl := piece_len [y] z 1
      rw [List.length_singleton] at pl
      have hly := ly _ hk2
      have hkp : Keep s.next s (s2.push ⟨47, 2, [[.str y.frm, .str y.to]]⟩) := hk.then (hk2.then (pushes _ _))
      have hlz : loadA ((s2.at s2.next).push ⟨47, 2, [[.str y.frm, .str y.to]]⟩) true 2 p = some (.agg [.str z.frm, .str z.to]) := by
        have := lz _ hkp
        rwa [← mat_load _ s2.next, mat_push] at this
      (repeat' (with_reducible first|refine w_1 ?_|refine w_2 ?_|refine w_3 ?_|refine w_4 ?_|refine w_5 ?_|refine w_6 ?_|refine w_7 ?_|(refine w_8 (fun hb=>?_) (fun hb=>?_)<;>(try simp only [Bool.not_eq_true',Bool.not_eq_false'] at hb)<;>try simp only [hb])|(refine w_9 ?_;simp (maxDischargeDepth:=12) only [viz,↓reduceIte,Nat.reduceEqDiff,reduceCtorEq,Int.reduceEq,Int.reduceNeg,Nat.reduceAdd,Nat.reduceLeDiff,f0,f5,f6,f7,f8,hlw,lt_true hlt2,hp2,hly,hp,hlz])|refine w_10 (fun hc=>(by (try simp only [Bool.and_eq_true] at hc);simp (maxDischargeDepth:=12) only [viz,↓reduceIte,Nat.reduceEqDiff,reduceCtorEq,Int.reduceEq,Int.reduceNeg,Nat.reduceAdd,Nat.reduceLeDiff,f0,f5,f6,f7,f8,hlw,lt_true hlt2,hp2,hly,hp,hlz,hc];first|exact ⟨rfl,rfl⟩|exact rfl)) ?_|refine w_11 (fun hc=>(by (try simp only [Bool.and_eq_true] at hc);simp (maxDischargeDepth:=12) only [viz,↓reduceIte,Nat.reduceEqDiff,reduceCtorEq,Int.reduceEq,Int.reduceNeg,Nat.reduceAdd,Nat.reduceLeDiff,f0,f5,f6,f7,f8,hlw,lt_true hlt2,hp2,hly,hp,hlz,hc];first|exact ⟨rfl,rfl⟩|exact rfl)) ?_|refine w_12 ?_|simp (maxDischargeDepth:=12) only [viz,↓reduceIte,Nat.reduceEqDiff,reduceCtorEq,Int.reduceEq,Int.reduceNeg,Nat.reduceAdd,Nat.reduceLeDiff,f0,f5,f6,f7,f8,hlw,lt_true hlt2,hp2,hly,hp,hlz]))
      have hS : ((s2.push ⟨47, 2, [[.str y.frm, .str y.to]]⟩)).floor ≤ (s2.push ⟨47, 2, [[.str y.frm, .str y.to]]⟩).next := hkp.ok hf
      refine piece_c (l := [y]) (x := z) (D := fun q => q = s2.next) hS (fun q hq => by rw [hq]; simp only [next_push']; omega) (Sl.of_row (r := s2.next) (n := 1) (ty := 47) (by simp only [Mem.get_push]; rw [if_pos trivial]; rfl) rfl (span_cells _) rfl) (by simp) fun w3 s3 h3 ho3 => ?_
      have hk3 : Keep s2.next s2 s3 := (pushes _ _).then h3
      have hn3 := hk3.next
      simp only [next_push'] at ho3
      have hw3 : OwnL s3 s'.next w2 47 2 (((L.take k).flatMap fun y => pieceP [y] z 1).map spanC) := hw2.keep (c := s2.next) hk3 fun r e => (hw2.row r 0 _ 2 e).2
      refine app_x (b := s'.next) (xs := ((L.take k).flatMap fun y => pieceP [y] z 1).map spanC) (ys := (pieceP [y] z 1).map spanC) (by rw [(hk2.then hk3).floor]; exact hk.ok hf) (by omega) (by simp only [ev, Env.get_set, ↓reduceIte, Nat.reduceEqDiff]; exact hw3) (by simp only [ev, Env.get_set, ↓reduceIte, Nat.reduceEqDiff]; exact ho3.read) (ho3.sl (D := fun _ => True) (span_cells _) fun _ _ _ => trivial).uni (room (by simp only [List.length_map]; omega) (by simp only [List.length_map]; omega)) ?_
      intro w4 s4 ho4 hx4 _ hr4
      have hk4 : Keep s'.next s' s4 := (hk2.then hk3).trans (hx4.keep (by omega) fun r i n z h => (hw3.row r i n z (by simpa only [ev, Env.get_set, ↓reduceIte, Nat.reduceEqDiff] using h)).1)
      (repeat' (with_reducible first|refine w_1 ?_|refine w_2 ?_|refine w_3 ?_|refine w_4 ?_|refine w_5 ?_|refine w_6 ?_|refine w_7 ?_|(refine w_8 (fun hb=>?_) (fun hb=>?_)<;>(try simp only [Bool.not_eq_true',Bool.not_eq_false'] at hb)<;>try simp only [hb])|(refine w_9 ?_;simp (maxDischargeDepth:=12) only [viz,↓reduceIte,Nat.reduceEqDiff,reduceCtorEq,Int.reduceEq,Int.reduceNeg,Nat.reduceAdd,Nat.reduceLeDiff,f0,f5,f6,f7,f8])|refine w_10 (fun hc=>(by (try simp only [Bool.and_eq_true] at hc);simp (maxDischargeDepth:=12) only [viz,↓reduceIte,Nat.reduceEqDiff,reduceCtorEq,Int.reduceEq,Int.reduceNeg,Nat.reduceAdd,Nat.reduceLeDiff,f0,f5,f6,f7,f8,hc];first|exact ⟨rfl,rfl⟩|exact rfl)) ?_|refine w_11 (fun hc=>(by (try simp only [Bool.and_eq_true] at hc);simp (maxDischargeDepth:=12) only [viz,↓reduceIte,Nat.reduceEqDiff,reduceCtorEq,Int.reduceEq,Int.reduceNeg,Nat.reduceAdd,Nat.reduceLeDiff,f0,f5,f6,f7,f8,hc];first|exact ⟨rfl,rfl⟩|exact rfl)) ?_|refine w_12 ?_|simp (maxDischargeDepth:=12) only [viz,↓reduceIte,Nat.reduceEqDiff,reduceCtorEq,Int.reduceEq,Int.reduceNeg,Nat.reduceAdd,Nat.reduceLeDiff,f0,f5,f6,f7,f8]))
      refine ⟨hlt2, w4, hk4, ?_, rfl, succ_av (by omega)⟩
      rw [e2, List.flatMap_append, List.map_append]
      have : ([y].flatMap fun y => pieceP [y] z 1) = pieceP [y] z 1 := by simp
      rw [this]; exact ho4
    · (repeat' (with_reducible first|refine w_1 ?_|refine w_2 ?_|refine w_3 ?_|refine w_4 ?_|refine w_5 ?_|refine w_6 ?_|refine w_7 ?_|(refine w_8 (fun hb=>?_) (fun hb=>?_)<;>(try simp only [Bool.not_eq_true',Bool.not_eq_false'] at hb)<;>try simp only [hb])|(refine w_9 ?_;simp (maxDischargeDepth:=12) only [viz,↓reduceIte,Nat.reduceEqDiff,reduceCtorEq,Int.reduceEq,Int.reduceNeg,Nat.reduceAdd,Nat.reduceLeDiff,f0,f5,f6,f7,f8,hlw,lt_false hlt2])|refine w_10 (fun hc=>(by (try simp only [Bool.and_eq_true] at hc);simp (maxDischargeDepth:=12) only [viz,↓reduceIte,Nat.reduceEqDiff,reduceCtorEq,Int.reduceEq,Int.reduceNeg,Nat.reduceAdd,Nat.reduceLeDiff,f0,f5,f6,f7,f8,hlw,lt_false hlt2,hc];first|exact ⟨rfl,rfl⟩|exact rfl)) ?_|refine w_11 (fun hc=>(by (try simp only [Bool.and_eq_true] at hc);simp (maxDischargeDepth:=12) only [viz,↓reduceIte,Nat.reduceEqDiff,reduceCtorEq,Int.reduceEq,Int.reduceNeg,Nat.reduceAdd,Nat.reduceLeDiff,f0,f5,f6,f7,f8,hlw,lt_false hlt2,hc];first|exact ⟨rfl,rfl⟩|exact rfl)) ?_|refine w_12 ?_|simp (maxDischargeDepth:=12) only [viz,↓reduceIte,Nat.reduceEqDiff,reduceCtorEq,Int.reduceEq,Int.reduceNeg,Nat.reduceAdd,Nat.reduceLeDiff,f0,f5,f6,f7,f8,hlw,lt_false hlt2]))
      refine ⟨hlt, w2, hk.then hk2, ?_, rfl, succ_av (by omega)⟩
      rw [e, left_snoc, hL]
      rw [List.take_of_length_le (by omega)] at hw2
      refine (hw2.sl (D := fun q => s'.next ≤ q ∧ q < s2.next) (span_cells _) fun r n h => hw2.row r 0 n 2 h).mono fun q hq => ?_
      omega
  · (repeat' (with_reducible first|refine w_1 ?_|refine w_2 ?_|refine w_3 ?_|refine w_4 ?_|refine w_5 ?_|refine w_6 ?_|refine w_7 ?_|(refine w_8 (fun hb=>?_) (fun hb=>?_)<;>(try simp only [Bool.not_eq_true',Bool.not_eq_false'] at hb)<;>try simp only [hb])|(refine w_9 ?_;simp (maxDischargeDepth:=12) only [viz,↓reduceIte,Nat.reduceEqDiff,reduceCtorEq,Int.reduceEq,Int.reduceNeg,Nat.reduceAdd,Nat.reduceLeDiff,g0,g5,g6,hlen,lt_false hlt,hw.lenB])|refine w_10 (fun hc=>(by (try simp only [Bool.and_eq_true] at hc);simp (maxDischargeDepth:=12) only [viz,↓reduceIte,Nat.reduceEqDiff,reduceCtorEq,Int.reduceEq,Int.reduceNeg,Nat.reduceAdd,Nat.reduceLeDiff,g0,g5,g6,hlen,lt_false hlt,hw.lenB,hc];first|exact ⟨rfl,rfl⟩|exact rfl)) ?_|refine w_11 (fun hc=>(by (try simp only [Bool.and_eq_true] at hc);simp (maxDischargeDepth:=12) only [viz,↓reduceIte,Nat.reduceEqDiff,reduceCtorEq,Int.reduceEq,Int.reduceNeg,Nat.reduceAdd,Nat.reduceLeDiff,g0,g5,g6,hlen,lt_false hlt,hw.lenB,hc];first|exact ⟨rfl,rfl⟩|exact rfl)) ?_|refine w_12 ?_|simp (maxDischargeDepth:=12) only [viz,↓reduceIte,Nat.reduceEqDiff,reduceCtorEq,Int.reduceEq,Int.reduceNeg,Nat.reduceAdd,Nat.reduceLeDiff,g0,g5,g6,hlen,lt_false hlt,hw.lenB]))
    rw [List.take_of_length_le (by omega)]
    refine K_of hK hk ?_
    cases leftTo l [x] with
    | nil => rfl
    | cons a b => simp; omega
end Go.Proofs.YthibbbfhkfebkaaGreat

