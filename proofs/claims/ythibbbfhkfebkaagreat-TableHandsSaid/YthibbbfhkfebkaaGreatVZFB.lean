/- A hold set, a mark kept. No statement of the seat is proved here. -/
import Derived.Test.YthibbbfhkfebkaaGreatVZTJ
import Derived.Test.YthibbbfhkfebkaaGreatVZTG
import Derived.Test.YthibbbfhkfebkaaGreatVZFA
import Derived.Test.YthibbbfhkfebkaaGreatVZVE
namespace Go.Proofs.YthibbbfhkfebkaaGreat
open Go Go.VI
set_option linter.unusedSimpArgs false
def putG {α : Type} (key : α → Txt) (h : α) : List α → List α
  | [] => [h]
  | x :: r => if bl (key x) (key h) then x :: putG key h r else h :: (x :: r).filter fun y => !(key y == key h)
theorem putG_at {α : Type} {key : α → Txt} {h : α} : ∀ {l : List α} {i : Nat}, (∀ (j : Nat) (a : α), j < i → l[j]? = some a → bl (key a) (key h) = true) → (∀ (j : Nat) (a : α), i ≤ j → l[j]? = some a → bl (key a) (key h) = false) → UpK key l → i ≤ l.length →
    putG key h l = l.take i ++ h :: (if atK key l i (key h) then l.drop (i + 1) else l.drop i)
  | [], i, _, _, _, hl => by
    have : i = 0 := by simpa using hl
    subst this; simp [putG, atK]
  | x :: r, 0, _, h2, hu, _ => by
    have h0 := h2 0 x (Nat.le_refl _) rfl
    have hr : r.filter (fun y => !(key y == key h)) = r := by
      rw [List.filter_eq_self]
      intro y hy
      obtain ⟨j, hj⟩ := List.mem_iff_getElem?.mp hy
      have h3 := hu 0 (j + 1) x y (by omega) rfl (by simpa using hj)
      have : key y ≠ key h := fun e => by rw [e] at h3; rw [h3] at h0; cases h0
      simp [this]
    by_cases e : key x = key h
    · simp [putG, atK, h0, e, hr, bl_irrefl]
    · simp [putG, atK, h0, e, hr]
  | x :: r, i + 1, h1, h2, hu, hl => by
    have h0 := h1 0 x (by omega) rfl
    have ih := putG_at (key := key) (h := h) (l := r) (i := i) (fun j a hj ha => h1 (j + 1) a (by omega) (by simpa using ha)) (fun j a hj ha => h2 (j + 1) a (by omega) (by simpa using ha)) (fun p q a b hpq ha hb => hu (p + 1) (q + 1) a b (by omega) (by simpa using ha) (by simpa using hb)) (by simpa using hl)
    have e : atK key (x :: r) (i + 1) (key h) = atK key r i (key h) := by simp [atK]
    simp [putG, h0, ih, e]
theorem putG_len {α : Type} (key : α → Txt) (h : α) (l : List α) : (putG key h l).length ≤ l.length + 1 := by
  induction l with
  | nil => simp [putG]
  | cons x r ih =>
    unfold putG
    split
    · simp only [List.length_cons]; omega
    · have := List.length_filter_le (fun y => !(key y == key h)) (x :: r)
      simp only [List.length_cons] at this ⊢; omega
theorem pair_upK {α : Type} {key : α → Txt} {l : List α} (h : l.Pairwise fun a b => bl (key a) (key b) = true) : UpK key l := by
  intro i j a b hij ha hb
  obtain ⟨h1, rfl⟩ := List.getElem?_eq_some_iff.mp ha
  obtain ⟨h2, rfl⟩ := List.getElem?_eq_some_iff.mp hb
  exact List.pairwise_iff_getElem.mp h i j h1 h2 hij
theorem holds_up {l : List Hold} (h : holdsS l = true) : UpK Hold.key l := by
  simp only [holdsS, Bool.and_eq_true] at h
  refine pair_upK (rising_up (key := Hold.key) (fun q x hq => ?_) l none h.2)
  simp only [holdOk, Bool.and_eq_true] at hq
  exact hq.2
theorem marks_up {l : List Mark} (h : marksS l = true) : UpK Mark.key l := by
  simp only [marksS, Bool.and_eq_true] at h
  refine pair_upK (rising_up (key := Mark.key) (fun q x hq => ?_) l none h.2)
  simp only [markOk, Bool.and_eq_true] at hq
  exact hq.2
theorem mnk_c {F : Nat → Option CFunc} {k : IntKind} {x y : Opd} {e : Env} {s : Mem} {K : AV → Mem → Prop} {a b : Int} (hx : ev e x = .int k a) (hy : ev e y = .int k b) (hK : K (.int k (min a b)) s) : Wp F (.mnmx false [x, y]) e s K := by
  rw [Wp_mnmx]
  simp only [stepOp, List.map_cons, List.map_nil, hx, hy, best, if_true, Bool.false_eq_true, if_false, Option.map_some, K2_some]
  have : (if b < a then b else a) = min a b := by simp only [Int.min_def]; split <;> split <;> omega
  rw [this]; exact hK
theorem mxk_c {F : Nat → Option CFunc} {k : IntKind} {x y : Opd} {e : Env} {s : Mem} {K : AV → Mem → Prop} {a b : Int} (hx : ev e x = .int k a) (hy : ev e y = .int k b) (hK : K (.int k (max a b)) s) : Wp F (.mnmx true [x, y]) e s K := by
  rw [Wp_mnmx]
  simp only [stepOp, List.map_cons, List.map_nil, hx, hy, best, if_true, Bool.false_eq_true, if_false, Option.map_some, K2_some]
  have : (if b > a then b else a) = max a b := by simp only [Int.max_def]; split <;> split <;> omega
  rw [this]; exact hK
theorem hold_put (l : List Hold) (y : Hold) (p : Nat) : (l.map holdC).take p ++ [holdC y] ++ (l.map holdC).drop p = (l.take p ++ y :: l.drop p).map holdC := by simp
theorem mark_put (l : List Mark) (y : Mark) (p : Nat) : (l.map markC).take p ++ [markC y] ++ (l.map markC).drop p = (l.take p ++ y :: l.drop p).map markC := by simp
theorem set_map {α : Type} (f : α → List AV) (l : List α) (i : Nat) (y : α) (h : i < l.length) : (l.map f).set i (f y) = (l.take i ++ y :: l.drop (i + 1)).map f := by
  rw [← List.map_set, List.set_eq_take_append_cons_drop, if_pos h]
attribute [local irreducible] Ws Wp W C
set_option maxHeartbeats 4000000
theorem lset_c {l : List Hold} {h : Hold} {v : AV} {D : Nat → Prop} {s : Mem} {K : AV → Mem → Prop} (hf : s.floor ≤ s.next) (hI : In D s) (hv : Holds s D v l) (hl : l.length < 1000) (hc : holdsS l = true) (hh : mayH h = true)
    (hK : ∀ v' s', Keep s.next s s' → Holds s' (fun q => s.next ≤ q ∧ q < s'.next) v' (putG Hold.key h l) → K (.tup [v', .int .i64 0]) s') : C tab 124 [v, .agg (holdC h)] s K := by
  refine C_enter (cf := cf124) rfl (Nat.le_of_ble_eq_true rfl) ?_
  simp only [cf124, oo, on, om, og, oc, ou, holdC]
  (repeat' (with_reducible first|refine w_1 ?_|refine w_2 ?_|simp (maxDischargeDepth:=12) only [viz,↓reduceIte,Nat.reduceAdd]))
  have q0 := Kp.of_push s ⟨58, 3, [holdC h]⟩
  simp only [holdC] at q0
  generalize s.push _ = S0 at *
  refine lcheck_c (D := D) (q0.k.ok hf) (hI.keep q0.k) (hv.keep fun r hr => q0.k.get r (hI r hr)) (by omega) fun s1 h1 => ?_
  have q1 := q0.then h1
  have g1 := q1.g
  rw [hc]
  (repeat' with_reducible ((try refine w_9 ?_);simp (maxDischargeDepth:=12) only [viz,↓reduceIte,Nat.reduceEqDiff,g1,bne_self_eq_false, Int.reduceBEq, Int.reduceBNe, Int.reduceLT, Int.reduceLE, Int.reduceGT, Int.reduceGE]))
  refine hold_c (h := h) fun s2 h2 => ?_
  have q2 := q1.then h2
  have g2 := q2.g
  rw [hh]
  (repeat' (with_reducible first|refine w_1 ?_|refine w_2 ?_|refine w_4 ?_|refine w_5 ?_|((try refine w_9 ?_);simp (maxDischargeDepth:=12) only [viz,↓reduceIte,Nat.reduceEqDiff,reduceCtorEq,Nat.reduceAdd,g2, Int.reduceBEq, Int.reduceBNe, Int.reduceLT, Int.reduceLE, Int.reduceGT, Int.reduceGE])))
  refine hosearch_c (D := D) (hI.keep q2.k) (hv.keep fun r hr => q2.k.get r (hI r hr)) (by omega) (holds_up hc) fun i s3 hi h3 b1 b2 => ?_
  have q3 := q2.then h3
  have g3 := q3.g
  (repeat' (with_reducible first|refine w_1 ?_|refine w_2 ?_|simp (maxDischargeDepth:=12) only [viz,↓reduceIte,reduceCtorEq]))
  refine hoclone_c (D := D) (q3.k.ok hf) (hI.keep q3.k) (hv.keep fun r hr => q3.k.get r (hI r hr)) (by omega) fun w s4 ho h4 => ?_
  have q4 := q3.then h4
  have g4 := q4.g
  have n4 := h4.next
  have n3 := q3.n
  have hlw : lenA false w = some l.length := by rw [ho.len, List.length_map]
  have hput := putG_at b1 b2 (holds_up hc) hi
  by_cases hat : atK Hold.key l i h.key = true
  · rw [hat, if_pos rfl] at hput
    have hil : i < l.length := by
      by_cases hlt : i < l.length
      · exact hlt
      · simp [atK, List.getElem?_eq_none (show l.length ≤ i by omega)] at hat
    obtain ⟨r, rfl, hr, hfr, hbr, hrn⟩ : ∃ r, w = .own r 0 l.length 3 ∧ s4.get r = some ⟨58, 3, l.map holdC⟩ ∧ s4.floor ≤ r ∧ s3.next ≤ r ∧ r < s4.next := by
      rcases ho with ⟨_, h⟩ | ⟨r, h0, a, b, c, d⟩
      · have : l = [] := by simpa using h
        rw [this] at hil; simp at hil
      · exact ⟨r, by rw [h0, List.length_map], a, b, c, d⟩
    obtain ⟨x, hx⟩ := get_of hil
    have hst := store_own (d := holdC h) hr (i := i) (c := holdC x) (by rw [List.getElem?_map, hx]; rfl) rfl rfl rfl hfr
    simp only [holdC] at hst
    have hat2 : atA 3 (.own r 0 l.length 3) (.int .i64 (i : Int)) = some (.ptr r i 0) := at0 hil
    have hne : (s.next = r) = False := by simp; omega
    (repeat' (with_reducible first|refine w_1 ?_|refine w_2 ?_|refine w_3 ?_|refine w_4 ?_|refine w_6 ?_|simp (maxDischargeDepth:=12) only [vis,↓reduceIte,Nat.reduceEqDiff,reduceCtorEq,hat,g4,hat2,hst,loadA_ptr]))
    refine hK _ _ (q4.k.trans (Keep.put (by omega) _)) ?_
    rw [hput]
    refine Sl.of_row (r := r) (ty := 58) (by rw [Mem.get_put, if_pos rfl]; exact congrArg (fun y => some (Row.mk _ _ y)) (set_map holdC l i h hil)) ⟨by omega, by rw [Mem.next_put]; exact hrn⟩ (hold_cells _) (by simp only [List.length_map, List.length_append, List.length_take, List.length_cons, List.length_drop]; omega)
  · have hat : atK Hold.key l i h.key = false := by simpa using hat
    rw [hat, if_neg (by simp)] at hput
    have hge : decide ((l.length : Int) ≥ 1024) = false := by simp; omega
    (repeat' (with_reducible first|refine w_1 ?_|refine w_2 ?_|refine w_3 ?_|refine w_4 ?_|simp (maxDischargeDepth:=12) only [viz,↓reduceIte,Nat.reduceEqDiff,reduceCtorEq,Nat.reduceAdd,hat,g4,hlw,hge]))
    obtain ⟨v', s10, hins, ho10, k10⟩ := ins_run (bytes := 32) (M := s4.push ⟨58, 3, [holdC h]⟩) (p := s4.next) (b := s3.next) (ys := [holdC h]) (i := i) (by rw [floor_push', q4.k.floor]; omega) (by rw [next_push']; omega) (ho.push _) (by rw [List.length_map]; exact hi) (by rw [Mem.get_push, if_pos rfl]) (by simp) (fun n e => by have := (ho.row _ _ _ _ e).2; omega) (room (by simp; omega) (by simp; omega))
    refine C_prim (p := .ins 58 3 32) (cf := cf142) rfl rfl (fun _ h => by cases h) rfl hins ?_
    (repeat' (with_reducible first|refine w_1 ?_|refine w_2 ?_|refine w_6 ?_|simp (maxDischargeDepth:=12) only [viz,↓reduceIte]))
    rw [hold_put] at ho10
    refine hK _ _ ((q4.k.then (pushes _ _)).trans (k10.le (by omega))) ?_
    rw [hput]
    exact ho10.sl (hold_cells _) fun r n e => by have := ho10.row r 0 n 3 e; omega
theorem set_c {l : List Hold} {h : Hold} {v : AV} {D : Nat → Prop} {s : Mem} {K : AV → Mem → Prop} (hf : s.floor ≤ s.next) (hI : In D s) (hv : Holds s D v l) (hl : l.length < 1000) (hc : holdsS l = true) (hh : mayH h = true)
    (hK : ∀ v' s', Keep s.next s s' → Holds s' (fun q => s.next ≤ q ∧ q < s'.next) v' (putG Hold.key h l) → K v' s') : C tab 73 [v, .agg (holdC h)] s K := by
  refine C_enter (cf := cf73) rfl (Nat.le_of_ble_eq_true rfl) ?_
  simp only [cf73, oo, on, om, og, oc, ou, holdC]
  have q0 := Kp.of_push s ⟨58, 3, [holdC h]⟩
  simp only [holdC] at q0
  (repeat' (with_reducible first|refine w_1 ?_|refine w_2 ?_|simp (maxDischargeDepth:=12) only [viz,↓reduceIte,Nat.reduceEqDiff,Nat.reduceAdd]))
  generalize s.push _ = S0 at *
  refine lset_c (h := h) (D := D) (q0.k.ok hf) (hI.keep q0.k) (hv.keep fun r hr => q0.k.get r (hI r hr)) hl hc hh fun v' s1 h1 hr => ?_
  have n0 := q0.n
  (repeat' (with_reducible first|refine w_1 ?_|refine w_2 ?_|refine w_4 ?_|refine w_6 ?_|simp (maxDischargeDepth:=12) only [viz,↓reduceIte,Nat.reduceEqDiff, Int.reduceBEq, Int.reduceBNe, Int.reduceLT, Int.reduceLE, Int.reduceGT, Int.reduceGE]))
  exact hK _ _ (q0.k.then h1) (hr.mono fun r hr => ⟨by omega, hr.2⟩)
def mkM (l : List Mark) (k : Txt) (token : Int) : Mark := ⟨k, if lastM l k > token then lastM l k else token⟩
theorem store_tok {M : Mem} {r i ty : Nat} {els : List (List AV)} {f : Txt} {a b : Int} (h : M.get r = some ⟨ty, 2, els⟩) (hc : els[i]? = some [.str f, .int .u64 b]) (hf : M.floor ≤ r) :
    storeA M 1 (.ptr r i 1) (.int .u64 a) = some (M.put r (some ⟨ty, 2, els.set i [.str f, .int .u64 a]⟩)) := by
  simp only [viz,↓reduceIte,Nat.reduceEqDiff,reduceCtorEq,Int.reduceEq,Int.reduceNeg,Nat.reduceAdd,Nat.reduceLeDiff, h, hc, hf]
theorem load_tok {M : Mem} {r i ty : Nat} {els : List (List AV)} {f : Txt} {b : Int} (h : M.get r = some ⟨ty, 2, els⟩) (hc : els[i]? = some [.str f, .int .u64 b]) :
    loadA M false 1 (.ptr r i 1) = some (.int .u64 b) := by
  simp only [viz,↓reduceIte,Nat.reduceEqDiff,reduceCtorEq,Int.reduceEq,Int.reduceNeg,Nat.reduceAdd,Nat.reduceLeDiff, h, hc]
theorem last_at {l : List Mark} {i : Nat} {x : Mark} {k : Txt} (hu : UpK Mark.key l) (hx : l[i]? = some x) (he : x.key = k) : lastM l k = x.token := by
  unfold lastM
  rw [find_at (p := fun m => m.key == k) hx (by simp [he]) fun j y hj hy => ?_]
  have := hu j i y x hj hy hx
  rw [beq_eq_false_iff_ne]
  intro e
  rw [e, he, bl_irrefl] at this; cases this
theorem last_no {l : List Mark} {k : Txt} (h : (l.any fun m => m.key == k) = false) : lastM l k = 0 := by
  unfold lastM
  rw [List.find?_eq_none.mpr fun x hx => by
    have := List.any_eq_false.mp h x hx
    exact this]
theorem mark_c {l : List Mark} {k : Txt} {token : Int} {v : AV} {D : Nat → Prop} {s : Mem} {K : AV → Mem → Prop} (hf : s.floor ≤ s.next) (hI : In D s) (hv : Marks s D v l) (hl : l.length < 1000) (hc : marksS l = true) (h64 : k.length ≤ 64) (ht : 0 < token)
    (hK : ∀ v' s', Keep s.next s s' → Marks s' (fun q => s.next ≤ q ∧ q < s'.next) v' (putG Mark.key (mkM l k token) l) → K v' s') : C tab 74 [v, .str k, .int .u64 token] s K := by
  refine C_enter (cf := cf74) rfl (Nat.le_of_ble_eq_true rfl) ?_
  simp only [cf74, oo, on, om, og, oc, ou]
  (repeat' (with_reducible first|refine w_1 ?_|refine w_2 ?_|simp (maxDischargeDepth:=12) only [viz,↓reduceIte,Nat.reduceEqDiff,reduceCtorEq,Nat.reduceAdd]))
  refine C_enter (cf := cf125) rfl (Nat.le_of_ble_eq_true rfl) ?_
  simp only [cf125, oo, on, om, og, oc, ou]
  (repeat' (with_reducible first|refine w_1 ?_|refine w_2 ?_|simp (maxDischargeDepth:=12) only [viz,↓reduceIte,reduceCtorEq,Nat.reduceAdd]))
  refine lmarks_c (D := D) hf hI hv (by omega) fun s1 h1 => ?_
  rw [hc]
  have e64 : decide ((k.length : Int) > 64) = false := by simp; omega
  have et : (token == 0) = false := by rw [beq_eq_false_iff_ne]; omega
  (repeat' (with_reducible first|refine w_1 ?_|refine w_2 ?_|refine w_4 ?_|refine w_5 ?_|((try refine w_9 ?_);simp (maxDischargeDepth:=12) only [viz,↓reduceIte,Nat.reduceEqDiff,reduceCtorEq,bne_self_eq_false, Int.reduceBEq, Int.reduceBNe, Int.reduceLT, Int.reduceLE, Int.reduceGT, Int.reduceGE,e64,et])))
  refine masearch_c (D := D) (hI.keep h1) (hv.keep fun r hr => h1.get r (hI r hr)) (by omega) (marks_up hc) fun i s3 hi h3 b1 b2 => ?_
  have k3 := h1.then h3
  (repeat' (with_reducible first|refine w_1 ?_|refine w_2 ?_|simp (maxDischargeDepth:=12) only [viz,↓reduceIte,reduceCtorEq]))
  refine maclone_c (D := D) (k3.ok hf) (hI.keep k3) (hv.keep fun r hr => k3.get r (hI r hr)) (by omega) fun w s4 ho h4 => ?_
  have k4 := k3.then h4
  have n4 := h4.next
  have n3 := k3.next
  have hlw : lenA false w = some l.length := by rw [ho.len, List.length_map]
  have hput := putG_at (key := Mark.key) (h := mkM l k token) b1 b2 (marks_up hc) hi
  have hthere := there_any b1 b2 (marks_up hc)
  by_cases hat : atK Mark.key l i k = true
  · rw [show atK Mark.key l i (mkM l k token).key = true from hat, if_pos rfl] at hput
    have hil : i < l.length := by
      by_cases hlt : i < l.length
      · exact hlt
      · simp [atK, List.getElem?_eq_none (show l.length ≤ i by omega)] at hat
    obtain ⟨r, rfl, hr, hfr, hbr, hrn⟩ : ∃ r, w = .own r 0 l.length 2 ∧ s4.get r = some ⟨68, 2, l.map markC⟩ ∧ s4.floor ≤ r ∧ s3.next ≤ r ∧ r < s4.next := by
      rcases ho with ⟨_, h⟩ | ⟨r, h0, a, b, c, d⟩
      · have : l = [] := by simpa using h
        rw [this] at hil; simp at hil
      · exact ⟨r, by rw [h0, List.length_map], a, b, c, d⟩
    obtain ⟨x, hx⟩ := get_of hil
    have hxk : x.key = k := by simpa [atK, hx] using hat
    have hlx := last_at (marks_up hc) hx hxk
    have hxe : (l.map markC)[i]? = some [.str x.key, .int .u64 x.token] := by rw [List.getElem?_map, hx]; rfl
    have hmk : mkM l k token = ⟨x.key, max x.token token⟩ := by
      unfold mkM
      rw [hlx, hxk]
      congr 1
      simp only [Int.max_def]; split <;> split <;> omega
    have hst := store_tok (a := max x.token token) hr hxe hfr
    have hlt := load_tok hr hxe
    have hat2 : atA 2 (.own r 0 l.length 2) (.int .i64 (i : Int)) = some (.ptr r i 0) := at0 hil
    (repeat' (with_reducible first|refine w_1 ?_|refine w_2 ?_|refine w_3 ?_|refine w_4 ?_|simp (maxDischargeDepth:=12) only [vis,↓reduceIte,Nat.reduceEqDiff,reduceCtorEq,hat,hat2,hlt,Nat.zero_add]))
    refine mxk_c (k := .u64) (a := x.token) (b := token) (by simp only [ev, Env.get_set, ↓reduceIte, Nat.reduceEqDiff]) (by simp only [ev, Env.get_set, ↓reduceIte, Nat.reduceEqDiff]) ?_
    (repeat' (with_reducible first|refine w_1 ?_|refine w_2 ?_|refine w_4 ?_|refine w_6 ?_|simp (maxDischargeDepth:=12) only [vis,↓reduceIte,Nat.reduceEqDiff,reduceCtorEq,hst, Int.reduceBEq, Int.reduceBNe, Int.reduceLT, Int.reduceLE, Int.reduceGT, Int.reduceGE]))
    refine hK _ _ (k4.trans (Keep.put (by omega) _)) ?_
    rw [hput, hmk]
    refine Sl.of_row (r := r) (ty := 68) (by rw [Mem.get_put, if_pos rfl]; exact congrArg (fun y => some (Row.mk _ _ y)) (set_map markC l i ⟨x.key, max x.token token⟩ hil)) ⟨by omega, by rw [Mem.next_put]; exact hrn⟩ (mark_cells _) (by simp only [List.length_map, List.length_append, List.length_take, List.length_cons, List.length_drop]; omega)
  · have hat : atK Mark.key l i k = false := by simpa using hat
    rw [show atK Mark.key l i (mkM l k token).key = false from hat, if_neg (by simp)] at hput
    have hmk : mkM l k token = ⟨k, token⟩ := by
      unfold mkM
      rw [last_no (by rw [← hthere]; exact hat), if_neg (by omega)]
    have hge : decide ((l.length : Int) ≥ 1024) = false := by simp; omega
    (repeat' (with_reducible first|refine w_1 ?_|refine w_2 ?_|refine w_3 ?_|refine w_4 ?_|simp (maxDischargeDepth:=12) only [viz,↓reduceIte,Nat.reduceEqDiff,reduceCtorEq,Nat.reduceAdd,hat,hlw,hge]))
    obtain ⟨v', s10, hins, ho10, k10⟩ := ins_run (bytes := 24) (M := s4.push ⟨68, 2, [markC ⟨k, token⟩]⟩) (p := s4.next) (b := s3.next) (ys := [markC ⟨k, token⟩]) (i := i) (by rw [floor_push', k4.floor]; omega) (by rw [next_push']; omega) (ho.push _) (by rw [List.length_map]; exact hi) (by rw [Mem.get_push, if_pos rfl]) (by simp) (fun n e => by have := (ho.row _ _ _ _ e).2; omega) (room (by simp; omega) (by simp; omega))
    refine C_prim (p := .ins 68 2 24) (cf := cf145) rfl rfl (fun _ h => by cases h) rfl hins ?_
    (repeat' (with_reducible first|refine w_1 ?_|refine w_2 ?_|refine w_4 ?_|refine w_6 ?_|simp (maxDischargeDepth:=12) only [viz,↓reduceIte,Nat.reduceEqDiff, Int.reduceBEq, Int.reduceBNe, Int.reduceLT, Int.reduceLE, Int.reduceGT, Int.reduceGE]))
    rw [mark_put] at ho10
    refine hK _ _ ((k4.then (pushes _ _)).trans (k10.le (by omega))) ?_
    rw [hput, hmk]
    exact ho10.sl (mark_cells _) fun r n e => by have := ho10.row r 0 n 2 e; omega
end Go.Proofs.YthibbbfhkfebkaaGreat
/- A key that is turned. No statement of the seat is proved here. -/
namespace Go.Proofs.YthibbbfhkfebkaaGreat
open Go Go.VI
set_option linter.unusedSimpArgs false
structure R3 (q : Nat) (A B C : Row) (M : Mem) : Prop where
  a : M.get q = some A
  b : M.get (q + 1) = some B
  c : M.get (q + 1 + 1) = some C
  n : q + 1 + 1 < M.next
theorem R3.of_push (s : Mem) (A B C : Row) : R3 s.next A B C (((s.push A).push B).push C) := ⟨by
  simp only [Mem.get_push, next_push']; rw [if_neg (by omega), if_neg (by omega), if_pos trivial], by
  simp only [Mem.get_push, next_push']; rw [if_neg (by omega), if_pos trivial], by
  simp only [Mem.get_push, next_push']; rw [if_pos trivial], by simp only [next_push']; omega⟩
theorem R3.then {q : Nat} {A B C : Row} {M N : Mem} (h : R3 q A B C M) (k : Keep M.next M N) : R3 q A B C N := by
  have := h.n
  exact ⟨by rw [k.get _ (by omega)]; exact h.a, by rw [k.get _ (by omega)]; exact h.b, by rw [k.get _ (by omega)]; exact h.c, Nat.lt_of_lt_of_le h.n k.next⟩
theorem R3.put {q : Nat} {A B C : Row} {M : Mem} (h : R3 q A B C M) (A' : Row) : R3 q A' B C (M.put q (some A')) :=
  ⟨by rw [Mem.get_put, if_pos rfl], by rw [Mem.get_put, if_neg (by omega)]; exact h.b, by rw [Mem.get_put, if_neg (by omega)]; exact h.c, h.n⟩
def untilS (now ttl : Int) : Int := min 2147483647 (now + max 1 ttl)
def turnT (t : Table) (x : Intent) : Table :=
  if x.kind = 1 then ⟨t.now, t.spans, t.frozen, putG Hold.key ⟨x.key, x.token, untilS t.now x.ttl⟩ t.holds, dropM t.marks x.key, t.ints⟩
  else if x.kind = 2 then ⟨t.now, t.spans, t.frozen, dropH t.holds x.key, putG Mark.key (mkM t.marks x.key x.token) t.marks, t.ints⟩
  else if x.kind = 3 ∧ (findH t.holds x.key).isSome = true then ⟨t.now, t.spans, t.frozen, putG Hold.key ⟨(gotH (findH t.holds x.key)).key, (gotH (findH t.holds x.key)).token, max (gotH (findH t.holds x.key)).till (untilS t.now x.ttl)⟩ t.holds, t.marks, t.ints⟩
  else t
structure Good (n : Nat) (t : Table) : Prop where
  ho : holdsS t.holds = true
  ma : marksS t.marks = true
  n0 : 0 ≤ t.now
  n1 : t.now ≤ 2147483647
  lh : t.holds.length ≤ n
  lm : t.marks.length ≤ n
structure GoodI (x : Intent) : Prop where
  k : x.key.length ≤ 64
  t : 0 < x.token
  l : lastsS x.kind x.ttl = true
theorem GoodI.ttl {x : Intent} (h : GoodI x) : 0 ≤ x.ttl ∧ x.ttl ≤ 1048576 ∧ (x.kind = 1 ∨ x.kind = 3 → 1 ≤ x.ttl) ∧ (x.kind = 1 ∨ x.kind = 2 ∨ x.kind = 3) := by
  have := h.l
  unfold lastsS at this
  split at this
  · simp at this; omega
  · simp at this; omega
theorem find_in {l : List Hold} {k : Txt} (h : (findH l k).isSome = true) : gotH (findH l k) ∈ l ∧ (gotH (findH l k)).key = k := by
  unfold findH at h ⊢
  obtain ⟨y, hy⟩ := Option.isSome_iff_exists.mp h
  have h1 := List.mem_of_find?_eq_some hy
  have h2 := List.find?_some hy
  rw [hy]
  exact ⟨h1, by simpa [gotH] using h2⟩
theorem hold_may {l : List Hold} (h : holdsS l = true) : ∀ x ∈ l, mayH x = true := fun x hx => by
  simp only [holdsS, Bool.and_eq_true] at h
  obtain ⟨q, hq⟩ := rising_mem h.2 x hx
  simp only [holdOk, Bool.and_eq_true] at hq
  exact hq.1
theorem until_may {now ttl : Int} (h0 : 0 ≤ now) (h1 : now ≤ 2147483647) (h2 : ttl ≤ 1048576) : 0 ≤ untilS now ttl ∧ untilS now ttl ≤ 2147483647 := by
  unfold untilS; omega
attribute [local irreducible] Ws Wp W C
set_option maxHeartbeats 4000000
end Go.Proofs.YthibbbfhkfebkaaGreat

