/- How many are a majority. -/
import Derived.Test.YtfllmhjjfapnmaaGreatVZTab
import Derived.Test.YtfllmhjjfapnmaaGreatVZVE
namespace Go.Proofs.YtfllmhjjfapnmaaGreat.Q
open Go Go.VI
set_option linter.unusedSimpArgs false
def needF (n : Int) : Int := if n < 1 then 0 else n / 2 + 1
theorem need_c (n : Int) (hn : (Lit.int .i64 n).wf = true) (s : Mem) (K : AV → Mem → Prop) (h : K (.int .i64 (needF n)) s) : C tab 131 [.int .i64 n] s K := by
  have hb0 := wf_i64 hn
  have e1 : needF n = if n < 1 then 0 else IntKind.i64.wrap (IntKind.i64.wrap (n.tdiv 2) + 1) := by
    unfold needF
    split
    · rfl
    · rw [Int.tdiv_eq_ediv_of_nonneg (by omega), wrap_i64 (x := n / 2) (by omega), wrap_i64 (by omega)]
  rw [e1] at h
  refine C_enter (cf := cf131) rfl (Nat.le_of_ble_eq_true rfl) ?_
  simp only [cf131, oo, on, om, og, oc, ou]
  (repeat' (with_reducible first|refine w_1 ?_|refine w_2 ?_|refine w_3 ?_|refine w_4 ?_|refine w_5 ?_|refine w_6 ?_|refine w_7 ?_|(refine w_8 (fun hb=>?_) (fun hb=>?_)<;>try simp only [hb])|refine w_9 ?_|simp (maxDischargeDepth:=12) only [viz,↓reduceIte,Nat.reduceEqDiff,reduceCtorEq,Int.reduceEq,Int.reduceNeg,Nat.reduceAdd,Nat.reduceLeDiff]))
  all_goals simp only [decide_eq_true_eq, decide_eq_false_iff_not] at hb
  · simpa only [if_pos hb] using h
  · simpa only [if_neg hb] using h
theorem wf_nat {n : Nat} (h : n < 4611686018427387904) : (Lit.int .i64 (n : Int)).wf = true := by
  simp [Lit.wf, IntKind.min, IntKind.max, IntKind.signed, IntKind.bits]
  omega
end Go.Proofs.YtfllmhjjfapnmaaGreat.Q
/- Who is a voter, and how many voters are in a list. No statement of the seat is proved here. -/
namespace Go.Proofs.YtfllmhjjfapnmaaGreat.Q
open Go Go.VI
set_option linter.unusedSimpArgs false
theorem mem_of_get {l : List Int} {i : Nat} {a : Int} (h : l[i]? = some a) : a ∈ l := List.mem_of_getElem? h
theorem in_l0 {l : List Int} {n : Int} {s : Mem} {Q : Ex → Env → Mem → Prop} {v : AV} (hl : Ints s v .i64 l) (hlen : l.length < 4611686018427387904)
    (hyes : n ∈ l → ∀ e', e'.get 4 = .bool true → Q .ret e' s) (hno : n ∉ l → ∀ e', Q (.exit 0) e' s) :
    ∀ (k i : Nat) (e : Env), i + k = l.length → n ∉ l.take i → e.get 0 = v → e.get 1 = .int .i64 n → e.get 5 = .int .i64 i → W tab (.loop cf45l0) e s Q := by
  intro k
  induction k with
  | zero =>
    intro i e hi hnt h0 h1 h5
    have hlt := lt_false (show ¬ i < l.length by omega)
    refine W_loop' (by delta cf45l0 oo on om og oc ou; exact rfl) ?_
    (repeat' (with_reducible first|refine w_1 ?_|refine w_2 ?_|refine w_3 ?_|refine w_4 ?_|refine w_5 ?_|refine w_6 ?_|refine w_7 ?_|(refine w_8 (fun hb=>?_) (fun hb=>?_)<;>try simp only [hb])|refine w_9 ?_|simp (maxDischargeDepth:=12) only [viz,↓reduceIte,Nat.reduceEqDiff,reduceCtorEq,Int.reduceEq,Int.reduceNeg,Nat.reduceAdd,Nat.reduceLeDiff,h0,h1,h5,hl.len,hlt]))
    exact hno (by rwa [List.take_of_length_le (by omega)] at hnt) _
  | succ k ih =>
    intro i e hi hnt h0 h1 h5
    have hlt := lt_true (show i < l.length by omega)
    obtain ⟨a, ha⟩ : ∃ a, l[i]? = some a := ⟨l[i]'(by omega), List.getElem?_eq_getElem _⟩
    obtain ⟨p, hp, hld⟩ := hl.get .i64 i a ha
    refine W_loop' (by delta cf45l0 oo on om og oc ou; exact rfl) ?_
    (repeat' (with_reducible first|refine w_1 ?_|refine w_2 ?_|refine w_3 ?_|refine w_4 ?_|refine w_5 ?_|refine w_6 ?_|refine w_7 ?_|(refine w_8 (fun hb=>?_) (fun hb=>?_)<;>try simp only [hb])|refine w_9 ?_|simp (maxDischargeDepth:=12) only [viz,↓reduceIte,Nat.reduceEqDiff,reduceCtorEq,Int.reduceEq,Int.reduceNeg,Nat.reduceAdd,Nat.reduceLeDiff,h0,h1,h5,hl.len,hlt,hp,hld]))
    · refine hyes ?_ _ (by rw [Env.get_set, if_pos rfl])
      rw [← beq_iff_eq.mp hb]; exact mem_of_get ha
    · refine ih (i + 1) _ (by omega) ?_ ?_ ?_ ?_
      · rw [List.take_add_one, ha]
        have := beq_eq_false_iff_ne.mp hb
        simp only [Option.toList_some, List.mem_append, List.mem_singleton, not_or]
        exact ⟨hnt, fun h => this h.symm⟩
      · simp only [Env.get_set, ↓reduceIte, Nat.reduceEqDiff, h0]
      · simp only [Env.get_set, ↓reduceIte, Nat.reduceEqDiff, h1]
      · simp only [Env.get_set, ↓reduceIte]
        rw [succ_cast (by omega)]
theorem in_c {l : List Int} {n : Int} {s : Mem} {v : AV} {K : AV → Mem → Prop} (hl : Ints s v .i64 l) (hlen : l.length < 4611686018427387904) (hK : ∀ b : Bool, (b = true ↔ n ∈ l) → K (.bool b) s) : C tab 45 [v, .int .i64 n] s K := by
  refine C_enter (cf := cf45) rfl (Nat.le_of_ble_eq_true rfl) ?_
  simp only [cf45, oo, on, om, og, oc, ou]
  (repeat' (with_reducible first|refine w_1 ?_|refine w_2 ?_|refine w_3 ?_|refine w_4 ?_|refine w_5 ?_|refine w_6 ?_|refine w_7 ?_|(refine w_8 (fun hb=>?_) (fun hb=>?_)<;>try simp only [hb])|refine w_9 ?_|simp (maxDischargeDepth:=12) only [viz,↓reduceIte,Nat.reduceEqDiff,reduceCtorEq,Int.reduceEq,Int.reduceNeg,Nat.reduceAdd,Nat.reduceLeDiff]))
  refine in_l0 (n := n) hl hlen ?_ ?_ l.length 0 _ (by omega) (by simp) ?_ ?_ ?_
  · intro hm e' h4
    (repeat' (with_reducible first|refine w_1 ?_|refine w_2 ?_|refine w_3 ?_|refine w_4 ?_|refine w_5 ?_|refine w_6 ?_|refine w_7 ?_|(refine w_8 (fun hb=>?_) (fun hb=>?_)<;>try simp only [hb])|refine w_9 ?_|simp (maxDischargeDepth:=12) only [viz,↓reduceIte,Nat.reduceEqDiff,reduceCtorEq,Int.reduceEq,Int.reduceNeg,Nat.reduceAdd,Nat.reduceLeDiff,h4]))
    exact hK true (by simp [hm])
  · intro hm e'
    (repeat' (with_reducible first|refine w_1 ?_|refine w_2 ?_|refine w_3 ?_|refine w_4 ?_|refine w_5 ?_|refine w_6 ?_|refine w_7 ?_|(refine w_8 (fun hb=>?_) (fun hb=>?_)<;>try simp only [hb])|refine w_9 ?_|simp (maxDischargeDepth:=12) only [viz,↓reduceIte,Nat.reduceEqDiff,reduceCtorEq,Int.reduceEq,Int.reduceNeg,Nat.reduceAdd,Nat.reduceLeDiff]))
    exact hK false (by simp [hm])
  all_goals simp only [Env.get_set, ↓reduceIte, Nat.reduceEqDiff, Env.start, Env.ofList]
  rfl
def cnt (vs l : List Int) : Nat := (vs.filter (l.contains ·)).length
theorem cnt_le (vs l : List Int) : cnt vs l ≤ vs.length := List.length_filter_le _ _
theorem cnt_take (vs l : List Int) (i : Nat) (a : Int) (h : vs[i]? = some a) : cnt (vs.take (i + 1)) l = cnt (vs.take i) l + if a ∈ l then 1 else 0 := by
  unfold cnt
  rw [List.take_add_one, h, List.filter_append, List.length_append]
  congr 1
  simp only [Option.toList_some, List.filter_cons, List.filter_nil, List.contains_iff_mem]
  split <;> rfl
theorem count_l0 {vs l : List Int} {s : Mem} {Q : Ex → Env → Mem → Prop} {v w : AV} (hv : Ints s v .i64 vs) (hl : Ints s w .i64 l) (hlen : l.length < 4611686018427387904) (hlen' : vs.length < 4611686018427387904)
    (hQ : ∀ e', e'.get 5 = .int .i64 (cnt vs l) → Q (.exit 0) e' s) :
    ∀ (k i : Nat) (e : Env), i + k = vs.length → e.get 0 = v → e.get 1 = w → e.get 5 = .int .i64 (cnt (vs.take i) l) → e.get 6 = .int .i64 i → W tab (.loop cf120l0) e s Q := by
  intro k
  induction k with
  | zero =>
    intro i e hi h0 h1 h5 h6
    have hlt := lt_false (show ¬ i < vs.length by omega)
    refine W_loop' (by delta cf120l0 oo on om og oc ou; exact rfl) ?_
    (repeat' (with_reducible first|refine w_1 ?_|refine w_2 ?_|refine w_3 ?_|refine w_4 ?_|refine w_5 ?_|refine w_6 ?_|refine w_7 ?_|(refine w_8 (fun hb=>?_) (fun hb=>?_)<;>try simp only [hb])|refine w_9 ?_|simp (maxDischargeDepth:=12) only [viz,↓reduceIte,Nat.reduceEqDiff,reduceCtorEq,Int.reduceEq,Int.reduceNeg,Nat.reduceAdd,Nat.reduceLeDiff,h0,h1,h5,h6,hv.len,hlt]))
    refine hQ _ ?_
    simp only [Env.get_set, ↓reduceIte, Nat.reduceEqDiff, h5]
    rw [List.take_of_length_le (by omega)]
  | succ k ih =>
    intro i e hi h0 h1 h5 h6
    have hlt := lt_true (show i < vs.length by omega)
    obtain ⟨a, ha⟩ : ∃ a, vs[i]? = some a := ⟨vs[i]'(by omega), List.getElem?_eq_getElem _⟩
    obtain ⟨p, hp, hld⟩ := hv.get .i64 i a ha
    refine W_loop' (by delta cf120l0 oo on om og oc ou; exact rfl) ?_
    (repeat' (with_reducible first|refine w_1 ?_|refine w_2 ?_|refine w_3 ?_|refine w_4 ?_|refine w_5 ?_|refine w_6 ?_|refine w_7 ?_|(refine w_8 (fun hb=>?_) (fun hb=>?_)<;>try simp only [hb])|refine w_9 ?_|simp (maxDischargeDepth:=12) only [viz,↓reduceIte,Nat.reduceEqDiff,reduceCtorEq,Int.reduceEq,Int.reduceNeg,Nat.reduceAdd,Nat.reduceLeDiff,h0,h1,h5,h6,hv.len,hlt,hp,hld]))
    refine in_c hl hlen ?_
    intro b hb'
    have hc := cnt_take vs l i a ha
    have hcl := cnt_le (vs.take i) l
    have hcl2 : (vs.take i).length ≤ vs.length := by simp; omega
    (repeat' (with_reducible first|refine w_1 ?_|refine w_2 ?_|refine w_3 ?_|refine w_4 ?_|refine w_5 ?_|refine w_6 ?_|refine w_7 ?_|(refine w_8 (fun hb=>?_) (fun hb=>?_)<;>try simp only [hb])|refine w_9 ?_|simp (maxDischargeDepth:=12) only [viz,↓reduceIte,Nat.reduceEqDiff,reduceCtorEq,Int.reduceEq,Int.reduceNeg,Nat.reduceAdd,Nat.reduceLeDiff,h0,h1,h5,h6]))
    all_goals refine ih (i + 1) _ (by omega) ?_ ?_ ?_ ?_
    all_goals simp only [Env.get_set, ↓reduceIte, Nat.reduceEqDiff, h0, h1, h5]
    · rw [hc, if_pos (hb'.mp hb), succ_cast (by omega)]
    · rw [succ_cast (by omega)]
    · rw [hc, if_neg (fun h => by rw [hb'.mpr h] at hb; cases hb)]; rfl
    · rw [succ_cast (by omega)]
theorem count_c {vs l : List Int} {s : Mem} {v w : AV} {K : AV → Mem → Prop} (hv : Ints s v .i64 vs) (hl : Ints s w .i64 l) (hlen : l.length < 4611686018427387904) (hlen' : vs.length < 4611686018427387904) (hK : K (.int .i64 (cnt vs l)) s) : C tab 120 [v, w] s K := by
  refine C_enter (cf := cf120) rfl (Nat.le_of_ble_eq_true rfl) ?_
  simp only [cf120, oo, on, om, og, oc, ou]
  (repeat' (with_reducible first|refine w_1 ?_|refine w_2 ?_|refine w_3 ?_|refine w_4 ?_|refine w_5 ?_|refine w_6 ?_|refine w_7 ?_|(refine w_8 (fun hb=>?_) (fun hb=>?_)<;>try simp only [hb])|refine w_9 ?_|simp (maxDischargeDepth:=12) only [viz,↓reduceIte,Nat.reduceEqDiff,reduceCtorEq,Int.reduceEq,Int.reduceNeg,Nat.reduceAdd,Nat.reduceLeDiff]))
  refine count_l0 hv hl hlen hlen' ?_ vs.length 0 _ (by omega) ?_ ?_ ?_ ?_
  · intro e' h5
    (repeat' (with_reducible first|refine w_1 ?_|refine w_2 ?_|refine w_3 ?_|refine w_4 ?_|refine w_5 ?_|refine w_6 ?_|refine w_7 ?_|(refine w_8 (fun hb=>?_) (fun hb=>?_)<;>try simp only [hb])|refine w_9 ?_|simp (maxDischargeDepth:=12) only [viz,↓reduceIte,Nat.reduceEqDiff,reduceCtorEq,Int.reduceEq,Int.reduceNeg,Nat.reduceAdd,Nat.reduceLeDiff,h5]))
    exact hK
  all_goals simp only [Env.get_set, ↓reduceIte, Nat.reduceEqDiff]
  all_goals rfl
theorem index_l0 {l : List Int} {n : Int} {s : Mem} {Q : Ex → Env → Mem → Prop} {v : AV} (hl : Ints s v .i64 l) (hlen : l.length < 4611686018427387904)
    (hyes : n ∈ l → ∀ e' (i : Nat), i < l.length → e'.get 4 = .int .i64 i → Q .ret e' s) (hno : n ∉ l → ∀ e', Q (.exit 0) e' s) :
    ∀ (k i : Nat) (e : Env), i + k = l.length → n ∉ l.take i → e.get 0 = v → e.get 1 = .int .i64 n → e.get 7 = .int .i64 l.length → e.get 8 = .int .i64 i → W tab (.loop cf94l0) e s Q := by
  intro k
  induction k with
  | zero =>
    intro i e hi hnt h0 h1 h7 h8
    have hlt := lt_false (show ¬ i < l.length by omega)
    refine W_loop' (by delta cf94l0 oo on om og oc ou; exact rfl) ?_
    (repeat' (with_reducible first|refine w_1 ?_|refine w_2 ?_|refine w_3 ?_|refine w_4 ?_|refine w_5 ?_|refine w_6 ?_|refine w_7 ?_|(refine w_8 (fun hb=>?_) (fun hb=>?_)<;>try simp only [hb])|refine w_9 ?_|simp (maxDischargeDepth:=12) only [viz,↓reduceIte,Nat.reduceEqDiff,reduceCtorEq,Int.reduceEq,Int.reduceNeg,Nat.reduceAdd,Nat.reduceLeDiff,h0,h1,h7,h8,hl.len,hlt]))
    exact hno (by rwa [List.take_of_length_le (by omega)] at hnt) _
  | succ k ih =>
    intro i e hi hnt h0 h1 h7 h8
    have hlt := lt_true (show i < l.length by omega)
    obtain ⟨a, ha⟩ : ∃ a, l[i]? = some a := ⟨l[i]'(by omega), List.getElem?_eq_getElem _⟩
    obtain ⟨p, hp, hld⟩ := hl.get .i64 i a ha
    refine W_loop' (by delta cf94l0 oo on om og oc ou; exact rfl) ?_
    (repeat' (with_reducible first|refine w_1 ?_|refine w_2 ?_|refine w_3 ?_|refine w_4 ?_|refine w_5 ?_|refine w_6 ?_|refine w_7 ?_|(refine w_8 (fun hb=>?_) (fun hb=>?_)<;>try simp only [hb])|refine w_9 ?_|simp (maxDischargeDepth:=12) only [viz,↓reduceIte,Nat.reduceEqDiff,reduceCtorEq,Int.reduceEq,Int.reduceNeg,Nat.reduceAdd,Nat.reduceLeDiff,h0,h1,h7,h8,hl.len,hlt,hp,hld]))
    · refine hyes ?_ _ i (by omega) (by rw [Env.get_set, if_pos rfl])
      rw [beq_iff_eq.mp hb]; exact mem_of_get ha
    · refine ih (i + 1) _ (by omega) ?_ ?_ ?_ ?_ ?_
      · rw [List.take_add_one, ha]
        have := beq_eq_false_iff_ne.mp hb
        simp only [Option.toList_some, List.mem_append, List.mem_singleton, not_or]
        exact ⟨hnt, this⟩
      all_goals simp only [Env.get_set, ↓reduceIte, Nat.reduceEqDiff, h0, h1, h7]
      rw [succ_cast (by omega)]
theorem contains_c {l : List Int} {n : Int} {s : Mem} {v : AV} {K : AV → Mem → Prop} (hl : Ints s v .i64 l) (hlen : l.length < 4611686018427387904) (hK : ∀ b : Bool, (b = true ↔ n ∈ l) → K (.bool b) s) : C tab 38 [v, .int .i64 n] s K := by
  refine C_enter (cf := cf38) rfl (Nat.le_of_ble_eq_true rfl) ?_
  simp only [cf38, oo, on, om, og, oc, ou]
  (repeat' (with_reducible first|refine w_1 ?_|refine w_2 ?_|refine w_3 ?_|refine w_4 ?_|refine w_5 ?_|refine w_6 ?_|refine w_7 ?_|(refine w_8 (fun hb=>?_) (fun hb=>?_)<;>try simp only [hb])|refine w_9 ?_|simp (maxDischargeDepth:=12) only [viz,↓reduceIte,Nat.reduceEqDiff,reduceCtorEq,Int.reduceEq,Int.reduceNeg,Nat.reduceAdd,Nat.reduceLeDiff]))
  refine C_enter (cf := cf94) rfl (Nat.le_of_ble_eq_true rfl) ?_
  simp only [cf94, oo, on, om, og, oc, ou]
  (repeat' (with_reducible first|refine w_1 ?_|refine w_2 ?_|refine w_3 ?_|refine w_4 ?_|refine w_5 ?_|refine w_6 ?_|refine w_7 ?_|(refine w_8 (fun hb=>?_) (fun hb=>?_)<;>try simp only [hb])|refine w_9 ?_|simp (maxDischargeDepth:=12) only [viz,↓reduceIte,Nat.reduceEqDiff,reduceCtorEq,Int.reduceEq,Int.reduceNeg,Nat.reduceAdd,Nat.reduceLeDiff,hl.len]))
  refine index_l0 (n := n) hl hlen ?_ ?_ l.length 0 _ (by omega) (by simp) ?_ ?_ ?_ ?_
  · intro hm e' i hi h4
    (repeat' (with_reducible first|refine w_1 ?_|refine w_2 ?_|refine w_3 ?_|refine w_4 ?_|refine w_5 ?_|refine w_6 ?_|refine w_7 ?_|(refine w_8 (fun hb=>?_) (fun hb=>?_)<;>try simp only [hb])|refine w_9 ?_|simp (maxDischargeDepth:=12) only [viz,↓reduceIte,Nat.reduceEqDiff,reduceCtorEq,Int.reduceEq,Int.reduceNeg,Nat.reduceAdd,Nat.reduceLeDiff,h4]))
    exact hK _ (by simp [hm])
  · intro hm e'
    (repeat' (with_reducible first|refine w_1 ?_|refine w_2 ?_|refine w_3 ?_|refine w_4 ?_|refine w_5 ?_|refine w_6 ?_|refine w_7 ?_|(refine w_8 (fun hb=>?_) (fun hb=>?_)<;>try simp only [hb])|refine w_9 ?_|simp (maxDischargeDepth:=12) only [viz,↓reduceIte,Nat.reduceEqDiff,reduceCtorEq,Int.reduceEq,Int.reduceNeg,Nat.reduceAdd,Nat.reduceLeDiff]))
    exact hK _ (by simp [hm])
  all_goals simp only [Env.get_set, ↓reduceIte, Nat.reduceEqDiff]
  rfl
theorem qcount_l0 {vs l : List Int} {s : Mem} {Q : Ex → Env → Mem → Prop} {v w : AV} (hv : Ints s v .i64 vs) (hl : Ints s w .i64 l) (hlen : l.length < 4611686018427387904) (hlen' : vs.length < 4611686018427387904)
    (hQ : ∀ e', e'.get 5 = .int .i64 (cnt vs l) → Q (.exit 0) e' s) :
    ∀ (k i : Nat) (e : Env), i + k = vs.length → e.get 1 = w → e.get 5 = .int .i64 (cnt (vs.take i) l) → e.get 8 = v → e.get 9 = .int .i64 vs.length → e.get 10 = .int .i64 i → W tab (.loop cf130l0) e s Q := by
  intro k
  induction k with
  | zero =>
    intro i e hi h1 h5 h8 h9 h10
    have hlt := lt_false (show ¬ i < vs.length by omega)
    refine W_loop' (by delta cf130l0 oo on om og oc ou; exact rfl) ?_
    (repeat' (with_reducible first|refine w_1 ?_|refine w_2 ?_|refine w_3 ?_|refine w_4 ?_|refine w_5 ?_|refine w_6 ?_|refine w_7 ?_|(refine w_8 (fun hb=>?_) (fun hb=>?_)<;>try simp only [hb])|refine w_9 ?_|simp (maxDischargeDepth:=12) only [viz,↓reduceIte,Nat.reduceEqDiff,reduceCtorEq,Int.reduceEq,Int.reduceNeg,Nat.reduceAdd,Nat.reduceLeDiff,h1,h5,h8,h9,h10,hv.len,hlt]))
    refine hQ _ ?_
    simp only [Env.get_set, ↓reduceIte, Nat.reduceEqDiff, h5]
    rw [List.take_of_length_le (by omega)]
  | succ k ih =>
    intro i e hi h1 h5 h8 h9 h10
    have hlt := lt_true (show i < vs.length by omega)
    obtain ⟨a, ha⟩ : ∃ a, vs[i]? = some a := ⟨vs[i]'(by omega), List.getElem?_eq_getElem _⟩
    obtain ⟨p, hp, hld⟩ := hv.get .i64 i a ha
    refine W_loop' (by delta cf130l0 oo on om og oc ou; exact rfl) ?_
    (repeat' (with_reducible first|refine w_1 ?_|refine w_2 ?_|refine w_3 ?_|refine w_4 ?_|refine w_5 ?_|refine w_6 ?_|refine w_7 ?_|(refine w_8 (fun hb=>?_) (fun hb=>?_)<;>try simp only [hb])|refine w_9 ?_|simp (maxDischargeDepth:=12) only [viz,↓reduceIte,Nat.reduceEqDiff,reduceCtorEq,Int.reduceEq,Int.reduceNeg,Nat.reduceAdd,Nat.reduceLeDiff,h1,h5,h8,h9,h10,hv.len,hlt,hp,hld]))
    refine contains_c hl hlen ?_
    intro b hb'
    have hc := cnt_take vs l i a ha
    have hcl := cnt_le (vs.take i) l
    have hcl2 : (vs.take i).length ≤ vs.length := by simp; omega
    (repeat' (with_reducible first|refine w_1 ?_|refine w_2 ?_|refine w_3 ?_|refine w_4 ?_|refine w_5 ?_|refine w_6 ?_|refine w_7 ?_|(refine w_8 (fun hb=>?_) (fun hb=>?_)<;>try simp only [hb])|refine w_9 ?_|simp (maxDischargeDepth:=12) only [viz,↓reduceIte,Nat.reduceEqDiff,reduceCtorEq,Int.reduceEq,Int.reduceNeg,Nat.reduceAdd,Nat.reduceLeDiff,h1,h5,h8,h9,h10]))
    all_goals refine ih (i + 1) _ (by omega) ?_ ?_ ?_ ?_ ?_
    all_goals simp only [Env.get_set, ↓reduceIte, Nat.reduceEqDiff, h1, h5, h8, h9]
    · rw [hc, if_pos (hb'.mp hb), succ_cast (by omega)]
    · rw [succ_cast (by omega)]
    · rw [hc, if_neg (fun h => by rw [hb'.mpr h] at hb; cases hb)]; rfl
    · rw [succ_cast (by omega)]
theorem qcount_c {vs l : List Int} {s : Mem} {v w : AV} {K : AV → Mem → Prop} (hv : Ints s v .i64 vs) (hl : Ints s w .i64 l) (hlen : l.length < 4611686018427387904) (hlen' : vs.length < 4611686018427387904) (hK : K (.int .i64 (cnt vs l)) s) : C tab 130 [v, w] s K := by
  refine C_enter (cf := cf130) rfl (Nat.le_of_ble_eq_true rfl) ?_
  simp only [cf130, oo, on, om, og, oc, ou]
  (repeat' (with_reducible first|refine w_1 ?_|refine w_2 ?_|refine w_3 ?_|refine w_4 ?_|refine w_5 ?_|refine w_6 ?_|refine w_7 ?_|(refine w_8 (fun hb=>?_) (fun hb=>?_)<;>try simp only [hb])|refine w_9 ?_|simp (maxDischargeDepth:=12) only [viz,↓reduceIte,Nat.reduceEqDiff,reduceCtorEq,Int.reduceEq,Int.reduceNeg,Nat.reduceAdd,Nat.reduceLeDiff,hv.len]))
  refine qcount_l0 hv hl hlen hlen' ?_ vs.length 0 _ (by omega) ?_ ?_ ?_ ?_ ?_
  · intro e' h5
    (repeat' (with_reducible first|refine w_1 ?_|refine w_2 ?_|refine w_3 ?_|refine w_4 ?_|refine w_5 ?_|refine w_6 ?_|refine w_7 ?_|(refine w_8 (fun hb=>?_) (fun hb=>?_)<;>try simp only [hb])|refine w_9 ?_|simp (maxDischargeDepth:=12) only [viz,↓reduceIte,Nat.reduceEqDiff,reduceCtorEq,Int.reduceEq,Int.reduceNeg,Nat.reduceAdd,Nat.reduceLeDiff,h5]))
    exact hK
  all_goals simp only [Env.get_set, ↓reduceIte, Nat.reduceEqDiff]
  all_goals rfl
end Go.Proofs.YtfllmhjjfapnmaaGreat.Q

