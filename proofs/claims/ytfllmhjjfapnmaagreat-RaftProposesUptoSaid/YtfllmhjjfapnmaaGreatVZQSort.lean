/- A short list of whole numbers is sorted. No statement of the seat is proved here. -/
import Derived.Test.YtfllmhjjfapnmaaGreatVZQQ
import Derived.Test.YtfllmhjjfapnmaaGreatVZVE
namespace Go.Proofs.YtfllmhjjfapnmaaGreat.Q
open Go Go.VI
set_option linter.unusedSimpArgs false
theorem less_c {a b : Int} {s : Mem} {K : AV → Mem → Prop} (hK : K (.bool (decide (a < b))) s) : C tab 160 [.int .u64 a, .int .u64 b] s K := by
  refine C_enter (cf := cf160) rfl (Nat.le_of_ble_eq_true rfl) ?_
  simp only [cf160, oo, on, om, og, oc, ou]
  (repeat' (with_reducible first|refine w_1 ?_|refine w_2 ?_|refine w_3 ?_|refine w_4 ?_|refine w_5 ?_|refine w_6 ?_|refine w_7 ?_|(refine w_8 (fun hb=>?_) (fun hb=>?_)<;>try simp only [hb])|refine w_9 ?_|simp (maxDischargeDepth:=12) only [vis,↓reduceIte,Nat.reduceEqDiff,reduceCtorEq,Int.reduceEq,Int.reduceNeg,Nat.reduceAdd,Nat.reduceLeDiff]))
  refine C_enter (cf := cf171) rfl (Nat.le_of_ble_eq_true rfl) ?_
  simp only [cf171, oo, on, om, og, oc, ou]
  (repeat' (with_reducible first|refine w_1 ?_|refine w_2 ?_|refine w_3 ?_|refine w_4 ?_|refine w_5 ?_|refine w_6 ?_|refine w_7 ?_|(refine w_8 (fun hb=>?_) (fun hb=>?_)<;>try simp only [hb])|refine w_9 ?_|simp (maxDischargeDepth:=12) only [vis,↓reduceIte,Nat.reduceEqDiff,reduceCtorEq,Int.reduceEq,Int.reduceNeg,Nat.reduceAdd,Nat.reduceLeDiff,bne_self_eq_false]))
  exact hK
def swp (xs : List Int) (j : Nat) : List Int := (xs.set (j + 1) (xs.getD j 0)).set j (xs.getD (j + 1) 0)
def sd : Nat → List Int → List Int
  | 0, xs => xs
  | j + 1, xs => if xs.getD (j + 1) 0 < xs.getD j 0 then sd j (swp xs j) else xs
theorem swp_len (xs : List Int) (j : Nat) : (swp xs j).length = xs.length := by simp [swp]
theorem sd_len : ∀ (j : Nat) (xs : List Int), (sd j xs).length = xs.length := by
  intro j
  induction j with
  | zero => intro xs; rfl
  | succ j ih =>
    intro xs
    simp only [sd]
    split
    · rw [ih, swp_len]
    · rfl
theorem ins_l1 {r n ty : Nat} {Q : Ex → Env → Mem → Prop} : ∀ (j : Nat) (xs : List Int) (e : Env) (s : Mem), n = xs.length → n < 1000 → j < n → s.get r = some ⟨ty, 1, intsA .u64 xs⟩ → s.floor ≤ r →
    e.get 0 = .own r 0 n 1 → e.get 1 = .int .i64 ((0 : Nat) : Int) → e.get 7 = .int .i64 j →
    (∀ e' s', Turn r s s' → s'.get r = some ⟨ty, 1, intsA .u64 (sd j xs)⟩ → e'.get 0 = e.get 0 → e'.get 1 = e.get 1 → e'.get 2 = e.get 2 → e'.get 6 = e.get 6 → Q (.exit 2) e' s') →
    W tab (.loop cf154l1) e s Q := by
  intro j
  induction j with
  | zero =>
    intro xs e s hn hn2 hj hs hf h0 h1 h7 hQ
    have hz : decide (((0 : Nat) : Int) > ((0 : Nat) : Int)) = false := rfl
    refine W_loop' (by delta cf154l1 oo on om og oc ou; exact rfl) ?_
    (repeat' (with_reducible first|refine w_1 ?_|refine w_2 ?_|refine w_3 ?_|refine w_4 ?_|refine w_5 ?_|refine w_6 ?_|refine w_7 ?_|(refine w_8 (fun hb=>?_) (fun hb=>?_)<;>try simp only [hb])|refine w_9 ?_|simp (maxDischargeDepth:=12) only [vis,↓reduceIte,Nat.reduceEqDiff,reduceCtorEq,Int.reduceEq,Int.reduceNeg,Nat.reduceAdd,Nat.reduceLeDiff,h0,h1,h7,hz]))
    refine hQ _ _ (Turn.refl r s) hs ?_ ?_ ?_ ?_
    all_goals simp only [Env.get_set, ↓reduceIte, Nat.reduceEqDiff]
  | succ j ih =>
    intro xs e s hn hn2 hj hs hf h0 h1 h7 hQ
    have hz : decide (((j + 1 : Nat) : Int) > ((0 : Nat) : Int)) = true := by simp
    have hp := pred_cast j (by omega)
    have ha := at0 (k := .i64) (r := r) (z := 1) hj
    have hb0 := at0 (k := .i64) (r := r) (z := 1) (show j < n by omega)
    have hl := load0 hs (show j + 1 < xs.length by omega)
    have hl0 := load0 hs (show j < xs.length by omega)
    refine W_loop' (by delta cf154l1 oo on om og oc ou; exact rfl) ?_
    (repeat' (with_reducible first|refine w_1 ?_|refine w_2 ?_|refine w_3 ?_|refine w_4 ?_|refine w_5 ?_|refine w_6 ?_|refine w_7 ?_|(refine w_8 (fun hb=>?_) (fun hb=>?_)<;>try simp only [hb])|refine w_9 ?_|simp (maxDischargeDepth:=12) only [vis,↓reduceIte,Nat.reduceEqDiff,reduceCtorEq,Int.reduceEq,Int.reduceNeg,Nat.reduceAdd,Nat.reduceLeDiff,h0,h1,h7,hz,hp,ha,hb0,hl,hl0]))
    refine less_c ?_
    have hs1 := store1 (a := xs.getD j 0) hs (show j + 1 < xs.length by omega) hf
    have hs2 := store1 (s := s.put r (some ⟨ty, 1, intsA .u64 (xs.set (j + 1) (xs.getD j 0))⟩)) (i := j) (r := r) (ty := ty) (k := .u64) (l := xs.set (j + 1) (xs.getD j 0)) (a := xs.getD (j + 1) 0) (by rw [Mem.get_put, if_pos rfl]) (by simp; omega) hf
    (repeat' (with_reducible first|refine w_1 ?_|refine w_2 ?_|refine w_3 ?_|refine w_4 ?_|refine w_5 ?_|refine w_6 ?_|refine w_7 ?_|(refine w_8 (fun hb=>?_) (fun hb=>?_)<;>try simp only [hb])|refine w_9 ?_|simp (maxDischargeDepth:=12) only [vis,↓reduceIte,Nat.reduceEqDiff,reduceCtorEq,Int.reduceEq,Int.reduceNeg,Nat.reduceAdd,Nat.reduceLeDiff,h0,h1,h7,hz,hp,ha,hb0,hl,hl0,hs1,hs2]))
    · refine ih (swp xs j) _ _ (by rw [swp_len, hn]) hn2 (by omega) ?_ hf ?_ ?_ ?_ ?_
      · rw [Mem.get_put, if_pos rfl]; rfl
      · simp only [Env.get_set, ↓reduceIte, Nat.reduceEqDiff, h0]
      · simp only [Env.get_set, ↓reduceIte, Nat.reduceEqDiff, h1]
      · simp only [Env.get_set, ↓reduceIte, Nat.reduceEqDiff]
      · intro e' s' k1 k2 k3 k4 k5 k6
        have hsd : sd (j + 1) xs = sd j (swp xs j) := by
          simp only [sd]; exact if_pos (of_decide_eq_true hb)
        rw [← hsd] at k2
        refine hQ e' s' (((Turn.put r s _).trans (Turn.put r _ _)).trans k1) k2 ?_ ?_ ?_ ?_
        · rw [k3]; simp only [Env.get_set, ↓reduceIte, Nat.reduceEqDiff]
        · rw [k4]; simp only [Env.get_set, ↓reduceIte, Nat.reduceEqDiff]
        · rw [k5]; simp only [Env.get_set, ↓reduceIte, Nat.reduceEqDiff]
        · rw [k6]; simp only [Env.get_set, ↓reduceIte, Nat.reduceEqDiff]
    · have hsd : sd (j + 1) xs = xs := by
        simp only [sd]; exact if_neg (of_decide_eq_false hb)
      refine hQ _ _ (Turn.refl r s) (by rw [hsd]; exact hs) ?_ ?_ ?_ ?_
      all_goals simp only [Env.get_set, ↓reduceIte, Nat.reduceEqDiff]
def isrt (xs : List Int) : Nat → List Int
  | 0 => xs
  | i + 1 => sd (i + 1) (isrt xs i)
theorem isrt_len (xs : List Int) : ∀ i, (isrt xs i).length = xs.length := by
  intro i
  induction i with
  | zero => rfl
  | succ i ih => rw [isrt, sd_len, ih]
theorem ins_l0 {r n ty : Nat} {Q : Ex → Env → Mem → Prop} {xs : List Int} (hn : n = xs.length) (hn2 : n < 1000) : ∀ (k i : Nat) (e : Env) (s : Mem), i + 1 + k = n → s.get r = some ⟨ty, 1, intsA .u64 (isrt xs i)⟩ → s.floor ≤ r →
    e.get 0 = .own r 0 n 1 → e.get 1 = .int .i64 ((0 : Nat) : Int) → e.get 2 = .int .i64 n → e.get 6 = .int .i64 ((i + 1 : Nat) : Int) →
    (∀ e' s', Turn r s s' → s'.get r = some ⟨ty, 1, intsA .u64 (isrt xs (n - 1))⟩ → Q (.exit 0) e' s') →
    W tab (.loop cf154l0) e s Q := by
  intro k
  induction k with
  | zero =>
    intro i e s hi hs hf h0 h1 h2 h6 hQ
    have hlt := lt_false (show ¬ i + 1 < n by omega)
    refine W_loop' (by delta cf154l0 oo on om og oc ou; exact rfl) ?_
    (repeat' (with_reducible first|refine w_1 ?_|refine w_2 ?_|refine w_3 ?_|refine w_4 ?_|refine w_5 ?_|refine w_6 ?_|refine w_7 ?_|(refine w_8 (fun hb=>?_) (fun hb=>?_)<;>try simp only [hb])|refine w_9 ?_|simp (maxDischargeDepth:=12) only [vis,↓reduceIte,Nat.reduceEqDiff,reduceCtorEq,Int.reduceEq,Int.reduceNeg,Nat.reduceAdd,Nat.reduceLeDiff,h0,h1,h2,h6,hlt]))
    exact hQ _ _ (Turn.refl r s) (by rw [show n - 1 = i by omega]; exact hs)
  | succ k ih =>
    intro i e s hi hs hf h0 h1 h2 h6 hQ
    have hlt := lt_true (show i + 1 < n by omega)
    refine W_loop' (by delta cf154l0 oo on om og oc ou; exact rfl) ?_
    (repeat' (with_reducible first|refine w_1 ?_|refine w_2 ?_|refine w_3 ?_|refine w_4 ?_|refine w_5 ?_|refine w_6 ?_|refine w_7 ?_|(refine w_8 (fun hb=>?_) (fun hb=>?_)<;>try simp only [hb])|refine w_9 ?_|simp (maxDischargeDepth:=12) only [vis,↓reduceIte,Nat.reduceEqDiff,reduceCtorEq,Int.reduceEq,Int.reduceNeg,Nat.reduceAdd,Nat.reduceLeDiff,h0,h1,h2,h6,hlt]))
    refine ins_l1 (r := r) (n := n) (ty := ty) (i + 1) (isrt xs i) _ _ (by rw [isrt_len, hn]) hn2 (by omega) hs hf ?_ ?_ ?_ ?_
    · simp only [Env.get_set, ↓reduceIte, Nat.reduceEqDiff, h0]
    · simp only [Env.get_set, ↓reduceIte, Nat.reduceEqDiff, h1]
    · simp only [Env.get_set, ↓reduceIte, Nat.reduceEqDiff]
    · intro e' s' k1 k2 k3 k4 k5 k6
      simp only [Env.get_set, ↓reduceIte, Nat.reduceEqDiff, h0, h1, h2, h6] at k3 k4 k5 k6
      have hw := succ_cast (show i + 1 < 4611686018427387904 by omega)
      (repeat' (with_reducible first|refine w_1 ?_|refine w_2 ?_|refine w_3 ?_|refine w_4 ?_|refine w_5 ?_|refine w_6 ?_|refine w_7 ?_|(refine w_8 (fun hb=>?_) (fun hb=>?_)<;>try simp only [hb])|refine w_9 ?_|simp (maxDischargeDepth:=12) only [vis,↓reduceIte,Nat.reduceEqDiff,reduceCtorEq,Int.reduceEq,Int.reduceNeg,Nat.reduceAdd,Nat.reduceLeDiff,k3,k4,k5,k6,hw]))
      refine ih (i + 1) _ _ (by omega) k2 (by rw [k1.floor]; exact hf) ?_ ?_ ?_ ?_ ?_
      · simp only [Env.get_set, ↓reduceIte, Nat.reduceEqDiff, k3]
      · simp only [Env.get_set, ↓reduceIte, Nat.reduceEqDiff, k4]
      · simp only [Env.get_set, ↓reduceIte, Nat.reduceEqDiff, k5]
      · simp only [Env.get_set, ↓reduceIte, Nat.reduceEqDiff]
      · intro e2 s2 g1 g2
        exact hQ e2 s2 (k1.trans g1) g2
theorem bits_run (s : Mem) : ∀ n : Fin 8, ∃ r : Nat, run tab 20 151 [.int .u64 (n.val : Int)] s = some (.int .i64 r, s)
  | ⟨0, _⟩ => ⟨0, by kernel_rfl⟩
  | ⟨1, _⟩ => ⟨1, by kernel_rfl⟩
  | ⟨2, _⟩ => ⟨2, by kernel_rfl⟩
  | ⟨3, _⟩ => ⟨2, by kernel_rfl⟩
  | ⟨4, _⟩ => ⟨3, by kernel_rfl⟩
  | ⟨5, _⟩ => ⟨3, by kernel_rfl⟩
  | ⟨6, _⟩ => ⟨3, by kernel_rfl⟩
  | ⟨7, _⟩ => ⟨3, by kernel_rfl⟩
theorem sort_c {r n ty : Nat} {xs : List Int} {s : Mem} {K : AV → Mem → Prop} (hn : n = xs.length) (hn1 : 0 < n) (hn2 : n < 8) (hs : s.get r = some ⟨ty, 1, intsA .u64 xs⟩) (hf : s.floor ≤ r)
    (hK : ∀ v s', Turn r s s' → s'.get r = some ⟨ty, 1, intsA .u64 (isrt xs (n - 1))⟩ → K v s') : C tab 145 [.own r 0 n 1] s K := by
  refine C_enter (cf := cf145) rfl (Nat.le_of_ble_eq_true rfl) ?_
  simp only [cf145, oo, on, om, og, oc, ou]
  have hu : IntKind.u64.wrap (n : Int) = (n : Int) := wrap_u64 (by omega)
  (repeat' (with_reducible first|refine w_1 ?_|refine w_2 ?_|refine w_3 ?_|refine w_4 ?_|refine w_5 ?_|refine w_6 ?_|refine w_7 ?_|(refine w_8 (fun hb=>?_) (fun hb=>?_)<;>try simp only [hb])|refine w_9 ?_|simp (maxDischargeDepth:=12) only [vis,↓reduceIte,Nat.reduceEqDiff,reduceCtorEq,Int.reduceEq,Int.reduceNeg,Nat.reduceAdd,Nat.reduceLeDiff,hu]))
  obtain ⟨b, hb⟩ := bits_run s ⟨n, hn2⟩
  refine ⟨20, _, _, hb, ?_⟩
  (repeat' (with_reducible first|refine w_1 ?_|refine w_2 ?_|refine w_3 ?_|refine w_4 ?_|refine w_5 ?_|refine w_6 ?_|refine w_7 ?_|(refine w_8 (fun hb=>?_) (fun hb=>?_)<;>try simp only [hb])|refine w_9 ?_|simp (maxDischargeDepth:=12) only [vis,↓reduceIte,Nat.reduceEqDiff,reduceCtorEq,Int.reduceEq,Int.reduceNeg,Nat.reduceAdd,Nat.reduceLeDiff]))
  refine C_enter (cf := cf150) rfl (Nat.le_of_ble_eq_true rfl) ?_
  simp only [cf150, oo, on, om, og, oc, ou]
  (repeat' (with_reducible first|refine w_1 ?_|refine w_2 ?_|refine w_3 ?_|refine w_4 ?_|refine w_5 ?_|refine w_6 ?_|refine w_7 ?_|(refine w_8 (fun hb=>?_) (fun hb=>?_)<;>try simp only [hb])|refine w_9 ?_|simp (maxDischargeDepth:=12) only [vis,↓reduceIte,Nat.reduceEqDiff,reduceCtorEq,Int.reduceEq,Int.reduceNeg,Nat.reduceAdd,Nat.reduceLeDiff]))
  refine W_loop' (by delta cf150l0 oo on om og oc ou; exact rfl) ?_
  have hw : IntKind.i64.wrap ((n : Int) - 0) = (n : Int) := by rw [wrap_i64 (by omega)]; omega
  have h12 : decide ((n : Int) ≤ 12) = true := by simp; omega
  (repeat' (with_reducible first|refine w_1 ?_|refine w_2 ?_|refine w_3 ?_|refine w_4 ?_|refine w_5 ?_|refine w_6 ?_|refine w_7 ?_|(refine w_8 (fun hb=>?_) (fun hb=>?_)<;>try simp only [hb])|refine w_9 ?_|simp (maxDischargeDepth:=12) only [vis,↓reduceIte,Nat.reduceEqDiff,reduceCtorEq,Int.reduceEq,Int.reduceNeg,Nat.reduceAdd,Nat.reduceLeDiff,hw,h12]))
  refine C_enter (cf := cf154) rfl (Nat.le_of_ble_eq_true rfl) ?_
  simp only [cf154, oo, on, om, og, oc, ou]
  (repeat' (with_reducible first|refine w_1 ?_|refine w_2 ?_|refine w_3 ?_|refine w_4 ?_|refine w_5 ?_|refine w_6 ?_|refine w_7 ?_|(refine w_8 (fun hb=>?_) (fun hb=>?_)<;>try simp only [hb])|refine w_9 ?_|simp (maxDischargeDepth:=12) only [vis,↓reduceIte,Nat.reduceEqDiff,reduceCtorEq,Int.reduceEq,Int.reduceNeg,Nat.reduceAdd,Nat.reduceLeDiff]))
  refine ins_l0 (r := r) (ty := ty) hn (by omega) (n - 1) 0 _ _ (by omega) hs hf ?_ ?_ ?_ ?_ ?_
  all_goals try simp only [Env.get_set, ↓reduceIte, Nat.reduceEqDiff]
  · rfl
  · rfl
  · intro e' s' k1 k2
    (repeat' (with_reducible first|refine w_1 ?_|refine w_2 ?_|refine w_3 ?_|refine w_4 ?_|refine w_5 ?_|refine w_6 ?_|refine w_7 ?_|(refine w_8 (fun hb=>?_) (fun hb=>?_)<;>try simp only [hb])|refine w_9 ?_|simp (maxDischargeDepth:=12) only [vis,↓reduceIte,Nat.reduceEqDiff,reduceCtorEq,Int.reduceEq,Int.reduceNeg,Nat.reduceAdd,Nat.reduceLeDiff]))
    exact hK _ _ k1 k2
end Go.Proofs.YtfllmhjjfapnmaaGreat.Q

