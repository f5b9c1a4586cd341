/- Bytes as nodes; which nodes may be voters. No statement of the seat is proved here. -/
import Derived.Test.YtfllmhjjfapnmaaGreatVZTab
import Derived.Test.YtfllmhjjfapnmaaGreatVZVE
namespace Go.Proofs.YtfllmhjjfapnmaaGreat
open Go Go.VI
set_option linter.unusedSimpArgs false
attribute [local irreducible] Ws Wp W C
theorem toNat_lt (b : UInt8) : b.toNat < 256 := UInt8.toNat_lt b
theorem wrap_byte (b : UInt8) : IntKind.i64.wrap (b.toNat : Int) = (b.toNat : Int) := wrap_i64 (by have := toNat_lt b; omega)
def nodes (bs : List UInt8) : List Int := bs.map fun b => (b.toNat : Int)
theorem nodes_len (bs : List UInt8) : (nodes bs).length = bs.length := by simp [nodes]
theorem nodes_get {bs : List UInt8} {i : Nat} {b : UInt8} (h : bs[i]? = some b) : (nodes bs)[i]? = some (b.toNat : Int) := by simp [nodes, h]
theorem take_snoc {α : Type} {l : List α} {i : Nat} {a : α} (h : l[i]? = some a) : l.take (i + 1) = l.take i ++ [a] := by simp [List.take_add_one, h]
theorem nodes_take {bs : List UInt8} {i : Nat} {b : UInt8} (h : bs[i]? = some b) : nodes (bs.take (i + 1)) = nodes (bs.take i) ++ [(b.toNat : Int)] := by
  rw [take_snoc h]; simp [nodes]
theorem intsA_snoc (k : IntKind) (l : List Int) (a : Int) : intsA k l ++ [[.int k a]] = intsA k (l ++ [a]) := by simp [intsA]
theorem succ_av {i : Nat} (h : i < 4611686018427387904) : AV.int .i64 (IntKind.i64.wrap ((i : Int) + 1)) = AV.int .i64 ((i + 1 : Nat) : Int) := congrArg _ (succ_cast h)
abbrev Fit (n : Nat) : Prop := n < 1000000000000
theorem nodes_c {bs : List UInt8} {D : Nat → Prop} {s : Mem} {v : AV} {K : AV → Mem → Prop} (hf : s.floor ≤ s.next) (hv : Byt s D v bs) (hD : ∀ r, D r → r < s.next) (hn : Fit bs.length)
    (hK : ∀ v' s', OwnL s' s.next v' 3 1 (intsA .i64 (nodes bs)) → Keep s.next s s' → K v' s') : C tab 106 [v] s K := by
  refine C_enter (cf := cf106) rfl (Nat.le_of_ble_eq_true rfl) ?_
  simp only [cf106, oo, on, om, og, oc, ou]
  (repeat' (with_reducible first|refine w_1 ?_|refine w_2 ?_|refine w_3 ?_|refine w_4 ?_|refine w_5 ?_|refine w_6 ?_|refine w_7 ?_|(refine w_8 (fun hb=>?_) (fun hb=>?_)<;>try simp only [hb])|refine w_9 ?_|simp (maxDischargeDepth:=12) only [viz,↓reduceIte,Nat.reduceEqDiff,reduceCtorEq,Int.reduceEq,Int.reduceNeg,Nat.reduceAdd,Nat.reduceLeDiff,hv.lenB]))
  refine W_inv bs.length (fun i e s' => e.get 6 = v ∧ e.get 7 = .int .i64 bs.length ∧ e.get 8 = .int .i64 i ∧ Keep s.next s s' ∧ OwnL s' s.next (e.get 3) 3 1 (intsA .i64 (nodes (bs.take i)))) (by delta cf106l0 oo on om og oc ou; exact rfl) ?_ ?_
  · (repeat' (with_reducible first|refine w_1 ?_|refine w_2 ?_|refine w_3 ?_|refine w_4 ?_|refine w_5 ?_|refine w_6 ?_|refine w_7 ?_|(refine w_8 (fun hb=>?_) (fun hb=>?_)<;>try simp only [hb])|refine w_9 ?_|simp (maxDischargeDepth:=12) only [viz,↓reduceIte,Nat.reduceEqDiff,reduceCtorEq,Int.reduceEq,Int.reduceNeg,Nat.reduceAdd,Nat.reduceLeDiff]))
    exact ⟨rfl, OwnL.nil _ _ _ _⟩
  · rintro i e s' hi _ ⟨h6, h7, h8, hk, ho⟩
    by_cases hlt : i < bs.length
    · obtain ⟨b, hb⟩ := get_of hlt
      obtain ⟨p, hp, P⟩ := (hv.keep fun r hr => hk.get r (hD r hr)).atB hb
      (repeat' (with_reducible first|refine w_1 ?_|refine w_2 ?_|refine w_3 ?_|refine w_4 ?_|refine w_5 ?_|refine w_6 ?_|refine w_7 ?_|(refine w_8 (fun hb=>?_) (fun hb=>?_)<;>try simp only [hb])|refine w_9 ?_|simp (maxDischargeDepth:=12) only [viz,↓reduceIte,Nat.reduceEqDiff,reduceCtorEq,Int.reduceEq,Int.reduceNeg,Nat.reduceAdd,Nat.reduceLeDiff,h6,h7,h8,lt_true hlt,hp,P.ld,byteC]))
      rw [wrap_byte]
      refine app_lit (k := 1) (b := s.next) (xs := intsA .i64 (nodes (bs.take i))) (by rw [hk.floor]; exact hf) hk.next ho (by simp only [ev, Env.get_set, ↓reduceIte, Nat.reduceEqDiff]) (by simp only [ev, Env.get_set, ↓reduceIte, Nat.reduceEqDiff]) rfl rfl (room (by simp [intsA_len, nodes_len]; omega) (by simp [intsA_len, nodes_len]; omega)) ?_
      intro v' s2 ho2 hx _ _
      (repeat' (with_reducible first|refine w_1 ?_|refine w_2 ?_|refine w_3 ?_|refine w_4 ?_|refine w_5 ?_|refine w_6 ?_|refine w_7 ?_|(refine w_8 (fun hb=>?_) (fun hb=>?_)<;>try simp only [hb])|refine w_9 ?_|simp (maxDischargeDepth:=12) only [viz,↓reduceIte,Nat.reduceEqDiff,reduceCtorEq,Int.reduceEq,Int.reduceNeg,Nat.reduceAdd,Nat.reduceLeDiff,h6,h7,h8,succ_cast (i := i) (by omega)]))
      rw [intsA_snoc, ← nodes_take hb] at ho2
      exact ⟨hlt, hk.trans (hx.keep hk.next fun r i n z h => (ho.row r i n z h).1), ho2⟩
    · (repeat' (with_reducible first|refine w_1 ?_|refine w_2 ?_|refine w_3 ?_|refine w_4 ?_|refine w_5 ?_|refine w_6 ?_|refine w_7 ?_|(refine w_8 (fun hb=>?_) (fun hb=>?_)<;>try simp only [hb])|refine w_9 ?_|simp (maxDischargeDepth:=12) only [viz,↓reduceIte,Nat.reduceEqDiff,reduceCtorEq,Int.reduceEq,Int.reduceNeg,Nat.reduceAdd,Nat.reduceLeDiff,h6,h7,h8,lt_false hlt]))
      rw [List.take_of_length_le (by omega)] at ho
      exact hK _ _ ho hk
theorem rnodes_c {bs : List UInt8} {D : Nat → Prop} {s : Mem} {v : AV} {K : AV → Mem → Prop} (hf : s.floor ≤ s.next) (hv : Byt s D v bs) (hD : ∀ r, D r → r < s.next) (hn : Fit bs.length)
    (hK : ∀ v' s', OwnL s' s.next v' 3 1 (intsA .i64 (nodes bs)) → Keep s.next s s' → K v' s') : C tab 64 [v] s K := by
  refine C_enter (cf := cf64) rfl (Nat.le_of_ble_eq_true rfl) ?_
  simp only [cf64, oo, on, om, og, oc, ou]
  (repeat' (with_reducible first|refine w_1 ?_|refine w_2 ?_|refine w_3 ?_|refine w_4 ?_|refine w_5 ?_|refine w_6 ?_|refine w_7 ?_|(refine w_8 (fun hb=>?_) (fun hb=>?_)<;>try simp only [hb])|refine w_9 ?_|simp (maxDischargeDepth:=12) only [viz,↓reduceIte,Nat.reduceEqDiff,reduceCtorEq,Int.reduceEq,Int.reduceNeg,Nat.reduceAdd,Nat.reduceLeDiff]))
  refine W_inv bs.length (fun i e s' => e.get 0 = v ∧ e.get 4 = .int .i64 i ∧ Keep s.next s s' ∧ OwnL s' s.next (e.get 3) 3 1 (intsA .i64 (nodes (bs.take i)))) (by delta cf64l0 oo on om og oc ou; exact rfl) ?_ ?_
  · (repeat' (with_reducible first|refine w_1 ?_|refine w_2 ?_|refine w_3 ?_|refine w_4 ?_|refine w_5 ?_|refine w_6 ?_|refine w_7 ?_|(refine w_8 (fun hb=>?_) (fun hb=>?_)<;>try simp only [hb])|refine w_9 ?_|simp (maxDischargeDepth:=12) only [viz,↓reduceIte,Nat.reduceEqDiff,reduceCtorEq,Int.reduceEq,Int.reduceNeg,Nat.reduceAdd,Nat.reduceLeDiff]))
    exact ⟨rfl, OwnL.emp _ _ _ _⟩
  · rintro i e s' hi _ ⟨h0, h4, hk, ho⟩
    have hv' := hv.keep fun r hr => hk.get r (hD r hr)
    by_cases hlt : i < bs.length
    · obtain ⟨b, hb⟩ := get_of hlt
      obtain ⟨p, hp, P⟩ := hv'.atB hb
      (repeat' (with_reducible first|refine w_1 ?_|refine w_2 ?_|refine w_3 ?_|refine w_4 ?_|refine w_5 ?_|refine w_6 ?_|refine w_7 ?_|(refine w_8 (fun hb=>?_) (fun hb=>?_)<;>try simp only [hb])|refine w_9 ?_|simp (maxDischargeDepth:=12) only [viz,↓reduceIte,Nat.reduceEqDiff,reduceCtorEq,Int.reduceEq,Int.reduceNeg,Nat.reduceAdd,Nat.reduceLeDiff,h0,h4,hv'.lenB,lt_true hlt,hp,P.ld,byteC]))
      rw [wrap_byte]
      refine app_lit (k := 1) (b := s.next) (xs := intsA .i64 (nodes (bs.take i))) (by rw [hk.floor]; exact hf) hk.next ho (by simp only [ev, Env.get_set, ↓reduceIte, Nat.reduceEqDiff]) (by simp only [ev, Env.get_set, ↓reduceIte, Nat.reduceEqDiff]) rfl rfl (room (by simp [intsA_len, nodes_len]; omega) (by simp [intsA_len, nodes_len]; omega)) ?_
      intro v' s2 ho2 hx _ _
      (repeat' (with_reducible first|refine w_1 ?_|refine w_2 ?_|refine w_3 ?_|refine w_4 ?_|refine w_5 ?_|refine w_6 ?_|refine w_7 ?_|(refine w_8 (fun hb=>?_) (fun hb=>?_)<;>try simp only [hb])|refine w_9 ?_|simp (maxDischargeDepth:=12) only [viz,↓reduceIte,Nat.reduceEqDiff,reduceCtorEq,Int.reduceEq,Int.reduceNeg,Nat.reduceAdd,Nat.reduceLeDiff,h0,h4,succ_cast (i := i) (by omega)]))
      rw [intsA_snoc, ← nodes_take hb] at ho2
      exact ⟨hlt, hk.trans (hx.keep hk.next fun r i n z h => (ho.row r i n z h).1), ho2⟩
    · (repeat' (with_reducible first|refine w_1 ?_|refine w_2 ?_|refine w_3 ?_|refine w_4 ?_|refine w_5 ?_|refine w_6 ?_|refine w_7 ?_|(refine w_8 (fun hb=>?_) (fun hb=>?_)<;>try simp only [hb])|refine w_9 ?_|simp (maxDischargeDepth:=12) only [viz,↓reduceIte,Nat.reduceEqDiff,reduceCtorEq,Int.reduceEq,Int.reduceNeg,Nat.reduceAdd,Nat.reduceLeDiff,h0,h4,hv'.lenB,lt_false hlt]))
      rw [List.take_of_length_le (by omega)] at ho
      exact hK _ _ ho hk
def up (a : Int) : List Int → Bool
  | [] => true
  | b :: l => decide (1 ≤ b ∧ b ≤ 7) && decide (a < b) && up b l
def okV (vs : List Int) : Bool := up 0 vs && decide (0 < vs.length)
theorem up_le : ∀ (l : List Int) (a : Int), 0 ≤ a → a ≤ 7 → up a l = true → (l.length : Int) ≤ 7 - a := by
  intro l
  induction l with
  | nil => intro a h0 h7 h; simp; omega
  | cons b l ih =>
    intro a h0 h7 h
    simp only [up, Bool.and_eq_true, decide_eq_true_eq] at h
    have := ih b (by omega) (by omega) h.2
    simp only [List.length_cons]
    omega
theorem okV_len {vs : List Int} (h : okV vs = true) : 0 < vs.length ∧ vs.length ≤ 7 := by
  simp only [okV, Bool.and_eq_true, decide_eq_true_eq] at h
  have := up_le vs 0 (by omega) (by omega) h.1
  exact ⟨h.2, by omega⟩
def prev (vs : List Int) (i : Nat) : Int := if i = 0 then 0 else vs.getD (i - 1) 0
theorem prev_succ {vs : List Int} {i : Nat} {a : Int} (h : vs[i]? = some a) : prev vs (i + 1) = a := by simp [prev, List.getD_eq_getElem?_getD, h]
theorem pred_cast' {i : Nat} (h : 0 < i) (h2 : i < 4611686018427387904) : IntKind.i64.wrap ((i : Int) - 1) = ((i - 1 : Nat) : Int) := by rw [wrap_i64 (by omega)]; omega
theorem prev_get {vs : List Int} {i : Nat} (h : 0 < i) (hi : i < vs.length) : vs[i - 1]? = some (prev vs i) := by
  rw [prev, if_neg (by omega), List.getD_eq_getElem?_getD, List.getElem?_eq_getElem (show i - 1 < vs.length by omega)]; rfl
theorem node_c {n : Int} {s : Mem} {K : AV → Mem → Prop} (hK : K (.bool (decide (1 ≤ n ∧ n ≤ 7))) s) : C tab 105 [.int .i64 n] s K := by
  refine C_enter (cf := cf105) rfl (Nat.le_of_ble_eq_true rfl) ?_
  simp only [cf105, oo, on, om, og, oc, ou]
  (repeat' (with_reducible first|refine w_1 ?_|refine w_2 ?_|refine w_3 ?_|refine w_4 ?_|refine w_5 ?_|refine w_6 ?_|refine w_7 ?_|(refine w_8 (fun hb=>?_) (fun hb=>?_)<;>try simp only [hb])|refine w_9 ?_|simp (maxDischargeDepth:=12) only [viz,↓reduceIte,Nat.reduceEqDiff,reduceCtorEq,Int.reduceEq,Int.reduceNeg,Nat.reduceAdd,Nat.reduceLeDiff]))
  · simp only [decide_eq_true_eq] at hb
    have : decide (1 ≤ n ∧ n ≤ 7) = decide (n ≤ 7) := by simp; omega
    rw [this] at hK; exact hK
  · simp only [decide_eq_false_iff_not] at hb
    have : decide (1 ≤ n ∧ n ≤ 7) = false := by simp; omega
    rw [this] at hK; exact hK
theorem gt0 {i : Nat} (h : 0 < i) : decide ((i : Int) > 0) = true := by simp; omega
theorem ngt0 : decide (((0 : Nat) : Int) > 0) = false := by simp
theorem check_c {vs : List Int} {D : Nat → Prop} {s : Mem} {v : AV} {K : AV → Mem → Prop} (hv : Sl s D v 1 (intsA .i64 vs)) (hn : Fit vs.length) (hK : K (.bool (okV vs)) s) : C tab 51 [v] s K := by
  refine C_enter (cf := cf51) rfl (Nat.le_of_ble_eq_true rfl) ?_
  simp only [cf51, oo, on, om, og, oc, ou]
  (repeat' (with_reducible first|refine w_1 ?_|refine w_2 ?_|refine w_3 ?_|refine w_4 ?_|refine w_5 ?_|refine w_6 ?_|refine w_7 ?_|(refine w_8 (fun hb=>?_) (fun hb=>?_)<;>try simp only [hb])|refine w_9 ?_|simp (maxDischargeDepth:=12) only [viz,↓reduceIte,Nat.reduceEqDiff,reduceCtorEq,Int.reduceEq,Int.reduceNeg,Nat.reduceAdd,Nat.reduceLeDiff,hv.lenB]))
  refine W_inv vs.length (fun i e s' => s' = s ∧ e.get 0 = v ∧ e.get 5 = v ∧ e.get 6 = .int .i64 vs.length ∧ e.get 7 = .int .i64 i ∧ up 0 vs = up (prev vs i) (vs.drop i)) (by delta cf51l0 oo on om og oc ou; exact rfl) ?_ ?_
  · (repeat' (with_reducible first|refine w_1 ?_|refine w_2 ?_|refine w_3 ?_|refine w_4 ?_|refine w_5 ?_|refine w_6 ?_|refine w_7 ?_|(refine w_8 (fun hb=>?_) (fun hb=>?_)<;>try simp only [hb])|refine w_9 ?_|simp (maxDischargeDepth:=12) only [viz,↓reduceIte,Nat.reduceEqDiff,reduceCtorEq,Int.reduceEq,Int.reduceNeg,Nat.reduceAdd,Nat.reduceLeDiff]))
    exact ⟨rfl, by simp [prev]⟩
  · rintro i e s' hi _ ⟨rfl, h0, h5, h6, h7, hu⟩
    by_cases hlt : i < vs.length
    · obtain ⟨b, hb'⟩ := get_of hlt
      obtain ⟨p, hp, P⟩ := hv.atB hb'
      have hd := drop_cons hb'
      rw [hd] at hu
      simp only [up] at hu
      rcases Nat.eq_zero_or_pos i with rfl | hi0
      · (repeat' (with_reducible first|refine w_1 ?_|refine w_2 ?_|refine w_3 ?_|refine w_4 ?_|refine w_5 ?_|refine w_6 ?_|refine w_7 ?_|(refine w_8 (fun hb=>?_) (fun hb=>?_)<;>try simp only [hb])|refine w_9 ?_|simp (maxDischargeDepth:=12) only [viz,↓reduceIte,Nat.reduceEqDiff,reduceCtorEq,Int.reduceEq,Int.reduceNeg,Nat.reduceAdd,Nat.reduceLeDiff,h0,h5,h6,h7,lt_true hlt,hp,P.ld]))
        refine node_c ?_
        (repeat' (with_reducible first|refine w_1 ?_|refine w_2 ?_|refine w_3 ?_|refine w_4 ?_|refine w_5 ?_|refine w_6 ?_|refine w_7 ?_|(refine w_8 (fun hb=>?_) (fun hb=>?_)<;>try simp only [hb])|refine w_9 ?_|simp (maxDischargeDepth:=12) only [viz,↓reduceIte,Nat.reduceEqDiff,reduceCtorEq,Int.reduceEq,Int.reduceNeg,Nat.reduceAdd,Nat.reduceLeDiff,h0,h5,h6,h7,lt_true hlt,hp,P.ld,ngt0]))
        · have : up 0 vs = false := by
            rw [hu]; simp only [Bool.not_eq_true'] at hb
            rw [hb]; rfl
          rw [okV, this] at hK; exact hK
        · have hb2 : decide (1 ≤ b ∧ b ≤ 7) = true := by simpa using hb
          refine ⟨hlt, succ_av (by omega), ?_⟩
          rw [hu, hb2, prev_succ hb']
          have : decide (prev vs 0 < b) = true := by simp only [decide_eq_true_eq] at hb2 ⊢; simp [prev]; omega
          rw [this]; rfl
      · obtain ⟨q, hq, Q⟩ := hv.atB (prev_get hi0 hlt)
        (repeat' (with_reducible first|refine w_1 ?_|refine w_2 ?_|refine w_3 ?_|refine w_4 ?_|refine w_5 ?_|refine w_6 ?_|refine w_7 ?_|(refine w_8 (fun hb=>?_) (fun hb=>?_)<;>try simp only [hb])|refine w_9 ?_|simp (maxDischargeDepth:=12) only [viz,↓reduceIte,Nat.reduceEqDiff,reduceCtorEq,Int.reduceEq,Int.reduceNeg,Nat.reduceAdd,Nat.reduceLeDiff,h0,h5,h6,h7,lt_true hlt,hp,P.ld]))
        refine node_c ?_
        (repeat' (with_reducible first|refine w_1 ?_|refine w_2 ?_|refine w_3 ?_|refine w_4 ?_|refine w_5 ?_|refine w_6 ?_|refine w_7 ?_|(refine w_8 (fun hb=>?_) (fun hb=>?_)<;>try simp only [hb])|refine w_9 ?_|simp (maxDischargeDepth:=12) only [viz,↓reduceIte,Nat.reduceEqDiff,reduceCtorEq,Int.reduceEq,Int.reduceNeg,Nat.reduceAdd,Nat.reduceLeDiff,h0,h5,h6,h7,lt_true hlt,hp,P.ld,gt0 hi0,pred_cast' hi0 (by omega),hq,Q.ld]))
        · have : up 0 vs = false := by
            rw [hu]; simp only [Bool.not_eq_true'] at hb
            rw [hb]; rfl
          rw [okV, this] at hK; exact hK
        · rename_i hb3
          have : up 0 vs = false := by
            rw [hu]
            have : decide (prev vs i < b) = false := by simp only [decide_eq_true_eq] at hb; simp; omega
            rw [this]; simp
          rw [okV, this] at hK; exact hK
        · rename_i hb3
          have hb2 : decide (1 ≤ b ∧ b ≤ 7) = true := by simpa using hb3
          refine ⟨hlt, succ_av (by omega), ?_⟩
          rw [hu, hb2, prev_succ hb']
          have : decide (prev vs i < b) = true := by simp only [decide_eq_false_iff_not] at hb; simp; omega
          rw [this]; rfl
    · (repeat' (with_reducible first|refine w_1 ?_|refine w_2 ?_|refine w_3 ?_|refine w_4 ?_|refine w_5 ?_|refine w_6 ?_|refine w_7 ?_|(refine w_8 (fun hb=>?_) (fun hb=>?_)<;>try simp only [hb])|refine w_9 ?_|simp (maxDischargeDepth:=12) only [viz,↓reduceIte,Nat.reduceEqDiff,reduceCtorEq,Int.reduceEq,Int.reduceNeg,Nat.reduceAdd,Nat.reduceLeDiff,h0,h5,h6,h7,hv.lenB,lt_false hlt]))
      rw [drop_end hlt] at hu
      rw [okV, hu] at hK
      simpa [up] using hK
theorem rcheck_c {vs : List Int} {D : Nat → Prop} {s : Mem} {v : AV} {K : AV → Mem → Prop} (hv : Sl s D v 1 (intsA .i64 vs)) (hn : Fit vs.length) (hK : K (.bool (okV vs)) s) : C tab 23 [v] s K := by
  refine C_enter (cf := cf23) rfl (Nat.le_of_ble_eq_true rfl) ?_
  simp only [cf23, oo, on, om, og, oc, ou]
  have no : ∀ h : ¬ (0 < vs.length ∧ vs.length ≤ 7), okV vs = false := by
    intro h
    cases ho : okV vs with
    | false => rfl
    | true => exact absurd (okV_len ho) h
  (repeat' (with_reducible first|refine w_1 ?_|refine w_2 ?_|refine w_3 ?_|refine w_4 ?_|refine w_5 ?_|refine w_6 ?_|refine w_7 ?_|(refine w_8 (fun hb=>?_) (fun hb=>?_)<;>try simp only [hb])|refine w_9 ?_|simp (maxDischargeDepth:=12) only [viz,↓reduceIte,Nat.reduceEqDiff,reduceCtorEq,Int.reduceEq,Int.reduceNeg,Nat.reduceAdd,Nat.reduceLeDiff,hv.lenB]))
  · simp only [decide_eq_true_eq] at hb
    rw [no (by omega)] at hK; exact hK
  · simp only [decide_eq_true_eq] at hb
    rw [no (by omega)] at hK; exact hK
  · rename_i hb2
    simp only [decide_eq_false_iff_not] at hb hb2
    have h0 : decide (0 < vs.length) = true := by simp; omega
    refine W_inv vs.length (fun i e s' => s' = s ∧ e.get 0 = v ∧ e.get 3 = .int .i64 i ∧ up 0 vs = up (prev vs i) (vs.drop i)) (by delta cf23l0 oo on om og oc ou; exact rfl) ?_ ?_
    · (repeat' (with_reducible first|refine w_1 ?_|refine w_2 ?_|refine w_3 ?_|refine w_4 ?_|refine w_5 ?_|refine w_6 ?_|refine w_7 ?_|(refine w_8 (fun hb=>?_) (fun hb=>?_)<;>try simp only [hb])|refine w_9 ?_|simp (maxDischargeDepth:=12) only [viz,↓reduceIte,Nat.reduceEqDiff,reduceCtorEq,Int.reduceEq,Int.reduceNeg,Nat.reduceAdd,Nat.reduceLeDiff]))
      exact ⟨rfl, by simp [prev]⟩
    · rintro i e s' hi _ ⟨rfl, h0, h3, hu⟩
      by_cases hlt : i < vs.length
      · obtain ⟨b, hb'⟩ := get_of hlt
        obtain ⟨p, hp, P⟩ := hv.atB hb'
        have hd := drop_cons hb'
        rw [hd] at hu
        simp only [up] at hu
        have bad : ∀ h : ¬ (1 ≤ b ∧ b ≤ 7 ∧ prev vs i < b), okV vs = false := by
          intro h
          have h1 : (decide (1 ≤ b ∧ b ≤ 7) && decide (prev vs i < b)) = false := by simp; omega
          rw [h1] at hu
          simp [okV, hu]
        have good : ∀ h : 1 ≤ b ∧ b ≤ 7 ∧ prev vs i < b, up 0 vs = up (prev vs (i + 1)) (vs.drop (i + 1)) := by
          intro h
          have h1 : (decide (1 ≤ b ∧ b ≤ 7) && decide (prev vs i < b)) = true := by simp; omega
          rw [h1] at hu
          rw [hu, prev_succ hb']; rfl
        rcases Nat.eq_zero_or_pos i with rfl | hi0
        · have hp0 : prev vs 0 = 0 := rfl
          (repeat' (with_reducible first|refine w_1 ?_|refine w_2 ?_|refine w_3 ?_|refine w_4 ?_|refine w_5 ?_|refine w_6 ?_|refine w_7 ?_|(refine w_8 (fun hb=>?_) (fun hb=>?_)<;>try simp only [hb])|refine w_9 ?_|simp (maxDischargeDepth:=12) only [viz,↓reduceIte,Nat.reduceEqDiff,reduceCtorEq,Int.reduceEq,Int.reduceNeg,Nat.reduceAdd,Nat.reduceLeDiff,h0,h3,hv.lenB,lt_true hlt,hp,P.ld,ngt0]))
          all_goals simp only [decide_eq_true_eq, decide_eq_false_iff_not] at *
          · rw [bad (by omega)] at hK; exact hK
          · rw [bad (by omega)] at hK; exact hK
          · exact ⟨hlt, succ_av (by omega), good (by omega)⟩
        · obtain ⟨q, hq, Q⟩ := hv.atB (prev_get hi0 hlt)
          (repeat' (with_reducible first|refine w_1 ?_|refine w_2 ?_|refine w_3 ?_|refine w_4 ?_|refine w_5 ?_|refine w_6 ?_|refine w_7 ?_|(refine w_8 (fun hb=>?_) (fun hb=>?_)<;>try simp only [hb])|refine w_9 ?_|simp (maxDischargeDepth:=12) only [viz,↓reduceIte,Nat.reduceEqDiff,reduceCtorEq,Int.reduceEq,Int.reduceNeg,Nat.reduceAdd,Nat.reduceLeDiff,h0,h3,hv.lenB,lt_true hlt,hp,P.ld,gt0 hi0,pred_cast' hi0 (by omega),hq,Q.ld]))
          all_goals simp only [decide_eq_true_eq, decide_eq_false_iff_not] at *
          · rw [bad (by omega)] at hK; exact hK
          · rw [bad (by omega)] at hK; exact hK
          · rw [bad (by omega)] at hK; exact hK
          · exact ⟨hlt, succ_av (by omega), good (by omega)⟩
      · (repeat' (with_reducible first|refine w_1 ?_|refine w_2 ?_|refine w_3 ?_|refine w_4 ?_|refine w_5 ?_|refine w_6 ?_|refine w_7 ?_|(refine w_8 (fun hb=>?_) (fun hb=>?_)<;>try simp only [hb])|refine w_9 ?_|simp (maxDischargeDepth:=12) only [viz,↓reduceIte,Nat.reduceEqDiff,reduceCtorEq,Int.reduceEq,Int.reduceNeg,Nat.reduceAdd,Nat.reduceLeDiff,h0,h3,hv.lenB,lt_false hlt]))
        rw [drop_end hlt] at hu
        have : okV vs = true := by simp [okV, hu, up]; omega
        rw [this] at hK
        exact hK
end Go.Proofs.YtfllmhjjfapnmaaGreat

