/- Calls, transactions: which may be. No statement of the seat is proved here. -/
import Derived.Test.YthibbbfhkfebkaaGreatVZTB
import Derived.Test.YthibbbfhkfebkaaGreatVZVE
namespace Go.Proofs.YthibbbfhkfebkaaGreat
open Go Go.VI
set_option linter.unusedSimpArgs false
def lastsS (kind ttl : Int) : Bool := if kind = 2 then decide (ttl = 0) else (decide (kind = 1) || decide (kind = 3)) && decide (1 ≤ ttl) && decide (ttl ≤ 1048576)
def idS (c q : Int) : Bool := decide (0 ≤ c) && decide (c < 8) && !decide (q = 0)
structure Call where
  kind : Int
  keys : List Txt
  token : Int
  ttl : Int
def txtC (t : Txt) : List AV := [.str t]
def callC (k : AV) (c : Call) : List AV := [.int .i64 c.kind, k, .int .u64 c.token, .int .i64 c.ttl]
attribute [local irreducible] Ws Wp W C
set_option maxHeartbeats 4000000
theorem lasts_c {k t : Int} {s : Mem} {K : AV → Mem → Prop} (hK : K (.bool (lastsS k t)) s) : C tab 89 [.int .i64 k, .int .i64 t] s K := by
  refine C_enter (cf := cf89) rfl (Nat.le_of_ble_eq_true rfl) ?_
  simp only [cf89, oo, on, om, og, oc, ou]
  (repeat' (with_reducible first|refine w_1 ?_|refine w_2 ?_|refine w_3 ?_|refine w_4 ?_|refine w_5 ?_|refine w_6 ?_|(refine w_8 (fun hb=>?_) (fun hb=>?_)<;>(try simp only [Bool.not_eq_true',Bool.not_eq_false'] at hb)<;>try simp only [hb])|refine w_13 (fun hc=>(by (try simp only [Bool.and_eq_true] at hc);simp (maxDischargeDepth:=12) only [viz,↓reduceIte,Nat.reduceEqDiff,cond_false,hc];first|exact ⟨rfl,rfl⟩|exact rfl)) ?_|((try refine w_9 ?_);simp (maxDischargeDepth:=12) only [viz,↓reduceIte,Nat.reduceEqDiff,Nat.reduceAdd])))
  all_goals
    refine (congrArg (fun b => K (.bool b) s) ?_).mp hK
    grind [lastsS]
theorem rlasts_c {k t : Int} {s : Mem} {K : AV → Mem → Prop} (hK : K (.bool (lastsS k t)) s) : C tab 84 [.int .i64 k, .int .i64 t] s K := by
  refine C_enter (cf := cf84) rfl (Nat.le_of_ble_eq_true rfl) ?_
  simp only [cf84, oo, on, om, og, oc, ou]
  (repeat' (with_reducible first|refine w_1 ?_|refine w_2 ?_|refine w_4 ?_|refine w_5 ?_|refine w_6 ?_|(refine w_8 (fun hb=>?_) (fun hb=>?_)<;>(try simp only [Bool.not_eq_true',Bool.not_eq_false'] at hb)<;>try simp only [hb])|refine w_13 (fun hc=>(by (try simp only [Bool.and_eq_true] at hc);simp (maxDischargeDepth:=12) only [viz,↓reduceIte,Nat.reduceEqDiff,reduceCtorEq,cond_false,hc];first|exact ⟨rfl,rfl⟩|exact rfl)) ?_|((try refine w_9 ?_);simp (maxDischargeDepth:=12) only [viz,↓reduceIte,reduceCtorEq,Nat.reduceAdd])))
  all_goals
    refine (congrArg (fun b => K (.bool b) s) ?_).mp hK
    grind [lastsS]
theorem id_c {c q : Int} {s : Mem} {K : AV → Mem → Prop} (hK : ∀ s', Keep s.next s s' → K (.bool (idS c q)) s') : C tab 31 [.agg [.int .i64 c, .int .u64 q]] s K := by
  refine C_enter (cf := cf31) rfl (Nat.le_of_ble_eq_true rfl) ?_
  simp only [cf31, oo, on, om, og, oc, ou]
  (repeat' (with_reducible first|refine w_1 ?_|refine w_2 ?_|refine w_6 ?_|refine w_13 (fun hc=>(by (try simp only [Bool.and_eq_true] at hc);simp (maxDischargeDepth:=12) only [viz,↓reduceIte,Nat.reduceEqDiff,Nat.reduceAdd,cond_false,hc];first|exact ⟨rfl,rfl⟩|exact rfl)) ?_|((try refine w_9 ?_);simp (maxDischargeDepth:=12) only [viz,↓reduceIte,Nat.reduceAdd])))
  all_goals exact K_of hK (pushes _ _) (by grind [idS])
theorem rid_c {c q : Int} {s : Mem} {K : AV → Mem → Prop} (hK : ∀ s', Keep s.next s s' → K (.bool (idS c q)) s') : C tab 39 [.agg [.int .i64 c, .int .u64 q]] s K := by
  refine C_enter (cf := cf39) rfl (Nat.le_of_ble_eq_true rfl) ?_
  simp only [cf39, oo, on, om, og, oc, ou]
  (repeat' (with_reducible first|refine w_1 ?_|refine w_2 ?_|refine w_6 ?_|refine w_13 (fun hc=>(by (try simp only [Bool.and_eq_true] at hc);simp (maxDischargeDepth:=12) only [viz,↓reduceIte,Nat.reduceEqDiff,Nat.reduceAdd,cond_false,hc];first|exact ⟨rfl,rfl⟩|exact rfl)) ?_|((try refine w_9 ?_);simp (maxDischargeDepth:=12) only [viz,↓reduceIte,Nat.reduceAdd])))
  all_goals exact K_of hK (pushes _ _) (by grind [idS])
end Go.Proofs.YthibbbfhkfebkaaGreat
/- Places: the document's insertion. No statement of the seat is proved here. -/
namespace Go.Proofs.YthibbbfhkfebkaaGreat
open Go Go.VI
set_option linter.unusedSimpArgs false
def bdV (v : AV) (K : Option Nat → Prop) : Prop :=
  match v with
  | .int _ n => match toNat? n with
    | some j => K (some j)
    | none => False
  | _ => False
theorem bdA_some (e : Env) (x : Opd) (K : Option Nat → Prop) : bdA e (some x) K = bdV (ev e x) K := id rfl
theorem bdV_nat (k : IntKind) (n : Nat) (K : Option Nat → Prop) : bdV (.int k (n : Int)) K = K (some n) := by simp only [bdV, toNat_cast]
attribute [local irreducible] Ws Wp W C
set_option maxHeartbeats 1000000
theorem insert_c {p : List Txt} {x : Txt} {v : AV} {D : Nat → Prop} {s : Mem} {K : AV → Mem → Prop} (hf : s.floor ≤ s.next) (hI : In D s) (hv : Sl s D v 1 (p.map txtC)) (hl : p.length < 1000)
    (hK : ∀ v' s', Keep s.next s s' → Sl s' (fun q => D q ∨ (s.next ≤ q ∧ q < s'.next)) v' 1 ((insR p x).map txtC) → K v' s') : C tab 126 [v, .str x] s K := by
  refine C_enter (cf := cf126) rfl (Nat.le_of_ble_eq_true rfl) ?_
  simp only [cf126, oo, on, om, og, oc, ou]
  have hlen : lenA false v = some p.length := hv.lenB
  (repeat' (with_reducible first|refine w_1 ?_|refine w_2 ?_|refine w_3 ?_|simp (maxDischargeDepth:=12) only [viz,Nat.reduceAdd]))
  refine W_inv p.length (fun i E s' => s' = s ∧ E.get 0 = v ∧ E.get 1 = .str x ∧ E.get 5 = .int .i64 i ∧ ∀ j y, j < i → p[j]? = some y → bl y x = true) (by delta cf126l0 oo on om og oc ou; exact rfl) ?_ ?_
  · (repeat' with_reducible simp (maxDischargeDepth:=12) only [viz,↓reduceIte])
    exact ⟨rfl, by omega⟩
  rintro i E s' hile _ ⟨rfl, g0, g1, g5, hlo⟩
  obtain ⟨v1, hc1, hv1⟩ := hv.cut (lo := none) (hi := some i) (Nat.zero_le _) (by simpa using hile)
  obtain ⟨v2, hc2, hv2⟩ := hv.cut (lo := some i) (hi := none) (by simpa using hile) (Nat.le_refl _)
  simp only [Option.getD_none, Option.getD_some, List.drop_zero, ← List.map_take] at hv1
  simp only [Option.getD_none, Option.getD_some, List.take_length, ← List.map_drop] at hv2
  have fin : ∀ v5 s5, (∀ y, p[i]? = some y → bl y x = false) → p[i]? ≠ some x → OwnL s5 (s'.next + 1) v5 9 1 (((p.take i).map txtC ++ [[.str x]]) ++ (p.drop i).map txtC) → Keep s'.next s' s5 → s'.next + 1 ≤ s5.next → K v5 s5 := fun v5 s5 h1 h2 ho hk hn => by
    refine hK v5 s5 hk ?_
    rw [insR_at hlo h1 hile, if_neg h2]
    have e : ((p.take i).map txtC ++ [[.str x]]) ++ (p.drop i).map txtC = (p.take i ++ [x] ++ p.drop i).map txtC := by simp [txtC]
    rw [e] at ho
    refine ho.sl (fun c hc => ?_) fun r n hr => Or.inr ?_
    · obtain ⟨y, _, rfl⟩ := List.mem_map.mp hc; rfl
    · have := ho.row r 0 n 1 hr; omega
  by_cases hlt : i < p.length
  · obtain ⟨y, hy⟩ := get_of hlt
    obtain ⟨q, hq, P, hld⟩ := hv.ldk hI hy rfl rfl
    have hl1 : loadA s' false 1 q = some (.str y) := by
      have := P.ld _ (Keep.refl _ _) false 1
      rw [this]; rfl
    (repeat' (with_reducible first|refine w_1 ?_|refine w_2 ?_|refine w_3 ?_|refine w_4 ?_|refine w_5 ?_|refine w_6 ?_|refine w_7 ?_|(refine w_8 (fun hb=>?_) (fun hb=>?_)<;>(try simp only [Bool.not_eq_true',Bool.not_eq_false'] at hb)<;>try simp only [hb])|((try refine w_9 ?_);simp (maxDischargeDepth:=12) only [viz,↓reduceIte,Nat.reduceEqDiff,reduceCtorEq,Nat.reduceAdd,g0,g1,g5,hlen,lt_true hlt,hq,hl1,bdA_some,bdV_nat,hc1,hc2])))
    · refine ⟨hlt, succ_av (by omega), fun j z hj hz => ?_⟩
      by_cases hji : j = i
      · rw [hji, hy] at hz; obtain rfl := Option.some.inj hz; exact hb
      · exact hlo j z (by omega) hz
    · have e : insR p x = p := by
        rw [insR_at hlo (fun z hz => by rw [hy] at hz; obtain rfl := Option.some.inj hz; assumption) hile, if_pos (by rw [hy, eq_of_beq hb])]
      refine hK v _ (Keep.refl _ _) ?_
      rw [e]
      exact hv.mono fun r hr => .inl hr
    · refine app_x (b := s'.next + 1) (xs := []) (ys := (p.take i).map txtC) (Nat.le_refl _) (Nat.le_refl _) (by simp only [ev, Env.get_set, ↓reduceIte, Nat.reduceEqDiff]; exact OwnL.emp _ _ _ _) ?_ ?_ (room (by simp; omega) (by simp; omega)) ?_
      · simp only [ev, Env.get_set, ↓reduceIte, Nat.reduceEqDiff]
        exact (mat_read _ _ _).trans (hv1.readk hI _ (pushes s' _))
      · exact hv1.uni
      · intro v3 s3 ho3 hx3 _ hr3
        have hk3 : Keep (s'.next + 1) ((s'.at (s'.next + 1)).push ⟨9, 1, []⟩) s3 := hx3.keep (Nat.le_refl _) fun r i n z h => by simp only [ev, Env.get_set, ↓reduceIte, Nat.reduceEqDiff, reduceCtorEq] at h
        have hkA : Keep s'.next s' (s3.at s'.floor) := (pushes s' ⟨9, 1, []⟩).then (Keep.of_at (s := s'.push ⟨9, 1, []⟩) hk3)
        have a3 : s'.next + 1 ≤ s3.next := hk3.next
        have ho3' : OwnL (s3.at s'.floor) (s'.next + 1) v3 9 1 ([] ++ (p.take i).map txtC) := ho3.at (by omega)
        rw [List.nil_append] at ho3'
        have hf3 : s'.floor ≤ s3.next := by omega
        (repeat' with_reducible simp (maxDischargeDepth:=12) only [viz,↓reduceIte,Nat.reduceEqDiff,reduceCtorEq,Int.reduceEq,Int.reduceNeg,Nat.reduceAdd,Nat.reduceLeDiff,g0,g1,g5,hlen,bdA_some,bdV_nat,hc1,hc2,hf3,le_s1 hf3])
        refine app_lit (k := 1) (b := s'.next + 1) (xs := (p.take i).map txtC) (s := s3.at s'.floor) (show s'.floor ≤ s'.next + 1 by omega) a3 ho3' (by simp only [ev, Env.get_set, ↓reduceIte, Nat.reduceEqDiff]) (by simp only [ev, Env.get_set, ↓reduceIte, Nat.reduceEqDiff]; rfl) rfl rfl (room (by simp; omega) (by simp; omega)) ?_
        intro v4 s4 ho4 hx4 hr4 _
        have hk34 : Keep (s'.next + 1) (s3.at s'.floor) s4 := hx4.keep a3 fun r i n z h => (ho3'.row r i n z h).1
        have hk4 : Keep s'.next s' s4 := hkA.trans (hk34.le (Nat.le_succ _))
        have a4 : s3.next ≤ s4.next := hx4.next
        (repeat' with_reducible simp (maxDischargeDepth:=12) only [viz,↓reduceIte,Nat.reduceEqDiff,reduceCtorEq,Int.reduceEq,Int.reduceNeg,Nat.reduceAdd,Nat.reduceLeDiff,g0,g1,g5,hlen,bdA_some,bdV_nat,hc1,hc2])
        refine app_x (b := s'.next + 1) (xs := (p.take i).map txtC ++ [[.str x]]) (ys := (p.drop i).map txtC) (by rw [hk4.floor]; omega) (by omega) (by simp only [ev, Env.get_set, ↓reduceIte, Nat.reduceEqDiff]; exact ho4) ?_ ?_ (room (by simp; omega) (by simp; omega)) ?_
        · simp only [ev, Env.get_set, ↓reduceIte, Nat.reduceEqDiff]
          exact hv2.readk hI _ hk4
        · exact hv2.uni
        · intro v5 s5 ho5 hx5 _ hr5
          have hk5 : Keep s'.next s' s5 := hk4.trans (hx5.keep (by omega) fun r i n z h => by
            have := ho4.row r i n z (by simpa only [ev, Env.get_set, ↓reduceIte, Nat.reduceEqDiff] using h); omega)
          (repeat' (with_reducible first|refine w_6 ?_|simp (maxDischargeDepth:=12) only [viz,↓reduceIte]))
          exact fin v5 s5 (fun z hz => by rw [hy] at hz; obtain rfl := Option.some.inj hz; assumption) (fun hz => by rw [hy] at hz; obtain rfl := Option.some.inj hz; simp_all) ho5 hk5 (by have := hx5.next; omega)
  · (repeat' (with_reducible first|refine w_1 ?_|refine w_2 ?_|refine w_4 ?_|refine w_5 ?_|refine w_7 ?_|((try refine w_9 ?_);simp (maxDischargeDepth:=12) only [viz,↓reduceIte,Nat.reduceEqDiff,reduceCtorEq,Nat.reduceAdd,g0,g1,g5,hlen,lt_false hlt,bdA_some,bdV_nat,hc1,hc2])))
    refine app_x (b := s'.next + 1) (xs := []) (ys := (p.take i).map txtC) (Nat.le_refl _) (Nat.le_refl _) (by simp only [ev, Env.get_set, ↓reduceIte, Nat.reduceEqDiff]; exact OwnL.emp _ _ _ _) ?_ ?_ (room (by simp; omega) (by simp; omega)) ?_
    · simp only [ev, Env.get_set, ↓reduceIte, Nat.reduceEqDiff]
      exact (mat_read _ _ _).trans (hv1.readk hI _ (pushes s' _))
    · exact hv1.uni
    · intro v3 s3 ho3 hx3 _ hr3
      have hk3 : Keep (s'.next + 1) ((s'.at (s'.next + 1)).push ⟨9, 1, []⟩) s3 := hx3.keep (Nat.le_refl _) fun r i n z h => by simp only [ev, Env.get_set, ↓reduceIte, Nat.reduceEqDiff, reduceCtorEq] at h
      have hkA : Keep s'.next s' (s3.at s'.floor) := (pushes s' ⟨9, 1, []⟩).then (Keep.of_at (s := s'.push ⟨9, 1, []⟩) hk3)
      have a3 : s'.next + 1 ≤ s3.next := hk3.next
      have ho3' : OwnL (s3.at s'.floor) (s'.next + 1) v3 9 1 ([] ++ (p.take i).map txtC) := ho3.at (by omega)
      rw [List.nil_append] at ho3'
      have hf3 : s'.floor ≤ s3.next := by omega
      (repeat' with_reducible simp (maxDischargeDepth:=12) only [viz,↓reduceIte,Nat.reduceEqDiff,reduceCtorEq,Int.reduceEq,Int.reduceNeg,Nat.reduceAdd,Nat.reduceLeDiff,g0,g1,g5,hlen,bdA_some,bdV_nat,hc1,hc2,hf3,le_s1 hf3])
      refine app_lit (k := 1) (b := s'.next + 1) (xs := (p.take i).map txtC) (s := s3.at s'.floor) (show s'.floor ≤ s'.next + 1 by omega) a3 ho3' (by simp only [ev, Env.get_set, ↓reduceIte, Nat.reduceEqDiff]) (by simp only [ev, Env.get_set, ↓reduceIte, Nat.reduceEqDiff]; rfl) rfl rfl (room (by simp; omega) (by simp; omega)) ?_
      intro v4 s4 ho4 hx4 hr4 _
      have hk34 : Keep (s'.next + 1) (s3.at s'.floor) s4 := hx4.keep a3 fun r i n z h => (ho3'.row r i n z h).1
      have hk4 : Keep s'.next s' s4 := hkA.trans (hk34.le (Nat.le_succ _))
      have a4 : s3.next ≤ s4.next := hx4.next
      (repeat' with_reducible simp (maxDischargeDepth:=12) only [viz,↓reduceIte,Nat.reduceEqDiff,reduceCtorEq,Int.reduceEq,Int.reduceNeg,Nat.reduceAdd,Nat.reduceLeDiff,g0,g1,g5,hlen,bdA_some,bdV_nat,hc1,hc2])
      refine app_x (b := s'.next + 1) (xs := (p.take i).map txtC ++ [[.str x]]) (ys := (p.drop i).map txtC) (by rw [hk4.floor]; omega) (by omega) (by simp only [ev, Env.get_set, ↓reduceIte, Nat.reduceEqDiff]; exact ho4) ?_ ?_ (room (by simp; omega) (by simp; omega)) ?_
      · simp only [ev, Env.get_set, ↓reduceIte, Nat.reduceEqDiff]
        exact hv2.readk hI _ hk4
      · exact hv2.uni
      · intro v5 s5 ho5 hx5 _ hr5
        have hk5 : Keep s'.next s' s5 := hk4.trans (hx5.keep (by omega) fun r i n z h => by
          have := ho4.row r i n z (by simpa only [ev, Env.get_set, ↓reduceIte, Nat.reduceEqDiff] using h); omega)
        (repeat' (with_reducible first|refine w_6 ?_|simp (maxDischargeDepth:=12) only [viz,↓reduceIte]))
        exact fin v5 s5 (fun z hz => by rw [List.getElem?_eq_none (by omega)] at hz; cases hz) (fun hz => by rw [List.getElem?_eq_none (by omega)] at hz; cases hz) ho5 hk5 (by have := hx5.next; omega)
end Go.Proofs.YthibbbfhkfebkaaGreat
/- Places and pieces by the document. No statement of the seat is proved here. -/
namespace Go.Proofs.YthibbbfhkfebkaaGreat
open Go Go.VI
set_option linter.unusedSimpArgs false
theorem insR_len (s : Txt) : ∀ p : List Txt, (insR p s).length ≤ p.length + 1
  | [] => Nat.le_refl _
  | x :: r => by
    have := insR_len s r
    unfold insR
    split
    · simp only [List.length_cons]; omega
    · split <;> simp only [List.length_cons] <;> omega
theorem places_len : ∀ (l : List Span) (p : List Txt), (l.foldl (fun p x => insR (insR p x.frm) x.to) p).length ≤ p.length + 2 * l.length
  | [], p => Nat.le_refl _
  | x :: l, p => by
    have := places_len l (insR (insR p x.frm) x.to)
    have a := insR_len x.to (insR p x.frm)
    have b := insR_len x.frm p
    simp only [List.foldl_cons, List.length_cons]; omega
theorem placesP_len (l : List Span) : (placesP l).length ≤ 1 + 2 * l.length := places_len l _
theorem setTo_len (out : List Span) (a : Txt) : (setTo out a).length = out.length := by
  unfold setTo
  cases h : out.getLast? with
  | none => rfl
  | some x =>
    obtain ⟨ys, rfl⟩ := List.getLast?_eq_some_iff.mp h
    simp
theorem scan_len (is : Txt → Bool) : ∀ (p : List Txt) (st : Bool × List Span) (n : Nat), 2 * st.2.length ≤ n + (if st.1 then 1 else 0) → 2 * (p.foldl (fun st a => (is a, nextOut is st.1 st.2 a)) st).2.length ≤ n + p.length + 1
  | [], st, n, h => by simp only [List.foldl_nil, List.length_nil]; split at h <;> omega
  | a :: p, st, n, h => by
    have := scan_len is p (is a, nextOut is st.1 st.2 a) (n + 1) (by
      simp only [nextOut]
      cases h1 : is a <;> cases h2 : st.1 <;> simp [h2, setTo_len] at h ⊢ <;> omega)
    simp only [List.foldl_cons, List.length_cons]; omega
theorem piece_len (l : List Span) (s : Span) (kind : Int) : (pieceP l s kind).length ≤ l.length + 2 := by
  have h := scan_len (isK l s kind) (placesP (l ++ [s])) (false, []) 0 (by simp)
  have h2 := placesP_len (l ++ [s])
  have e : pieceP l s kind = ((placesP (l ++ [s])).foldl (fun st a => (isK l s kind a, nextOut (isK l s kind) st.1 st.2 a)) (false, [])).2 := rfl
  rw [e]
  simp only [List.length_append, List.length_singleton] at h2
  omega
attribute [local irreducible] Ws Wp W C
set_option maxHeartbeats 4000000
theorem places_c {l : List Span} {v : AV} {D : Nat → Prop} {s : Mem} {K : AV → Mem → Prop} (hf : s.floor ≤ s.next) (hI : In D s) (hv : Spans s D v l) (hl : l.length < 300)
    (hK : ∀ v' s', Keep s.next s s' → Sl s' (fun q => s.next ≤ q ∧ q < s'.next) v' 1 ((placesP l).map txtC) → K v' s') : C tab 76 [v] s K := by
  refine C_enter (cf := cf76) rfl (Nat.le_of_ble_eq_true rfl) ?_
  simp only [cf76, oo, on, om, og, oc, ou]
  have hlen : lenA false v = some l.length := hv.lenB
  (repeat' (with_reducible first|refine w_1 ?_|refine w_2 ?_|refine w_3 ?_|simp (maxDischargeDepth:=12) only [viz,↓reduceIte,Nat.reduceAdd]))
  refine W_inv l.length (fun i E s' => ∃ w, Keep s.next s s' ∧ Sl s' (fun q => s.next ≤ q ∧ q < s'.next) w 1 ((placesP (l.take i)).map txtC) ∧ E.get 0 = v ∧ E.get 3 = w ∧ E.get 4 = .int .i64 i) (by delta cf76l0 oo on om og oc ou; exact rfl) ?_ ?_
  · refine ⟨_, pushes _ _, Sl.of_row (r := s.next) (n := 1) (ty := 9) ?_ ?_ ?_ rfl, (by simp only [ev, Env.get_set, ↓reduceIte, Nat.reduceEqDiff]), (by simp only [ev, Env.get_set, ↓reduceIte, Nat.reduceEqDiff]), (by simp only [ev, Env.get_set, ↓reduceIte, Nat.reduceEqDiff]; rfl)⟩
    · rw [Mem.get_push, if_pos rfl]; rfl
    · exact ⟨Nat.le_refl _, by rw [Mem.next_push]; omega⟩
    · intro c hc
      obtain ⟨y, _, rfl⟩ := List.mem_map.mp hc; rfl
  rintro i E s' hile _ ⟨w, hk, hw, g0, g3, g4⟩
  by_cases hlt : i < l.length
  · obtain ⟨x, hx⟩ := get_of hlt
    obtain ⟨p, hp, P, hld⟩ := hv.ldk hI hx rfl rfl
    have l0 : ∀ M, Keep s.next s M → loadA M false 1 (VI.adr p 0) = some (.str x.frm) := fun M hM => by
      have := P.ldf _ hM 0 false 1 (by simp [spanC])
      rw [this]; rfl
    have l1 : ∀ M, Keep s.next s M → loadA M false 1 (VI.adr p 1) = some (.str x.to) := fun M hM => by
      have := P.ldf _ hM 1 false 1 (by simp [spanC])
      rw [this]; rfl
    have pl := placesP_len (l.take i)
    rw [List.length_take] at pl
    have il := insR_len x.frm (placesP (l.take i))
    (repeat' (with_reducible first|refine w_1 ?_|refine w_2 ?_|refine w_3 ?_|refine w_4 ?_|refine w_5 ?_|simp (maxDischargeDepth:=12) only [viz,↓reduceIte,Nat.reduceEqDiff,reduceCtorEq,g0,g3,g4,hlen,lt_true hlt,hp,P.adr,l0 _ hk]))
    refine insert_c (hk.ok hf) (fun q hq => hq.2) hw (by omega) fun w2 s2 h2 hw2 => ?_
    have hk2 := hk.then h2
    (repeat' (with_reducible first|refine w_2 ?_|simp (maxDischargeDepth:=12) only [viz,↓reduceIte,Nat.reduceEqDiff,reduceCtorEq,g0,g4,hp,P.adr,l1 _ hk2]))
    refine insert_c (hk2.ok hf) (D := fun q => s.next ≤ q ∧ q < s2.next) (fun q hq => hq.2) (hw2.mono fun q hq => ?_) (by omega) fun w3 s3 h3 hw3 => ?_
    · have := hk.next; have := h2.next; rcases hq with hq | hq <;> omega
    have hk3 := hk2.then h3
    (repeat' (with_reducible first|refine w_2 ?_|simp (maxDischargeDepth:=12) only [viz,↓reduceIte,Nat.reduceEqDiff,reduceCtorEq,g0,g4]))
    refine ⟨hlt, w3, hk3, ?_, rfl, succ_av (by omega)⟩
    have e : l.take (i + 1) = l.take i ++ [x] := by rw [List.take_add_one, hx]; rfl
    rw [e, places_snoc]
    refine hw3.mono fun q hq => ?_
    have := hk2.next; have := h3.next; rcases hq with hq | hq <;> omega
  · (repeat' (with_reducible first|refine w_1 ?_|refine w_2 ?_|refine w_4 ?_|refine w_6 ?_|refine w_7 ?_|simp (maxDischargeDepth:=12) only [viz,↓reduceIte,Nat.reduceEqDiff,reduceCtorEq,g0,g3,g4,hlen,lt_false hlt]))
    rw [List.take_of_length_le (by omega)] at hw
    exact hK _ _ hk hw
end Go.Proofs.YthibbbfhkfebkaaGreat
/- Pieces by the document. No statement of the seat is proved here. -/
namespace Go.Proofs.YthibbbfhkfebkaaGreat
open Go Go.VI
set_option linter.unusedSimpArgs false
theorem span_cells (l : List Span) : ∀ c ∈ l.map spanC, c.length = 2 := fun c hc => by
  obtain ⟨y, _, rfl⟩ := List.mem_map.mp hc; rfl
theorem store_to {M : Mem} {r i ty : Nat} {els : List (List AV)} {f t a : Txt} (h : M.get r = some ⟨ty, 2, els⟩) (hc : els[i]? = some [.str f, .str t]) (hf : M.floor ≤ r) :
    storeA M 1 (.ptr r i 1) (.str a) = some (M.put r (some ⟨ty, 2, els.set i [.str f, .str a]⟩)) := by
  simp only [viz,↓reduceIte,Nat.reduceEqDiff,reduceCtorEq,Int.reduceEq,Int.reduceNeg,Nat.reduceAdd,Nat.reduceLeDiff, h, hc, hf]
theorem setTo_set {out : List Span} {x : Span} (a : Txt) (h : out[out.length - 1]? = some x) : (setTo out a).map spanC = (out.map spanC).set (out.length - 1) [.str x.frm, .str a] := by
  have hg : out.getLast? = some x := by rw [List.getLast?_eq_getElem?]; exact h
  obtain ⟨ys, rfl⟩ := List.getLast?_eq_some_iff.mp hg
  rw [setTo_snoc]
  simp [spanC]
theorem next_1 {q op : Bool} (h : (q && !op) = true) : (!q && op) = false := by cases q <;> cases op <;> simp_all
theorem next_2 {is : Txt → Bool} {q op : Bool} {out : List Span} {a : Txt} (e : is a = q) (h : (!q && op) = true) : nextOut is op out a = setTo out a := by
  subst e; unfold nextOut; cases h1 : is a <;> cases op <;> simp_all
theorem next_3 {is : Txt → Bool} {q op : Bool} {out : List Span} {a : Txt} (e : is a = q) (h1 : (q && !op) = false) (h2 : (!q && op) = false) : nextOut is op out a = out := by
  subst e; unfold nextOut; cases h1 : is a <;> cases op <;> simp_all
attribute [local irreducible] Ws Wp W C
set_option maxHeartbeats 4000000
theorem piece_c {l : List Span} {x : Span} {v : AV} {D : Nat → Prop} {s : Mem} {K : AV → Mem → Prop} (hf : s.floor ≤ s.next) (hI : In D s) (hv : Spans s D v l) (hl : l.length < 200)
    (hK : ∀ v' s', Keep s.next s s' → OwnL s' s.next v' 47 2 ((pieceP l x 1).map spanC) → K v' s') : C tab 22 [v, .agg (spanC x), .int .i64 1] s K := by
  refine C_enter (cf := cf22) rfl (Nat.le_of_ble_eq_true rfl) ?_
  simp only [cf22, oo, on, om, og, oc, ou, spanC]
  (repeat' (with_reducible first|refine w_1 ?_|refine w_2 ?_|simp (maxDischargeDepth:=12) only [viz,↓reduceIte,Nat.reduceEqDiff,reduceCtorEq,Nat.reduceAdd]))
  refine app_x (b := s.next + 1 + 1) (xs := []) (ys := l.map spanC) (Nat.le_refl _) (Nat.le_refl _) (by simp only [ev, Env.get_set, ↓reduceIte, Nat.reduceEqDiff]; exact OwnL.emp _ _ _ _) ?_ ?_ (room (by simp; omega) (by simp; omega)) ?_
  · simp only [ev, Env.get_set, ↓reduceIte, Nat.reduceEqDiff]
    exact (mat_read _ _ _).trans (hv.readk hI _ ((pushes s ⟨47, 2, [[.str x.frm, .str x.to]]⟩).then (pushes _ ⟨47, 2, []⟩)))
  · exact hv.uni
  · intro v3 s3 ho3 hx3 _ hr3
    rw [List.nil_append] at ho3
    have hk3 : Keep (s.next + 1 + 1) (((s.push ⟨47, 2, [[.str x.frm, .str x.to]]⟩).at (s.next + 1 + 1)).push ⟨47, 2, []⟩) s3 := hx3.keep (Nat.le_refl _) fun r i n z h => by simp only [ev, Env.get_set, ↓reduceIte, Nat.reduceEqDiff, reduceCtorEq] at h
    have hkA : Keep s.next s (s3.at s.floor) := ((pushes s ⟨47, 2, [[.str x.frm, .str x.to]]⟩).then (pushes _ ⟨47, 2, []⟩)).then (Keep.of_at (s := (s.push ⟨47, 2, [[.str x.frm, .str x.to]]⟩).push ⟨47, 2, []⟩) hk3)
    have hg3 : s3.get s.next = some ⟨47, 2, [[.str x.frm, .str x.to]]⟩ := by
      rw [hk3.get _ (by omega)]
      simp only [Mem.get_push, mat_get, mat_next, next_push']
      rw [if_neg (by omega), if_pos trivial]
    have a3 : s.next + 1 + 1 ≤ s3.next := hk3.next
    have hf3 : s.floor ≤ s3.next := by omega
    have ho3' : OwnL (s3.at s.floor) (s.next + 1 + 1) v3 47 2 (l.map spanC) := ho3.at (by omega)
    (repeat' with_reducible simp (maxDischargeDepth:=12) only [viz,↓reduceIte,Nat.reduceAdd,hg3])
    refine app_lit (k := 1) (b := s.next + 1 + 1) (xs := l.map spanC) (ys := [spanC x]) (s := s3.at s.floor) (show s.floor ≤ s.next + 1 + 1 by omega) a3 ho3' (by simp only [ev, Env.get_set, ↓reduceIte, Nat.reduceEqDiff]) (by simp only [ev, Env.get_set, ↓reduceIte, Nat.reduceEqDiff]; rfl) rfl rfl (room (by simp; omega) (by simp; omega)) ?_
    intro v4 s4 ho4 hx4 hr4 _
    have hk34 : Keep (s.next + 1 + 1) (s3.at s.floor) s4 := hx4.keep a3 fun r i n z h => (ho3'.row r i n z h).1
    have hk4 : Keep s.next s s4 := hkA.trans (hk34.le (by omega))
    have hg4 : s4.get s.next = some ⟨47, 2, [[.str x.frm, .str x.to]]⟩ := (hk34.get _ (by omega)).trans hg3
    have a4 : s3.next ≤ s4.next := hx4.next
    have em : l.map spanC ++ [spanC x] = (l ++ [x]).map spanC := by simp
    rw [em] at ho4
    (repeat' with_reducible simp (maxDischargeDepth:=12) only [viz,↓reduceIte,Nat.reduceEqDiff,reduceCtorEq,Int.reduceEq,Int.reduceNeg,Nat.reduceAdd,Nat.reduceLeDiff])
    refine places_c (l := l ++ [x]) (hk4.ok hf) (D := fun q => s.next + 1 + 1 ≤ q ∧ q < s4.next) (fun q hq => hq.2) (ho4.sl (span_cells _) fun r n h => ho4.row r 0 n 2 h) (by simp; omega) fun v5 s5 hk45 hp5 => ?_
    have hk5 := hk4.then hk45
    have a5 := hk45.next
    have hg5 : s5.get s.next = some ⟨47, 2, [[.str x.frm, .str x.to]]⟩ := (hk45.get _ (by omega)).trans hg4
    have hv5 : Spans s5 D v l := hv.keep fun q hq => hk5.get q (hI q hq)
    have hI5 : In D s5 := fun q hq => Nat.lt_of_lt_of_le (hI q hq) hk5.next
    have hp5I : In (fun q => s4.next ≤ q ∧ q < s5.next) s5 := fun q hq => hq.2
    have plen := placesP_len (l ++ [x])
    rw [List.length_append, List.length_singleton] at plen
    have hlp : lenA false v5 = some (placesP (l ++ [x])).length := hp5.lenB
    have hup : Up (placesP (l ++ [x])) := (places_ok (l ++ [x]) [[]] (by simp [Up]) (by simp)).1
    (repeat' (with_reducible first|refine w_1 ?_|refine w_2 ?_|refine w_3 ?_|simp (maxDischargeDepth:=12) only [viz,↓reduceIte]))
    refine W_inv (placesP (l ++ [x])).length (fun i E s' => ∃ w, Keep s5.next s5 s' ∧ OwnL s' s5.next w 47 2 ((scanTo (isK l x 1) ((placesP (l ++ [x])).take i)).2.map spanC) ∧ E.get 0 = v ∧ E.get 2 = .int .i64 1 ∧ E.get 4 = .ptr s.next 0 0 ∧ E.get 7 = v5 ∧ E.get 8 = w ∧ E.get 9 = .bool (scanTo (isK l x 1) ((placesP (l ++ [x])).take i)).1 ∧ E.get 10 = .int .i64 i) (by delta cf22l0 oo on om og oc ou; exact rfl) ?_ ?_
    · refine ⟨.emp, pushes s5 _, OwnL.emp _ _ _ _, (by simp only [ev, Env.get_set, ↓reduceIte, Nat.reduceEqDiff]), (by simp only [ev, Env.get_set, ↓reduceIte, Nat.reduceEqDiff]), (by simp only [ev, Env.get_set, ↓reduceIte, Nat.reduceEqDiff]), (by simp only [ev, Env.get_set, ↓reduceIte, Nat.reduceEqDiff]), ?_, ?_, ?_⟩
      all_goals simp only [ev, Env.get_set, ↓reduceIte, Nat.reduceEqDiff]
      all_goals rfl
    rintro i E s' hile _ ⟨w, hk, hw, g0, g2, g4, g7, g8, g9, g10⟩
    by_cases hlt : i < (placesP (l ++ [x])).length
    · obtain ⟨a, ha⟩ := get_of hlt
      obtain ⟨p, hp, P, _⟩ := hp5.ldk hp5I ha rfl rfl
      have l0 : ∀ M, Keep s5.next s5 M → loadA M false 1 p = some (.str a) := fun M hM => by
        rw [P.ld _ hM]; rfl
      have hg' : s'.get s.next = some ⟨47, 2, [[.str x.frm, .str x.to]]⟩ := (hk.get _ (by omega)).trans hg5
      (repeat' (with_reducible first|refine w_1 ?_|refine w_2 ?_|refine w_3 ?_|refine w_4 ?_|refine w_5 ?_|simp (maxDischargeDepth:=12) only [viz,↓reduceIte,Nat.reduceEqDiff,reduceCtorEq,g0,g4,g7,g10,hlp,lt_true hlt,hp,l0 _ hk]))
      refine rin_c (D := D) (s := s'.at s'.next) (fun q hq => Nat.lt_of_lt_of_le (hI5 q hq) hk.next) ((hv5.keep fun q hq => hk.get q (hI5 q hq)).at_) (by omega) fun s2 h2 => ?_
      have h2A : Keep s'.next s' (s2.at s'.floor) := Keep.of_at h2
      have a2 := h2A.next
      have an := hk.next
      simp only [mat_next] at a2
      have hg2 : s2.get s.next = some ⟨47, 2, [[.str x.frm, .str x.to]]⟩ := (h2A.get _ (by omega)).trans hg'
      have l2 : loadA s2 false 1 p = some (.str a) := by
        have := l0 _ (hk.then h2A)
        rwa [mat_load] at this
      (repeat' with_reducible simp (maxDischargeDepth:=12) only [viz,hg2,l2])
      refine rhas_c (x := x) fun s6 h6 => ?_
      have hk6 := h2A.then h6
      have hk56 := hk.then hk6
      have hw6 : OwnL s6 s5.next w 47 2 ((scanTo (isK l x 1) ((placesP (l ++ [x])).take i)).2.map spanC) := hw.keep (c := s'.next) hk6 fun r e => (hw.row r 0 _ 2 e).2
      have l6 := l0 _ hk56
      have hst : scanTo (isK l x 1) ((placesP (l ++ [x])).take (i + 1)) = (isK l x 1 a, nextOut (isK l x 1) (scanTo (isK l x 1) ((placesP (l ++ [x])).take i)).1 (scanTo (isK l x 1) ((placesP (l ++ [x])).take i)).2 a) := by
        have e : (placesP (l ++ [x])).take (i + 1) = (placesP (l ++ [x])).take i ++ [a] := by rw [List.take_add_one, ha]; rfl
        rw [e, scan_snoc]
      have hPI := scan_pi (isK l x 1) _ hup i hile
      have hsl := scan_len (isK l x 1) ((placesP (l ++ [x])).take i) (false, []) 0 (by simp)
      rw [List.length_take] at hsl
      have hsl2 : 2 * (scanTo (isK l x 1) ((placesP (l ++ [x])).take i)).2.length ≤ (placesP (l ++ [x])).length + 1 := by
        have : (scanTo (isK l x 1) ((placesP (l ++ [x])).take i)).2 = (((placesP (l ++ [x])).take i).foldl (fun st a => (isK l x 1 a, nextOut (isK l x 1) st.1 st.2 a)) (false, [])).2 := rfl
        rw [this]; omega
      have hia : isK l x 1 a = ((l.any fun x => hasS x a) && !hasS x a) := by simp [isK]
      generalize scanTo (isK l x 1) ((placesP (l ++ [x])).take i) = st at hst hPI hsl2 hw6 g9
      (repeat' (with_reducible first|refine w_1 ?_|refine w_2 ?_|refine w_4 ?_|refine w_5 ?_|(refine w_8 (fun hb=>?_) (fun hb=>?_)<;>(try simp only [Bool.not_eq_true',Bool.not_eq_false'] at hb)<;>try simp only [hb])|refine w_13 (fun hc=>(by (try simp only [Bool.and_eq_true] at hc);simp (maxDischargeDepth:=12) only [viz,↓reduceIte,Nat.reduceEqDiff,g9, Int.reduceBEq, Int.reduceBNe, Int.reduceLT, Int.reduceLE, Int.reduceGT, Int.reduceGE,cond_false,hc];first|exact ⟨rfl,rfl⟩|exact rfl)) ?_|((try refine w_9 ?_);simp (maxDischargeDepth:=12) only [viz,↓reduceIte,Nat.reduceEqDiff,reduceCtorEq,Nat.reduceAdd,g0,g2,g4,g7,g8,g10,hp,l6, Int.reduceBEq, Int.reduceBNe, Int.reduceLT, Int.reduceLE, Int.reduceGT, Int.reduceGE])))
      · refine app_lit (v := w) (k := 1) (b := s5.next) (xs := st.2.map spanC) (ys := [spanC ⟨a, []⟩]) (by rw [hk56.floor]; exact hk5.ok hf) hk56.next hw6 (by simp only [ev, Env.get_set, ↓reduceIte, Nat.reduceEqDiff]) (by simp only [ev, Env.get_set, ↓reduceIte, Nat.reduceEqDiff]) rfl rfl (room (by simp; omega) (by simp; omega)) ?_
        intro w7 s7 ho7 hx7 hr7 _
        have hk57 : Keep s5.next s5 s7 := hk56.trans (hx7.keep hk56.next fun r i n z h => (hw6.row r i n z h).1)
        have hq : (!((l.any fun x => hasS x a) && !hasS x a) && st.1) = false := next_1 hb
        (repeat' (with_reducible first|refine w_1 ?_|refine w_2 ?_|refine w_4 ?_|refine w_5 ?_|refine w_13 (fun hc=>(by (try simp only [Bool.and_eq_true] at hc);simp (maxDischargeDepth:=12) only [viz,↓reduceIte,Nat.reduceEqDiff,g9,cond_false,hc];first|exact ⟨rfl,rfl⟩|exact rfl)) ?_|((try refine w_9 ?_);simp (maxDischargeDepth:=12) only [viz,↓reduceIte,Nat.reduceEqDiff,reduceCtorEq,g0,g2,g4,g7,g10,hq])))
        have e : (st.2 ++ [(⟨a, []⟩ : Span)]).map spanC = st.2.map spanC ++ [spanC ⟨a, []⟩] := by simp
        refine ⟨hlt, w7, hk57, ?_, rfl, ?_, succ_av (by omega)⟩
        · rw [hst]; simp only [nextOut, hia, hb, if_true]; rw [e]; exact ho7
        · rw [hst]; simp only [hia]
      · obtain ⟨y, hy⟩ : ∃ y, st.2[st.2.length - 1]? = some y := by
          have : st.2 ≠ [] := by
            obtain ⟨cl, h, _⟩ := hPI.sp
            rcases h with ⟨_, h⟩ | ⟨f, h, _⟩
            · simp [h] at hb
            · rw [h]; simp
          have := List.length_pos_iff.mpr this
          exact get_of (by omega)
        have hyl := (List.getElem?_eq_some_iff.mp hy).1
        obtain ⟨r, rfl, hr, hbr, hrn⟩ : ∃ r, w = .own r 0 st.2.length 2 ∧ s6.get r = some ⟨47, 2, st.2.map spanC⟩ ∧ s5.next ≤ r ∧ r < s6.next := by
          rcases hw6 with ⟨_, h⟩ | ⟨r, h0, h1, _, h3, h4⟩
          · have : st.2 = [] := by simpa using h
            rw [this] at hyl; simp at hyl
          · exact ⟨r, by rw [h0, List.length_map], h1, h3, h4⟩
        have hat : atA 2 (.own r 0 st.2.length 2) (.int .i64 ((st.2.length - 1 : Nat) : Int)) = some (.ptr r (st.2.length - 1) 0) := at0 (by omega)
        have hpc : IntKind.i64.wrap ((st.2.length : Int) - 1) = ((st.2.length - 1 : Nat) : Int) := by
          have := pred_cast (st.2.length - 1) (by omega)
          rw [show st.2.length - 1 + 1 = st.2.length by omega] at this
          exact this
        have hsto := store_to (a := a) hr (i := st.2.length - 1) (by rw [List.getElem?_map, hy]; rfl) (by rw [hk56.floor]; have := hk5.ok hf; omega)
        have hlw : lenA false (.own r 0 st.2.length 2) = some st.2.length := rfl
        (repeat' (with_reducible first|refine w_2 ?_|simp (maxDischargeDepth:=12) only [vis,↓reduceIte,Nat.reduceEqDiff,reduceCtorEq,g0,g2,g4,g7,g8,g10,l6,hlw,hpc,hat,Nat.zero_add,hsto]))
        refine ⟨hlt, _, hk56.trans (Keep.put hbr _), ?_, rfl, ?_, succ_av (by omega)⟩
        · rw [hst]
          have : nextOut (isK l x 1) st.1 st.2 a = setTo st.2 a := next_2 hia hb
          rw [this, setTo_set a hy]
          exact .inr ⟨r, by simp, by rw [Mem.get_put, if_pos rfl], by rw [floor_put', hk56.floor]; have := hk5.ok hf; omega, hbr, by rw [Mem.next_put]; exact hrn⟩
        · rw [hst]; simp only [hia]
      · refine ⟨hlt, w, hk56, ?_, rfl, ?_, succ_av (by omega)⟩
        · rw [hst]
          have : nextOut (isK l x 1) st.1 st.2 a = st.2 := next_3 hia (by assumption) hb
          rw [this]; exact hw6
        · rw [hst]; simp only [hia]
    · (repeat' (with_reducible first|refine w_1 ?_|refine w_2 ?_|refine w_4 ?_|refine w_6 ?_|refine w_7 ?_|simp (maxDischargeDepth:=12) only [viz,↓reduceIte,Nat.reduceEqDiff,g7,g8,g10,hlp,lt_false hlt]))
      rw [List.take_of_length_le (by omega)] at hw
      exact hK _ _ (hk5.then hk) (hw.le hk5.next)
end Go.Proofs.YthibbbfhkfebkaaGreat
/- Covers by the document. No statement of the seat is proved here. -/
namespace Go.Proofs.YthibbbfhkfebkaaGreat
open Go Go.VI
set_option linter.unusedSimpArgs false
theorem flat_len (z : Span) : ∀ l : List Span, (l.flatMap fun y => pieceP [y] z 1).length ≤ 3 * l.length
  | [] => Nat.le_refl _
  | y :: l => by
    have := flat_len z l
    have := piece_len [y] z 1
    simp only [List.flatMap_cons, List.length_append, List.length_cons, List.length_nil] at *; omega
theorem left_snoc (l : List Span) (z : Span) (left : List Span) : leftTo (l ++ [z]) left = (leftTo l left).flatMap fun y => pieceP [y] z 1 := by simp [leftTo]
theorem left_len (x : Span) (l : List Span) : ∀ i, i ≤ l.length → (leftTo (l.take i) [x]).length ≤ 3 ^ i
  | 0, _ => by simp [leftTo]
  | i + 1, h => by
    have ih := left_len x l i (by omega)
    obtain ⟨z, hz⟩ := get_of (l := l) (i := i) (by omega)
    have e : l.take (i + 1) = l.take i ++ [z] := by rw [List.take_add_one, hz]; rfl
    rw [e, left_snoc]
    have := flat_len z (leftTo (l.take i) [x])
    rw [Nat.pow_succ]; omega
theorem pow24 {i : Nat} (h : i ≤ 24) : 3 ^ i ≤ 282429536481 := Nat.le_trans (Nat.pow_le_pow_right (by omega) h) (by decide)
attribute [local irreducible] Ws Wp W C
set_option maxHeartbeats 4000000
theorem rcovers_c {l : List Span} {x : Span} {v : AV} {D : Nat → Prop} {s : Mem} {K : AV → Mem → Prop} (hf : s.floor ≤ s.next) (hI : In D s) (hv : Spans s D v l) (hl : l.length ≤ 24)
    (hK : ∀ s', Keep s.next s s' → K (.bool (leftTo l [x]).isEmpty) s') : C tab 54 [v, .agg (spanC x)] s K := by
  refine C_enter (cf := cf54) rfl (Nat.le_of_ble_eq_true rfl) ?_
  simp only [cf54, oo, on, om, og, oc, ou, spanC]
  have hlen : lenA false v = some l.length := hv.lenB
  (repeat' (with_reducible first|refine w_1 ?_|refine w_2 ?_|refine w_3 ?_|simp (maxDischargeDepth:=12) only [viz,↓reduceIte,Nat.reduceAdd]))
  refine W_inv l.length (fun i E s' => ∃ w, Keep s.next s s' ∧ Sl s' (fun q => s.next ≤ q ∧ q < s'.next) w 2 ((leftTo (l.take i) [x]).map spanC) ∧ E.get 0 = v ∧ E.get 5 = w ∧ E.get 6 = .int .i64 i) (by delta cf54l0 oo on om og oc ou; exact rfl) ?_ ?_
  · refine ⟨_, (pushes s _).then (pushes _ _), Sl.of_row (r := s.next + 1) (n := 1) (ty := 47) ?_ ?_ (span_cells _) rfl, (by simp only [ev, Env.get_set, ↓reduceIte, Nat.reduceEqDiff]), (by simp only [ev, Env.get_set, ↓reduceIte, Nat.reduceEqDiff]), (by simp only [ev, Env.get_set, ↓reduceIte, Nat.reduceEqDiff]; rfl)⟩
    · simp only [Mem.get_push, next_push']; rw [if_pos trivial]; rfl
    · simp only [next_push']; omega
  rintro i E s' hile _ ⟨w, hk, hw, g0, g5, g6⟩
  have hn := hk.next
  have lb := left_len x l i hile
  have pb := pow24 (Nat.le_trans hile hl)
  by_cases hlt : i < l.length
  · obtain ⟨z, hz⟩ := get_of hlt
    have e : l.take (i + 1) = l.take i ++ [z] := by rw [List.take_add_one, hz]; rfl
    have lb2 := left_len x l (i + 1) hlt
    have pb2 := pow24 (Nat.le_trans hlt hl)
    rw [e, left_snoc] at lb2
    obtain ⟨p, hp, P, _⟩ := hv.ldk hI hz rfl rfl
    have lz : ∀ M, Keep s.next s M → loadA M true 2 p = some (.agg [.str z.frm, .str z.to]) := fun M hM => by
      rw [P.ld _ hM]; rfl
    (repeat' (with_reducible first|refine w_1 ?_|refine w_2 ?_|refine w_3 ?_|refine w_4 ?_|refine w_5 ?_|simp (maxDischargeDepth:=12) only [viz,↓reduceIte,reduceCtorEq,g0,g6,hlen,lt_true hlt]))
    generalize hL : leftTo (l.take i) [x] = L at hw lb lb2
    have hlw : lenA false w = some L.length := hw.lenB
    have hwI : In (fun q => s.next ≤ q ∧ q < s'.next) s' := fun q hq => hq.2
    refine W_inv L.length (fun k E' s2 => ∃ w2, Keep s'.next s' s2 ∧ OwnL s2 s'.next w2 47 2 (((L.take k).flatMap fun y => pieceP [y] z 1).map spanC) ∧ E'.get 0 = v ∧ E'.get 5 = w ∧ E'.get 6 = .int .i64 i ∧ E'.get 7 = w2 ∧ E'.get 8 = .int .i64 k) (by delta cf54l1 oo on om og oc ou; exact rfl) ?_ ?_
    · refine ⟨.emp, pushes s' _, OwnL.emp _ _ _ _, ?_, ?_, ?_, ?_, ?_⟩
      all_goals simp only [ev, Env.get_set, ↓reduceIte, Nat.reduceEqDiff, g0, g5, g6]
      all_goals rfl
    rintro k E' s2 hkle _ ⟨w2, hk2, hw2, f0, f5, f6, f7, f8⟩
    have hn2 := hk2.next
    by_cases hlt2 : k < L.length
    · obtain ⟨y, hy⟩ := get_of hlt2
      obtain ⟨p2, hp2, P2, _⟩ := hw.ldk hwI hy rfl rfl
      have ly : ∀ M, Keep s'.next s' M → loadA M true 2 p2 = some (.agg [.str y.frm, .str y.to]) := fun M hM => by
        rw [P2.ld _ hM]; rfl
      have e2 : L.take (k + 1) = L.take k ++ [y] := by rw [List.take_add_one, hy]; rfl
      have fl := flat_len z (L.take k)
      rw [List.length_take] at fl
      have pl := piece_len [y] z 1
      rw [List.length_singleton] at pl
      have hly := ly _ hk2
      have hkp : Keep s.next s (s2.push ⟨47, 2, [[.str y.frm, .str y.to]]⟩) := hk.then (hk2.then (pushes _ _))
      have hlz : loadA ((s2.at s2.next).push ⟨47, 2, [[.str y.frm, .str y.to]]⟩) true 2 p = some (.agg [.str z.frm, .str z.to]) := by
        have := lz _ hkp
        rwa [← mat_load _ s2.next, mat_push] at this
      (repeat' (with_reducible first|refine w_1 ?_|refine w_2 ?_|refine w_3 ?_|refine w_4 ?_|refine w_5 ?_|simp (maxDischargeDepth:=12) only [viz,↓reduceIte,Nat.reduceEqDiff,reduceCtorEq,Nat.reduceAdd,f0,f5,f6,f7,f8,hlw,lt_true hlt2,hp2,hly,hp,hlz]))
      have hS : ((s2.push ⟨47, 2, [[.str y.frm, .str y.to]]⟩)).floor ≤ (s2.push ⟨47, 2, [[.str y.frm, .str y.to]]⟩).next := hkp.ok hf
      refine piece_c (l := [y]) (x := z) (D := fun q => q = s2.next) hS (fun q hq => by rw [hq]; simp only [next_push']; omega) (Sl.of_row (r := s2.next) (n := 1) (ty := 47) (by simp only [Mem.get_push]; rw [if_pos trivial]; rfl) rfl (span_cells _) rfl) (by simp) fun w3 s3 h3 ho3 => ?_
      have hk3 : Keep s2.next s2 s3 := (pushes _ _).then h3
      have hn3 := hk3.next
      simp only [next_push'] at ho3
      have hw3 : OwnL s3 s'.next w2 47 2 (((L.take k).flatMap fun y => pieceP [y] z 1).map spanC) := hw2.keep (c := s2.next) hk3 fun r e => (hw2.row r 0 _ 2 e).2
      refine app_x (b := s'.next) (xs := ((L.take k).flatMap fun y => pieceP [y] z 1).map spanC) (ys := (pieceP [y] z 1).map spanC) (by rw [(hk2.then hk3).floor]; exact hk.ok hf) (by omega) (by simp only [ev, Env.get_set, ↓reduceIte, Nat.reduceEqDiff]; exact hw3) (by simp only [ev, Env.get_set, ↓reduceIte, Nat.reduceEqDiff]; exact ho3.read) (ho3.sl (D := fun _ => True) (span_cells _) fun _ _ _ => trivial).uni (room (by simp only [List.length_map]; omega) (by simp only [List.length_map]; omega)) ?_
      intro w4 s4 ho4 hx4 _ hr4
      have hk4 : Keep s'.next s' s4 := (hk2.then hk3).trans (hx4.keep (by omega) fun r i n z h => (hw3.row r i n z (by simpa only [ev, Env.get_set, ↓reduceIte, Nat.reduceEqDiff] using h)).1)
      (repeat' (with_reducible first|refine w_2 ?_|simp (maxDischargeDepth:=12) only [viz,↓reduceIte,Nat.reduceEqDiff,reduceCtorEq,f0,f5,f6,f8]))
      refine ⟨hlt2, w4, hk4, ?_, rfl, succ_av (by omega)⟩
      rw [e2, List.flatMap_append, List.map_append]
      have : ([y].flatMap fun y => pieceP [y] z 1) = pieceP [y] z 1 := by simp
      rw [this]; exact ho4
    · (repeat' (with_reducible first|refine w_1 ?_|refine w_2 ?_|refine w_4 ?_|refine w_7 ?_|simp (maxDischargeDepth:=12) only [viz,↓reduceIte,Nat.reduceEqDiff,reduceCtorEq,f0,f5,f6,f7,f8,hlw,lt_false hlt2]))
      refine ⟨hlt, w2, hk.then hk2, ?_, rfl, succ_av (by omega)⟩
      rw [e, left_snoc, hL]
      rw [List.take_of_length_le (by omega)] at hw2
      refine (hw2.sl (D := fun q => s'.next ≤ q ∧ q < s2.next) (span_cells _) fun r n h => hw2.row r 0 n 2 h).mono fun q hq => ?_
      omega
  · (repeat' (with_reducible first|refine w_1 ?_|refine w_2 ?_|refine w_4 ?_|refine w_6 ?_|refine w_7 ?_|simp (maxDischargeDepth:=12) only [viz,↓reduceIte,Nat.reduceEqDiff,reduceCtorEq,g0,g5,g6,hlen,lt_false hlt,hw.lenB]))
    rw [List.take_of_length_le (by omega)]
    refine K_of hK hk ?_
    cases leftTo l [x] with
    | nil => rfl
    | cons a b => simp; omega
end Go.Proofs.YthibbbfhkfebkaaGreat

