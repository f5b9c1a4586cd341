/- Calls, transactions: which may be. No statement of the seat is proved here. -/
import Derived.Test.YthibbbfhkfebkaaGreatVZTB
import Derived.Test.YthibbbfhkfebkaaGreatVZVE
namespace Go.Proofs.YthibbbfhkfebkaaGreat
open Go Go.VI
set_option linter.unusedSimpArgs false
def lastsS (kind ttl : Int) : Bool := if kind = 2 then decide (ttl = 0) else (decide (kind = 1) || decide (kind = 3)) && decide (1 ≤ ttl) && decide (ttl ≤ 1048576)
def idS (c q : Int) : Bool := decide (0 ≤ c) && decide (c < 8) && !decide (q = 0)
structure Call where
  kind : Int
  keys : List Txt
  token : Int
  ttl : Int
def txtC (t : Txt) : List AV := [.str t]
def callC (k : AV) (c : Call) : List AV := [.int .i64 c.kind, k, .int .u64 c.token, .int .i64 c.ttl]
attribute [local irreducible] Ws Wp W C
set_option maxHeartbeats 4000000
theorem lasts_c {k t : Int} {s : Mem} {K : AV → Mem → Prop} (hK : K (.bool (lastsS k t)) s) : C tab 89 [.int .i64 k, .int .i64 t] s K := by
  refine C_enter (cf := cf89) rfl (Nat.le_of_ble_eq_true rfl) ?_
  simp only [cf89, oo, on, om, og, oc, ou]
  (repeat' (with_reducible first|refine w_1 ?_|refine w_2 ?_|refine w_3 ?_|refine w_4 ?_|refine w_5 ?_|refine w_6 ?_|(refine w_8 (fun hb=>?_) (fun hb=>?_)<;>(try simp only [Bool.not_eq_true',Bool.not_eq_false'] at hb)<;>try simp only [hb])|refine w_13 (fun hc=>(by (try simp only [Bool.and_eq_true] at hc);simp (maxDischargeDepth:=12) only [viz,↓reduceIte,Nat.reduceEqDiff,cond_false,hc];first|exact ⟨rfl,rfl⟩|exact rfl)) ?_|((try refine w_9 ?_);simp (maxDischargeDepth:=12) only [viz,↓reduceIte,Nat.reduceEqDiff,Nat.reduceAdd])))
  all_goals
    refine (congrArg (fun b => K (.bool b) s) ?_).mp hK
    grind [lastsS]
theorem id_c {c q : Int} {s : Mem} {K : AV → Mem → Prop} (hK : ∀ s', Keep s.next s s' → K (.bool (idS c q)) s') : C tab 31 [.agg [.int .i64 c, .int .u64 q]] s K := by
  refine C_enter (cf := cf31) rfl (Nat.le_of_ble_eq_true rfl) ?_
  simp only [cf31, oo, on, om, og, oc, ou]
  (repeat' (with_reducible first|refine w_1 ?_|refine w_2 ?_|refine w_6 ?_|refine w_13 (fun hc=>(by (try simp only [Bool.and_eq_true] at hc);simp (maxDischargeDepth:=12) only [viz,↓reduceIte,Nat.reduceEqDiff,Nat.reduceAdd,cond_false,hc];first|exact ⟨rfl,rfl⟩|exact rfl)) ?_|((try refine w_9 ?_);simp (maxDischargeDepth:=12) only [viz,↓reduceIte,Nat.reduceAdd])))
  all_goals exact K_of hK (pushes _ _) (by grind [idS])
end Go.Proofs.YthibbbfhkfebkaaGreat
/- Places: the document's insertion. No statement of the seat is proved here. -/
namespace Go.Proofs.YthibbbfhkfebkaaGreat
open Go Go.VI
set_option linter.unusedSimpArgs false
def bdV (v : AV) (K : Option Nat → Prop) : Prop :=
  match v with
  | .int _ n => match toNat? n with
    | some j => K (some j)
    | none => False
  | _ => False
theorem bdA_some (e : Env) (x : Opd) (K : Option Nat → Prop) : bdA e (some x) K = bdV (ev e x) K := id rfl
theorem bdV_nat (k : IntKind) (n : Nat) (K : Option Nat → Prop) : bdV (.int k (n : Int)) K = K (some n) := by simp only [bdV, toNat_cast]
attribute [local irreducible] Ws Wp W C
set_option maxHeartbeats 1000000
theorem insert_c {p : List Txt} {x : Txt} {v : AV} {D : Nat → Prop} {s : Mem} {K : AV → Mem → Prop} (hf : s.floor ≤ s.next) (hI : In D s) (hv : Sl s D v 1 (p.map txtC)) (hl : p.length < 1000)
    (hK : ∀ v' s', Keep s.next s s' → Sl s' (fun q => D q ∨ (s.next ≤ q ∧ q < s'.next)) v' 1 ((insR p x).map txtC) → K v' s') : C tab 126 [v, .str x] s K := by
  refine C_enter (cf := cf126) rfl (Nat.le_of_ble_eq_true rfl) ?_
  simp only [cf126, oo, on, om, og, oc, ou]
  have hlen : lenA false v = some p.length := hv.lenB
  (repeat' (with_reducible first|refine w_1 ?_|refine w_2 ?_|refine w_3 ?_|simp (maxDischargeDepth:=12) only [viz,Nat.reduceAdd]))
  refine W_inv p.length (fun i E s' => s' = s ∧ E.get 0 = v ∧ E.get 1 = .str x ∧ E.get 5 = .int .i64 i ∧ ∀ j y, j < i → p[j]? = some y → bl y x = true) (by delta cf126l0 oo on om og oc ou; exact rfl) ?_ ?_
  · (repeat' with_reducible simp (maxDischargeDepth:=12) only [viz,↓reduceIte])
    exact ⟨rfl, by omega⟩
  rintro i E s' hile _ ⟨rfl, g0, g1, g5, hlo⟩
  obtain ⟨v1, hc1, hv1⟩ := hv.cut (lo := none) (hi := some i) (Nat.zero_le _) (by simpa using hile)
  obtain ⟨v2, hc2, hv2⟩ := hv.cut (lo := some i) (hi := none) (by simpa using hile) (Nat.le_refl _)
  simp only [Option.getD_none, Option.getD_some, List.drop_zero, ← List.map_take] at hv1
  simp only [Option.getD_none, Option.getD_some, List.take_length, ← List.map_drop] at hv2
  have fin : ∀ v5 s5, (∀ y, p[i]? = some y → bl y x = false) → p[i]? ≠ some x → OwnL s5 (s'.next + 1) v5 9 1 (((p.take i).map txtC ++ [[.str x]]) ++ (p.drop i).map txtC) → Keep s'.next s' s5 → s'.next + 1 ≤ s5.next → K v5 s5 := fun v5 s5 h1 h2 ho hk hn => by
    refine hK v5 s5 hk ?_
    rw [insR_at hlo h1 hile, if_neg h2]
    have e : ((p.take i).map txtC ++ [[.str x]]) ++ (p.drop i).map txtC = (p.take i ++ [x] ++ p.drop i).map txtC := by simp [txtC]
    rw [e] at ho
    refine ho.sl (fun c hc => ?_) fun r n hr => Or.inr ?_
    · obtain ⟨y, _, rfl⟩ := List.mem_map.mp hc; rfl
    · have := ho.row r 0 n 1 hr; omega
  by_cases hlt : i < p.length
  · obtain ⟨y, hy⟩ := get_of hlt
    obtain ⟨q, hq, P, hld⟩ := hv.ldk hI hy rfl rfl
    have hl1 : loadA s' false 1 q = some (.str y) := by
      have := P.ld _ (Keep.refl _ _) false 1
      rw [this]; rfl
    (repeat' (with_reducible first|refine w_1 ?_|refine w_2 ?_|refine w_3 ?_|refine w_4 ?_|refine w_5 ?_|refine w_6 ?_|refine w_7 ?_|(refine w_8 (fun hb=>?_) (fun hb=>?_)<;>(try simp only [Bool.not_eq_true',Bool.not_eq_false'] at hb)<;>try simp only [hb])|((try refine w_9 ?_);simp (maxDischargeDepth:=12) only [viz,↓reduceIte,Nat.reduceEqDiff,reduceCtorEq,Nat.reduceAdd,g0,g1,g5,hlen,lt_true hlt,hq,hl1,bdA_some,bdV_nat,hc1,hc2])))
    · refine ⟨hlt, succ_av (by omega), fun j z hj hz => ?_⟩
      by_cases hji : j = i
      · rw [hji, hy] at hz; obtain rfl := Option.some.inj hz; exact hb
      · exact hlo j z (by omega) hz
    · have e : insR p x = p := by
        rw [insR_at hlo (fun z hz => by rw [hy] at hz; obtain rfl := Option.some.inj hz; assumption) hile, if_pos (by rw [hy, eq_of_beq hb])]
      refine hK v _ (Keep.refl _ _) ?_
      rw [e]
      exact hv.mono fun r hr => .inl hr
    · refine app_x (b := s'.next + 1) (xs := []) (ys := (p.take i).map txtC) (Nat.le_refl _) (Nat.le_refl _) (by simp only [ev, Env.get_set, ↓reduceIte, Nat.reduceEqDiff]; exact OwnL.emp _ _ _ _) ?_ ?_ (room (by simp; omega) (by simp; omega)) ?_
      · simp only [ev, Env.get_set, ↓reduceIte, Nat.reduceEqDiff]
        exact (mat_read _ _ _).trans (hv1.readk hI _ (pushes s' _))
      · exact hv1.uni
      · intro v3 s3 ho3 hx3 _ hr3
        have hk3 : Keep (s'.next + 1) ((s'.at (s'.next + 1)).push ⟨9, 1, []⟩) s3 := hx3.keep (Nat.le_refl _) fun r i n z h => by simp only [ev, Env.get_set, ↓reduceIte, Nat.reduceEqDiff, reduceCtorEq] at h
        have hkA : Keep s'.next s' (s3.at s'.floor) := (pushes s' ⟨9, 1, []⟩).then (Keep.of_at (s := s'.push ⟨9, 1, []⟩) hk3)
        have a3 : s'.next + 1 ≤ s3.next := hk3.next
        have ho3' : OwnL (s3.at s'.floor) (s'.next + 1) v3 9 1 ([] ++ (p.take i).map txtC) := ho3.at (by omega)
        rw [List.nil_append] at ho3'
        have hf3 : s'.floor ≤ s3.next := by omega
        (repeat' with_reducible simp (maxDischargeDepth:=12) only [viz,↓reduceIte,Nat.reduceEqDiff,reduceCtorEq,Int.reduceEq,Int.reduceNeg,Nat.reduceAdd,Nat.reduceLeDiff,g0,g1,g5,hlen,bdA_some,bdV_nat,hc1,hc2,hf3,le_s1 hf3])
        refine app_lit (k := 1) (b := s'.next + 1) (xs := (p.take i).map txtC) (s := s3.at s'.floor) (show s'.floor ≤ s'.next + 1 by omega) a3 ho3' (by simp only [ev, Env.get_set, ↓reduceIte, Nat.reduceEqDiff]) (by simp only [ev, Env.get_set, ↓reduceIte, Nat.reduceEqDiff]; rfl) rfl rfl (room (by simp; omega) (by simp; omega)) ?_
        intro v4 s4 ho4 hx4 hr4 _
        have hk34 : Keep (s'.next + 1) (s3.at s'.floor) s4 := hx4.keep a3 fun r i n z h => (ho3'.row r i n z h).1
        have hk4 : Keep s'.next s' s4 := hkA.trans (hk34.le (Nat.le_succ _))
        have a4 : s3.next ≤ s4.next := hx4.next
        (repeat' with_reducible simp (maxDischargeDepth:=12) only [viz,↓reduceIte,Nat.reduceEqDiff,reduceCtorEq,Int.reduceEq,Int.reduceNeg,Nat.reduceAdd,Nat.reduceLeDiff,g0,g1,g5,hlen,bdA_some,bdV_nat,hc1,hc2])
        refine app_x (b := s'.next + 1) (xs := (p.take i).map txtC ++ [[.str x]]) (ys := (p.drop i).map txtC) (by rw [hk4.floor]; omega) (by omega) (by simp only [ev, Env.get_set, ↓reduceIte, Nat.reduceEqDiff]; exact ho4) ?_ ?_ (room (by simp; omega) (by simp; omega)) ?_
        · simp only [ev, Env.get_set, ↓reduceIte, Nat.reduceEqDiff]
          exact hv2.readk hI _ hk4
        · exact hv2.uni
        · intro v5 s5 ho5 hx5 _ hr5
          have hk5 : Keep s'.next s' s5 := hk4.trans (hx5.keep (by omega) fun r i n z h => by
            have := ho4.row r i n z (by simpa only [ev, Env.get_set, ↓reduceIte, Nat.reduceEqDiff] using h); omega)
          (repeat' (with_reducible first|refine w_6 ?_|simp (maxDischargeDepth:=12) only [viz,↓reduceIte]))
          exact fin v5 s5 (fun z hz => by rw [hy] at hz; obtain rfl := Option.some.inj hz; assumption) (fun hz => by rw [hy] at hz; obtain rfl := Option.some.inj hz; simp_all) ho5 hk5 (by have := hx5.next; omega)
  · (repeat' (with_reducible first|refine w_1 ?_|refine w_2 ?_|refine w_4 ?_|refine w_5 ?_|refine w_7 ?_|((try refine w_9 ?_);simp (maxDischargeDepth:=12) only [viz,↓reduceIte,Nat.reduceEqDiff,reduceCtorEq,Nat.reduceAdd,g0,g1,g5,hlen,lt_false hlt,bdA_some,bdV_nat,hc1,hc2])))
    refine app_x (b := s'.next + 1) (xs := []) (ys := (p.take i).map txtC) (Nat.le_refl _) (Nat.le_refl _) (by simp only [ev, Env.get_set, ↓reduceIte, Nat.reduceEqDiff]; exact OwnL.emp _ _ _ _) ?_ ?_ (room (by simp; omega) (by simp; omega)) ?_
    · simp only [ev, Env.get_set, ↓reduceIte, Nat.reduceEqDiff]
      exact (mat_read _ _ _).trans (hv1.readk hI _ (pushes s' _))
    · exact hv1.uni
    · intro v3 s3 ho3 hx3 _ hr3
      have hk3 : Keep (s'.next + 1) ((s'.at (s'.next + 1)).push ⟨9, 1, []⟩) s3 := hx3.keep (Nat.le_refl _) fun r i n z h => by simp only [ev, Env.get_set, ↓reduceIte, Nat.reduceEqDiff, reduceCtorEq] at h
      have hkA : Keep s'.next s' (s3.at s'.floor) := (pushes s' ⟨9, 1, []⟩).then (Keep.of_at (s := s'.push ⟨9, 1, []⟩) hk3)
      have a3 : s'.next + 1 ≤ s3.next := hk3.next
      have ho3' : OwnL (s3.at s'.floor) (s'.next + 1) v3 9 1 ([] ++ (p.take i).map txtC) := ho3.at (by omega)
      rw [List.nil_append] at ho3'
      have hf3 : s'.floor ≤ s3.next := by omega
      (repeat' with_reducible simp (maxDischargeDepth:=12) only [viz,↓reduceIte,Nat.reduceEqDiff,reduceCtorEq,Int.reduceEq,Int.reduceNeg,Nat.reduceAdd,Nat.reduceLeDiff,g0,g1,g5,hlen,bdA_some,bdV_nat,hc1,hc2,hf3,le_s1 hf3])
      refine app_lit (k := 1) (b := s'.next + 1) (xs := (p.take i).map txtC) (s := s3.at s'.floor) (show s'.floor ≤ s'.next + 1 by omega) a3 ho3' (by simp only [ev, Env.get_set, ↓reduceIte, Nat.reduceEqDiff]) (by simp only [ev, Env.get_set, ↓reduceIte, Nat.reduceEqDiff]; rfl) rfl rfl (room (by simp; omega) (by simp; omega)) ?_
      intro v4 s4 ho4 hx4 hr4 _
      have hk34 : Keep (s'.next + 1) (s3.at s'.floor) s4 := hx4.keep a3 fun r i n z h => (ho3'.row r i n z h).1
      have hk4 : Keep s'.next s' s4 := hkA.trans (hk34.le (Nat.le_succ _))
      have a4 : s3.next ≤ s4.next := hx4.next
      (repeat' with_reducible simp (maxDischargeDepth:=12) only [viz,↓reduceIte,Nat.reduceEqDiff,reduceCtorEq,Int.reduceEq,Int.reduceNeg,Nat.reduceAdd,Nat.reduceLeDiff,g0,g1,g5,hlen,bdA_some,bdV_nat,hc1,hc2])
      refine app_x (b := s'.next + 1) (xs := (p.take i).map txtC ++ [[.str x]]) (ys := (p.drop i).map txtC) (by rw [hk4.floor]; omega) (by omega) (by simp only [ev, Env.get_set, ↓reduceIte, Nat.reduceEqDiff]; exact ho4) ?_ ?_ (room (by simp; omega) (by simp; omega)) ?_
      · simp only [ev, Env.get_set, ↓reduceIte, Nat.reduceEqDiff]
        exact hv2.readk hI _ hk4
      · exact hv2.uni
      · intro v5 s5 ho5 hx5 _ hr5
        have hk5 : Keep s'.next s' s5 := hk4.trans (hx5.keep (by omega) fun r i n z h => by
          have := ho4.row r i n z (by simpa only [ev, Env.get_set, ↓reduceIte, Nat.reduceEqDiff] using h); omega)
        (repeat' (with_reducible first|refine w_6 ?_|simp (maxDischargeDepth:=12) only [viz,↓reduceIte]))
        exact fin v5 s5 (fun z hz => by rw [List.getElem?_eq_none (by omega)] at hz; cases hz) (fun hz => by rw [List.getElem?_eq_none (by omega)] at hz; cases hz) ho5 hk5 (by have := hx5.next; omega)
end Go.Proofs.YthibbbfhkfebkaaGreat
/- Places and pieces by the document. No statement of the seat is proved here. -/
namespace Go.Proofs.YthibbbfhkfebkaaGreat
open Go Go.VI
set_option linter.unusedSimpArgs false
theorem insR_len (s : Txt) : ∀ p : List Txt, (insR p s).length ≤ p.length + 1
  | [] => Nat.le_refl _
  | x :: r => by
    have := insR_len s r
    unfold insR
    split
    · simp only [List.length_cons]; omega
    · split <;> simp only [List.length_cons] <;> omega
theorem places_len : ∀ (l : List Span) (p : List Txt), (l.foldl (fun p x => insR (insR p x.frm) x.to) p).length ≤ p.length + 2 * l.length
  | [], p => Nat.le_refl _
  | x :: l, p => by
    have := places_len l (insR (insR p x.frm) x.to)
    have a := insR_len x.to (insR p x.frm)
    have b := insR_len x.frm p
    simp only [List.foldl_cons, List.length_cons]; omega
theorem placesP_len (l : List Span) : (placesP l).length ≤ 1 + 2 * l.length := places_len l _
theorem setTo_len (out : List Span) (a : Txt) : (setTo out a).length = out.length := by
  unfold setTo
  cases h : out.getLast? with
  | none => rfl
  | some x =>
    obtain ⟨ys, rfl⟩ := List.getLast?_eq_some_iff.mp h
    simp
theorem scan_len (is : Txt → Bool) : ∀ (p : List Txt) (st : Bool × List Span) (n : Nat), 2 * st.2.length ≤ n + (if st.1 then 1 else 0) → 2 * (p.foldl (fun st a => (is a, nextOut is st.1 st.2 a)) st).2.length ≤ n + p.length + 1
  | [], st, n, h => by simp only [List.foldl_nil, List.length_nil]; split at h <;> omega
  | a :: p, st, n, h => by
    have := scan_len is p (is a, nextOut is st.1 st.2 a) (n + 1) (by
      simp only [nextOut]
      cases h1 : is a <;> cases h2 : st.1 <;> simp [h2, setTo_len] at h ⊢ <;> omega)
    simp only [List.foldl_cons, List.length_cons]; omega
attribute [local irreducible] Ws Wp W C
set_option maxHeartbeats 4000000
theorem places_c {l : List Span} {v : AV} {D : Nat → Prop} {s : Mem} {K : AV → Mem → Prop} (hf : s.floor ≤ s.next) (hI : In D s) (hv : Spans s D v l) (hl : l.length < 300)
    (hK : ∀ v' s', Keep s.next s s' → Sl s' (fun q => s.next ≤ q ∧ q < s'.next) v' 1 ((placesP l).map txtC) → K v' s') : C tab 76 [v] s K := by
  refine C_enter (cf := cf76) rfl (Nat.le_of_ble_eq_true rfl) ?_
  simp only [cf76, oo, on, om, og, oc, ou]
  have hlen : lenA false v = some l.length := hv.lenB
  (repeat' (with_reducible first|refine w_1 ?_|refine w_2 ?_|refine w_3 ?_|simp (maxDischargeDepth:=12) only [viz,↓reduceIte,Nat.reduceAdd]))
  refine W_inv l.length (fun i E s' => ∃ w, Keep s.next s s' ∧ Sl s' (fun q => s.next ≤ q ∧ q < s'.next) w 1 ((placesP (l.take i)).map txtC) ∧ E.get 0 = v ∧ E.get 3 = w ∧ E.get 4 = .int .i64 i) (by delta cf76l0 oo on om og oc ou; exact rfl) ?_ ?_
  · refine ⟨_, pushes _ _, Sl.of_row (r := s.next) (n := 1) (ty := 9) ?_ ?_ ?_ rfl, (by simp only [ev, Env.get_set, ↓reduceIte, Nat.reduceEqDiff]), (by simp only [ev, Env.get_set, ↓reduceIte, Nat.reduceEqDiff]), (by simp only [ev, Env.get_set, ↓reduceIte, Nat.reduceEqDiff]; rfl)⟩
    · rw [Mem.get_push, if_pos rfl]; rfl
    · exact ⟨Nat.le_refl _, by rw [Mem.next_push]; omega⟩
    · intro c hc
      obtain ⟨y, _, rfl⟩ := List.mem_map.mp hc; rfl
  rintro i E s' hile _ ⟨w, hk, hw, g0, g3, g4⟩
  by_cases hlt : i < l.length
  · obtain ⟨x, hx⟩ := get_of hlt
    obtain ⟨p, hp, P, hld⟩ := hv.ldk hI hx rfl rfl
    have l0 : ∀ M, Keep s.next s M → loadA M false 1 (VI.adr p 0) = some (.str x.frm) := fun M hM => by
      have := P.ldf _ hM 0 false 1 (by simp [spanC])
      rw [this]; rfl
    have l1 : ∀ M, Keep s.next s M → loadA M false 1 (VI.adr p 1) = some (.str x.to) := fun M hM => by
      have := P.ldf _ hM 1 false 1 (by simp [spanC])
      rw [this]; rfl
    have pl := placesP_len (l.take i)
    rw [List.length_take] at pl
    have il := insR_len x.frm (placesP (l.take i))
    (repeat' (with_reducible first|refine w_1 ?_|refine w_2 ?_|refine w_3 ?_|refine w_4 ?_|refine w_5 ?_|simp (maxDischargeDepth:=12) only [viz,↓reduceIte,Nat.reduceEqDiff,reduceCtorEq,g0,g3,g4,hlen,lt_true hlt,hp,P.adr,l0 _ hk]))
    refine insert_c (hk.ok hf) (fun q hq => hq.2) hw (by omega) fun w2 s2 h2 hw2 => ?_
    have hk2 := hk.then h2
    (repeat' (with_reducible first|refine w_2 ?_|simp (maxDischargeDepth:=12) only [viz,↓reduceIte,Nat.reduceEqDiff,reduceCtorEq,g0,g4,hp,P.adr,l1 _ hk2]))
    refine insert_c (hk2.ok hf) (D := fun q => s.next ≤ q ∧ q < s2.next) (fun q hq => hq.2) (hw2.mono fun q hq => ?_) (by omega) fun w3 s3 h3 hw3 => ?_
    · have := hk.next; have := h2.next; rcases hq with hq | hq <;> omega
    have hk3 := hk2.then h3
    (repeat' (with_reducible first|refine w_2 ?_|simp (maxDischargeDepth:=12) only [viz,↓reduceIte,Nat.reduceEqDiff,reduceCtorEq,g0,g4]))
    refine ⟨hlt, w3, hk3, ?_, rfl, succ_av (by omega)⟩
    have e : l.take (i + 1) = l.take i ++ [x] := by rw [List.take_add_one, hx]; rfl
    rw [e, places_snoc]
    refine hw3.mono fun q hq => ?_
    have := hk2.next; have := h3.next; rcases hq with hq | hq <;> omega
  · (repeat' (with_reducible first|refine w_1 ?_|refine w_2 ?_|refine w_4 ?_|refine w_6 ?_|refine w_7 ?_|simp (maxDischargeDepth:=12) only [viz,↓reduceIte,Nat.reduceEqDiff,reduceCtorEq,g0,g3,g4,hlen,lt_false hlt]))
    rw [List.take_of_length_le (by omega)] at hw
    exact hK _ _ hk hw
end Go.Proofs.YthibbbfhkfebkaaGreat
/- Pieces by the document. No statement of the seat is proved here. -/
namespace Go.Proofs.YthibbbfhkfebkaaGreat
open Go Go.VI
set_option linter.unusedSimpArgs false
theorem span_cells (l : List Span) : ∀ c ∈ l.map spanC, c.length = 2 := fun c hc => by
  obtain ⟨y, _, rfl⟩ := List.mem_map.mp hc; rfl
theorem store_to {M : Mem} {r i ty : Nat} {els : List (List AV)} {f t a : Txt} (h : M.get r = some ⟨ty, 2, els⟩) (hc : els[i]? = some [.str f, .str t]) (hf : M.floor ≤ r) :
    storeA M 1 (.ptr r i 1) (.str a) = some (M.put r (some ⟨ty, 2, els.set i [.str f, .str a]⟩)) := by
  simp only [viz,↓reduceIte,Nat.reduceEqDiff,reduceCtorEq,Int.reduceEq,Int.reduceNeg,Nat.reduceAdd,Nat.reduceLeDiff, h, hc, hf]
theorem setTo_set {out : List Span} {x : Span} (a : Txt) (h : out[out.length - 1]? = some x) : (setTo out a).map spanC = (out.map spanC).set (out.length - 1) [.str x.frm, .str a] := by
  have hg : out.getLast? = some x := by rw [List.getLast?_eq_getElem?]; exact h
  obtain ⟨ys, rfl⟩ := List.getLast?_eq_some_iff.mp hg
  rw [setTo_snoc]
  simp [spanC]
theorem next_1 {q op : Bool} (h : (q && !op) = true) : (!q && op) = false := by cases q <;> cases op <;> simp_all
theorem next_2 {is : Txt → Bool} {q op : Bool} {out : List Span} {a : Txt} (e : is a = q) (h : (!q && op) = true) : nextOut is op out a = setTo out a := by
  subst e; unfold nextOut; cases h1 : is a <;> cases op <;> simp_all
theorem next_3 {is : Txt → Bool} {q op : Bool} {out : List Span} {a : Txt} (e : is a = q) (h1 : (q && !op) = false) (h2 : (!q && op) = false) : nextOut is op out a = out := by
  subst e; unfold nextOut; cases h1 : is a <;> cases op <;> simp_all
attribute [local irreducible] Ws Wp W C
set_option maxHeartbeats 4000000
end Go.Proofs.YthibbbfhkfebkaaGreat
/- Covers by the document. No statement of the seat is proved here. -/
namespace Go.Proofs.YthibbbfhkfebkaaGreat
open Go Go.VI
set_option linter.unusedSimpArgs false
attribute [local irreducible] Ws Wp W C
set_option maxHeartbeats 4000000
end Go.Proofs.YthibbbfhkfebkaaGreat

