/- What is turned stays in form: the plain law. No statement of the seat is proved here. -/
import Derived.Test.YthibbbfhkfebkaaVZFB
import Derived.Test.YthibbbfhkfebkaaVZVE
import Derived.Test.YthibbbfhkfebkaaVZFC
namespace Go.Proofs.Ythibbbfhkfebkaa
open Go Go.VI
set_option linter.unusedSimpArgs false
theorem rising_mk {α : Type} {key : α → Txt} {ok : Option α → α → Bool} : ∀ (l : List α) (p : Option α), (∀ x ∈ l, ∀ q, (∀ y, q = some y → bl (key y) (key x) = true) → ok q x = true) → l.Pairwise (fun a b => bl (key a) (key b) = true) → (∀ y, p = some y → ∀ x ∈ l, bl (key y) (key x) = true) → rising ok p l = true
  | [], _, _, _, _ => rfl
  | x :: l, p, h, hp, hq => by
    have hc := List.pairwise_cons.mp hp
    simp only [rising, Bool.and_eq_true]
    refine ⟨h x (by simp) p fun y hy => hq y hy x (by simp), rising_mk l (some x) (fun z hz => h z (by simp [hz])) hc.2 fun y hy z hz => ?_⟩
    obtain rfl := Option.some.inj hy
    exact hc.1 z hz
theorem holds_iff (l : List Hold) : holdsS l = true ↔ l.length ≤ 1024 ∧ (∀ x ∈ l, mayH x = true) ∧ l.Pairwise fun a b => bl a.key b.key = true := by
  constructor
  · intro h
    have h' := h
    simp only [holdsS, Bool.and_eq_true, decide_eq_true_eq] at h'
    refine ⟨h'.1, hold_may h, rising_up (key := Hold.key) (fun q x hq => ?_) l none h'.2⟩
    simp only [holdOk, Bool.and_eq_true] at hq
    exact hq.2
  · rintro ⟨h1, h2, h3⟩
    simp only [holdsS, Bool.and_eq_true, decide_eq_true_eq]
    refine ⟨h1, rising_mk (key := Hold.key) l none (fun x hx q hq => ?_) h3 (by simp)⟩
    simp only [holdOk, Bool.and_eq_true]
    refine ⟨h2 x hx, ?_⟩
    cases q with
    | none => rfl
    | some y => exact hq y rfl
def mayM (m : Mark) : Bool := decide (m.key.length ≤ 64) && !decide (m.token = 0)
theorem marks_iff (l : List Mark) : marksS l = true ↔ l.length ≤ 1024 ∧ (∀ x ∈ l, mayM x = true) ∧ l.Pairwise fun a b => bl a.key b.key = true := by
  constructor
  · intro h
    have h' := h
    simp only [marksS, Bool.and_eq_true, decide_eq_true_eq] at h'
    refine ⟨h'.1, fun x hx => ?_, rising_up (key := Mark.key) (fun q x hq => ?_) l none h'.2⟩
    · have := mark_key h x hx
      simp [mayM, this]
    · simp only [markOk, Bool.and_eq_true] at hq
      exact hq.2
  · rintro ⟨h1, h2, h3⟩
    simp only [marksS, Bool.and_eq_true, decide_eq_true_eq]
    refine ⟨h1, rising_mk (key := Mark.key) l none (fun x hx q hq => ?_) h3 (by simp)⟩
    simp only [markOk, Bool.and_eq_true]
    refine ⟨by have := h2 x hx; simpa only [mayM, Bool.and_eq_true] using this, ?_⟩
    cases q with
    | none => rfl
    | some y => exact hq y rfl
theorem putG_mem {α : Type} {key : α → Txt} {h y : α} {l : List α} (hy : y ∈ putG key h l) : y = h ∨ (y ∈ l ∧ key y ≠ key h) := by
  induction l with
  | nil => left; simpa [putG] using hy
  | cons x r ih =>
    unfold putG at hy
    split at hy
    · rename_i hx
      rcases List.mem_cons.mp hy with rfl | hy
      · right
        refine ⟨by simp, fun e => ?_⟩
        rw [e, bl_irrefl] at hx; cases hx
      · rcases ih hy with rfl | ⟨a, b⟩
        · exact .inl rfl
        · exact .inr ⟨by simp [a], b⟩
    · rcases List.mem_cons.mp hy with rfl | hy
      · exact .inl rfl
      · obtain ⟨a, b⟩ := List.mem_filter.mp hy
        exact .inr ⟨a, by simpa using b⟩
theorem putG_up {α : Type} {key : α → Txt} (h : α) {l : List α} (hp : l.Pairwise fun a b => bl (key a) (key b) = true) : (putG key h l).Pairwise fun a b => bl (key a) (key b) = true := by
  induction l with
  | nil => simp [putG]
  | cons x r ih =>
    have hc := List.pairwise_cons.mp hp
    unfold putG
    split
    · rename_i hx
      refine List.pairwise_cons.mpr ⟨fun y hy => ?_, ih hc.2⟩
      rcases putG_mem hy with rfl | ⟨a, _⟩
      · exact hx
      · exact hc.1 y a
    · rename_i hx
      have hx : bl (key x) (key h) = false := by simpa using hx
      refine List.pairwise_cons.mpr ⟨fun y hy => ?_, hp.filter _⟩
      obtain ⟨a, b⟩ := List.mem_filter.mp hy
      have b : key y ≠ key h := by simpa using b
      have key2 : ∀ z, bl z (key h) = false → z ≠ key h → bl (key h) z = true := fun z h1 h2 => by
        cases h3 : bl (key h) z with
        | true => rfl
        | false => exact absurd (bl_total h1 h3) h2
      rcases List.mem_cons.mp a with rfl | a
      · exact key2 _ hx b
      · have h1 := hc.1 y a
        cases h2 : bl (key y) (key h) with
        | true => have := bl_trans h1 h2; rw [hx] at this; cases this
        | false => exact key2 _ h2 b
theorem Good.turn {n : Nat} {t : Table} {x : Intent} (h : Good n t) (hx : GoodI x) (hn : n < 1000) : Good (n + 1) (turnT t x) := by
  obtain ⟨h1, h2, h3, h4, h5, h6⟩ := h
  obtain ⟨a1, a2, a3⟩ := (holds_iff _).mp h1
  obtain ⟨b1, b2, b3⟩ := (marks_iff _).mp h2
  obtain ⟨x0, x1, _, _⟩ := hx.ttl
  obtain ⟨u0, u1⟩ := until_may (ttl := x.ttl) h3 h4 x1
  have xk := hx.k
  have xt := hx.t
  have put : ∀ y : Hold, mayH y = true → holdsS (putG Hold.key y t.holds) = true ∧ (putG Hold.key y t.holds).length ≤ n + 1 := fun y hy => by
    have hl := putG_len Hold.key y t.holds
    refine ⟨(holds_iff _).mpr ⟨by omega, fun z hz => ?_, putG_up y a3⟩, by omega⟩
    rcases putG_mem hz with rfl | ⟨hz, _⟩
    · exact hy
    · exact a2 z hz
  unfold turnT
  split
  · obtain ⟨p1, p2⟩ := put ⟨x.key, x.token, untilS t.now x.ttl⟩ (by simp only [mayH]; simp; omega)
    have hl : (dropM t.marks x.key).length ≤ t.marks.length := List.length_filter_le _ _
    refine ⟨p1, (marks_iff _).mpr ⟨by show (dropM t.marks x.key).length ≤ 1024; omega, fun z hz => b2 z (List.mem_filter.mp hz).1, b3.filter _⟩, h3, h4, p2, by show (dropM t.marks x.key).length ≤ n + 1; omega⟩
  · split
    · have hl : (dropH t.holds x.key).length ≤ t.holds.length := List.length_filter_le _ _
      have hm := putG_len Mark.key (mkM t.marks x.key x.token) t.marks
      refine ⟨(holds_iff _).mpr ⟨by show (dropH t.holds x.key).length ≤ 1024; omega, fun z hz => a2 z (List.mem_filter.mp hz).1, a3.filter _⟩, (marks_iff _).mpr ⟨by show (putG Mark.key _ t.marks).length ≤ 1024; omega, fun z hz => ?_, putG_up _ b3⟩, h3, h4, by show (dropH t.holds x.key).length ≤ n + 1; omega, by show (putG Mark.key _ t.marks).length ≤ n + 1; omega⟩
      rcases putG_mem hz with rfl | ⟨hz, _⟩
      · unfold mkM mayM
        simp only [Bool.and_eq_true, decide_eq_true_eq, Bool.not_eq_true', decide_eq_false_iff_not]
        refine ⟨xk, ?_⟩
        split <;> omega
      · exact b2 z hz
    · split
      · rename_i hk
        obtain ⟨hin, hkey⟩ := find_in hk.2
        have hmh := a2 _ hin
        obtain ⟨p1, p2⟩ := put ⟨(gotH (findH t.holds x.key)).key, (gotH (findH t.holds x.key)).token, max (gotH (findH t.holds x.key)).till (untilS t.now x.ttl)⟩ (by simp only [mayH] at hmh ⊢; simp at hmh ⊢; omega)
        exact ⟨p1, h2, h3, h4, p2, by show t.marks.length ≤ n + 1; omega⟩
      · exact ⟨h1, h2, h3, h4, by omega, by omega⟩
def withI2 (t : Table) (l : List Intent) : Table := ⟨t.now, t.spans, t.frozen, t.holds, t.marks, l⟩
theorem turn_with (t : Table) (x : Intent) (l : List Intent) : turnT (withI2 t l) x = withI2 (turnT t x) l := by
  unfold turnT withI2
  simp only
  split
  · rfl
  · split
    · rfl
    · split <;> rfl
def finP (t : Table) (c q : Int) (commit : Bool) : Int × Int × Table :=
  if mayT t = false then (1, 0, zeroT)
  else if t.ints.filter (isX c q) = [] then (4, 0, zeroT)
  else (0, ((t.ints.filter (isX c q)).length : Int), withI2 (if commit then (t.ints.filter (isX c q)).foldl turnT t else t) (t.ints.filter fun x => !isX c q x))
theorem may_good {t : Table} (h : mayT t = true) (hl : t.holds.length ≤ 100 ∧ t.marks.length ≤ 100) : Good 100 t := by
  simp only [mayT, Bool.and_eq_true, decide_eq_true_eq] at h
  exact ⟨h.1.1.1.1.1.2, h.1.1.1.1.2, h.1.1.1.1.1.1.1.1.1, h.1.1.1.1.1.1.1.1.2, hl.1, hl.2⟩
theorem may_goodI {t : Table} (h : mayT t = true) (hw : ∀ x ∈ t.ints, 0 ≤ x.token) : ∀ x ∈ t.ints, GoodI x := fun x hx => by
  simp only [mayT, Bool.and_eq_true] at h
  obtain ⟨q, hq⟩ := rising_mem h.2 x hx
  simp only [intR, intOk, Bool.and_eq_true, decide_eq_true_eq, Bool.not_eq_true', decide_eq_false_iff_not] at hq
  have := hw x hx
  exact ⟨hq.1.1.1.1.1, by have := hq.1.1.2; omega, hq.1.1.1.2⟩
end Go.Proofs.Ythibbbfhkfebkaa
/- Transactions done with: the program. No statement of the seat is proved here. -/
namespace Go.Proofs.Ythibbbfhkfebkaa
open Go Go.VI
set_option linter.unusedSimpArgs false
attribute [local irreducible] Ws Wp W C
set_option maxHeartbeats 4000000
theorem finish_c {t : Table} {w : TV} {c q : Int} {commit : Bool} {D : Nat → Prop} {s : Mem} {K : AV → Mem → Prop} (hf : s.floor ≤ s.next) (hI : In D s) (hw : TabIn s D w t) (hs : Small t) (hl : t.holds.length ≤ 100 ∧ t.marks.length ≤ 100) (hli : t.ints.length ≤ 200) (htk : ∀ x ∈ t.ints, 0 ≤ x.token)
    (hK : ∀ w' s', Keep s.next s s' → TabIn s' (fun r => D r ∨ (s.next ≤ r ∧ r < s'.next)) w' (finP t c q commit).2.2 → K (.tup [.agg (tabC (finP t c q commit).2.2 w'), .int .i64 (finP t c q commit).2.1, .int .i64 (finP t c q commit).1]) s') : C tab 8 [.agg (tabC t w), .agg [.int .i64 c, .int .u64 q], .bool commit] s K := by
  refine C_enter (cf := cf8) rfl (Nat.le_of_ble_eq_true rfl) ?_
  simp only [cf8, oo, on, om, og, oc, ou, tabC]
  have hz : ∀ M e R, Keep s.next s M → finP t c q commit = (e, 0, zeroT) → K (.tup [.agg [.int .i64 0, .nilS, .nilS, .nilS, .nilS, .nilS], .int .i64 0, .int .i64 e]) (M.put (s.next + 1 + 1) R) := fun M e R hM h => by
    rw [h] at hK
    exact hK zeroW _ (hM.trans (Keep.put (by omega) _)) (zero_in _ _)
  have r0 := R3.of_push s ⟨27, 6, [[.int .i64 t.now, w.sp, w.fr, w.ho, w.ma, w.it]]⟩ ⟨30, 2, [[.int .i64 c, .int .u64 q]]⟩ ⟨27, 6, [[.int .i64 0, .nilS, .nilS, .nilS, .nilS, .nilS]]⟩
  have k0 := (pushes s ⟨27, 6, [[.int .i64 t.now, w.sp, w.fr, w.ho, w.ma, w.it]]⟩).then ((pushes _ ⟨30, 2, [[.int .i64 c, .int .u64 q]]⟩).then (pushes _ ⟨27, 6, [[.int .i64 0, .nilS, .nilS, .nilS, .nilS, .nilS]]⟩))
  (repeat' (with_reducible first|refine w_1 ?_|refine w_2 ?_|refine w_3 ?_|refine w_4 ?_|refine w_5 ?_|refine w_6 ?_|refine w_7 ?_|(refine w_8 (fun hb=>?_) (fun hb=>?_)<;>(try simp only [Bool.not_eq_true',Bool.not_eq_false'] at hb)<;>try simp only [hb])|refine w_13 (fun hc=>(by (try simp only [Bool.and_eq_true] at hc);simp (maxDischargeDepth:=12) only [viz,↓reduceIte,Nat.reduceEqDiff,reduceCtorEq,Int.reduceEq,Int.reduceNeg,Nat.reduceAdd,Nat.reduceLeDiff,hw.sp.cell,hw.fr.cell,hw.ho.cell,hw.ma.cell,hw.it.cell,r0.a,cond_true,cond_false,hc];first|exact ⟨rfl,rfl⟩|exact rfl)) ?_|refine w_12 ?_|((try refine w_9 ?_);simp (maxDischargeDepth:=12) only [viz,↓reduceIte,Nat.reduceEqDiff,reduceCtorEq,Int.reduceEq,Int.reduceNeg,Nat.reduceAdd,Nat.reduceLeDiff,hw.sp.cell,hw.fr.cell,hw.ho.cell,hw.ma.cell,hw.it.cell,r0.a])))
  generalize ((s.push _).push _).push _ = S0 at *
  refine check_c (D := D) (k0.ok hf) (hI.keep k0) (hw.keep fun r hr => k0.get r (hI r hr)) hs fun s1 h1 => ?_
  rw [tab_same]
  have r1 := r0.then h1
  have k1 := k0.then h1
  have f1 : s1.floor ≤ s.next + 1 + 1 := by rw [k1.floor]; omega
  (repeat' (with_reducible first|refine w_1 ?_|refine w_2 ?_|refine w_3 ?_|refine w_4 ?_|refine w_5 ?_|refine w_6 ?_|refine w_7 ?_|(refine w_8 (fun hb=>?_) (fun hb=>?_)<;>(try simp only [Bool.not_eq_true',Bool.not_eq_false'] at hb)<;>try simp only [hb])|refine w_13 (fun hc=>(by (try simp only [Bool.and_eq_true] at hc);simp (maxDischargeDepth:=12) only [viz,↓reduceIte,Nat.reduceEqDiff,reduceCtorEq,Int.reduceEq,Int.reduceNeg,Nat.reduceAdd,Nat.reduceLeDiff,r1.a,r1.b,r1.c,f1,cond_true,cond_false,hc];first|exact ⟨rfl,rfl⟩|exact rfl)) ?_|refine w_12 ?_|((try refine w_9 ?_);simp (maxDischargeDepth:=12) only [viz,↓reduceIte,Nat.reduceEqDiff,reduceCtorEq,Int.reduceEq,Int.reduceNeg,Nat.reduceAdd,Nat.reduceLeDiff,r1.a,r1.b,r1.c,f1])))
  · refine hz _ _ _ k1 ?_
    unfold finP
    rw [if_pos (by grind)]
  have hmay : mayT t = true := by grind
  have hgood := may_good hmay hl
  have hgi := may_goodI hmay htk
  refine own_c (D := D) (k1.ok hf) (hI.keep k1) (hw.keep fun r hr => k1.get r (hI r hr)) hs fun w1 m s4 h4 o4 => ?_
  have r4 := r1.then h4
  have k4 := k1.then h4
  have f4 : s4.floor ≤ s.next := by rw [k4.floor]; exact hf
  have f44 : s4.floor ≤ s4.next := k4.ok hf
  have n1 := r1.n
  have om := o4.mn
  have ob := o4.bm
  have w1t := o4.tab
  have o5 := o4.put (r := s.next) (by omega) (some ⟨27, 6, [[.int .i64 t.now, w1.sp, w1.fr, w1.ho, w1.ma, w1.it]]⟩)
  have r5 := r4.put ⟨27, 6, [[.int .i64 t.now, w1.sp, w1.fr, w1.ho, w1.ma, w1.it]]⟩
  have k5 : Keep s.next s (s4.put s.next (some ⟨27, 6, [[.int .i64 t.now, w1.sp, w1.fr, w1.ho, w1.ma, w1.it]]⟩)) := k4.trans (Keep.put (Nat.le_refl _) _)
  have ne4 : (s.next = s4.next) = False := by simp; omega
  simp only [tabC]
  (repeat' (with_reducible first|refine w_1 ?_|refine w_2 ?_|refine w_3 ?_|refine w_4 ?_|refine w_5 ?_|refine w_6 ?_|refine w_7 ?_|(refine w_8 (fun hb=>?_) (fun hb=>?_)<;>(try simp only [Bool.not_eq_true',Bool.not_eq_false'] at hb)<;>try simp only [hb])|refine w_13 (fun hc=>(by (try simp only [Bool.and_eq_true] at hc);simp (maxDischargeDepth:=12) only [viz,↓reduceIte,Nat.reduceEqDiff,reduceCtorEq,Int.reduceEq,Int.reduceNeg,Nat.reduceAdd,Nat.reduceLeDiff,r4.a,r4.b,r4.c,f4,f44,ne4,w1t.sp.cell,w1t.fr.cell,w1t.ho.cell,w1t.ma.cell,w1t.it.cell,cond_true,cond_false,hc];first|exact ⟨rfl,rfl⟩|exact rfl)) ?_|refine w_12 ?_|((try refine w_9 ?_);simp (maxDischargeDepth:=12) only [viz,↓reduceIte,Nat.reduceEqDiff,reduceCtorEq,Int.reduceEq,Int.reduceNeg,Nat.reduceAdd,Nat.reduceLeDiff,r4.a,r4.b,r4.c,f4,f44,ne4,w1t.sp.cell,w1t.fr.cell,w1t.ho.cell,w1t.ma.cell,w1t.it.cell])))
  generalize hS4 : s4.put s.next _ = S4 at *
  have n4S : S4.next = s4.next := by rw [← hS4]; rfl
  have f4S : S4.floor ≤ s.next := by rw [k5.floor]; exact hf
  have kp := pushes S4 ⟨25, 1, [[.nilS]]⟩
  have r6 := r5.then kp
  have k6 := k5.then kp
  have o6 := o5.keep kp
  have ac : Acc s4.next (s.next + 1) c q .nilS [] (S4.push ⟨25, 1, [[.nilS]]⟩) := ⟨r6.b, by rw [Mem.get_push, if_pos n4S.symm], OwnL.nil _ _ _ _, by rw [next_push']; omega, by rw [floor_push']; omega, by omega, by simp⟩
  have n6 : (S4.push ⟨25, 1, [[.nilS]]⟩).next = s4.next + 1 := by rw [next_push', n4S]
  have f6 : (S4.push ⟨25, 1, [[.nilS]]⟩).floor ≤ s.next := by rw [floor_push']; exact f4S
  have hvr : ∀ r i n z, w1.it = .own r i n z → r < s4.next := fun r i n z e => by have := (o5.it.row r i n z e).2; omega
  have hnx : ∀ p, p < m → ∀ i n z, w1.it ≠ .own p i n z := fun p hp i n z e => by have := (o5.it.row p i n z e).1; omega
  generalize S4.push _ = S6 at *
  refine itDel_c (m := m) (l := t.ints) (by omega) o6.it hvr (by omega) (by omega) (by omega) ac fun v7 lv s7 h7 m7 ac7 ot7 => ?_
  have n7 := h7.next
  have k7 : Keep s.next s s7 := k6.trans (h7.le (by omega))
  have f7 : s7.floor ≤ s.next := by rw [k7.floor]; exact hf
  have f7' : s7.floor ≤ s.next + 1 + 1 := by omega
  have a7 : s7.get s.next = _ := (h7.get s.next (by omega)).trans r6.a
  have b7 : s7.get (s.next + 1) = _ := (h7.get _ (by omega)).trans r6.b
  have c7 : s7.get (s.next + 1 + 1) = _ := (h7.get _ (by omega)).trans r6.c
  have cv7 := m7.cell
  have gl7 := ac7.l
  have ne5 : (s4.next = s.next) = False := by simp; omega
  have hlv : lenA false lv = some (t.ints.filter (isX c q)).length := by rw [ac7.o.len, List.length_map]
  have n33 : (s.next + 1 + 1 = s.next) = False := by simp; omega
  (repeat' (with_reducible first|refine w_1 ?_|refine w_2 ?_|refine w_3 ?_|refine w_4 ?_|refine w_5 ?_|refine w_6 ?_|refine w_7 ?_|(refine w_8 (fun hb=>?_) (fun hb=>?_)<;>(try simp only [Bool.not_eq_true',Bool.not_eq_false'] at hb)<;>try simp only [hb])|refine w_13 (fun hc=>(by (try simp only [Bool.and_eq_true] at hc);simp (maxDischargeDepth:=12) only [viz,↓reduceIte,Nat.reduceEqDiff,reduceCtorEq,Int.reduceEq,Int.reduceNeg,Nat.reduceAdd,Nat.reduceLeDiff,a7,b7,c7,gl7,f7,f7',cv7,cells_cell cv7,ne5,hlv,n33,cond_true,cond_false,hc];first|exact ⟨rfl,rfl⟩|exact rfl)) ?_|refine w_12 ?_|((try refine w_9 ?_);simp (maxDischargeDepth:=12) only [viz,↓reduceIte,Nat.reduceEqDiff,reduceCtorEq,Int.reduceEq,Int.reduceNeg,Nat.reduceAdd,Nat.reduceLeDiff,a7,b7,c7,gl7,f7,f7',cv7,cells_cell cv7,ne5,hlv,n33])))
  · have e : t.ints.filter (isX c q) = [] := by
      cases h : t.ints.filter (isX c q) with
      | nil => rfl
      | cons a b => rw [h] at hb; simp at hb; omega
    refine hz _ _ _ (k7.trans (Keep.put (Nat.le_refl _) _)) ?_
    unfold finP
    rw [if_neg (by rw [hmay]; simp), if_pos e]
  have hne : t.ints.filter (isX c q) ≠ [] := by
    intro h; rw [h] at hb; simp at hb
  generalize hY : t.ints.filter (isX c q) = Y at *
  generalize hZ : (t.ints.filter fun x => !isX c q x) = Z at *
  have hYl : Y.length ≤ 200 := by
    rw [← hY]
    have := List.length_filter_le (isX c q) t.ints; omega
  have hYg : ∀ x ∈ Y, GoodI x := fun x hx => by
    rw [← hY] at hx
    exact hgi x (List.mem_filter.mp hx).1
  have hfin : finP t c q commit = (0, (Y.length : Int), withI2 (if commit then Y.foldl turnT t else t) Z) := by
    unfold finP
    rw [if_neg (by rw [hmay]; simp), hY, if_neg hne, hZ]
  have e7 := ac7.o.sl (D := fun p => s4.next + 1 ≤ p ∧ p < s7.next) (int_cells _) fun r n h => ac7.o.row r 0 n 6 h
  have t7 : TabIn (s7.put s.next (some ⟨27, 6, [[.int .i64 t.now, w1.sp, w1.fr, w1.ho, w1.ma, v7]]⟩)) (fun p => s1.next ≤ p ∧ p < s7.next) ⟨w1.sp, w1.fr, w1.ho, w1.ma, v7⟩ (withI2 t Z) := by
    have g : ∀ p, s1.next ≤ p ∧ p < m → (s7.put s.next (some ⟨27, 6, [[.int .i64 t.now, w1.sp, w1.fr, w1.ho, w1.ma, v7]]⟩)).get p = S6.get p := fun p hp => by
      rw [Mem.get_put, if_neg (by omega)]; exact h7.get p hp.2
    refine ⟨(o6.sp.keep g).mono fun r hr => ⟨hr.1, by omega⟩, (o6.fr.keep g).mono fun r hr => ⟨hr.1, by omega⟩, (o6.ho.keep g).mono fun r hr => ⟨hr.1, by omega⟩, (o6.ma.keep g).mono fun r hr => ⟨hr.1, by omega⟩, (m7.keep fun p hp => ?_).mono fun r hr => ⟨by omega, by omega⟩⟩
    rw [Mem.get_put, if_neg (by omega)]
  have n7' : (s7.put s.next (some ⟨27, 6, [[.int .i64 t.now, w1.sp, w1.fr, w1.ho, w1.ma, v7]]⟩)).next = s7.next := rfl
  have g7' : ∀ p, p ≠ s.next → (s7.put s.next (some ⟨27, 6, [[.int .i64 t.now, w1.sp, w1.fr, w1.ho, w1.ma, v7]]⟩)).get p = s7.get p := fun p hp => by rw [Mem.get_put, if_neg hp]
  have a7' : (s7.put s.next (some ⟨27, 6, [[.int .i64 t.now, w1.sp, w1.fr, w1.ho, w1.ma, v7]]⟩)).get s.next = some ⟨27, 6, [[.int .i64 t.now, w1.sp, w1.fr, w1.ho, w1.ma, v7]]⟩ := by rw [Mem.get_put, if_pos rfl]
  have f7'' : (s7.put s.next (some ⟨27, 6, [[.int .i64 t.now, w1.sp, w1.fr, w1.ho, w1.ma, v7]]⟩)).floor = s7.floor := rfl
  have k7' : Keep s.next s (s7.put s.next (some ⟨27, 6, [[.int .i64 t.now, w1.sp, w1.fr, w1.ho, w1.ma, v7]]⟩)) := k7.trans (Keep.put (Nat.le_refl _) _)
  generalize s7.put s.next _ = S7 at *
  refine W_inv Y.length (fun i E s' => ∃ w', s'.get s.next = some ⟨27, 6, [tabC (withI2 (if commit then (Y.take i).foldl turnT t else t) Z) w']⟩ ∧ TabIn s' (fun p => s1.next ≤ p ∧ p < s'.next) w' (withI2 (if commit then (Y.take i).foldl turnT t else t) Z) ∧ Good (100 + i) (withI2 (if commit then (Y.take i).foldl turnT t else t) Z) ∧ ((∀ p, p < S7.next → p ≠ s.next → s'.get p = S7.get p) ∧ S7.next ≤ s'.next ∧ s'.floor = S7.floor) ∧ E.get 2 = .bool commit ∧ E.get 3 = .ptr s.next 0 0 ∧ E.get 6 = .ptr (s.next + 1 + 1) 0 0 ∧ E.get 9 = .ptr s4.next 0 0 ∧ E.get 27 = lv ∧ E.get 28 = .int .i64 Y.length ∧ E.get 29 = .int .i64 i) (by delta cf8l0 oo on om og oc ou; exact rfl) ?_ ?_
  · have e0 : (if commit = true then (Y.take 0).foldl turnT t else t) = t := by cases commit <;> simp
    refine ⟨⟨w1.sp, w1.fr, w1.ho, w1.ma, v7⟩, ?_, ?_, ?_, ⟨fun p _ _ => rfl, Nat.le_refl _, rfl⟩, ?_, ?_, ?_, ?_, ?_, ?_, ?_⟩
    · rw [e0]; exact a7'
    · rw [e0, n7']; exact t7
    · rw [e0]; exact ⟨hgood.ho, hgood.ma, hgood.n0, hgood.n1, hgood.lh, hgood.lm⟩
    all_goals simp only [ev, Env.get_set, ↓reduceIte, Nat.reduceEqDiff]
    all_goals rfl
  rintro i E s8 hile _ ⟨w', a8, t8, g8, ⟨o8, n8, f8⟩, q2, q3, q6, q9, q27, q28, q29⟩
  have f8' : s8.floor ≤ s.next := by rw [f8, f7'']; exact f7
  have f88 : s8.floor ≤ s8.next := by omega
  have b8 : s8.get (s.next + 1 + 1) = _ := ((o8 _ (by omega) (by omega)).trans (g7' _ (by omega))).trans c7
  have l8 : s8.get s4.next = some ⟨25, 1, [[lv]]⟩ := ((o8 _ (by have := ac7.n; omega) (by omega)).trans (g7' _ (by omega))).trans gl7
  have k8 : Keep s.next s s8 := ⟨by have := k7'.next; omega, by rw [f8]; exact k7'.floor, fun r hr => by rw [o8 r (by have := k7'.next; omega) (by omega)]; exact k7'.get r hr⟩
  by_cases hlt : i < Y.length
  · obtain ⟨x, hx⟩ := get_of hlt
    have e8 : Sl s8 (fun p => s4.next + 1 ≤ p ∧ p < s7.next) lv 6 (Y.map intC) := e7.keep fun p hp => (o8 p (by omega) (by omega)).trans (g7' p (by omega))
    obtain ⟨p, hp, P, hld⟩ := e8.ldk (fun p hp => by omega) hx rfl rfl
    have hld' := hld _ (Keep.refl _ _)
    simp only [intC] at hld'
    have ne8 : (s.next = s8.next) = False := by simp; omega
    have hyt : Y.take (i + 1) = Y.take i ++ [x] := by rw [List.take_add_one, hx]; rfl
    have hp8 := pushes s8 ⟨46, 6, [intC x]⟩
    simp only [tabC] at a8
    cases commit with
    | false =>
      simp only [Bool.false_eq_true, if_false] at a8 t8 g8
      (repeat' (with_reducible first|refine w_1 ?_|refine w_2 ?_|refine w_3 ?_|refine w_4 ?_|refine w_5 ?_|refine w_6 ?_|refine w_7 ?_|(refine w_8 (fun hb=>?_) (fun hb=>?_)<;>(try simp only [Bool.not_eq_true',Bool.not_eq_false'] at hb)<;>try simp only [hb])|refine w_13 (fun hc=>(by (try simp only [Bool.and_eq_true] at hc);simp (maxDischargeDepth:=12) only [viz,↓reduceIte,Nat.reduceEqDiff,reduceCtorEq,Int.reduceEq,Int.reduceNeg,Nat.reduceAdd,Nat.reduceLeDiff,q2,q3,q6,q9,q27,q28,q29,lt_true hlt,hp,hld',f88,cond_true,cond_false,hc];first|exact ⟨rfl,rfl⟩|exact rfl)) ?_|refine w_12 ?_|((try refine w_9 ?_);simp (maxDischargeDepth:=12) only [viz,↓reduceIte,Nat.reduceEqDiff,reduceCtorEq,Int.reduceEq,Int.reduceNeg,Nat.reduceAdd,Nat.reduceLeDiff,q2,q3,q6,q9,q27,q28,q29,lt_true hlt,hp,hld',f88])))
      refine ⟨hlt, w', ?_, (t8.keep fun r hr => by rw [Mem.get_push, if_neg (by omega)]).mono fun r hr => ⟨hr.1, by omega⟩, ⟨g8.ho, g8.ma, g8.n0, g8.n1, by have := g8.lh; omega, by have := g8.lm; omega⟩, ⟨fun p p1 p2 => ?_, by omega, f8⟩, succ_av (by omega)⟩
      · rw [if_neg (by omega)]; exact a8
      · rw [if_neg (by omega)]; exact o8 p p1 p2
    | true =>
      simp only [if_true] at a8 t8 g8
      (repeat' (with_reducible first|refine w_1 ?_|refine w_2 ?_|refine w_3 ?_|refine w_4 ?_|refine w_5 ?_|refine w_6 ?_|refine w_7 ?_|(refine w_8 (fun hb=>?_) (fun hb=>?_)<;>(try simp only [Bool.not_eq_true',Bool.not_eq_false'] at hb)<;>try simp only [hb])|refine w_13 (fun hc=>(by (try simp only [Bool.and_eq_true] at hc);simp (maxDischargeDepth:=12) only [viz,↓reduceIte,Nat.reduceEqDiff,reduceCtorEq,Int.reduceEq,Int.reduceNeg,Nat.reduceAdd,Nat.reduceLeDiff,q2,q3,q6,q9,q27,q28,q29,lt_true hlt,hp,hld',f88,a8,ne8,cond_true,cond_false,hc];first|exact ⟨rfl,rfl⟩|exact rfl)) ?_|refine w_12 ?_|((try refine w_9 ?_);simp (maxDischargeDepth:=12) only [viz,↓reduceIte,Nat.reduceEqDiff,reduceCtorEq,Int.reduceEq,Int.reduceNeg,Nat.reduceAdd,Nat.reduceLeDiff,q2,q3,q6,q9,q27,q28,q29,lt_true hlt,hp,hld',f88,a8,ne8])))
      simp only [intC] at hp8
      have np8 := hp8.next
      simp only [next_push'] at np8
      refine turned_c (n := 100 + i) (t := withI2 ((Y.take i).foldl turnT t) Z) (w := w') (x := x) (D := fun p => s1.next ≤ p ∧ p < s8.next) (by simp only [floor_push', next_push']; omega) (fun r hr => by simp only [next_push']; omega) (t8.keep fun r hr => by rw [Mem.get_push, if_neg (by omega)]) g8 (hYg x (List.mem_of_getElem? hx)) (by omega) fun w9 s9 h9 t9 => ?_
      have g9 := g8.turn (hYg x (List.mem_of_getElem? hx)) (by omega)
      rw [turn_with] at t9 g9 ⊢
      have hk9 := hp8.then h9
      have a9 := (hk9.get s.next (by omega)).trans a8
      have f9 : s9.floor ≤ s.next := by rw [hk9.floor]; exact f8'
      have n9 := hk9.next
      simp only [tabC]
      (repeat' (with_reducible first|refine w_1 ?_|refine w_2 ?_|refine w_3 ?_|refine w_4 ?_|refine w_5 ?_|refine w_6 ?_|refine w_7 ?_|(refine w_8 (fun hb=>?_) (fun hb=>?_)<;>(try simp only [Bool.not_eq_true',Bool.not_eq_false'] at hb)<;>try simp only [hb])|refine w_13 (fun hc=>(by (try simp only [Bool.and_eq_true] at hc);simp (maxDischargeDepth:=12) only [viz,↓reduceIte,Nat.reduceEqDiff,reduceCtorEq,Int.reduceEq,Int.reduceNeg,Nat.reduceAdd,Nat.reduceLeDiff,q2,q3,q6,q9,q27,q28,q29,a9,f9,t9.sp.cell,t9.fr.cell,t9.ho.cell,t9.ma.cell,t9.it.cell,cond_true,cond_false,hc];first|exact ⟨rfl,rfl⟩|exact rfl)) ?_|refine w_12 ?_|((try refine w_9 ?_);simp (maxDischargeDepth:=12) only [viz,↓reduceIte,Nat.reduceEqDiff,reduceCtorEq,Int.reduceEq,Int.reduceNeg,Nat.reduceAdd,Nat.reduceLeDiff,q2,q3,q6,q9,q27,q28,q29,a9,f9,t9.sp.cell,t9.fr.cell,t9.ho.cell,t9.ma.cell,t9.it.cell])))
      have ey : (Y.take (i + 1)).foldl turnT t = turnT ((Y.take i).foldl turnT t) x := by rw [hyt, List.foldl_append]; rfl
      rw [ey]
      refine ⟨hlt, w9, rfl, (t9.keep fun r hr => ?_).mono fun r hr => ?_, g9, ⟨fun p p1 p2 => ?_, by omega, by rw [hk9.floor]; exact f8⟩, succ_av (by omega)⟩
      · rw [Mem.get_put, if_neg]
        rcases hr with hr | hr
        · omega
        · simp only [next_push'] at hr; omega
      · rcases hr with hr | hr
        · exact ⟨hr.1, by omega⟩
        · simp only [next_push'] at hr; exact ⟨by omega, hr.2⟩
      · rw [if_neg p2, hk9.get p (by omega)]; exact o8 p p1 p2
  · have hfull : Y.take i = Y := List.take_of_length_le (by omega)
    rw [hfull] at a8 t8 g8
    have ne6 : (s.next + 1 + 1 = s4.next) = False := by simp; omega
    have ne9 : (s4.next = s.next + 1 + 1) = False := by simp; omega
    have f8c : s8.floor ≤ s.next + 1 + 1 := by omega
    simp only [tabC] at a8
    (repeat' (with_reducible first|refine w_1 ?_|refine w_2 ?_|refine w_3 ?_|refine w_4 ?_|refine w_5 ?_|refine w_6 ?_|refine w_7 ?_|(refine w_8 (fun hb=>?_) (fun hb=>?_)<;>(try simp only [Bool.not_eq_true',Bool.not_eq_false'] at hb)<;>try simp only [hb])|refine w_13 (fun hc=>(by (try simp only [Bool.and_eq_true] at hc);simp (maxDischargeDepth:=12) only [viz,↓reduceIte,Nat.reduceEqDiff,reduceCtorEq,Int.reduceEq,Int.reduceNeg,Nat.reduceAdd,Nat.reduceLeDiff,q2,q3,q6,q9,q27,q28,q29,lt_false hlt,a8,b8,l8,hlv,ne6,ne9,f8c,t8.sp.cell,t8.fr.cell,t8.ho.cell,t8.ma.cell,t8.it.cell,cond_true,cond_false,hc];first|exact ⟨rfl,rfl⟩|exact rfl)) ?_|refine w_12 ?_|((try refine w_9 ?_);simp (maxDischargeDepth:=12) only [viz,↓reduceIte,Nat.reduceEqDiff,reduceCtorEq,Int.reduceEq,Int.reduceNeg,Nat.reduceAdd,Nat.reduceLeDiff,q2,q3,q6,q9,q27,q28,q29,lt_false hlt,a8,b8,l8,hlv,ne6,ne9,f8c,t8.sp.cell,t8.fr.cell,t8.ho.cell,t8.ma.cell,t8.it.cell])))
    generalize hPe : Mem.put _ _ _ = P
    have hPg : ∀ p, p ≠ s.next + 1 + 1 → P.get p = s8.get p := fun p h1 => by
      rw [← hPe]
      simp only [Mem.get_put]
      by_cases h2 : p = s4.next
      · rw [if_pos h2, h2, l8]
      · rw [if_neg h2, if_neg h1, if_neg h2]
    have hPn : P.next = s8.next := by rw [← hPe]; rfl
    have hPf : P.floor = s8.floor := by rw [← hPe]; rfl
    rw [hfin] at hK
    refine hK w' P ⟨by rw [hPn]; exact k8.next, by rw [hPf]; exact k8.floor, fun r hr => by rw [hPg r (by omega)]; exact k8.get r hr⟩ ((t8.keep fun r hr => hPg r (by omega)).mono fun r hr => .inr ⟨by omega, by omega⟩)
end Go.Proofs.Ythibbbfhkfebkaa

