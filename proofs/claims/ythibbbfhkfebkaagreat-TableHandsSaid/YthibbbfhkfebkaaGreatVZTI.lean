/- Why a key can not be about to turn. No statement of the seat is proved here. -/
import Derived.Test.YthibbbfhkfebkaaGreatVZTG
import Derived.Test.YthibbbfhkfebkaaGreatVZVE
namespace Go.Proofs.YthibbbfhkfebkaaGreat
open Go Go.VI
set_option linter.unusedSimpArgs false
structure R2 (q : Nat) (A B : Row) (M : Mem) : Prop where
  a : M.get q = some A
  b : M.get (q + 1) = some B
  n : q + 1 < M.next
theorem R2.of_push (s : Mem) (A B : Row) : R2 s.next A B ((s.push A).push B) := ⟨by
  simp only [Mem.get_push, next_push']; rw [if_neg (by omega), if_pos trivial], by
  simp only [Mem.get_push, next_push']; rw [if_pos trivial], by simp only [next_push']; omega⟩
theorem R2.then {q : Nat} {A B : Row} {M N : Mem} (h : R2 q A B M) (k : Keep M.next M N) : R2 q A B N := ⟨by rw [k.get _ (by have := h.n; omega)]; exact h.a, by rw [k.get _ h.n]; exact h.b, Nat.lt_of_lt_of_le h.n k.next⟩
def hasI (t : Table) (k : Txt) : Bool := t.ints.any fun x => x.key == k
theorem there_any {α : Type} {key : α → Txt} {l : List α} {i : Nat} {k : Txt} (h1 : ∀ (j : Nat) (a : α), j < i → l[j]? = some a → bl (key a) k = true) (h2 : ∀ (j : Nat) (a : α), i ≤ j → l[j]? = some a → bl (key a) k = false) (hs : UpK key l) : atK key l i k = l.any fun x => key x == k := by
  unfold atK
  cases hE : l[i]? with
  | none =>
    symm
    rw [List.any_eq_false]
    intro x hx
    obtain ⟨j, hj⟩ := List.mem_iff_getElem?.mp hx
    have hjl := (List.getElem?_eq_some_iff.mp hj).1
    have hil := List.getElem?_eq_none_iff.mp hE
    have := h1 j x (by omega) hj
    intro e
    rw [beq_iff_eq] at e; rw [e, bl_irrefl] at this; cases this
  | some y =>
    by_cases e : key y = k
    · have : (l.any fun x => key x == k) = true := List.any_eq_true.mpr ⟨y, List.mem_of_getElem? hE, by simp [e]⟩
      rw [this]; simp [e]
    · have : (l.any fun x => key x == k) = false := by
        rw [List.any_eq_false]
        intro x hx
        obtain ⟨j, hj⟩ := List.mem_iff_getElem?.mp hx
        intro ex
        rw [beq_iff_eq] at ex
        rcases Nat.lt_trichotomy j i with hji | hji | hji
        · have := h1 j x hji hj; rw [ex, bl_irrefl] at this; cases this
        · subst hji; rw [hE] at hj; obtain rfl := Option.some.inj hj; exact e ex
        · have a1 := hs i j y x hji hE hj
          have a2 := h2 i y (Nat.le_refl _) hE
          rw [ex] at a1; rw [a1] at a2; cases a2
      rw [this]; simpa using e
attribute [local irreducible] Ws Wp W C
set_option maxHeartbeats 4000000
theorem tfind_c {t : Table} {w : TV} {k : Txt} {D : Nat → Prop} {s : Mem} {K : AV → Mem → Prop} (hI : In D s) (hw : TabIn s D w t) (hlen : t.ints.length < 5000) (hs : UpK Intent.key t.ints)
    (hK : ∀ (i : Nat) s', i ≤ t.ints.length → Keep s.next s s' → (∀ (j : Nat) (a : Intent), j < i → t.ints[j]? = some a → bl a.key k = true) → (∀ (j : Nat) (a : Intent), i ≤ j → t.ints[j]? = some a → bl a.key k = false) → K (.tup [.int .i64 i, .bool (hasI t k)]) s') : C tab 36 [.agg (tabC t w), .str k] s K := by
  refine C_enter (cf := cf36) rfl (Nat.le_of_ble_eq_true rfl) ?_
  simp only [cf36, oo, on, om, og, oc, ou, tabC]
  have hp := pushes s ⟨27, 6, [[.int .i64 t.now, w.sp, w.fr, w.ho, w.ma, w.it]]⟩
  (repeat' (with_reducible first|refine w_1 ?_|refine w_2 ?_|simp (maxDischargeDepth:=12) only [viz,↓reduceIte,Nat.reduceEqDiff,Nat.reduceAdd,hw.sp.cell,hw.fr.cell,hw.ho.cell,hw.ma.cell,hw.it.cell]))
  refine itsearch_c (hI.keep hp) (hw.it.keep fun r hr => hp.get r (hI r hr)) hlen hs fun i s1 hi h1 b1 b2 => ?_
  (repeat' (with_reducible first|refine w_6 ?_|simp (maxDischargeDepth:=12) only [viz,↓reduceIte]))
  have := hK i s1 hi (hp.then h1) b1 b2
  rw [hasI, ← there_any b1 b2 hs] at this
  exact this
end Go.Proofs.YthibbbfhkfebkaaGreat
/- Tables copied. No statement of the seat is proved here. -/
namespace Go.Proofs.YthibbbfhkfebkaaGreat
open Go Go.VI
set_option linter.unusedSimpArgs false
attribute [local irreducible] Ws Wp W C
set_option maxHeartbeats 4000000
theorem spclone_c {l : List Span} {D : Nat → Prop} {s : Mem} {v : AV} {K : AV → Mem → Prop} (hf : s.floor ≤ s.next) (hI : In D s) (hv : Spans s D v l) (hn : l.length < 5000)
    (hK : ∀ v' s', OwnL s' s.next v' 47 2 (l.map spanC) → Keep s.next s s' → K v' s') : C tab 90 [v] s K := by
  refine C_enter (cf := cf90) rfl (Nat.le_of_ble_eq_true rfl) ?_
  simp only [cf90, oo, on, om, og, oc, ou]
  by_cases h0 : v = .nilS
  · subst h0
    have hb : l.map spanC = [] := by
      rcases hv.2 with ⟨_, h⟩ | ⟨h, _⟩ | h | ⟨r, i, n, row, h, _⟩
      · exact h
      all_goals cases h
    rw [hb] at hK
    (repeat' (with_reducible first|refine w_1 ?_|refine w_2 ?_|refine w_4 ?_|refine w_6 ?_|simp (maxDischargeDepth:=12) only [viz,↓reduceIte,Nat.reduceAdd,eq_nil]))
    exact hK _ _ (OwnL.nil _ _ _ _) (Keep.refl _ _)
  · have he : eqA .sl v .nilS = some false := by
      rcases hv.2 with ⟨h, _⟩ | ⟨rfl, _⟩ | rfl | ⟨r, i, n, row, rfl, _⟩
      · exact absurd h h0
      all_goals rfl
    (repeat' (with_reducible first|refine w_1 ?_|refine w_2 ?_|refine w_4 ?_|refine w_5 ?_|simp (maxDischargeDepth:=12) only [viz,↓reduceIte,Nat.reduceAdd,he]))
    refine app_x (b := s.next) (xs := []) (ys := l.map spanC) (by simp only [floor_push']; exact hf) (by simp only [next_push']; omega) (by simp only [ev, Env.get_set, ↓reduceIte, Nat.reduceEqDiff]; exact OwnL.emp _ _ _ _) (by simp only [ev, Env.get_set, ↓reduceIte, Nat.reduceEqDiff]; exact hv.readk hI _ (pushes _ _)) ?_ (room (by simp; omega) (by simp; omega)) ?_
    · exact hv.uni
    · intro v' s' ho hx _ _
      (repeat' (with_reducible first|refine w_6 ?_|simp (maxDischargeDepth:=12) only [viz,↓reduceIte]))
      exact hK _ _ ho ((pushes _ _).then (hx.keep (Nat.le_refl _) fun r i n z h => by simp only [ev, Env.get_set, ↓reduceIte, Nat.reduceEqDiff, reduceCtorEq] at h))
theorem hoclone_c {l : List Hold} {D : Nat → Prop} {s : Mem} {v : AV} {K : AV → Mem → Prop} (hf : s.floor ≤ s.next) (hI : In D s) (hv : Holds s D v l) (hn : l.length < 5000)
    (hK : ∀ v' s', OwnL s' s.next v' 58 3 (l.map holdC) → Keep s.next s s' → K v' s') : C tab 91 [v] s K := by
  refine C_enter (cf := cf91) rfl (Nat.le_of_ble_eq_true rfl) ?_
  simp only [cf91, oo, on, om, og, oc, ou]
  by_cases h0 : v = .nilS
  · subst h0
    have hb : l.map holdC = [] := by
      rcases hv.2 with ⟨_, h⟩ | ⟨h, _⟩ | h | ⟨r, i, n, row, h, _⟩
      · exact h
      all_goals cases h
    rw [hb] at hK
    (repeat' (with_reducible first|refine w_1 ?_|refine w_2 ?_|refine w_4 ?_|refine w_6 ?_|simp (maxDischargeDepth:=12) only [viz,↓reduceIte,Nat.reduceAdd,eq_nil]))
    exact hK _ _ (OwnL.nil _ _ _ _) (Keep.refl _ _)
  · have he : eqA .sl v .nilS = some false := by
      rcases hv.2 with ⟨h, _⟩ | ⟨rfl, _⟩ | rfl | ⟨r, i, n, row, rfl, _⟩
      · exact absurd h h0
      all_goals rfl
    (repeat' (with_reducible first|refine w_1 ?_|refine w_2 ?_|refine w_4 ?_|refine w_5 ?_|simp (maxDischargeDepth:=12) only [viz,↓reduceIte,Nat.reduceAdd,he]))
    refine app_x (b := s.next) (xs := []) (ys := l.map holdC) (by simp only [floor_push']; exact hf) (by simp only [next_push']; omega) (by simp only [ev, Env.get_set, ↓reduceIte, Nat.reduceEqDiff]; exact OwnL.emp _ _ _ _) (by simp only [ev, Env.get_set, ↓reduceIte, Nat.reduceEqDiff]; exact hv.readk hI _ (pushes _ _)) ?_ (room (by simp; omega) (by simp; omega)) ?_
    · exact hv.uni
    · intro v' s' ho hx _ _
      (repeat' (with_reducible first|refine w_6 ?_|simp (maxDischargeDepth:=12) only [viz,↓reduceIte]))
      exact hK _ _ ho ((pushes _ _).then (hx.keep (Nat.le_refl _) fun r i n z h => by simp only [ev, Env.get_set, ↓reduceIte, Nat.reduceEqDiff, reduceCtorEq] at h))
theorem maclone_c {l : List Mark} {D : Nat → Prop} {s : Mem} {v : AV} {K : AV → Mem → Prop} (hf : s.floor ≤ s.next) (hI : In D s) (hv : Marks s D v l) (hn : l.length < 5000)
    (hK : ∀ v' s', OwnL s' s.next v' 68 2 (l.map markC) → Keep s.next s s' → K v' s') : C tab 92 [v] s K := by
  refine C_enter (cf := cf92) rfl (Nat.le_of_ble_eq_true rfl) ?_
  simp only [cf92, oo, on, om, og, oc, ou]
  by_cases h0 : v = .nilS
  · subst h0
    have hb : l.map markC = [] := by
      rcases hv.2 with ⟨_, h⟩ | ⟨h, _⟩ | h | ⟨r, i, n, row, h, _⟩
      · exact h
      all_goals cases h
    rw [hb] at hK
    (repeat' (with_reducible first|refine w_1 ?_|refine w_2 ?_|refine w_4 ?_|refine w_6 ?_|simp (maxDischargeDepth:=12) only [viz,↓reduceIte,Nat.reduceAdd,eq_nil]))
    exact hK _ _ (OwnL.nil _ _ _ _) (Keep.refl _ _)
  · have he : eqA .sl v .nilS = some false := by
      rcases hv.2 with ⟨h, _⟩ | ⟨rfl, _⟩ | rfl | ⟨r, i, n, row, rfl, _⟩
      · exact absurd h h0
      all_goals rfl
    (repeat' (with_reducible first|refine w_1 ?_|refine w_2 ?_|refine w_4 ?_|refine w_5 ?_|simp (maxDischargeDepth:=12) only [viz,↓reduceIte,Nat.reduceAdd,he]))
    refine app_x (b := s.next) (xs := []) (ys := l.map markC) (by simp only [floor_push']; exact hf) (by simp only [next_push']; omega) (by simp only [ev, Env.get_set, ↓reduceIte, Nat.reduceEqDiff]; exact OwnL.emp _ _ _ _) (by simp only [ev, Env.get_set, ↓reduceIte, Nat.reduceEqDiff]; exact hv.readk hI _ (pushes _ _)) ?_ (room (by simp; omega) (by simp; omega)) ?_
    · exact hv.uni
    · intro v' s' ho hx _ _
      (repeat' (with_reducible first|refine w_6 ?_|simp (maxDischargeDepth:=12) only [viz,↓reduceIte]))
      exact hK _ _ ho ((pushes _ _).then (hx.keep (Nat.le_refl _) fun r i n z h => by simp only [ev, Env.get_set, ↓reduceIte, Nat.reduceEqDiff, reduceCtorEq] at h))
theorem itclone_c {l : List Intent} {D : Nat → Prop} {s : Mem} {v : AV} {K : AV → Mem → Prop} (hf : s.floor ≤ s.next) (hI : In D s) (hv : Ints s D v l) (hn : l.length < 5000)
    (hK : ∀ v' s', OwnL s' s.next v' 70 6 (l.map intC) → Keep s.next s s' → K v' s') : C tab 93 [v] s K := by
  refine C_enter (cf := cf93) rfl (Nat.le_of_ble_eq_true rfl) ?_
  simp only [cf93, oo, on, om, og, oc, ou]
  by_cases h0 : v = .nilS
  · subst h0
    have hb : l.map intC = [] := by
      rcases hv.2 with ⟨_, h⟩ | ⟨h, _⟩ | h | ⟨r, i, n, row, h, _⟩
      · exact h
      all_goals cases h
    rw [hb] at hK
    (repeat' (with_reducible first|refine w_1 ?_|refine w_2 ?_|refine w_4 ?_|refine w_6 ?_|simp (maxDischargeDepth:=12) only [viz,↓reduceIte,Nat.reduceAdd,eq_nil]))
    exact hK _ _ (OwnL.nil _ _ _ _) (Keep.refl _ _)
  · have he : eqA .sl v .nilS = some false := by
      rcases hv.2 with ⟨h, _⟩ | ⟨rfl, _⟩ | rfl | ⟨r, i, n, row, rfl, _⟩
      · exact absurd h h0
      all_goals rfl
    (repeat' (with_reducible first|refine w_1 ?_|refine w_2 ?_|refine w_4 ?_|refine w_5 ?_|simp (maxDischargeDepth:=12) only [viz,↓reduceIte,Nat.reduceAdd,he]))
    refine app_x (b := s.next) (xs := []) (ys := l.map intC) (by simp only [floor_push']; exact hf) (by simp only [next_push']; omega) (by simp only [ev, Env.get_set, ↓reduceIte, Nat.reduceEqDiff]; exact OwnL.emp _ _ _ _) (by simp only [ev, Env.get_set, ↓reduceIte, Nat.reduceEqDiff]; exact hv.readk hI _ (pushes _ _)) ?_ (room (by simp; omega) (by simp; omega)) ?_
    · exact hv.uni
    · intro v' s' ho hx _ _
      (repeat' (with_reducible first|refine w_6 ?_|simp (maxDischargeDepth:=12) only [viz,↓reduceIte]))
      exact hK _ _ ho ((pushes _ _).then (hx.keep (Nat.le_refl _) fun r i n z h => by simp only [ev, Env.get_set, ↓reduceIte, Nat.reduceEqDiff, reduceCtorEq] at h))
theorem hold_cells (l : List Hold) : ∀ c ∈ l.map holdC, c.length = 3 := fun c hc => by
  obtain ⟨y, _, rfl⟩ := List.mem_map.mp hc; rfl
theorem mark_cells (l : List Mark) : ∀ c ∈ l.map markC, c.length = 2 := fun c hc => by
  obtain ⟨y, _, rfl⟩ := List.mem_map.mp hc; rfl
theorem int_cells (l : List Intent) : ∀ c ∈ l.map intC, c.length = 6 := fun c hc => by
  obtain ⟨y, _, rfl⟩ := List.mem_map.mp hc; rfl
structure OwnT (s : Mem) (b m : Nat) (w : TV) (t : Table) : Prop where
  sp : Spans s (fun q => b ≤ q ∧ q < m) w.sp t.spans
  fr : Spans s (fun q => b ≤ q ∧ q < m) w.fr t.frozen
  ho : Holds s (fun q => b ≤ q ∧ q < m) w.ho t.holds
  ma : Marks s (fun q => b ≤ q ∧ q < m) w.ma t.marks
  it : OwnL s m w.it 70 6 (t.ints.map intC)
  bm : b ≤ m
  mn : m ≤ s.next
theorem OwnT.tab {s : Mem} {b m : Nat} {w : TV} {t : Table} (h : OwnT s b m w t) : TabIn s (fun q => b ≤ q ∧ q < s.next) w t := by
  have hm := h.mn
  have hb := h.bm
  have f : ∀ q, b ≤ q ∧ q < m → b ≤ q ∧ q < s.next := fun q hq => by omega
  exact ⟨h.sp.mono f, h.fr.mono f, h.ho.mono f, h.ma.mono f, h.it.sl (int_cells _) fun r n e => by have := h.it.row r 0 n 6 e; omega⟩
theorem OwnT.keep {s s' : Mem} {b m : Nat} {w : TV} {t : Table} (h : OwnT s b m w t) (k : Keep s.next s s') : OwnT s' b m w t := by
  have hm := h.mn
  have f : ∀ q, b ≤ q ∧ q < m → s'.get q = s.get q := fun q hq => k.get q (by omega)
  exact ⟨h.sp.keep f, h.fr.keep f, h.ho.keep f, h.ma.keep f, h.it.keep k fun r e => (h.it.row r 0 _ 6 e).2, h.bm, Nat.le_trans hm k.next⟩
structure OwnW (s : Mem) (b m1 m2 m3 : Nat) (w : TV) (t : Table) : Prop where
  sp : Spans s (fun q => b ≤ q ∧ q < m1) w.sp t.spans
  fr : Spans s (fun q => b ≤ q ∧ q < m1) w.fr t.frozen
  ho : OwnL s m1 w.ho 58 3 (t.holds.map holdC)
  hoR : ∀ r i n z, w.ho = .own r i n z → r < m2
  ma : OwnL s m2 w.ma 68 2 (t.marks.map markC)
  maR : ∀ r i n z, w.ma = .own r i n z → r < m3
  it : OwnL s m3 w.it 70 6 (t.ints.map intC)
  ord : b ≤ m1 ∧ m1 ≤ m2 ∧ m2 ≤ m3 ∧ m3 ≤ s.next
theorem OwnW.own {s : Mem} {b m1 m2 m3 : Nat} {w : TV} {t : Table} (h : OwnW s b m1 m2 m3 w t) : OwnT s b m3 w t := by
  have := h.ord
  exact ⟨h.sp.mono fun q hq => by omega, h.fr.mono fun q hq => by omega, h.ho.sl (hold_cells _) fun r n e => by have := h.ho.row r 0 n 3 e; have := h.hoR r 0 n 3 e; omega,
    h.ma.sl (mark_cells _) fun r n e => by have := h.ma.row r 0 n 2 e; have := h.maR r 0 n 2 e; omega, h.it, by omega, by omega⟩
theorem own2_c {t : Table} {w : TV} {D : Nat → Prop} {s : Mem} {K : AV → Mem → Prop} (hf : s.floor ≤ s.next) (hI : In D s) (hw : TabIn s D w t) (hs : Small t)
    (hK : ∀ w' m1 m2 m3 s', Keep s.next s s' → OwnW s' s.next m1 m2 m3 w' t → K (.agg (tabC t w')) s') : C tab 32 [.agg (tabC t w)] s K := by
  refine C_enter (cf := cf32) rfl (Nat.le_of_ble_eq_true rfl) ?_
  simp only [cf32, oo, on, om, og, oc, ou, tabC]
  obtain ⟨a1, a2, a3, a4, a5⟩ := hs
  have r0 := R2.of_push s ⟨27, 6, [[.int .i64 t.now, w.sp, w.fr, w.ho, w.ma, w.it]]⟩ ⟨27, 6, [[.int .i64 0, .nilS, .nilS, .nilS, .nilS, .nilS]]⟩
  have k0 := (pushes s ⟨27, 6, [[.int .i64 t.now, w.sp, w.fr, w.ho, w.ma, w.it]]⟩).then (pushes _ ⟨27, 6, [[.int .i64 0, .nilS, .nilS, .nilS, .nilS, .nilS]]⟩)
  (repeat' (with_reducible first|refine w_1 ?_|refine w_2 ?_|simp (maxDischargeDepth:=12) only [viz,↓reduceIte,Nat.reduceEqDiff,Nat.reduceAdd,hw.sp.cell,hw.fr.cell,hw.ho.cell,hw.ma.cell,hw.it.cell]))
  have n0 : ((s.push ⟨27, 6, [[.int .i64 t.now, w.sp, w.fr, w.ho, w.ma, w.it]]⟩).push ⟨27, 6, [[.int .i64 0, .nilS, .nilS, .nilS, .nilS, .nilS]]⟩).next = s.next + 1 + 1 := by simp only [next_push']
  refine spclone_c (s := ((s.push ⟨27, 6, [[.int .i64 t.now, w.sp, w.fr, w.ho, w.ma, w.it]]⟩).push ⟨27, 6, [[.int .i64 0, .nilS, .nilS, .nilS, .nilS, .nilS]]⟩).at (s.next + 1 + 1)) (by simp only [mat_floor, mat_next, next_push']; omega) (D := D) (fun r hr => Nat.lt_of_lt_of_le (hI r hr) k0.next) (hw.sp.keep fun r hr => k0.get r (hI r hr)) (by omega) fun v1 s1 o1 h1 => ?_
  have h1' : Keep ((s.push ⟨27, 6, [[.int .i64 t.now, w.sp, w.fr, w.ho, w.ma, w.it]]⟩).push ⟨27, 6, [[.int .i64 0, .nilS, .nilS, .nilS, .nilS, .nilS]]⟩).next ((s.push ⟨27, 6, [[.int .i64 t.now, w.sp, w.fr, w.ho, w.ma, w.it]]⟩).push ⟨27, 6, [[.int .i64 0, .nilS, .nilS, .nilS, .nilS, .nilS]]⟩) (s1.at s.floor) := Keep.of_at (s := (s.push ⟨27, 6, [[.int .i64 t.now, w.sp, w.fr, w.ho, w.ma, w.it]]⟩).push ⟨27, 6, [[.int .i64 0, .nilS, .nilS, .nilS, .nilS, .nilS]]⟩) h1
  have k1 : Keep s.next s (s1.at s.floor) := k0.then h1'
  have r1 : R2 s.next ⟨27, 6, [[.int .i64 t.now, w.sp, w.fr, w.ho, w.ma, w.it]]⟩ ⟨27, 6, [[.int .i64 0, .nilS, .nilS, .nilS, .nilS, .nilS]]⟩ (s1.at s.floor) := r0.then h1'
  have d1 : ((s.push ⟨27, 6, [[.int .i64 t.now, w.sp, w.fr, w.ho, w.ma, w.it]]⟩).push ⟨27, 6, [[.int .i64 0, .nilS, .nilS, .nilS, .nilS, .nilS]]⟩).next ≤ s1.next := h1'.next
  rw [n0] at d1
  have e1 : Sl s1 (fun q => s.next + 1 + 1 ≤ q ∧ q < s1.next) v1 2 (t.spans.map spanC) := (o1.sl (D := fun q => s.next + 1 + 1 ≤ q ∧ q < s1.next) (span_cells _) fun r n h => by
    have := o1.row r 0 n 2 h
    simp only [mat_next, next_push'] at this
    omega)
  have z1 := o1.slice
  have ra1 := r1.a
  have rb1 := r1.b
  simp only [mat_get] at ra1 rb1
  (repeat' with_reducible simp (maxDischargeDepth:=12) only [viz,ra1])
  refine spclone_c (s := (s1.at s.floor).at s1.next) (by simp only [mat_floor, mat_next]; omega) (D := D) (fun r hr => Nat.lt_of_lt_of_le (hI r hr) k1.next) (hw.fr.keep fun r hr => k1.get r (hI r hr)) (by omega) fun v2 s2 o2 h2 => ?_
  have h2' : Keep s1.next (s1.at s.floor) (s2.at s.floor) := Keep.of_at (s := s1.at s.floor) h2
  have k2 : Keep s.next s (s2.at s.floor) := k1.then h2'
  have r2 : R2 s.next ⟨27, 6, [[.int .i64 t.now, w.sp, w.fr, w.ho, w.ma, w.it]]⟩ ⟨27, 6, [[.int .i64 0, .nilS, .nilS, .nilS, .nilS, .nilS]]⟩ (s2.at s.floor) := r1.then h2'
  have d2 : s1.next ≤ s2.next := h2'.next
  have e2 : Sl s2 (fun q => s.next + 1 + 1 ≤ q ∧ q < s2.next) v2 2 (t.frozen.map spanC) := (o2.sl (D := fun q => s.next + 1 + 1 ≤ q ∧ q < s2.next) (span_cells _) fun r n h => by
    have := o2.row r 0 n 2 h
    simp only [mat_next, next_push'] at this
    omega)
  have z2 := o2.slice
  have ra2 := r2.a
  have rb2 := r2.b
  simp only [mat_get] at ra2 rb2
  (repeat' with_reducible simp (maxDischargeDepth:=12) only [viz,ra2])
  refine hoclone_c (s := (s2.at s.floor).at s2.next) (by simp only [mat_floor, mat_next]; omega) (D := D) (fun r hr => Nat.lt_of_lt_of_le (hI r hr) k2.next) (hw.ho.keep fun r hr => k2.get r (hI r hr)) (by omega) fun v3 s3 o3 h3 => ?_
  have h3' : Keep s2.next (s2.at s.floor) (s3.at s.floor) := Keep.of_at (s := s2.at s.floor) h3
  have k3 : Keep s.next s (s3.at s.floor) := k2.then h3'
  have r3 : R2 s.next ⟨27, 6, [[.int .i64 t.now, w.sp, w.fr, w.ho, w.ma, w.it]]⟩ ⟨27, 6, [[.int .i64 0, .nilS, .nilS, .nilS, .nilS, .nilS]]⟩ (s3.at s.floor) := r2.then h3'
  have d3 : s2.next ≤ s3.next := h3'.next
  have e3 : Sl s3 (fun q => s.next + 1 + 1 ≤ q ∧ q < s3.next) v3 3 (t.holds.map holdC) := (o3.sl (D := fun q => s.next + 1 + 1 ≤ q ∧ q < s3.next) (hold_cells _) fun r n h => by
    have := o3.row r 0 n 3 h
    simp only [mat_next, next_push'] at this
    omega)
  have z3 := o3.slice
  have ra3 := r3.a
  have rb3 := r3.b
  simp only [mat_get] at ra3 rb3
  (repeat' with_reducible simp (maxDischargeDepth:=12) only [viz,ra3])
  refine maclone_c (s := (s3.at s.floor).at s3.next) (by simp only [mat_floor, mat_next]; omega) (D := D) (fun r hr => Nat.lt_of_lt_of_le (hI r hr) k3.next) (hw.ma.keep fun r hr => k3.get r (hI r hr)) (by omega) fun v4 s4 o4 h4 => ?_
  have h4' : Keep s3.next (s3.at s.floor) (s4.at s.floor) := Keep.of_at (s := s3.at s.floor) h4
  have k4 : Keep s.next s (s4.at s.floor) := k3.then h4'
  have r4 : R2 s.next ⟨27, 6, [[.int .i64 t.now, w.sp, w.fr, w.ho, w.ma, w.it]]⟩ ⟨27, 6, [[.int .i64 0, .nilS, .nilS, .nilS, .nilS, .nilS]]⟩ (s4.at s.floor) := r3.then h4'
  have d4 : s3.next ≤ s4.next := h4'.next
  have e4 : Sl s4 (fun q => s.next + 1 + 1 ≤ q ∧ q < s4.next) v4 2 (t.marks.map markC) := (o4.sl (D := fun q => s.next + 1 + 1 ≤ q ∧ q < s4.next) (mark_cells _) fun r n h => by
    have := o4.row r 0 n 2 h
    simp only [mat_next, next_push'] at this
    omega)
  have z4 := o4.slice
  have ra4 := r4.a
  have rb4 := r4.b
  simp only [mat_get] at ra4 rb4
  (repeat' with_reducible simp (maxDischargeDepth:=12) only [viz,ra4])
  refine itclone_c (s := s4.at s.floor) (k4.ok hf) (D := D) (fun r hr => Nat.lt_of_lt_of_le (hI r hr) k4.next) (hw.it.keep fun r hr => k4.get r (hI r hr)) (by omega) fun v5 s5 o5 h5 => ?_
  have k5 : Keep s.next s s5 := k4.then h5
  have r5 := r4.then h5
  have d5 : s4.next ≤ s5.next := h5.next
  have hf5 : s5.floor ≤ s.next := by rw [k5.floor]; exact hf
  have c1 := e1.cell
  have c2 := e2.cell
  have c3 := e3.cell
  have c4 := e4.cell
  have e5 : Sl s5 (fun q => s4.next ≤ q ∧ q < s5.next) v5 6 (t.ints.map intC) := o5.sl (int_cells _) fun r n h => o5.row r 0 n 6 h
  have c5 := e5.cell
  (repeat' (with_reducible first|refine w_1 ?_|refine w_2 ?_|refine w_6 ?_|simp (maxDischargeDepth:=12) only [viz,↓reduceIte,Nat.reduceEqDiff,Nat.reduceAdd,r5.a,r5.b,c1,c2,c3,c4,c5,cells_cell c1,cells_cell c2,cells_cell c3,cells_cell c4,cells_cell c5,hf5,le_s1 hf5]))
  generalize hPe : Mem.put _ _ _ = P
  have hP : ∀ q, s.next + 1 + 1 ≤ q → P.get q = s5.get q := fun q hq => by
    have q1 : ¬ q = s.next := by omega
    have q2 : ¬ q = s.next + 1 := by omega
    rw [← hPe]
    simp only [Mem.get_put, q1, q2, if_false]
  have hkP : Keep s.next s P := by
    rw [← hPe]
    refine ⟨by simp only [next_put']; exact k5.next, by simp only [floor_put']; exact k5.floor, fun r hr => ?_⟩
    have q1 : ¬ r = s.next := by omega
    have q2 : ¬ r = s.next + 1 := by omega
    simp only [Mem.get_put, q1, q2, if_false]
    exact k5.get r hr
  have hnP : P.next = s5.next := by rw [← hPe]; simp only [next_put']
  have hfP : P.floor = s5.floor := by rw [← hPe]; simp only [floor_put']
  refine hK ⟨v1, v2, v3, v4, v5⟩ s2.next s3.next s4.next P hkP ⟨?_, ?_, ?_, fun r i n z e => ?_, ?_, fun r i n z e => ?_, ?_, ⟨by omega, by omega, by omega, by omega⟩⟩
  · refine (e1.keep fun q hq => ?_).mono fun q hq => by omega
    rw [hP q hq.1, h5.get q (by simp only [mat_next]; omega)]
    exact (h4'.get q (by omega)).trans ((h3'.get q (by omega)).trans (h2'.get q (by omega)))
  · refine (e2.keep fun q hq => ?_).mono fun q hq => by omega
    rw [hP q hq.1, h5.get q (by simp only [mat_next]; omega)]
    exact (h4'.get q (by omega)).trans (h3'.get q (by omega))
  · rcases o3 with h | ⟨r, a, b, c, d, e⟩
    · exact .inl h
    · simp only [mat_next] at d
      refine .inr ⟨r, a, ?_, by omega, by omega, by omega⟩
      rw [hP r (by omega), h5.get r (by simp only [mat_next]; omega)]
      exact (h4'.get r (by omega)).trans b
  · have := (o3.row r i n z e).2; omega
  · rcases o4 with h | ⟨r, a, b, c, d, e⟩
    · exact .inl h
    · simp only [mat_next] at d
      refine .inr ⟨r, a, ?_, by omega, by omega, by omega⟩
      rw [hP r (by omega), h5.get r (by simp only [mat_next]; omega)]
      exact b
  · have := (o4.row r i n z e).2; omega
  · rcases o5 with h | ⟨r, a, b, c, d, e⟩
    · exact .inl h
    · simp only [mat_next] at d
      exact .inr ⟨r, a, by rw [hP r (by omega)]; exact b, by rw [hfP]; exact c, by omega, by omega⟩
theorem own_c {t : Table} {w : TV} {D : Nat → Prop} {s : Mem} {K : AV → Mem → Prop} (hf : s.floor ≤ s.next) (hI : In D s) (hw : TabIn s D w t) (hs : Small t)
    (hK : ∀ w' m s', Keep s.next s s' → OwnT s' s.next m w' t → K (.agg (tabC t w')) s') : C tab 32 [.agg (tabC t w)] s K :=
  own2_c hf hI hw hs fun w' _ _ m3 s' hk h => hK w' m3 s' hk h.own
end Go.Proofs.YthibbbfhkfebkaaGreat

