/- Whose intents; keys alike. No statement of the seat is proved here. -/
import Derived.Test.YthibbbfhkfebkaaGreatVZTI
import Derived.Test.YthibbbfhkfebkaaGreatVZVE
namespace Go.Proofs.YthibbbfhkfebkaaGreat
open Go Go.VI
set_option linter.unusedSimpArgs false
attribute [local irreducible] Ws Wp W C
set_option maxHeartbeats 4000000
end Go.Proofs.YthibbbfhkfebkaaGreat
/- Intents that are put in, in order: the plain law. No statement of the seat is proved here. -/
namespace Go.Proofs.YthibbbfhkfebkaaGreat
open Go Go.VI
set_option linter.unusedSimpArgs false
abbrev UpI (l : List Intent) : Prop := l.Pairwise fun a b => bl a.key b.key = true
theorem UpI.upK {l : List Intent} (h : UpI l) : UpK Intent.key l := by
  intro i j a b hij ha hb
  obtain ⟨h1, rfl⟩ := List.getElem?_eq_some_iff.mp ha
  obtain ⟨h2, rfl⟩ := List.getElem?_eq_some_iff.mp hb
  exact List.pairwise_iff_getElem.mp h i j h1 h2 hij
theorem rising_up {α : Type} {key : α → Txt} {ok : Option α → α → Bool} (hok : ∀ q x, ok (some q) x = true → bl (key q) (key x) = true) : ∀ (l : List α) (p : Option α), rising ok p l = true → l.Pairwise fun a b => bl (key a) (key b) = true
  | [], _, _ => List.Pairwise.nil
  | x :: l, p, h => by
    simp only [rising, Bool.and_eq_true] at h
    have ih := rising_up hok l (some x) h.2
    refine List.pairwise_cons.mpr ⟨fun z hz => ?_, ih⟩
    cases l with
    | nil => cases hz
    | cons y r =>
      have h1 : bl (key x) (key y) = true := hok x y (by simp only [rising, Bool.and_eq_true] at h; exact h.2.1)
      rcases List.mem_cons.mp hz with rfl | hz
      · exact h1
      · exact bl_trans h1 ((List.pairwise_cons.mp ih).1 z hz)
theorem mayT_up {t : Table} (h : mayT t = true) : UpI t.ints := by
  simp only [mayT, Bool.and_eq_true] at h
  refine rising_up (key := Intent.key) (fun q x hq => ?_) t.ints none h.2
  simp only [intR, intOk, Bool.and_eq_true] at hq
  exact hq.1.2
end Go.Proofs.YthibbbfhkfebkaaGreat
/- Keys are about to turn: the program. No statement of the seat is proved here. -/
namespace Go.Proofs.YthibbbfhkfebkaaGreat
open Go Go.VI
set_option linter.unusedSimpArgs false
structure R4 (q : Nat) (A B C E : Row) (M : Mem) : Prop where
  a : M.get q = some A
  b : M.get (q + 1) = some B
  c : M.get (q + 1 + 1) = some C
  e : M.get (q + 1 + 1 + 1) = some E
  n : q + 1 + 1 + 1 < M.next
theorem R4.of_push (s : Mem) (A B C E : Row) : R4 s.next A B C E ((((s.push A).push B).push C).push E) := ⟨by
  simp only [Mem.get_push, next_push']; rw [if_neg (by omega), if_neg (by omega), if_neg (by omega), if_pos trivial], by
  simp only [Mem.get_push, next_push']; rw [if_neg (by omega), if_neg (by omega), if_pos trivial], by
  simp only [Mem.get_push, next_push']; rw [if_neg (by omega), if_pos trivial], by
  simp only [Mem.get_push, next_push']; rw [if_pos trivial], by simp only [next_push']; omega⟩
theorem R4.then {q : Nat} {A B C E : Row} {M N : Mem} (h : R4 q A B C E M) (k : Keep M.next M N) : R4 q A B C E N := by
  have := h.n
  exact ⟨by rw [k.get _ (by omega)]; exact h.a, by rw [k.get _ (by omega)]; exact h.b, by rw [k.get _ (by omega)]; exact h.c, by rw [k.get _ (by omega)]; exact h.e, Nat.lt_of_lt_of_le h.n k.next⟩
theorem R4.put {q : Nat} {A B C E : Row} {M : Mem} (h : R4 q A B C E M) (A' : Row) : R4 q A' B C E (M.put q (some A')) :=
  ⟨by rw [Mem.get_put, if_pos rfl], by rw [Mem.get_put, if_neg (by omega)]; exact h.b, by rw [Mem.get_put, if_neg (by omega)]; exact h.c, by rw [Mem.get_put, if_neg (by omega)]; exact h.e, h.n⟩
theorem ins_run {ty sz bytes : Nat} {vv : AV} {xs ys : List (List AV)} {i p b : Nat} {M : Mem} (hf : M.floor ≤ b) (hb : b ≤ M.next) (ho : OwnL M b vv ty sz xs) (hi : i ≤ xs.length) (hp : M.get p = some ⟨ty, sz, ys⟩) (hm : 0 < ys.length) (hne : ∀ n, vv ≠ .own p 0 n sz) (hr : roomOk (xs.length + ys.length) bytes = true) :
    ∃ v' s', insA ty sz bytes [vv, .int .i64 i, .own p 0 ys.length sz] M = some (v', s') ∧ OwnL s' b v' ty sz (xs.take i ++ ys ++ xs.drop i) ∧ Keep b M s' := by
  have t1 : toNat? (i : Int) = some i := by simp [toNat?]
  rcases ho with ⟨h, e⟩ | ⟨q, rfl, h1, h2, h3, h4⟩
  · subst e
    have i0 : i = 0 := by simpa using hi
    subst i0
    have hr' : roomOk ys.length bytes = true := by simpa using hr
    refine ⟨.own M.next 0 ys.length sz, M.push ⟨ty, sz, ys⟩, ?_, ?_, Keep.push hb _⟩
    · rcases h with rfl | rfl <;> simp [insA, toNat?, hp, hm, hr']
    · simpa using OwnL.of_push (ty := ty) (sz := sz) (xs := ys) hf hb
  · have hqp : p ≠ q := fun h => hne _ (by rw [h])
    refine ⟨.own M.next 0 (xs.length + ys.length) sz, (M.put q none).push ⟨ty, sz, xs.take i ++ ys ++ xs.drop i⟩, ?_, ?_, (Keep.put h3 _).trans (Keep.push (by rw [next_put']; exact hb) _)⟩
    · have e2 : xs.take xs.length = xs := List.take_length
      simp [insA, t1, hp, h1, e2, hi, hm, hqp, h2, hr]
    · have hl : (xs.take i ++ ys ++ xs.drop i).length = xs.length + ys.length := by simp; omega
      have := OwnL.of_push (s := M.put q none) (b := b) (ty := ty) (sz := sz) (xs := xs.take i ++ ys ++ xs.drop i) hf hb
      rw [hl] at this
      exact this
def zeroT : Table := ⟨0, [], [], [], [], []⟩
def zeroW : TV := ⟨.nilS, .nilS, .nilS, .nilS, .nilS⟩
theorem zero_in (s : Mem) (D : Nat → Prop) : TabIn s D zeroW zeroT := ⟨Sl.nil _ _ _, Sl.nil _ _ _, Sl.nil _ _ _, Sl.nil _ _ _, Sl.nil _ _ _⟩
def withI (t : Table) (l : List Intent) : Table := ⟨t.now, t.spans, t.frozen, t.holds, t.marks, l⟩
theorem OwnT.turn {S s' : Mem} {b m : Nat} {w : TV} {t : Table} {it : AV} {l : List Intent} (h : OwnT S b m w t) (hq : ∀ q, b ≤ q → q < m → s'.get q = S.get q) (hm : m ≤ s'.next) (ho : OwnL s' m it 70 6 (l.map intC)) : OwnT s' b m ⟨w.sp, w.fr, w.ho, w.ma, it⟩ (withI t l) :=
  ⟨h.sp.keep fun q g => hq q g.1 g.2, h.fr.keep fun q g => hq q g.1 g.2, h.ho.keep fun q g => hq q g.1 g.2, h.ma.keep fun q g => hq q g.1 g.2, ho, h.bm, hm⟩
theorem OwnT.put {S : Mem} {b m r : Nat} {w : TV} {t : Table} (h : OwnT S b m w t) (hr : r < b) (x : Option Row) : OwnT (S.put r x) b m w t := by
  have hb := h.bm
  have hq : ∀ q, b ≤ q → q < m → (S.put r x).get q = S.get q := fun q h1 h2 => by rw [Mem.get_put, if_neg (by omega)]
  refine OwnT.turn h hq h.mn ?_
  rcases h.it with e | ⟨p, a, b2, c, d, e⟩
  · exact .inl e
  · exact .inr ⟨p, a, by rw [Mem.get_put, if_neg (by omega)]; exact b2, c, d, e⟩
attribute [local irreducible] Ws Wp W C
set_option maxHeartbeats 4000000
end Go.Proofs.YthibbbfhkfebkaaGreat
/- Keys are about to turn: the document. No statement of the seat is proved here. -/
namespace Go.Proofs.YthibbbfhkfebkaaGreat
open Go Go.VI
set_option linter.unusedSimpArgs false
attribute [local irreducible] Ws Wp W C
set_option maxHeartbeats 4000000
end Go.Proofs.YthibbbfhkfebkaaGreat
/- Tables alike. No statement of the seat is proved here. -/
namespace Go.Proofs.YthibbbfhkfebkaaGreat
open Go Go.VI
set_option linter.unusedSimpArgs false
attribute [local irreducible] Ws Wp W C
set_option maxHeartbeats 4000000
structure Small2 (t : Table) : Prop where
  sp : t.spans.length < 1000000000
  fr : t.frozen.length < 1000000000
  ho : t.holds.length < 1000000000
  ma : t.marks.length < 1000000000
  it : t.ints.length < 1000000000
def lightS (t : Table) : Bool := decide (t.holds.length + t.marks.length + t.ints.length ≤ 100) && decide (t.spans.length + t.frozen.length ≤ 24)
structure Small3 (t : Table) : Prop where
  sp : t.spans.length < 1000000000000000000
  fr : t.frozen.length < 1000000000000000000
  ho : t.holds.length < 1000000000000000000
  ma : t.marks.length < 1000000000000000000
  it : t.ints.length < 1000000000000000000
theorem light_c {t : Table} {w : TV} {D : Nat → Prop} {s : Mem} {K : AV → Mem → Prop} (hw : TabIn s D w t) (hl : Small3 t)
    (hK : ∀ s', Keep s.next s s' → K (.bool (lightS t)) s') : C tab 8 [.agg (tabC t w)] s K := by
  refine C_enter (cf := cf8) rfl (Nat.le_of_ble_eq_true rfl) ?_
  simp only [cf8, oo, on, om, og, oc, ou, tabC]
  have h1 : lenA false w.sp = some t.spans.length := hw.sp.lenB
  have h2 : lenA false w.fr = some t.frozen.length := hw.fr.lenB
  have h3 : lenA false w.ho = some t.holds.length := hw.ho.lenB
  have h4 : lenA false w.ma = some t.marks.length := hw.ma.lenB
  have h5 : lenA false w.it = some t.ints.length := hw.it.lenB
  obtain ⟨a1, a2, a3, a4, a5⟩ := hl
  have e1 : decide (IntKind.i64.wrap (IntKind.i64.wrap ((t.holds.length : Int) + t.marks.length) + t.ints.length) ≤ 100) = decide (t.holds.length + t.marks.length + t.ints.length ≤ 100) := by
    rw [wrap_i64 (x := (t.holds.length : Int) + t.marks.length) (by omega), wrap_i64 (x := (t.holds.length : Int) + t.marks.length + t.ints.length) (by omega), decide_eq_decide]
    omega
  have e2 : decide (IntKind.i64.wrap ((t.spans.length : Int) + t.frozen.length) ≤ 24) = decide (t.spans.length + t.frozen.length ≤ 24) := by
    rw [wrap_i64 (by omega), decide_eq_decide]
    omega
  (repeat' (with_reducible first|refine w_1 ?_|refine w_2 ?_|refine w_6 ?_|refine w_13 (fun hc=>(by (try simp only [Bool.and_eq_true] at hc);simp (maxDischargeDepth:=12) only [viz,↓reduceIte,Nat.reduceEqDiff,Nat.reduceAdd,h1,h2,e2,cond_false,hc];first|exact ⟨rfl,rfl⟩|exact rfl)) ?_|((try refine w_9 ?_);simp (maxDischargeDepth:=12) only [viz,↓reduceIte,Nat.reduceEqDiff,Nat.reduceAdd,hw.sp.cell,hw.fr.cell,hw.ho.cell,hw.ma.cell,hw.it.cell,h3,h4,h5,e1])))
  exact hK _ (pushes _ _)
end Go.Proofs.YthibbbfhkfebkaaGreat

