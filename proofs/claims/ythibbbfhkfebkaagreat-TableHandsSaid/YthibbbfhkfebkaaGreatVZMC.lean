/- What is taken out of a list and kept in another one. No statement of the seat is proved here. -/
import Derived.Test.YthibbbfhkfebkaaGreatVZMB
import Derived.Test.YthibbbfhkfebkaaGreatVZVE
namespace Go.Proofs.YthibbbfhkfebkaaGreat
open Go Go.VI
set_option linter.unusedSimpArgs false
structure AccE (rl rx : Nat) (x : Span) (R : AV → Row) (ty sz : Nat) (acc : List (List AV)) (lv : AV) (M : Mem) : Prop where
  x : M.get rx = some ⟨47, 2, [[.str x.frm, .str x.to]]⟩
  l : M.get rl = some (R lv)
  o : OwnL M (rl + 1) lv ty sz acc
  n : rl < M.next
  f : M.floor ≤ rl
  h : rx < rl
  s : acc.length < 5000
section
variable {rl rx ty sz : Nat} {x : Span} {R : AV → Row} {acc : List (List AV)} {lv : AV} {M N : Mem}
theorem AccE.push (a : AccE rl rx x R ty sz acc lv M) (Q : Row) : AccE rl rx x R ty sz acc lv (M.push Q) := by
  have := a.n; have := a.h
  exact ⟨by rw [Mem.get_push, if_neg (by omega)]; exact a.x, by rw [Mem.get_push, if_neg (by omega)]; exact a.l, a.o.push _, by rw [next_push']; omega, a.f, a.h, a.s⟩
theorem AccE.turn (a : AccE rl rx x R ty sz acc lv M) {r : Nat} (h : Turn r M N) (h1 : r < rl) (h2 : r ≠ rx) : AccE rl rx x R ty sz acc lv N := by
  refine ⟨by rw [h.get _ (by omega)]; exact a.x, by rw [h.get _ (by omega)]; exact a.l, ?_, by rw [h.next]; exact a.n, by rw [h.floor]; exact a.f, a.h, a.s⟩
  rcases a.o with e | ⟨p, a1, b2, c, d, e⟩
  · exact .inl e
  · exact .inr ⟨p, a1, by rw [h.get _ (by omega)]; exact b2, by rw [h.floor]; exact c, d, by rw [h.next]; exact e⟩
end
structure Oth (rl : Nat) (lv lv' : AV) (s s' : Mem) : Prop where
  k : Keep rl s s'
  n : s.next ≤ s'.next
  o : ∀ q, q < s.next → q ≠ rl → (∀ i n z, lv ≠ .own q i n z) → s'.get q = s.get q ∧ ∀ i n z, lv' ≠ .own q i n z
theorem Oth.refl (rl : Nat) (lv : AV) (s : Mem) : Oth rl lv lv s s := ⟨Keep.refl _ _, Nat.le_refl _, fun _ _ _ h => ⟨rfl, h⟩⟩
theorem Oth.trans {rl : Nat} {a b c : AV} {s t u : Mem} (h : Oth rl a b s t) (k : Oth rl b c t u) : Oth rl a c s u :=
  ⟨h.k.trans k.k, Nat.le_trans h.n k.n, fun q h1 h2 h3 => by
    obtain ⟨e1, e2⟩ := h.o q h1 h2 h3
    obtain ⟨e3, e4⟩ := k.o q (Nat.lt_of_lt_of_le h1 h.n) h2 e2
    exact ⟨e3.trans e1, e4⟩⟩
def FnA {α : Type} (cell : α → AV) (cs : α → List AV) (f : Nat) (cp : List AV) (rl : Nat) (p : α → Bool) (A : List (List AV) → AV → Mem → Prop) : Prop :=
  ∀ (x : α) (acc : List (List AV)) (lv : AV) (M : Mem) (K : AV → Mem → Prop), M.floor ≤ M.next → A acc lv M → acc.length < 4999 →
    (∀ lv' M', Oth rl lv lv' M M' → A (acc ++ if p x then [cs x] else []) lv' M' → K (.bool (p x)) M') → C tab f (cell x :: cp) M K
theorem filt_none {α : Type} {l : List α} {p : α → Bool} (h : l.findIdx? p = none) : l.filter (fun x => !p x) = l ∧ l.filter p = [] := by
  constructor
  · rw [List.filter_eq_self]
    intro a ha
    have := List.findIdx?_eq_none_iff.mp h a ha
    simp [this]
  · rw [List.filter_eq_nil_iff]
    intro a ha
    have := List.findIdx?_eq_none_iff.mp h a ha
    simp [this]
theorem pre_filter2 {α : Type} {l : List α} {p : α → Bool} {k0 : Nat} {x0 : α} (hx0 : l[k0]? = some x0) (hklt : k0 < l.length) (hpk : p l[k0] = true) (hpn : ∀ (j : Nat) (h : j < k0), ¬p (l[j]'(by omega)) = true) : (l.take (k0 + 1)).filter p = [x0] := by
  rw [List.take_add_one, hx0, Option.toList_some, List.filter_append]
  have e0 : (l.take k0).filter p = [] := by
    rw [List.filter_eq_nil_iff]
    intro a ha
    obtain ⟨q, hq⟩ := List.mem_iff_getElem?.mp ha
    rw [List.getElem?_take] at hq
    split at hq
    · rename_i hpk2
      obtain ⟨hpl, rfl⟩ := List.getElem?_eq_some_iff.mp hq
      exact hpn q hpk2
    · cases hq
  have e1 : p x0 = true := by
    obtain ⟨_, rfl⟩ := List.getElem?_eq_some_iff.mp hx0; exact hpk
  rw [e0]; simp [e1]
theorem filt_next {α : Type} {l : List α} {p : α → Bool} {k : Nat} {x : α} (hx : l[k]? = some x) : (l.take (k + 1)).filter p = (l.take k).filter p ++ if p x then [x] else [] := by
  rw [List.take_add_one, hx, Option.toList_some, List.filter_append]
  congr 1
  cases hq : p x <;> simp [hq]
attribute [local irreducible] Ws Wp W C
set_option maxHeartbeats 4000000
theorem hoIxA_c {l : List Hold} {v : AV} {m rl rx f : Nat} {cp : List AV} {y : Span} {R : AV → Row} {p : Hold → Bool} {lv : AV} {s : Mem} {K : AV → Mem → Prop} (hf : s.floor ≤ s.next) (hv : Sl s (fun q => m ≤ q ∧ q < rl) v 3 (l.map holdC)) (hl : l.length < 4000) (ha : AccE rl rx y R 58 3 [] lv s)
    (hp : FnA holdA holdC f cp rl p (AccE rl rx y R 58 3))
    (h1 : ∀ lv' s', Oth rl lv lv' s s' → l.findIdx? p = none → AccE rl rx y R 58 3 [] lv' s' → K (.int .i64 (-1)) s')
    (h2 : ∀ lv' s' k0 x, Oth rl lv lv' s s' → l.findIdx? p = some k0 → l[k0]? = some x → AccE rl rx y R 58 3 [holdC x] lv' s' → K (.int .i64 ((k0 : Nat) : Int)) s') : C tab 115 [v, .fn f cp] s K := by
  refine C_enter (cf := cf115) rfl (Nat.le_of_ble_eq_true rfl) ?_
  simp only [cf115, oo, on, om, og, oc, ou]
  have hlen : lenA false v = some l.length := hv.lenB
  (repeat' (with_reducible first|refine w_1 ?_|refine w_2 ?_|refine w_3 ?_|simp (maxDischargeDepth:=12) only [viz,↓reduceIte,Int.reduceNeg,Nat.reduceAdd,hlen]))
  refine W_inv l.length (fun i E s' => ∃ lv', Oth rl lv lv' s s' ∧ AccE rl rx y R 58 3 [] lv' s' ∧ E.get 0 = v ∧ E.get 1 = .fn f cp ∧ E.get 7 = .int .i64 l.length ∧ E.get 8 = .int .i64 i ∧ ∀ j x, j < i → l[j]? = some x → p x = false) (by delta cf115l0 oo on om og oc ou; exact rfl) ?_ ?_
  · refine ⟨lv, Oth.refl _ _ _, ha, (by simp only [ev, Env.get_set, ↓reduceIte, Nat.reduceEqDiff]), (by simp only [ev, Env.get_set, ↓reduceIte, Nat.reduceEqDiff]), (by simp only [ev, Env.get_set, ↓reduceIte, Nat.reduceEqDiff]), ?_, by omega⟩
    simp only [ev, Env.get_set, ↓reduceIte, Nat.reduceEqDiff]; rfl
  rintro i E s' hile _ ⟨lv1, hk, ha', g0, g1, g7, g8, hno⟩
  by_cases hlt : i < l.length
  · obtain ⟨x, hx⟩ := get_of hlt
    have hv' : Sl s' (fun q => m ≤ q ∧ q < rl) v 3 (l.map holdC) := hv.keep fun q hq => hk.k.get q hq.2
    obtain ⟨q, hq, P, hld⟩ := hv'.ldk (fun q hq => Nat.lt_trans hq.2 ha'.n) hx rfl rfl
    have hld' := hld _ (Keep.refl _ _)
    (repeat' (with_reducible first|refine w_1 ?_|refine w_2 ?_|refine w_3 ?_|refine w_4 ?_|refine w_5 ?_|simp (maxDischargeDepth:=12) only [viz,↓reduceIte,Nat.reduceEqDiff,reduceCtorEq,Int.reduceNeg,g0,g1,g7,g8,lt_true hlt,hq,hld']))
    refine hp x [] lv1 s' _ (by rw [hk.k.floor]; have := hk.n; omega) ha' (by simp) fun lv2 s2 h2k ha2 => ?_
    cases hb : p x
    · rw [hb] at ha2
      (repeat' (with_reducible first|refine w_2 ?_|refine w_4 ?_|refine w_5 ?_|simp (maxDischargeDepth:=12) only [viz,↓reduceIte,Nat.reduceEqDiff,reduceCtorEq,Int.reduceNeg,g0,g1,g7,g8]))
      refine ⟨hlt, lv2, hk.trans h2k, by simpa using ha2, succ_av (by omega), fun j y hj hy => ?_⟩
      by_cases hji : j = i
      · rw [hji, hx] at hy; obtain rfl := Option.some.inj hy; exact hb
      · exact hno j y (by omega) hy
    · rw [hb] at ha2
      (repeat' (with_reducible first|refine w_1 ?_|refine w_2 ?_|refine w_4 ?_|refine w_6 ?_|simp (maxDischargeDepth:=12) only [viz,↓reduceIte,Nat.reduceEqDiff,Int.reduceNeg]))
      exact h2 lv2 s2 i x (hk.trans h2k) (idx_at hx hb hno) hx (by simpa using ha2)
  · (repeat' (with_reducible first|refine w_1 ?_|refine w_2 ?_|refine w_4 ?_|refine w_6 ?_|refine w_7 ?_|simp (maxDischargeDepth:=12) only [viz,↓reduceIte,Int.reduceNeg,g7,g8,lt_false hlt]))
    exact h1 _ _ hk (idx_no fun j x hj => hno j x (by omega)) ha'
theorem hoDelA_c {l : List Hold} {v : AV} {m rl rx f : Nat} {cp : List AV} {y : Span} {R : AV → Row} {p : Hold → Bool} {s : Mem} {K : AV → Mem → Prop} (hf : s.floor ≤ m) (hv : OwnL s m v 58 3 (l.map holdC)) (hvr : ∀ r i n z, v = .own r i n z → r < rl) (h64 : l.length < 4000) (hmr : m ≤ rl) (hrx : rx < m)
    (ha : AccE rl rx y R 58 3 [] .nilS s) (hp : FnA holdA holdC f cp rl p (AccE rl rx y R 58 3))
    (hK : ∀ v' lv' s', Keep m s s' → Sl s' (fun q => (m ≤ q ∧ q < rl) ∧ ∃ i n z, v = .own q i n z) v' 3 ((l.filter fun x => !p x).map holdC) → AccE rl rx y R 58 3 ((l.filter p).map holdC) lv' s' → (∀ q, q < s.next → q ≠ rl → (∀ i n z, v ≠ .own q i n z) → s'.get q = s.get q) → K v' s') : C tab 59 [v, .fn f cp] s K := by
  refine C_enter (cf := cf59) rfl (Nat.le_of_ble_eq_true rfl) ?_
  simp only [cf59, oo, on, om, og, oc, ou]
  (repeat' (with_reducible first|refine w_1 ?_|refine w_2 ?_|simp (maxDischargeDepth:=12) only [viz,↓reduceIte,Nat.reduceEqDiff,Int.reduceNeg,Nat.reduceAdd]))
  have hnn := ha.n
  have nn : ∀ q : Nat, ∀ i n z, AV.nilS ≠ .own q i n z := fun q i n z e => by cases e
  have hsl : Sl s (fun q => m ≤ q ∧ q < rl) v 3 (l.map holdC) := hv.sl (hold_cells _) fun r n h => ⟨(hv.row r _ _ _ h).1, hvr r _ _ _ h⟩
  refine hoIxA_c (p := p) (by omega) hsl h64 ha hp (fun lv1 s1 h1 hE ha1 => ?_) fun lv1 s1 k0 x0 h1 hE hx0 ha1 => ?_
  · (repeat' (with_reducible first|refine w_1 ?_|refine w_2 ?_|refine w_4 ?_|refine w_6 ?_|simp (maxDischargeDepth:=12) only [viz,↓reduceIte,reduceCtorEq,Int.reduceNeg, Int.reduceBEq, Int.reduceBNe, Int.reduceLT, Int.reduceLE, Int.reduceGT, Int.reduceGE]))
    obtain ⟨e1, e2⟩ := filt_none hE
    rw [e1, e2] at hK
    exact hK v lv1 s1 (h1.k.le hmr) ((hv.sl (D := fun q => (m ≤ q ∧ q < rl) ∧ ∃ i n z, v = .own q i n z) (hold_cells _) fun r n h => ⟨⟨(hv.row r _ _ _ h).1, hvr r _ _ _ h⟩, _, _, _, h⟩).keep fun q hq => h1.k.get q hq.1.2) ha1 fun q q1 q2 _ => (h1.o q q1 q2 (nn q)).1
  · have hk0 : ((k0 : Int) == -1) = false := by rw [beq_eq_false_iff_ne]; omega
    have hw0 : IntKind.i64.wrap ((k0 : Int) + 1) = ((k0 + 1 : Nat) : Int) := succ_cast (by have := (List.findIdx?_eq_some_iff_getElem.mp hE).1; omega)
    (repeat' (with_reducible first|refine w_1 ?_|refine w_2 ?_|refine w_3 ?_|refine w_4 ?_|refine w_5 ?_|simp (maxDischargeDepth:=12) only [viz,↓reduceIte,Nat.reduceEqDiff,Int.reduceNeg,hk0,hw0]))
    obtain ⟨hklt, hpk, hpn⟩ := List.findIdx?_eq_some_iff_getElem.mp hE
    obtain ⟨r, rfl, hr, hbr, hrl⟩ : ∃ r, v = .own r 0 l.length 3 ∧ s.get r = some ⟨58, 3, l.map holdC⟩ ∧ m ≤ r ∧ r < rl := by
      rcases hv with ⟨_, h⟩ | ⟨r, h0, g1, _, g3, g4⟩
      · have : l = [] := by simpa using h
        rw [this] at hklt; simp at hklt
      · exact ⟨r, by rw [h0, List.length_map], g1, g3, hvr r _ _ _ h0⟩
    have hpre := pre_filter hklt hpk hpn
    have hpre2 := pre_filter2 hx0 hklt hpk hpn
    refine W_inv (l.length - (k0 + 1)) (fun n E s' => ∃ cur i lv', Keep m s s' ∧ s.next ≤ s'.next ∧ (∀ q, q < s.next → q ≠ rl → q ≠ r → s'.get q = s.get q ∧ ∀ i n z, lv' ≠ .own q i n z) ∧ AccE rl rx y R 58 3 (((l.take (k0 + 1 + n)).filter p).map holdC) lv' s' ∧ s'.get r = some ⟨58, 3, cur⟩ ∧ cur.length = l.length ∧ (∀ c ∈ cur, c.length = 3) ∧ i ≤ k0 + n ∧ cur.take i = ((l.take (k0 + 1 + n)).filter fun x => !p x).map holdC ∧ (∀ q, k0 + 1 + n ≤ q → cur[q]? = (l.map holdC)[q]?) ∧ E.get 0 = .own r 0 l.length 3 ∧ E.get 1 = .fn f cp ∧ E.get 5 = .int .i64 i ∧ E.get 6 = .int .i64 ((k0 + 1 + n : Nat) : Int)) (by delta cf59l0 oo on om og oc ou; exact rfl) ?_ ?_
    · refine ⟨l.map holdC, k0, lv1, h1.k.le hmr, h1.n, fun q q1 q2 _ => h1.o q q1 q2 (nn q), by rw [Nat.add_zero, hpre2]; exact ha1, by rw [h1.k.get r hrl, hr], List.length_map .., hold_cells _, by omega, ?_, fun _ _ => rfl, (by simp only [ev, Env.get_set, ↓reduceIte, Nat.reduceEqDiff]), (by simp only [ev, Env.get_set, ↓reduceIte, Nat.reduceEqDiff]), (by simp only [ev, Env.get_set, ↓reduceIte, Nat.reduceEqDiff]), (by simp only [ev, Env.get_set, ↓reduceIte, Nat.reduceEqDiff])⟩
      rw [Nat.add_zero, hpre, List.map_take]
    rintro n E s' hmle _ ⟨cur, i, lv2, hk, hn, hoth, ha2, hg, hcl2, hcz, him, hls, hcur, g0, g1, g5, g6⟩
    by_cases hlt : k0 + 1 + n < l.length
    · obtain ⟨x, hx⟩ := get_of hlt
      have hc' : cur[k0 + 1 + n]? = some (holdC x) := (hcur _ (Nat.le_refl _)).trans (by rw [List.getElem?_map, hx]; rfl)
      have hat : atA 3 (.own r 0 l.length 3) (.int .i64 ((k0 + 1 + n : Nat) : Int)) = some (.ptr r (k0 + 1 + n) 0) := at0 hlt
      have hld := load_own hg hc' (z := holdC x) rfl
      have hfl2 : s'.floor ≤ s'.next := by rw [hk.floor]; omega
      obtain ⟨c2, hc2⟩ := get_of (l := cur) (i := i) (by omega)
      have hz2 := hcz c2 (List.mem_of_getElem? hc2)
      have hrn' : r < s'.next := by omega
      have hfn : s'.floor ≤ r := by rw [hk.floor]; omega
      have hne : (r = s'.next) = False := by simp; omega
      have ht1 : k0 + 1 + (n + 1) = k0 + 1 + n + 1 := rfl
      have htk := filt_next (p := fun x => !p x) hx
      have htk2 := filt_next (p := p) hx
      have hp1 := pushes s' ⟨58, 3, [holdC x]⟩
      have ha3 := ha2.push ⟨58, 3, [holdC x]⟩
      have hal : (((l.take (k0 + 1 + n)).filter p).map holdC).length < 4999 := by
        have := List.length_filter_le p (l.take (k0 + 1 + n))
        rw [List.length_take] at this; rw [List.length_map]; omega
      simp only [holdC] at hld hp1
      (repeat' (with_reducible first|refine w_1 ?_|refine w_2 ?_|refine w_3 ?_|refine w_4 ?_|refine w_5 ?_|simp (maxDischargeDepth:=12) only [viz,↓reduceIte,Nat.reduceEqDiff,reduceCtorEq,Nat.reduceAdd,g0,g1,g6,lt_true hlt,hat,hld,hfl2]))
      simp only [holdC] at ha3
      refine hp x _ lv2 _ _ (by rw [floor_push', next_push']; omega) ha3 hal fun lv3 s2 h2 ha4 => ?_
      have hn2 := h2.n
      rw [next_push'] at hn2
      have hg2 : s2.get r = some ⟨58, 3, cur⟩ := by rw [h2.k.get r hrl, hp1.get r hrn']; exact hg
      have hnr : ∀ i n z, lv2 ≠ .own s'.next i n z := fun i n z e => by have := ha2.o.row _ _ _ _ e; omega
      have hrls : s'.next ≠ rl := by have := ha2.n; omega
      have hg7 := (h2.o s'.next (by simp only [next_push']; omega) hrls hnr).1.trans (by simp only [Mem.get_push]; rw [if_pos trivial])
      have hat2 : atA 3 (.own r 0 l.length 3) (.int .i64 (i : Int)) = some (.ptr r i 0) := at0 (by omega)
      have hfs2 : s2.floor ≤ r := by rw [h2.k.floor, floor_push']; exact hfn
      have hst := store_own (d := holdC x) hg2 hc2 hz2 rfl rfl hfs2
      simp only [holdC] at hst
      have hkb : Keep m s s2 := (hk.trans (hp1.le (by omega))).trans (h2.k.le hmr)
      have hot2 : ∀ q, q < s.next → q ≠ rl → q ≠ r → s2.get q = s.get q ∧ ∀ i n z, lv3 ≠ .own q i n z := fun q p1 p2 p3 => by
        obtain ⟨e1, e2⟩ := hoth q p1 p2 p3
        obtain ⟨e3, e4⟩ := h2.o q (by rw [next_push']; omega) p2 e2
        exact ⟨by rw [e3, hp1.get q (by omega), e1], e4⟩
      cases hpx : p x
      · rw [hpx] at htk2 ha4
        simp only [hpx] at htk
        (repeat' (with_reducible first|refine w_1 ?_|refine w_2 ?_|refine w_4 ?_|simp (maxDischargeDepth:=12) only [vis,↓reduceIte,Nat.reduceEqDiff,reduceCtorEq,g0,g1,g5,g6,hg7,hat2,hst,loadA_ptr]))
        refine ⟨by omega, cur.set i (holdC x), i + 1, lv3, ?_, ?_, ?_, ?_, ?_, ?_, ?_, ?_, ?_, ?_, ?_⟩
        · exact hkb.trans (Keep.put hbr _)
        · omega
        · intro q p1 p2 p3
          rw [if_neg p3]
          exact hot2 q p1 p2 p3
        · rw [ht1, htk2]
          have := ha4.turn (Turn.put r s2 (some ⟨58, 3, cur.set i (holdC x)⟩)) hrl (by omega)
          simpa [holdC] using this
        · rfl
        · rw [List.length_set]; exact hcl2
        · intro c hc
          rcases List.mem_or_eq_of_mem_set hc with h | rfl
          · exact hcz c h
          · rfl
        · omega
        · rw [ht1, htk, take_set_next (by omega), hls]; simp
        · intro q hq
          rw [List.getElem?_set, if_neg (by omega)]
          exact hcur q (by omega)
        · exact ⟨succ_av (by omega), succ_av (by omega)⟩
      · rw [hpx] at htk2 ha4
        simp only [hpx] at htk
        (repeat' (with_reducible first|refine w_2 ?_|refine w_4 ?_|refine w_5 ?_|simp (maxDischargeDepth:=12) only [viz,↓reduceIte,Nat.reduceEqDiff,reduceCtorEq,g0,g1,g5,g6]))
        exact ⟨by omega, cur, i, lv3, hkb, by omega, hot2, by rw [ht1, htk2]; simpa using ha4, hg2, hcl2, hcz, by omega, by rw [ht1, htk]; simpa using hls, fun q hq => hcur q (by omega), rfl, succ_av (by omega)⟩
    · have hi : i ≤ l.length := by omega
      obtain ⟨s2, els', hclr, hg2, htk, hln, htn⟩ := clr_own (i := i) (n := l.length - i) (z := [.str [], .int .u64 0, .int .i64 0]) hg (by omega) rfl (by rw [hk.floor]; omega)
      have hc1 : cutA 3 (.own r 0 l.length 3) (some i) none = some (.own r i (l.length - i) 3) := by simp [cutA]; omega
      have hc2 : cutA 3 (.own r 0 l.length 3) none (some i) = some (.own r 0 i 3) := by simp [cutA]; omega
      (repeat' (with_reducible first|refine w_1 ?_|refine w_2 ?_|refine w_4 ?_|refine w_6 ?_|refine w_7 ?_|simp (maxDischargeDepth:=12) only [viz,↓reduceIte,Nat.reduceEqDiff,reduceCtorEq,g0,g5,g6,lt_false hlt,bdA_some,bdV_nat,hc1,hc2,hclr]))
      have hall : l.take (k0 + 1 + n) = l := List.take_of_length_le (by omega)
      rw [hall] at hls ha2
      refine hK _ lv2 s2 (hk.trans (htn.keep hbr)) ?_ (ha2.turn htn hrl (by omega)) fun q p1 p2 p3 => ?_
      · rw [← hls]
        exact ⟨fun c hc => hcz c (List.mem_of_mem_take hc), .inr (.inr (.inr ⟨r, 0, i, _, rfl, ⟨⟨hbr, hrl⟩, _, _, _, rfl⟩, hg2, by simp only [hln]; omega, by simp only [List.drop_zero, htk]⟩))⟩
      · have hpr : q ≠ r := fun e => p3 0 l.length 3 (by rw [e])
        rw [htn.get q hpr, (hoth q p1 p2 hpr).1]
end Go.Proofs.YthibbbfhkfebkaaGreat
/- What is taken out of a list of marks and kept in another one. No statement of the seat is proved here. -/
namespace Go.Proofs.YthibbbfhkfebkaaGreat
open Go Go.VI
set_option linter.unusedSimpArgs false
attribute [local irreducible] Ws Wp W C
set_option maxHeartbeats 4000000
theorem maIxA_c {l : List Mark} {v : AV} {m rl rx f : Nat} {cp : List AV} {y : Span} {R : AV → Row} {p : Mark → Bool} {lv : AV} {s : Mem} {K : AV → Mem → Prop} (hf : s.floor ≤ s.next) (hv : Sl s (fun q => m ≤ q ∧ q < rl) v 2 (l.map markC)) (hl : l.length < 4000) (ha : AccE rl rx y R 68 2 [] lv s)
    (hp : FnA markA markC f cp rl p (AccE rl rx y R 68 2))
    (h1 : ∀ lv' s', Oth rl lv lv' s s' → l.findIdx? p = none → AccE rl rx y R 68 2 [] lv' s' → K (.int .i64 (-1)) s')
    (h2 : ∀ lv' s' k0 x, Oth rl lv lv' s s' → l.findIdx? p = some k0 → l[k0]? = some x → AccE rl rx y R 68 2 [markC x] lv' s' → K (.int .i64 ((k0 : Nat) : Int)) s') : C tab 118 [v, .fn f cp] s K := by
  refine C_enter (cf := cf118) rfl (Nat.le_of_ble_eq_true rfl) ?_
  simp only [cf118, oo, on, om, og, oc, ou]
  have hlen : lenA false v = some l.length := hv.lenB
  (repeat' (with_reducible first|refine w_1 ?_|refine w_2 ?_|refine w_3 ?_|simp (maxDischargeDepth:=12) only [viz,↓reduceIte,Int.reduceNeg,Nat.reduceAdd,hlen]))
  refine W_inv l.length (fun i E s' => ∃ lv', Oth rl lv lv' s s' ∧ AccE rl rx y R 68 2 [] lv' s' ∧ E.get 0 = v ∧ E.get 1 = .fn f cp ∧ E.get 7 = .int .i64 l.length ∧ E.get 8 = .int .i64 i ∧ ∀ j x, j < i → l[j]? = some x → p x = false) (by delta cf118l0 oo on om og oc ou; exact rfl) ?_ ?_
  · refine ⟨lv, Oth.refl _ _ _, ha, (by simp only [ev, Env.get_set, ↓reduceIte, Nat.reduceEqDiff]), (by simp only [ev, Env.get_set, ↓reduceIte, Nat.reduceEqDiff]), (by simp only [ev, Env.get_set, ↓reduceIte, Nat.reduceEqDiff]), ?_, by omega⟩
    simp only [ev, Env.get_set, ↓reduceIte, Nat.reduceEqDiff]; rfl
  rintro i E s' hile _ ⟨lv1, hk, ha', g0, g1, g7, g8, hno⟩
  by_cases hlt : i < l.length
  · obtain ⟨x, hx⟩ := get_of hlt
    have hv' : Sl s' (fun q => m ≤ q ∧ q < rl) v 2 (l.map markC) := hv.keep fun q hq => hk.k.get q hq.2
    obtain ⟨q, hq, P, hld⟩ := hv'.ldk (fun q hq => Nat.lt_trans hq.2 ha'.n) hx rfl rfl
    have hld' := hld _ (Keep.refl _ _)
    (repeat' (with_reducible first|refine w_1 ?_|refine w_2 ?_|refine w_3 ?_|refine w_4 ?_|refine w_5 ?_|simp (maxDischargeDepth:=12) only [viz,↓reduceIte,Nat.reduceEqDiff,reduceCtorEq,Int.reduceNeg,g0,g1,g7,g8,lt_true hlt,hq,hld']))
    refine hp x [] lv1 s' _ (by rw [hk.k.floor]; have := hk.n; omega) ha' (by simp) fun lv2 s2 h2k ha2 => ?_
    cases hb : p x
    · rw [hb] at ha2
      (repeat' (with_reducible first|refine w_2 ?_|refine w_4 ?_|refine w_5 ?_|simp (maxDischargeDepth:=12) only [viz,↓reduceIte,Nat.reduceEqDiff,reduceCtorEq,Int.reduceNeg,g0,g1,g7,g8]))
      refine ⟨hlt, lv2, hk.trans h2k, by simpa using ha2, succ_av (by omega), fun j y hj hy => ?_⟩
      by_cases hji : j = i
      · rw [hji, hx] at hy; obtain rfl := Option.some.inj hy; exact hb
      · exact hno j y (by omega) hy
    · rw [hb] at ha2
      (repeat' (with_reducible first|refine w_1 ?_|refine w_2 ?_|refine w_4 ?_|refine w_6 ?_|simp (maxDischargeDepth:=12) only [viz,↓reduceIte,Nat.reduceEqDiff,Int.reduceNeg]))
      exact h2 lv2 s2 i x (hk.trans h2k) (idx_at hx hb hno) hx (by simpa using ha2)
  · (repeat' (with_reducible first|refine w_1 ?_|refine w_2 ?_|refine w_4 ?_|refine w_6 ?_|refine w_7 ?_|simp (maxDischargeDepth:=12) only [viz,↓reduceIte,Int.reduceNeg,g7,g8,lt_false hlt]))
    exact h1 _ _ hk (idx_no fun j x hj => hno j x (by omega)) ha'
theorem maDelA_c {l : List Mark} {v : AV} {m rl rx f : Nat} {cp : List AV} {y : Span} {R : AV → Row} {p : Mark → Bool} {s : Mem} {K : AV → Mem → Prop} (hf : s.floor ≤ m) (hv : OwnL s m v 68 2 (l.map markC)) (hvr : ∀ r i n z, v = .own r i n z → r < rl) (h64 : l.length < 4000) (hmr : m ≤ rl) (hrx : rx < m)
    (ha : AccE rl rx y R 68 2 [] .nilS s) (hp : FnA markA markC f cp rl p (AccE rl rx y R 68 2))
    (hK : ∀ v' lv' s', Keep m s s' → Sl s' (fun q => (m ≤ q ∧ q < rl) ∧ ∃ i n z, v = .own q i n z) v' 2 ((l.filter fun x => !p x).map markC) → AccE rl rx y R 68 2 ((l.filter p).map markC) lv' s' → (∀ q, q < s.next → q ≠ rl → (∀ i n z, v ≠ .own q i n z) → s'.get q = s.get q) → K v' s') : C tab 62 [v, .fn f cp] s K := by
  refine C_enter (cf := cf62) rfl (Nat.le_of_ble_eq_true rfl) ?_
  simp only [cf62, oo, on, om, og, oc, ou]
  (repeat' (with_reducible first|refine w_1 ?_|refine w_2 ?_|simp (maxDischargeDepth:=12) only [viz,↓reduceIte,Nat.reduceEqDiff,Int.reduceNeg,Nat.reduceAdd]))
  have hnn := ha.n
  have nn : ∀ q : Nat, ∀ i n z, AV.nilS ≠ .own q i n z := fun q i n z e => by cases e
  have hsl : Sl s (fun q => m ≤ q ∧ q < rl) v 2 (l.map markC) := hv.sl (mark_cells _) fun r n h => ⟨(hv.row r _ _ _ h).1, hvr r _ _ _ h⟩
  refine maIxA_c (p := p) (by omega) hsl h64 ha hp (fun lv1 s1 h1 hE ha1 => ?_) fun lv1 s1 k0 x0 h1 hE hx0 ha1 => ?_
  · (repeat' (with_reducible first|refine w_1 ?_|refine w_2 ?_|refine w_4 ?_|refine w_6 ?_|simp (maxDischargeDepth:=12) only [viz,↓reduceIte,reduceCtorEq,Int.reduceNeg, Int.reduceBEq, Int.reduceBNe, Int.reduceLT, Int.reduceLE, Int.reduceGT, Int.reduceGE]))
    obtain ⟨e1, e2⟩ := filt_none hE
    rw [e1, e2] at hK
    exact hK v lv1 s1 (h1.k.le hmr) ((hv.sl (D := fun q => (m ≤ q ∧ q < rl) ∧ ∃ i n z, v = .own q i n z) (mark_cells _) fun r n h => ⟨⟨(hv.row r _ _ _ h).1, hvr r _ _ _ h⟩, _, _, _, h⟩).keep fun q hq => h1.k.get q hq.1.2) ha1 fun q q1 q2 _ => (h1.o q q1 q2 (nn q)).1
  · have hk0 : ((k0 : Int) == -1) = false := by rw [beq_eq_false_iff_ne]; omega
    have hw0 : IntKind.i64.wrap ((k0 : Int) + 1) = ((k0 + 1 : Nat) : Int) := succ_cast (by have := (List.findIdx?_eq_some_iff_getElem.mp hE).1; omega)
    (repeat' (with_reducible first|refine w_1 ?_|refine w_2 ?_|refine w_3 ?_|refine w_4 ?_|refine w_5 ?_|simp (maxDischargeDepth:=12) only [viz,↓reduceIte,Nat.reduceEqDiff,Int.reduceNeg,hk0,hw0]))
    obtain ⟨hklt, hpk, hpn⟩ := List.findIdx?_eq_some_iff_getElem.mp hE
    obtain ⟨r, rfl, hr, hbr, hrl⟩ : ∃ r, v = .own r 0 l.length 2 ∧ s.get r = some ⟨68, 2, l.map markC⟩ ∧ m ≤ r ∧ r < rl := by
      rcases hv with ⟨_, h⟩ | ⟨r, h0, g1, _, g3, g4⟩
      · have : l = [] := by simpa using h
        rw [this] at hklt; simp at hklt
      · exact ⟨r, by rw [h0, List.length_map], g1, g3, hvr r _ _ _ h0⟩
    have hpre := pre_filter hklt hpk hpn
    have hpre2 := pre_filter2 hx0 hklt hpk hpn
    refine W_inv (l.length - (k0 + 1)) (fun n E s' => ∃ cur i lv', Keep m s s' ∧ s.next ≤ s'.next ∧ (∀ q, q < s.next → q ≠ rl → q ≠ r → s'.get q = s.get q ∧ ∀ i n z, lv' ≠ .own q i n z) ∧ AccE rl rx y R 68 2 (((l.take (k0 + 1 + n)).filter p).map markC) lv' s' ∧ s'.get r = some ⟨68, 2, cur⟩ ∧ cur.length = l.length ∧ (∀ c ∈ cur, c.length = 2) ∧ i ≤ k0 + n ∧ cur.take i = ((l.take (k0 + 1 + n)).filter fun x => !p x).map markC ∧ (∀ q, k0 + 1 + n ≤ q → cur[q]? = (l.map markC)[q]?) ∧ E.get 0 = .own r 0 l.length 2 ∧ E.get 1 = .fn f cp ∧ E.get 5 = .int .i64 i ∧ E.get 6 = .int .i64 ((k0 + 1 + n : Nat) : Int)) (by delta cf62l0 oo on om og oc ou; exact rfl) ?_ ?_
    · refine ⟨l.map markC, k0, lv1, h1.k.le hmr, h1.n, fun q q1 q2 _ => h1.o q q1 q2 (nn q), by rw [Nat.add_zero, hpre2]; exact ha1, by rw [h1.k.get r hrl, hr], List.length_map .., mark_cells _, by omega, ?_, fun _ _ => rfl, (by simp only [ev, Env.get_set, ↓reduceIte, Nat.reduceEqDiff]), (by simp only [ev, Env.get_set, ↓reduceIte, Nat.reduceEqDiff]), (by simp only [ev, Env.get_set, ↓reduceIte, Nat.reduceEqDiff]), (by simp only [ev, Env.get_set, ↓reduceIte, Nat.reduceEqDiff])⟩
      rw [Nat.add_zero, hpre, List.map_take]
    rintro n E s' hmle _ ⟨cur, i, lv2, hk, hn, hoth, ha2, hg, hcl2, hcz, him, hls, hcur, g0, g1, g5, g6⟩
    by_cases hlt : k0 + 1 + n < l.length
    · obtain ⟨x, hx⟩ := get_of hlt
      have hc' : cur[k0 + 1 + n]? = some (markC x) := (hcur _ (Nat.le_refl _)).trans (by rw [List.getElem?_map, hx]; rfl)
      have hat : atA 2 (.own r 0 l.length 2) (.int .i64 ((k0 + 1 + n : Nat) : Int)) = some (.ptr r (k0 + 1 + n) 0) := at0 hlt
      have hld := load_own hg hc' (z := markC x) rfl
      have hfl2 : s'.floor ≤ s'.next := by rw [hk.floor]; omega
      obtain ⟨c2, hc2⟩ := get_of (l := cur) (i := i) (by omega)
      have hz2 := hcz c2 (List.mem_of_getElem? hc2)
      have hrn' : r < s'.next := by omega
      have hfn : s'.floor ≤ r := by rw [hk.floor]; omega
      have hne : (r = s'.next) = False := by simp; omega
      have ht1 : k0 + 1 + (n + 1) = k0 + 1 + n + 1 := rfl
      have htk := filt_next (p := fun x => !p x) hx
      have htk2 := filt_next (p := p) hx
      have hp1 := pushes s' ⟨68, 2, [markC x]⟩
      have ha3 := ha2.push ⟨68, 2, [markC x]⟩
      have hal : (((l.take (k0 + 1 + n)).filter p).map markC).length < 4999 := by
        have := List.length_filter_le p (l.take (k0 + 1 + n))
        rw [List.length_take] at this; rw [List.length_map]; omega
      simp only [markC] at hld hp1
      (repeat' (with_reducible first|refine w_1 ?_|refine w_2 ?_|refine w_3 ?_|refine w_4 ?_|refine w_5 ?_|simp (maxDischargeDepth:=12) only [viz,↓reduceIte,Nat.reduceEqDiff,reduceCtorEq,Nat.reduceAdd,g0,g1,g6,lt_true hlt,hat,hld,hfl2]))
      simp only [markC] at ha3
      refine hp x _ lv2 _ _ (by rw [floor_push', next_push']; omega) ha3 hal fun lv3 s2 h2 ha4 => ?_
      have hn2 := h2.n
      rw [next_push'] at hn2
      have hg2 : s2.get r = some ⟨68, 2, cur⟩ := by rw [h2.k.get r hrl, hp1.get r hrn']; exact hg
      have hnr : ∀ i n z, lv2 ≠ .own s'.next i n z := fun i n z e => by have := ha2.o.row _ _ _ _ e; omega
      have hrls : s'.next ≠ rl := by have := ha2.n; omega
      have hg7 := (h2.o s'.next (by simp only [next_push']; omega) hrls hnr).1.trans (by simp only [Mem.get_push]; rw [if_pos trivial])
      have hat2 : atA 2 (.own r 0 l.length 2) (.int .i64 (i : Int)) = some (.ptr r i 0) := at0 (by omega)
      have hfs2 : s2.floor ≤ r := by rw [h2.k.floor, floor_push']; exact hfn
      have hst := store_own (d := markC x) hg2 hc2 hz2 rfl rfl hfs2
      simp only [markC] at hst
      have hkb : Keep m s s2 := (hk.trans (hp1.le (by omega))).trans (h2.k.le hmr)
      have hot2 : ∀ q, q < s.next → q ≠ rl → q ≠ r → s2.get q = s.get q ∧ ∀ i n z, lv3 ≠ .own q i n z := fun q p1 p2 p3 => by
        obtain ⟨e1, e2⟩ := hoth q p1 p2 p3
        obtain ⟨e3, e4⟩ := h2.o q (by rw [next_push']; omega) p2 e2
        exact ⟨by rw [e3, hp1.get q (by omega), e1], e4⟩
      cases hpx : p x
      · rw [hpx] at htk2 ha4
        simp only [hpx] at htk
        (repeat' (with_reducible first|refine w_1 ?_|refine w_2 ?_|refine w_4 ?_|simp (maxDischargeDepth:=12) only [vis,↓reduceIte,Nat.reduceEqDiff,reduceCtorEq,g0,g1,g5,g6,hg7,hat2,hst,loadA_ptr]))
        refine ⟨by omega, cur.set i (markC x), i + 1, lv3, ?_, ?_, ?_, ?_, ?_, ?_, ?_, ?_, ?_, ?_, ?_⟩
        · exact hkb.trans (Keep.put hbr _)
        · omega
        · intro q p1 p2 p3
          rw [if_neg p3]
          exact hot2 q p1 p2 p3
        · rw [ht1, htk2]
          have := ha4.turn (Turn.put r s2 (some ⟨68, 2, cur.set i (markC x)⟩)) hrl (by omega)
          simpa [markC] using this
        · rfl
        · rw [List.length_set]; exact hcl2
        · intro c hc
          rcases List.mem_or_eq_of_mem_set hc with h | rfl
          · exact hcz c h
          · rfl
        · omega
        · rw [ht1, htk, take_set_next (by omega), hls]; simp
        · intro q hq
          rw [List.getElem?_set, if_neg (by omega)]
          exact hcur q (by omega)
        · exact ⟨succ_av (by omega), succ_av (by omega)⟩
      · rw [hpx] at htk2 ha4
        simp only [hpx] at htk
        (repeat' (with_reducible first|refine w_2 ?_|refine w_4 ?_|refine w_5 ?_|simp (maxDischargeDepth:=12) only [viz,↓reduceIte,Nat.reduceEqDiff,reduceCtorEq,g0,g1,g5,g6]))
        exact ⟨by omega, cur, i, lv3, hkb, by omega, hot2, by rw [ht1, htk2]; simpa using ha4, hg2, hcl2, hcz, by omega, by rw [ht1, htk]; simpa using hls, fun q hq => hcur q (by omega), rfl, succ_av (by omega)⟩
    · have hi : i ≤ l.length := by omega
      obtain ⟨s2, els', hclr, hg2, htk, hln, htn⟩ := clr_own (i := i) (n := l.length - i) (z := [.str [], .int .u64 0]) hg (by omega) rfl (by rw [hk.floor]; omega)
      have hc1 : cutA 2 (.own r 0 l.length 2) (some i) none = some (.own r i (l.length - i) 2) := by simp [cutA]; omega
      have hc2 : cutA 2 (.own r 0 l.length 2) none (some i) = some (.own r 0 i 2) := by simp [cutA]; omega
      (repeat' (with_reducible first|refine w_1 ?_|refine w_2 ?_|refine w_4 ?_|refine w_6 ?_|refine w_7 ?_|simp (maxDischargeDepth:=12) only [viz,↓reduceIte,Nat.reduceEqDiff,reduceCtorEq,g0,g5,g6,lt_false hlt,bdA_some,bdV_nat,hc1,hc2,hclr]))
      have hall : l.take (k0 + 1 + n) = l := List.take_of_length_le (by omega)
      rw [hall] at hls ha2
      refine hK _ lv2 s2 (hk.trans (htn.keep hbr)) ?_ (ha2.turn htn hrl (by omega)) fun q p1 p2 p3 => ?_
      · rw [← hls]
        exact ⟨fun c hc => hcz c (List.mem_of_mem_take hc), .inr (.inr (.inr ⟨r, 0, i, _, rfl, ⟨⟨hbr, hrl⟩, _, _, _, rfl⟩, hg2, by simp only [hln]; omega, by simp only [List.drop_zero, htk]⟩))⟩
      · have hpr : q ≠ r := fun e => p3 0 l.length 2 (by rw [e])
        rw [htn.get q hpr, (hoth q p1 p2 hpr).1]
end Go.Proofs.YthibbbfhkfebkaaGreat

