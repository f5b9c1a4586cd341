/- Entries and logs: which may be. No statement of the seat is proved here. -/
import Derived.Test.YtfllmhjjfapnmaaGreatVZBytes
import Derived.Test.YtfllmhjjfapnmaaGreatVZVE
namespace Go.Proofs.YtfllmhjjfapnmaaGreat
open Go Go.VI
set_option linter.unusedSimpArgs false
attribute [local irreducible] Ws Wp W C
set_option maxHeartbeats 2000000
def NewD (D : Nat → Prop) (a b q : Nat) : Prop := D q ∨ (a ≤ q ∧ q < b)
theorem NewD.lt {D : Nat → Prop} {s s' : Mem} (hI : In D s) (hk : Keep s.next s s') : ∀ q, NewD D s.next s'.next q → Lt s'.next q := fun q hq => hq.elim (fun h => Nat.lt_of_lt_of_le (hI q h) hk.next) fun h => h.2
structure Entry where
  index : Int
  term : Int
  kind : Int
  data : List UInt8
structure Log where
  base : Entry
  l : List Entry
structure Entry.Wf (e : Entry) : Prop where
  index : 0 ≤ e.index ∧ e.index ≤ 18446744073709551615
  term : 0 ≤ e.term ∧ e.term ≤ 18446744073709551615
  kind : -9223372036854775808 ≤ e.kind ∧ e.kind ≤ 9223372036854775807
  data : Fit e.data.length
structure Log.Wf (l : Log) : Prop where
  base : l.base.Wf
  all : ∀ e ∈ l.l, e.Wf
  len : Fit l.l.length
def EntC (s : Mem) (D : Nat → Prop) (c : List AV) (e : Entry) : Prop := ∃ d, c = [.int .u64 e.index, .int .u64 e.term, .int .i64 e.kind, d] ∧ Byt s D d e.data
theorem EntC.keep {s s' : Mem} {D : Nat → Prop} {c : List AV} {e : Entry} (h : EntC s D c e) (hD : ∀ r, D r → s'.get r = s.get r) : EntC s' D c e := let ⟨d, h1, h2⟩ := h; ⟨d, h1, h2.keep hD⟩
theorem EntC.mono {s : Mem} {D D' : Nat → Prop} {c : List AV} {e : Entry} (h : EntC s D c e) (hD : ∀ r, D r → D' r) : EntC s D' c e := let ⟨d, h1, h2⟩ := h; ⟨d, h1, h2.mono hD⟩
theorem EntC.len {s : Mem} {D : Nat → Prop} {c : List AV} {e : Entry} (h : EntC s D c e) : c.length = 4 := by obtain ⟨d, rfl, _⟩ := h; rfl
theorem EntC.cell {s : Mem} {D : Nat → Prop} {c : List AV} {e : Entry} (h : EntC s D c e) : c.all isCell = true := by obtain ⟨d, rfl, h⟩ := h; simp only [List.all_cons, List.all_nil, h.cell, cell_int, Bool.and_self]
def EntsC (s : Mem) (D : Nat → Prop) (xs : List (List AV)) (es : List Entry) : Prop := xs.length = es.length ∧ ∀ (i : Nat) (c : List AV) (e : Entry), xs[i]? = some c → es[i]? = some e → EntC s D c e
theorem EntsC.keep {s s' : Mem} {D : Nat → Prop} {xs : List (List AV)} {es : List Entry} (h : EntsC s D xs es) (hD : ∀ r, D r → s'.get r = s.get r) : EntsC s' D xs es := ⟨h.1, fun i c e h1 h2 => (h.2 i c e h1 h2).keep hD⟩
theorem EntsC.mono {s : Mem} {D D' : Nat → Prop} {xs : List (List AV)} {es : List Entry} (h : EntsC s D xs es) (hD : ∀ r, D r → D' r) : EntsC s D' xs es := ⟨h.1, fun i c e h1 h2 => (h.2 i c e h1 h2).mono hD⟩
theorem EntsC.nil (s : Mem) (D : Nat → Prop) : EntsC s D [] [] := ⟨rfl, by intro i c e h; simp at h⟩
theorem EntsC.get {s : Mem} {D : Nat → Prop} {xs : List (List AV)} {es : List Entry} (h : EntsC s D xs es) {i : Nat} {e : Entry} (he : es[i]? = some e) : ∃ c, xs[i]? = some c ∧ EntC s D c e := by
  have hlt := (List.getElem?_eq_some_iff.mp he).1
  obtain ⟨c, hc⟩ := get_of (l := xs) (i := i) (by rw [h.1]; exact hlt)
  exact ⟨c, hc, h.2 i c e hc he⟩
theorem EntsC.sizes {s : Mem} {D : Nat → Prop} {xs : List (List AV)} {es : List Entry} (h : EntsC s D xs es) : ∀ c ∈ xs, c.length = 4 := by
  intro c hc
  obtain ⟨i, hi⟩ := List.mem_iff_getElem?.mp hc
  have hlt := (List.getElem?_eq_some_iff.mp hi).1
  obtain ⟨e, he⟩ := get_of (l := es) (i := i) (by rw [← h.1]; exact hlt)
  exact (h.2 i c e hi he).len
theorem EntsC.take {s : Mem} {D : Nat → Prop} {xs : List (List AV)} {es : List Entry} (h : EntsC s D xs es) (n : Nat) : EntsC s D (xs.take n) (es.take n) := by
  refine ⟨by simp [h.1], ?_⟩
  intro i c e h1 h2
  rw [List.getElem?_take] at h1 h2
  split at h1
  · rw [if_pos (by assumption)] at h2; exact h.2 i c e h1 h2
  · cases h1
theorem EntsC.drop {s : Mem} {D : Nat → Prop} {xs : List (List AV)} {es : List Entry} (h : EntsC s D xs es) (n : Nat) : EntsC s D (xs.drop n) (es.drop n) := by
  refine ⟨by simp [h.1], ?_⟩
  intro i c e h1 h2
  rw [List.getElem?_drop] at h1 h2
  exact h.2 _ c e h1 h2
theorem EntsC.append {s : Mem} {D : Nat → Prop} {xs ys : List (List AV)} {es fs : List Entry} (h : EntsC s D xs es) (k : EntsC s D ys fs) : EntsC s D (xs ++ ys) (es ++ fs) := by
  refine ⟨by simp [h.1, k.1], ?_⟩
  intro i c e h1 h2
  by_cases hi : i < xs.length
  · rw [List.getElem?_append_left hi] at h1
    rw [List.getElem?_append_left (by rw [← h.1]; exact hi)] at h2
    exact h.2 i c e h1 h2
  · rw [List.getElem?_append_right (by omega)] at h1
    rw [List.getElem?_append_right (by rw [← h.1]; omega), ← h.1] at h2
    exact k.2 _ c e h1 h2
theorem EntsC.one {s : Mem} {D : Nat → Prop} {c : List AV} {e : Entry} (h : EntC s D c e) : EntsC s D [c] [e] := by
  refine ⟨rfl, ?_⟩
  intro i c' e' h1 h2
  match i with
  | 0 => simp at h1 h2; subst h1 h2; exact h
  | i + 1 => simp at h1
def Ents (s : Mem) (D : Nat → Prop) (v : AV) (es : List Entry) : Prop := ∃ xs, Sl s D v 4 xs ∧ EntsC s D xs es
theorem Ents.keep {s s' : Mem} {D : Nat → Prop} {v : AV} {es : List Entry} (h : Ents s D v es) (hD : ∀ r, D r → s'.get r = s.get r) : Ents s' D v es := let ⟨xs, h1, h2⟩ := h; ⟨xs, h1.keep hD, h2.keep hD⟩
theorem Ents.mono {s : Mem} {D D' : Nat → Prop} {v : AV} {es : List Entry} (h : Ents s D v es) (hD : ∀ r, D r → D' r) : Ents s D' v es := let ⟨xs, h1, h2⟩ := h; ⟨xs, h1.mono hD, h2.mono hD⟩
theorem Ents.len {s : Mem} {D : Nat → Prop} {v : AV} {es : List Entry} (h : Ents s D v es) : lenA false v = some es.length := by obtain ⟨xs, h1, h2⟩ := h; rw [h1.len, h2.1]
theorem Ents.cell {s : Mem} {D : Nat → Prop} {v : AV} {es : List Entry} (h : Ents s D v es) : isCell v = true := by obtain ⟨xs, h1, _⟩ := h; exact h1.cell
theorem Ents.at {s : Mem} {D : Nat → Prop} {v : AV} {es : List Entry} (h : Ents s D v es) {i : Nat} {e : Entry} (he : es[i]? = some e) :
    ∃ d p, (∀ j, atA 4 v (.int j (i : Int)) = some p) ∧ Pt s p [.int .u64 e.index, .int .u64 e.term, .int .i64 e.kind, d] ∧ Byt s D d e.data := by
  obtain ⟨xs, h1, h2⟩ := h
  obtain ⟨c, hc, d, rfl, hd⟩ := h2.get he
  obtain ⟨p, hp, P⟩ := h1.at hc
  exact ⟨d, p, hp, P, hd⟩
def LogV (s : Mem) (D : Nat → Prop) (v : AV) (l : Log) : Prop := ∃ d w, v = .agg [.int .u64 l.base.index, .int .u64 l.base.term, .int .i64 l.base.kind, d, w] ∧ Byt s D d l.base.data ∧ Ents s D w l.l
theorem LogV.keep {s s' : Mem} {D : Nat → Prop} {v : AV} {l : Log} (h : LogV s D v l) (hD : ∀ r, D r → s'.get r = s.get r) : LogV s' D v l := let ⟨d, w, h1, h2, h3⟩ := h; ⟨d, w, h1, h2.keep hD, h3.keep hD⟩
theorem LogV.mono {s : Mem} {D D' : Nat → Prop} {v : AV} {l : Log} (h : LogV s D v l) (hD : ∀ r, D r → D' r) : LogV s D' v l := let ⟨d, w, h1, h2, h3⟩ := h; ⟨d, w, h1, h2.mono hD, h3.mono hD⟩
def entOk (e : Entry) : Bool := decide (0 ≤ e.kind) && decide (e.kind < 3) && decide (e.data.length ≤ 4096) && (!decide (e.kind = 2) || okV (nodes e.data))
theorem entry_c {e : Entry} {D : Nat → Prop} {s : Mem} {d : AV} {K : AV → Mem → Prop} (hf : s.floor ≤ s.next) (hI : In D s) (hd : Byt s D d e.data) (hw : e.Wf)
    (hK : ∀ s', Keep s.next s s' → K (.bool (entOk e)) s') : C tab 111 [.agg [.int .u64 e.index, .int .u64 e.term, .int .i64 e.kind, d]] s K := by
  refine C_enter (cf := cf111) rfl (Nat.le_of_ble_eq_true rfl) ?_
  simp only [cf111, oo, on, om, og, oc, ou]
  have hd1 := hd.keep (push_old hI ⟨25, 4, [[.int .u64 e.index, .int .u64 e.term, .int .i64 e.kind, d]]⟩)
  (repeat' (with_reducible first|refine w_1 ?_|refine w_2 ?_|refine w_3 ?_|refine w_4 ?_|refine w_5 ?_|refine w_6 ?_|refine w_7 ?_|(refine w_8 (fun hb=>?_) (fun hb=>?_)<;>try simp only [hb])|refine w_9 ?_|simp (maxDischargeDepth:=12) only [viz,↓reduceIte,Nat.reduceEqDiff,reduceCtorEq,Int.reduceEq,Int.reduceNeg,Nat.reduceAdd,Nat.reduceLeDiff,hd.cell,hd.lenB]))
  · exact K_of hK (pushes _ _) (by grind [entOk])
  · refine nodes_c (ok_push hf _) hd1 (hI.push _) hw.data fun v' s' ho hk => ?_
    (repeat' (with_reducible first|refine w_1 ?_|refine w_2 ?_|refine w_3 ?_|refine w_4 ?_|refine w_5 ?_|refine w_6 ?_|refine w_7 ?_|(refine w_8 (fun hb=>?_) (fun hb=>?_)<;>try simp only [hb])|refine w_9 ?_|simp (maxDischargeDepth:=12) only [viz,↓reduceIte,Nat.reduceEqDiff,reduceCtorEq,Int.reduceEq,Int.reduceNeg,Nat.reduceAdd,Nat.reduceLeDiff]))
    refine check_c (D := fun _ => True) (ho.sl (fun c hc => by obtain ⟨a, _, rfl⟩ := List.mem_map.mp hc; rfl) (fun _ _ _ => trivial)) (by rw [nodes_len]; exact hw.data) ?_
    (repeat' (with_reducible first|refine w_1 ?_|refine w_2 ?_|refine w_3 ?_|refine w_4 ?_|refine w_5 ?_|refine w_6 ?_|refine w_7 ?_|(refine w_8 (fun hb=>?_) (fun hb=>?_)<;>try simp only [hb])|refine w_9 ?_|simp (maxDischargeDepth:=12) only [viz,↓reduceIte,Nat.reduceEqDiff,reduceCtorEq,Int.reduceEq,Int.reduceNeg,Nat.reduceAdd,Nat.reduceLeDiff]))
    exact K_of hK ((pushes _ _).then hk) (by grind [entOk])
  · exact K_of hK (pushes _ _) (by grind [entOk])
  · exact K_of hK (pushes _ _) (by grind [entOk])
  · exact K_of hK (pushes _ _) (by grind [entOk])
theorem intsA_sz (k : IntKind) (l : List Int) : ∀ c ∈ intsA k l, c.length = 1 := by
  intro c hc
  obtain ⟨a, _, rfl⟩ := List.mem_map.mp hc
  rfl
theorem own_ints {s : Mem} {b ty : Nat} {v : AV} {k : IntKind} {l : List Int} (h : OwnL s b v ty 1 (intsA k l)) : Sl s (fun _ => True) v 1 (intsA k l) := h.sl (intsA_sz k l) fun _ _ _ => trivial
theorem rentry_c {e : Entry} {D : Nat → Prop} {s : Mem} {d : AV} {K : AV → Mem → Prop} (hf : s.floor ≤ s.next) (hI : In D s) (hd : Byt s D d e.data) (hw : e.Wf)
    (hK : ∀ s', Keep s.next s s' → K (.bool (entOk e)) s') : C tab 108 [.agg [.int .u64 e.index, .int .u64 e.term, .int .i64 e.kind, d]] s K := by
  refine C_enter (cf := cf108) rfl (Nat.le_of_ble_eq_true rfl) ?_
  simp only [cf108, oo, on, om, og, oc, ou]
  have hd1 := hd.keep (push_old hI ⟨25, 4, [[.int .u64 e.index, .int .u64 e.term, .int .i64 e.kind, d]]⟩)
  (repeat' (with_reducible first|refine w_1 ?_|refine w_2 ?_|refine w_3 ?_|refine w_4 ?_|refine w_5 ?_|refine w_6 ?_|refine w_7 ?_|(refine w_8 (fun hb=>?_) (fun hb=>?_)<;>try simp only [hb])|refine w_9 ?_|simp (maxDischargeDepth:=12) only [viz,↓reduceIte,Nat.reduceEqDiff,reduceCtorEq,Int.reduceEq,Int.reduceNeg,Nat.reduceAdd,Nat.reduceLeDiff,hd.cell,hd.lenB]))
  · exact K_of hK (pushes _ _) (by grind [entOk])
  · exact K_of hK (pushes _ _) (by grind [entOk])
  · exact K_of hK (pushes _ _) (by grind [entOk])
  · exact K_of hK (pushes _ _) (by grind [entOk])
  · refine rnodes_c (ok_push hf _) hd1 (hI.push _) hw.data fun v' s' ho hk => ?_
    (repeat' (with_reducible first|refine w_1 ?_|refine w_2 ?_|refine w_3 ?_|refine w_4 ?_|refine w_5 ?_|refine w_6 ?_|refine w_7 ?_|(refine w_8 (fun hb=>?_) (fun hb=>?_)<;>try simp only [hb])|refine w_9 ?_|simp (maxDischargeDepth:=12) only [viz,↓reduceIte,Nat.reduceEqDiff,reduceCtorEq,Int.reduceEq,Int.reduceNeg,Nat.reduceAdd,Nat.reduceLeDiff]))
    refine rcheck_c (own_ints ho) (by rw [nodes_len]; exact hw.data) ?_
    (repeat' (with_reducible first|refine w_1 ?_|refine w_2 ?_|refine w_3 ?_|refine w_4 ?_|refine w_5 ?_|refine w_6 ?_|refine w_7 ?_|(refine w_8 (fun hb=>?_) (fun hb=>?_)<;>try simp only [hb])|refine w_9 ?_|simp (maxDischargeDepth:=12) only [viz,↓reduceIte,Nat.reduceEqDiff,reduceCtorEq,Int.reduceEq,Int.reduceNeg,Nat.reduceAdd,Nat.reduceLeDiff]))
    exact K_of hK ((pushes _ _).then hk) (by grind [entOk])
def beh : Int → Int → List Entry → Bool
  | _, _, [] => true
  | ix, tm, e :: es => decide (e.index = ix + 1) && decide (tm ≤ e.term) && entOk e && beh e.index e.term es
theorem next_u64 {x : Int} (h : 0 ≤ x ∧ x ≤ 18446744073709551615) : IntKind.u64.wrap (x + 1) = if x = 18446744073709551615 then 0 else x + 1 := by
  split
  · subst_vars; rfl
  · exact wrap_u64 (by omega)
theorem behind_c {es : List Entry} {D : Nat → Prop} {s : Mem} {v : AV} {ix tm : Int} {K : AV → Mem → Prop} (hf : s.floor ≤ s.next) (hI : In D s) (hv : Ents s D v es) (hw : ∀ e ∈ es, e.Wf) (hn : Fit es.length) (hix : 0 ≤ ix ∧ ix ≤ 18446744073709551615)
    (hK : ∀ s', Keep s.next s s' → K (.bool (beh ix tm es)) s') : C tab 59 [.int .u64 ix, .int .u64 tm, v] s K := by
  refine C_enter (cf := cf59) rfl (Nat.le_of_ble_eq_true rfl) ?_
  simp only [cf59, oo, on, om, og, oc, ou]
  (repeat' (with_reducible first|refine w_1 ?_|refine w_2 ?_|refine w_3 ?_|refine w_4 ?_|refine w_5 ?_|refine w_6 ?_|refine w_7 ?_|(refine w_8 (fun hb=>?_) (fun hb=>?_)<;>try simp only [hb])|refine w_9 ?_|simp (maxDischargeDepth:=12) only [viz,↓reduceIte,Nat.reduceEqDiff,reduceCtorEq,Int.reduceEq,Int.reduceNeg,Nat.reduceAdd,Nat.reduceLeDiff]))
  refine W_inv es.length (fun i e s' => Keep s.next s s' ∧ e.get 2 = v ∧ e.get 7 = .int .i64 i ∧ ∃ jx tn, e.get 0 = .int .u64 jx ∧ e.get 1 = .int .u64 tn ∧ (0 ≤ jx ∧ jx ≤ 18446744073709551615) ∧ beh ix tm es = beh jx tn (es.drop i)) (by delta cf59l0 oo on om og oc ou; exact rfl) ?_ ?_
  · (repeat' (with_reducible first|refine w_1 ?_|refine w_2 ?_|refine w_3 ?_|refine w_4 ?_|refine w_5 ?_|refine w_6 ?_|refine w_7 ?_|(refine w_8 (fun hb=>?_) (fun hb=>?_)<;>try simp only [hb])|refine w_9 ?_|simp (maxDischargeDepth:=12) only [viz,↓reduceIte,Nat.reduceEqDiff,reduceCtorEq,Int.reduceEq,Int.reduceNeg,Nat.reduceAdd,Nat.reduceLeDiff]))
    exact ⟨rfl, _, _, rfl, rfl, hix, rfl⟩
  · rintro i e s' hi _ ⟨hk, h2, h7, jx, tn, h0, h1, hjx, hbeh⟩
    have hv' := hv.keep (keep_old hI hk)
    have hI' := hI.keep hk
    by_cases hlt : i < es.length
    · obtain ⟨x, hx⟩ := get_of hlt
      obtain ⟨d, p, hp, P, hd⟩ := hv'.at hx
      have hxw := hw x (List.mem_of_getElem? hx)
      have hix := hxw.index
      rw [drop_cons hx] at hbeh
      simp only [beh] at hbeh
      by_cases hmax : jx = 18446744073709551615
      · subst hmax
        (repeat' (with_reducible first|refine w_1 ?_|refine w_2 ?_|refine w_3 ?_|refine w_4 ?_|refine w_5 ?_|refine w_6 ?_|refine w_7 ?_|(refine w_8 (fun hb=>?_) (fun hb=>?_)<;>try simp only [hb])|refine w_9 ?_|simp (maxDischargeDepth:=12) only [viz,↓reduceIte,Nat.reduceEqDiff,reduceCtorEq,Int.reduceEq,Int.reduceNeg,Nat.reduceAdd,Nat.reduceLeDiff,h0,h1,h2,h7,hv'.len,lt_true hlt]))
        exact K_of hK hk (by rw [hbeh]; have : decide (x.index = 18446744073709551615 + 1) = false := by simp; omega
                             rw [this]; rfl)
      have hm : (jx == 18446744073709551615) = false := by simpa using hmax
      have hw1 : IntKind.u64.wrap (jx + 1) = jx + 1 := wrap_u64 (by omega)
      (repeat' (with_reducible first|refine w_1 ?_|refine w_2 ?_|refine w_3 ?_|refine w_4 ?_|refine w_5 ?_|refine w_6 ?_|refine w_7 ?_|(refine w_8 (fun hb=>?_) (fun hb=>?_)<;>try simp only [hb])|refine w_9 ?_|simp (maxDischargeDepth:=12) only [viz,↓reduceIte,Nat.reduceEqDiff,reduceCtorEq,Int.reduceEq,Int.reduceNeg,Nat.reduceAdd,Nat.reduceLeDiff,h0,h1,h2,h7,hv'.len,lt_true hlt,hp,P.adr,P.ldf,P.ld,Nat.zero_le,hm,hw1]))
      · exact K_of hK hk (by rw [hbeh]; have : decide (x.index = jx + 1) = false := by simpa using hb
                             rw [this]; rfl)
      · exact K_of hK hk (by rw [hbeh]; have : decide (tn ≤ x.term) = false := by simp only [decide_eq_true_eq] at hb; simp; omega
                             rw [this]; simp)
      · refine rentry_c (hk.ok hf) hI' hd hxw fun s2 hk2 => ?_
        have hv2 := hv'.keep (keep_old hI' hk2)
        obtain ⟨d2, p2, hp2, P2, hd2⟩ := hv2.at hx
        (repeat' (with_reducible first|refine w_1 ?_|refine w_2 ?_|refine w_3 ?_|refine w_4 ?_|refine w_5 ?_|refine w_6 ?_|refine w_7 ?_|(refine w_8 (fun hb=>?_) (fun hb=>?_)<;>try simp only [hb])|refine w_9 ?_|simp (maxDischargeDepth:=12) only [viz,↓reduceIte,Nat.reduceEqDiff,reduceCtorEq,Int.reduceEq,Int.reduceNeg,Nat.reduceAdd,Nat.reduceLeDiff,h0,h1,h2,h7,hp2,P2.adr,P2.ldf,P2.ld,Nat.zero_le]))
        · exact K_of hK (hk.then hk2) (by rw [hbeh]; have : entOk x = false := by simpa using hb
                                          rw [this]; simp)
        · rename_i hb2 hb3
          refine ⟨hlt, hk.then hk2, succ_av (by omega), _, _, rfl, rfl, hxw.index, ?_⟩
          have e1 : decide (x.index = jx + 1) = true := by simpa using hb2
          have e2 : decide (tn ≤ x.term) = true := by simp only [decide_eq_false_iff_not] at hb3; simp; omega
          have e3 : entOk x = true := by simpa using hb
          rw [hbeh, e1, e2, e3]; rfl
    · (repeat' (with_reducible first|refine w_1 ?_|refine w_2 ?_|refine w_3 ?_|refine w_4 ?_|refine w_5 ?_|refine w_6 ?_|refine w_7 ?_|(refine w_8 (fun hb=>?_) (fun hb=>?_)<;>try simp only [hb])|refine w_9 ?_|simp (maxDischargeDepth:=12) only [viz,↓reduceIte,Nat.reduceEqDiff,reduceCtorEq,Int.reduceEq,Int.reduceNeg,Nat.reduceAdd,Nat.reduceLeDiff,h0,h1,h2,h7,hv'.len,lt_false hlt]))
      rw [drop_end hlt] at hbeh
      exact K_of hK hk (by rw [hbeh]; rfl)
end Go.Proofs.YtfllmhjjfapnmaaGreat
/- Which logs may be, their last entry. No statement of the seat is proved here. -/
namespace Go.Proofs.YtfllmhjjfapnmaaGreat
open Go Go.VI
set_option linter.unusedSimpArgs false
attribute [local irreducible] Ws Wp W C
set_option maxHeartbeats 2000000
theorem follow_c {es : List Entry} {D : Nat → Prop} {s : Mem} {v : AV} {ix tm : Int} {K : AV → Mem → Prop} (hf : s.floor ≤ s.next) (hI : In D s) (hv : Ents s D v es) (hw : ∀ e ∈ es, e.Wf) (hn : Fit es.length) (hix : 0 ≤ ix ∧ ix ≤ 18446744073709551615)
    (hK : ∀ s', Keep s.next s s' → K (.bool (beh ix tm es)) s') : C tab 107 [.int .u64 ix, .int .u64 tm, v] s K := by
  refine C_enter (cf := cf107) rfl (Nat.le_of_ble_eq_true rfl) ?_
  simp only [cf107, oo, on, om, og, oc, ou]
  (repeat' (with_reducible first|refine w_1 ?_|refine w_2 ?_|refine w_3 ?_|refine w_4 ?_|refine w_5 ?_|refine w_6 ?_|refine w_7 ?_|(refine w_8 (fun hb=>?_) (fun hb=>?_)<;>try simp only [hb])|refine w_9 ?_|simp (maxDischargeDepth:=12) only [viz,↓reduceIte,Nat.reduceEqDiff,reduceCtorEq,Int.reduceEq,Int.reduceNeg,Nat.reduceAdd,Nat.reduceLeDiff,hv.len]))
  refine W_inv es.length (fun i e s' => Keep s.next s s' ∧ e.get 0 = .int .u64 ix ∧ e.get 9 = v ∧ e.get 10 = .int .i64 es.length ∧ e.get 11 = .int .i64 i ∧ ∃ tn, e.get 1 = .int .u64 tn ∧ ix + i ≤ 18446744073709551615 ∧ beh ix tm es = beh (ix + i) tn (es.drop i)) (by delta cf107l0 oo on om og oc ou; exact rfl) ?_ ?_
  · (repeat' (with_reducible first|refine w_1 ?_|refine w_2 ?_|refine w_3 ?_|refine w_4 ?_|refine w_5 ?_|refine w_6 ?_|refine w_7 ?_|(refine w_8 (fun hb=>?_) (fun hb=>?_)<;>try simp only [hb])|refine w_9 ?_|simp (maxDischargeDepth:=12) only [viz,↓reduceIte,Nat.reduceEqDiff,reduceCtorEq,Int.reduceEq,Int.reduceNeg,Nat.reduceAdd,Nat.reduceLeDiff]))
    exact ⟨rfl, _, rfl, by omega, by simp⟩
  · rintro i e s' hi _ ⟨hk, h0, h9, h10, h11, tn, h1, hle, hbeh⟩
    have hv' := hv.keep (keep_old hI hk)
    have hI' := hI.keep hk
    have hf' := hk.ok hf
    by_cases hlt : i < es.length
    · obtain ⟨x, hx⟩ := get_of hlt
      obtain ⟨d, p, hp, P, hd⟩ := hv'.at hx
      have hxw := hw x (List.mem_of_getElem? hx)
      have hxi := hxw.index
      rw [drop_cons hx] at hbeh
      simp only [beh] at hbeh
      have w1 : IntKind.u64.wrap (i : Int) = i := wrap_u64 (by omega)
      have w2 : IntKind.u64.wrap (ix + i) = ix + i := wrap_u64 (by omega)
      have w3 := next_u64 (x := ix + i) (by omega)
      have bad : ∀ h : ¬ (x.index = ix + i + 1 ∧ tn ≤ x.term), beh ix tm es = false := by
        intro h
        rw [hbeh]
        by_cases h1 : x.index = ix + i + 1
        · have : decide (tn ≤ x.term) = false := by simp; omega
          rw [this]; simp
        · have : decide (x.index = ix + i + 1) = false := by simp [h1]
          rw [this]; rfl
      (repeat' (with_reducible first|refine w_1 ?_|refine w_2 ?_|refine w_3 ?_|refine w_4 ?_|refine w_5 ?_|refine w_6 ?_|refine w_7 ?_|(refine w_8 (fun hb=>?_) (fun hb=>?_)<;>try simp only [hb])|refine w_9 ?_|simp (maxDischargeDepth:=12) only [viz,↓reduceIte,Nat.reduceEqDiff,reduceCtorEq,Int.reduceEq,Int.reduceNeg,Nat.reduceAdd,Nat.reduceLeDiff,h0,h1,h9,h10,h11,lt_true hlt,hp,P.adr,P.ldf,P.ld,Nat.zero_le,hf',hd.cell,w1,w2]))
      · refine K_of hK (hk.then (pushes _ _)) (bad ?_)
        simp only [bne_iff_ne, ne_eq] at hb
        split at w3 <;> omega
      · rename_i hb2
        refine K_of hK (hk.then (pushes _ _)) (bad ?_)
        simp only [decide_eq_true_eq] at hb
        omega
      · refine K_of hK (hk.then (pushes _ _)) (bad ?_)
        simp only [decide_eq_true_eq] at hb
        omega
      · rename_i hb1 hb2
        have hbox := pushes s' ⟨25, 4, [[.int .u64 x.index, .int .u64 x.term, .int .i64 x.kind, d]]⟩
        refine entry_c (ok_push hf' _) (hI'.push _) (hd.keep (push_old hI' _)) hxw fun s2 hk2 => ?_
        have e1 : x.index = ix + i + 1 := by
          simp only [bne_eq_false_iff_eq, decide_eq_false_iff_not] at hb1 hb2
          split at w3
          · omega
          · omega
        have e2 : tn ≤ x.term := by simp only [decide_eq_false_iff_not] at hb; omega
        have e1' : decide (x.index = ix + i + 1) = true := by simp [e1]
        have e2' : decide (tn ≤ x.term) = true := by simp [e2]
        rw [e1', e2'] at hbeh
        (repeat' (with_reducible first|refine w_1 ?_|refine w_2 ?_|refine w_3 ?_|refine w_4 ?_|refine w_5 ?_|refine w_6 ?_|refine w_7 ?_|(refine w_8 (fun hb=>?_) (fun hb=>?_)<;>try simp only [hb])|refine w_9 ?_|simp (maxDischargeDepth:=12) only [viz,↓reduceIte,Nat.reduceEqDiff,reduceCtorEq,Int.reduceEq,Int.reduceNeg,Nat.reduceAdd,Nat.reduceLeDiff,h0,h1,h9,h10,h11,hk2.get]))
        · refine K_of hK (hk.then (hbox.then hk2)) ?_
          have e3 : entOk x = false := by simpa using hb
          rw [hbeh, e3]; rfl
        · refine ⟨hlt, hk.then (hbox.then hk2), succ_av (by omega), _, rfl, by omega, ?_⟩
          have e3 : entOk x = true := by simpa using hb
          rw [hbeh, e3, e1]
          show beh _ _ _ = _
          congr 1
          omega
    · (repeat' (with_reducible first|refine w_1 ?_|refine w_2 ?_|refine w_3 ?_|refine w_4 ?_|refine w_5 ?_|refine w_6 ?_|refine w_7 ?_|(refine w_8 (fun hb=>?_) (fun hb=>?_)<;>try simp only [hb])|refine w_9 ?_|simp (maxDischargeDepth:=12) only [viz,↓reduceIte,Nat.reduceEqDiff,reduceCtorEq,Int.reduceEq,Int.reduceNeg,Nat.reduceAdd,Nat.reduceLeDiff,h0,h1,h9,h10,h11,lt_false hlt]))
      rw [drop_end hlt] at hbeh
      exact K_of hK hk (by rw [hbeh]; rfl)
def logOk (l : Log) : Bool := decide (l.base.kind = 0) && okV (nodes l.base.data) && decide (l.base.index ≤ 4611686018427387904) && decide (l.l.length ≤ 4096) && beh l.base.index l.base.term l.l
theorem rlogCheck_c {l : Log} {D : Nat → Prop} {s : Mem} {v : AV} {K : AV → Mem → Prop} (hf : s.floor ≤ s.next) (hI : In D s) (hv : LogV s D v l) (hw : l.Wf)
    (hK : ∀ s', Keep s.next s s' → K (.int .i64 (if logOk l = true then 0 else 1)) s') : C tab 54 [v] s K := by
  obtain ⟨d, w, rfl, hd, hes⟩ := hv
  have no : logOk l = false → ∀ s', Keep s.next s s' → K (.int .i64 1) s' := fun h s' hk => by have := hK s' hk; rw [h] at this; exact this
  refine C_enter (cf := cf54) rfl (Nat.le_of_ble_eq_true rfl) ?_
  simp only [cf54, oo, on, om, og, oc, ou]
  (repeat' (with_reducible first|refine w_1 ?_|refine w_2 ?_|refine w_3 ?_|refine w_4 ?_|refine w_5 ?_|refine w_6 ?_|refine w_7 ?_|(refine w_8 (fun hb=>?_) (fun hb=>?_)<;>try simp only [hb])|refine w_9 ?_|simp (maxDischargeDepth:=12) only [viz,↓reduceIte,Nat.reduceEqDiff,reduceCtorEq,Int.reduceEq,Int.reduceNeg,Nat.reduceAdd,Nat.reduceLeDiff,hd.cell,hes.cell,hf]))
  · refine no ?_ _ ((pushes _ _).then (pushes _ _))
    have : decide (l.base.kind = 0) = false := by simpa using hb
    simp [logOk, this]
  · have hk0 := (pushes s ⟨28, 5, [[.int .u64 l.base.index, .int .u64 l.base.term, .int .i64 l.base.kind, d, w]]⟩).then (pushes _ ⟨25, 4, [[.int .u64 l.base.index, .int .u64 l.base.term, .int .i64 l.base.kind, d]]⟩)
    refine nodes_c (hk0.ok hf) (hd.keep (keep_old hI hk0)) (hI.keep hk0) hw.base.data fun v' s1 ho hk1 => ?_
    (repeat' (with_reducible first|refine w_1 ?_|refine w_2 ?_|refine w_3 ?_|refine w_4 ?_|refine w_5 ?_|refine w_6 ?_|refine w_7 ?_|(refine w_8 (fun hb=>?_) (fun hb=>?_)<;>try simp only [hb])|refine w_9 ?_|simp (maxDischargeDepth:=12) only [viz,↓reduceIte,Nat.reduceEqDiff,reduceCtorEq,Int.reduceEq,Int.reduceNeg,Nat.reduceAdd,Nat.reduceLeDiff]))
    refine check_c (own_ints ho) (by rw [nodes_len]; exact hw.base.data) ?_
    (repeat' (with_reducible first|refine w_1 ?_|refine w_2 ?_|refine w_3 ?_|refine w_4 ?_|refine w_5 ?_|refine w_6 ?_|refine w_7 ?_|(refine w_8 (fun hb=>?_) (fun hb=>?_)<;>try simp only [hb])|refine w_9 ?_|simp (maxDischargeDepth:=12) only [viz,↓reduceIte,Nat.reduceEqDiff,reduceCtorEq,Int.reduceEq,Int.reduceNeg,Nat.reduceAdd,Nat.reduceLeDiff,hk1.get,hes.len]))
    · refine no ?_ _ (hk0.then hk1)
      have : okV (nodes l.base.data) = false := by simpa using hb
      simp [logOk, this]
    · refine no ?_ _ (hk0.then hk1)
      have : ¬ l.base.index ≤ 4611686018427387904 := by simpa using hb
      simp [logOk, this]
    · refine no ?_ _ (hk0.then hk1)
      have : ¬ l.l.length ≤ 4096 := by simp only [decide_eq_true_eq] at hb; omega
      simp [logOk, this]
    · rename_i hb0 hb1 hb2
      have hk01 := hk0.then hk1
      refine follow_c (hk01.ok hf) (hI.keep hk01) (hes.keep (keep_old hI hk01)) hw.all hw.len hw.base.index fun s2 hk2 => ?_
      have a0 : decide (l.base.kind = 0) = true := by simpa using hb0
      have a1 : okV (nodes l.base.data) = true := by simpa using hb1
      have a2 : decide (l.base.index ≤ 4611686018427387904) = true := by simp only [decide_eq_false_iff_not] at hb2; simp; omega
      have a3 : decide (l.l.length ≤ 4096) = true := by simp only [decide_eq_false_iff_not] at hb; simp; omega
      have hlo : logOk l = beh l.base.index l.base.term l.l := by simp only [logOk, a0, a1, a2, a3, Bool.true_and]
      rw [hlo] at hK no
      (repeat' (with_reducible first|refine w_1 ?_|refine w_2 ?_|refine w_3 ?_|refine w_4 ?_|refine w_5 ?_|refine w_6 ?_|refine w_7 ?_|(refine w_8 (fun hb=>?_) (fun hb=>?_)<;>try simp only [hb])|refine w_9 ?_|simp (maxDischargeDepth:=12) only [viz,↓reduceIte,Nat.reduceEqDiff,reduceCtorEq,Int.reduceEq,Int.reduceNeg,Nat.reduceAdd,Nat.reduceLeDiff]))
      · exact no (by simpa using hb) _ (hk01.then hk2)
      · have := hK _ (hk01.then hk2)
        have e : beh l.base.index l.base.term l.l = true := by simpa using hb
        rw [e] at this; exact this
theorem may_c {l : Log} {D : Nat → Prop} {s : Mem} {v : AV} {K : AV → Mem → Prop} (hf : s.floor ≤ s.next) (hI : In D s) (hv : LogV s D v l) (hw : l.Wf)
    (hK : ∀ s', Keep s.next s s' → K (.bool (logOk l)) s') : C tab 42 [v] s K := by
  obtain ⟨d, w, rfl, hd, hes⟩ := hv
  refine C_enter (cf := cf42) rfl (Nat.le_of_ble_eq_true rfl) ?_
  simp only [cf42, oo, on, om, og, oc, ou]
  (repeat' (with_reducible first|refine w_1 ?_|refine w_2 ?_|refine w_3 ?_|refine w_4 ?_|refine w_5 ?_|refine w_6 ?_|refine w_7 ?_|(refine w_8 (fun hb=>?_) (fun hb=>?_)<;>try simp only [hb])|refine w_9 ?_|simp (maxDischargeDepth:=12) only [viz,↓reduceIte,Nat.reduceEqDiff,reduceCtorEq,Int.reduceEq,Int.reduceNeg,Nat.reduceAdd,Nat.reduceLeDiff,hd.cell,hes.cell,hf]))
  · refine K_of hK (pushes _ _) ?_
    have : decide (l.base.kind = 0) = false := by simpa using hb
    simp [logOk, this]
  · have hk0 := pushes s ⟨28, 5, [[.int .u64 l.base.index, .int .u64 l.base.term, .int .i64 l.base.kind, d, w]]⟩
    refine rnodes_c (hk0.ok hf) (hd.keep (keep_old hI hk0)) (hI.keep hk0) hw.base.data fun v' s1 ho hk1 => ?_
    (repeat' (with_reducible first|refine w_1 ?_|refine w_2 ?_|refine w_3 ?_|refine w_4 ?_|refine w_5 ?_|refine w_6 ?_|refine w_7 ?_|(refine w_8 (fun hb=>?_) (fun hb=>?_)<;>try simp only [hb])|refine w_9 ?_|simp (maxDischargeDepth:=12) only [viz,↓reduceIte,Nat.reduceEqDiff,reduceCtorEq,Int.reduceEq,Int.reduceNeg,Nat.reduceAdd,Nat.reduceLeDiff]))
    refine rcheck_c (own_ints ho) (by rw [nodes_len]; exact hw.base.data) ?_
    (repeat' (with_reducible first|refine w_1 ?_|refine w_2 ?_|refine w_3 ?_|refine w_4 ?_|refine w_5 ?_|refine w_6 ?_|refine w_7 ?_|(refine w_8 (fun hb=>?_) (fun hb=>?_)<;>try simp only [hb])|refine w_9 ?_|simp (maxDischargeDepth:=12) only [viz,↓reduceIte,Nat.reduceEqDiff,reduceCtorEq,Int.reduceEq,Int.reduceNeg,Nat.reduceAdd,Nat.reduceLeDiff,hk1.get,hes.len]))
    · refine K_of hK (hk0.then hk1) ?_
      have : okV (nodes l.base.data) = false := by simpa using hb
      simp [logOk, this]
    · refine K_of hK (hk0.then hk1) ?_
      have : ¬ l.base.index ≤ 4611686018427387904 := by simpa using hb
      simp [logOk, this]
    · refine K_of hK (hk0.then hk1) ?_
      have : ¬ l.l.length ≤ 4096 := by simp only [decide_eq_true_eq] at hb; omega
      simp [logOk, this]
    · rename_i hb0 hb1 hb2
      have hk01 := hk0.then hk1
      refine behind_c (hk01.ok hf) (hI.keep hk01) (hes.keep (keep_old hI hk01)) hw.all hw.len hw.base.index fun s2 hk2 => ?_
      have a0 : decide (l.base.kind = 0) = true := by simpa using hb0
      have a1 : okV (nodes l.base.data) = true := by simpa using hb1
      have a2 : decide (l.base.index ≤ 4611686018427387904) = true := by simp only [decide_eq_false_iff_not] at hb2; simp; omega
      have a3 : decide (l.l.length ≤ 4096) = true := by simp only [decide_eq_false_iff_not] at hb; simp; omega
      have hlo : logOk l = beh l.base.index l.base.term l.l := by simp only [logOk, a0, a1, a2, a3, Bool.true_and]
      (repeat' (with_reducible first|refine w_1 ?_|refine w_2 ?_|refine w_3 ?_|refine w_4 ?_|refine w_5 ?_|refine w_6 ?_|refine w_7 ?_|(refine w_8 (fun hb=>?_) (fun hb=>?_)<;>try simp only [hb])|refine w_9 ?_|simp (maxDischargeDepth:=12) only [viz,↓reduceIte,Nat.reduceEqDiff,reduceCtorEq,Int.reduceEq,Int.reduceNeg,Nat.reduceAdd,Nat.reduceLeDiff]))
      exact K_of hK (hk01.then hk2) hlo
end Go.Proofs.YtfllmhjjfapnmaaGreat
/- The last entry, the term at an index, light logs. No statement of the seat is proved here. -/
namespace Go.Proofs.YtfllmhjjfapnmaaGreat
open Go Go.VI
set_option linter.unusedSimpArgs false
attribute [local irreducible] Ws Wp W C
set_option maxHeartbeats 2000000
theorem Ents.atk {s : Mem} {D : Nat → Prop} {v : AV} {es : List Entry} (h : Ents s D v es) (hI : In D s) {i : Nat} {e : Entry} (he : es[i]? = some e) :
    ∃ d p, (∀ j, atA 4 v (.int j (i : Int)) = some p) ∧ Ptk s p [.int .u64 e.index, .int .u64 e.term, .int .i64 e.kind, d] ∧ Byt s D d e.data := by
  obtain ⟨xs, h1, h2⟩ := h
  obtain ⟨c, hc, d, rfl, hd⟩ := h2.get he
  obtain ⟨p, hp, P⟩ := h1.atk hI hc
  exact ⟨d, p, hp, P, hd⟩
def lastE (l : Log) : Entry := l.l.getLast?.getD l.base
theorem lastE_nil {l : Log} (h : l.l.length = 0) : lastE l = l.base := by
  have : l.l = [] := List.length_eq_zero_iff.mp h
  simp [lastE, this]
theorem lastE_of {l : Log} {x : Entry} (h : l.l[l.l.length - 1]? = some x) : lastE l = x := by
  simp [lastE, List.getLast?_eq_getElem?, h]
theorem eq00 : (((0 : Nat) : Int) == 0) = true := by simp
theorem ne0 {n : Nat} (h : 0 < n) : ((n : Int) == 0) = false := by simp; omega
theorem last_c {l : Log} {D : Nat → Prop} {s : Mem} {v : AV} {K : AV → Mem → Prop} (hf : s.floor ≤ s.next) (hI : In D s) (hv : LogV s D v l) (hw : l.Wf)
    (hK : ∀ s', Keep s.next s s' → K (.tup [.int .u64 (lastE l).index, .int .u64 (lastE l).term]) s') : C tab 52 [v] s K := by
  obtain ⟨d, w, rfl, hd, hes⟩ := hv
  have hn := hw.len
  refine C_enter (cf := cf52) rfl (Nat.le_of_ble_eq_true rfl) ?_
  simp only [cf52, oo, on, om, og, oc, ou]
  rcases Nat.eq_zero_or_pos l.l.length with h0 | h0
  · rw [lastE_nil h0] at hK
    (repeat' (with_reducible first|refine w_1 ?_|refine w_2 ?_|refine w_3 ?_|refine w_4 ?_|refine w_5 ?_|refine w_6 ?_|refine w_7 ?_|(refine w_8 (fun hb=>?_) (fun hb=>?_)<;>try simp only [hb])|refine w_9 ?_|simp (maxDischargeDepth:=12) only [viz,↓reduceIte,Nat.reduceEqDiff,reduceCtorEq,Int.reduceEq,Int.reduceNeg,Nat.reduceAdd,Nat.reduceLeDiff,hd.cell,hes.cell,hes.len,hf,h0,ngt0]))
    exact hK _ ((pushes _ _).then (pushes _ _))
  · obtain ⟨x, hx⟩ := get_of (show l.l.length - 1 < l.l.length by omega)
    obtain ⟨d', p, hp, P, hd'⟩ := hes.atk hI hx
    rw [lastE_of hx] at hK
    (repeat' (with_reducible first|refine w_1 ?_|refine w_2 ?_|refine w_3 ?_|refine w_4 ?_|refine w_5 ?_|refine w_6 ?_|refine w_7 ?_|(refine w_8 (fun hb=>?_) (fun hb=>?_)<;>try simp only [hb])|refine w_9 ?_|simp (maxDischargeDepth:=12) only [viz,↓reduceIte,Nat.reduceEqDiff,reduceCtorEq,Int.reduceEq,Int.reduceNeg,Nat.reduceAdd,Nat.reduceLeDiff,hd.cell,hes.cell,hes.len,hf,gt0 h0,pred_cast' h0 (by omega),hp,P.ld,hd'.cell]))
    exact hK _ ((pushes _ _).then (pushes _ _))
theorem rlast_c {l : Log} {D : Nat → Prop} {s : Mem} {v : AV} {K : AV → Mem → Prop} (hf : s.floor ≤ s.next) (hI : In D s) (hv : LogV s D v l) (hw : l.Wf)
    (hK : ∀ s', Keep s.next s s' → K (.tup [.int .u64 (lastE l).index, .int .u64 (lastE l).term]) s') : C tab 43 [v] s K := by
  obtain ⟨d, w, rfl, hd, hes⟩ := hv
  have hn := hw.len
  refine C_enter (cf := cf43) rfl (Nat.le_of_ble_eq_true rfl) ?_
  simp only [cf43, oo, on, om, og, oc, ou]
  rcases Nat.eq_zero_or_pos l.l.length with h0 | h0
  · rw [lastE_nil h0] at hK
    (repeat' (with_reducible first|refine w_1 ?_|refine w_2 ?_|refine w_3 ?_|refine w_4 ?_|refine w_5 ?_|refine w_6 ?_|refine w_7 ?_|(refine w_8 (fun hb=>?_) (fun hb=>?_)<;>try simp only [hb])|refine w_9 ?_|simp (maxDischargeDepth:=12) only [viz,↓reduceIte,Nat.reduceEqDiff,reduceCtorEq,Int.reduceEq,Int.reduceNeg,Nat.reduceAdd,Nat.reduceLeDiff,hd.cell,hes.cell,hes.len,hf,h0,eq00]))
    exact hK _ (pushes _ _)
  · obtain ⟨x, hx⟩ := get_of (show l.l.length - 1 < l.l.length by omega)
    obtain ⟨d', p, hp, P, hd'⟩ := hes.atk hI hx
    rw [lastE_of hx] at hK
    (repeat' (with_reducible first|refine w_1 ?_|refine w_2 ?_|refine w_3 ?_|refine w_4 ?_|refine w_5 ?_|refine w_6 ?_|refine w_7 ?_|(refine w_8 (fun hb=>?_) (fun hb=>?_)<;>try simp only [hb])|refine w_9 ?_|simp (maxDischargeDepth:=12) only [viz,↓reduceIte,Nat.reduceEqDiff,reduceCtorEq,Int.reduceEq,Int.reduceNeg,Nat.reduceAdd,Nat.reduceLeDiff,hd.cell,hes.cell,hes.len,hf,ne0 h0,pred_cast' h0 (by omega),hp,P.ld,hd'.cell]))
    exact hK _ ((pushes _ _).then (pushes _ _))
end Go.Proofs.YtfllmhjjfapnmaaGreat

