/- Keys handed over: what is asked of holds, marks and intents; times packed. No statement of the seat is proved here. -/
import Derived.Test.YthibbbfhkfebkaaGreatVZMC
import Derived.Test.YthibbbfhkfebkaaGreatVZVE
import Derived.Test.YthibbbfhkfebkaaGreatVZTJ
namespace Go.Proofs.YthibbbfhkfebkaaGreat
open Go Go.VI
set_option linter.unusedSimpArgs false
theorem own_cell {s : Mem} {b ty sz : Nat} {v : AV} {xs : List (List AV)} (h : OwnL s b v ty sz xs) : isCell v = true := by
  rcases h with ⟨rfl | rfl, _⟩ | ⟨r, rfl, _⟩ <;> rfl
def intA (x : Intent) : AV := .agg (intC x)
theorem AccE.keep {rl rx ty sz : Nat} {x : Span} {R : AV → Row} {acc : List (List AV)} {lv : AV} {M N : Mem} (a : AccE rl rx x R ty sz acc lv M) (k : Keep M.next M N) : AccE rl rx x R ty sz acc lv N := by
  have := a.n; have := a.h
  exact ⟨by rw [k.get _ (by omega)]; exact a.x, by rw [k.get _ (by omega)]; exact a.l, a.o.keep k fun r e => (a.o.row r 0 _ _ e).2, Nat.lt_of_lt_of_le a.n k.next, by rw [k.floor]; exact a.f, a.h, a.s⟩
theorem AccE.more {rl rx ty sz : Nat} {x : Span} {R : AV → Row} {acc : List (List AV)} {lv v : AV} {M N : Mem} {c : List AV} (a : AccE rl rx x R ty sz acc lv M) (ho : OwnL N (rl + 1) v ty sz (acc ++ [c])) (hx : KeepX lv M N) (hl : acc.length < 4999) : AccE rl rx x R ty sz (acc ++ [c]) v (N.put rl (some (R v))) := by
  have := a.n; have := a.h
  have hnl : ∀ p, p ≤ rl → ∀ i n z, lv ≠ .own p i n z := fun p hp i n z e => by have := a.o.row p i n z e; omega
  refine ⟨by rw [Mem.get_put, if_neg (by omega), hx.get rx (by omega) (hnl _ (by omega))]; exact a.x, by rw [Mem.get_put, if_pos rfl], ?_, by rw [next_put']; have := hx.next; omega, by rw [floor_put', hx.floor]; exact a.f, a.h, by rw [List.length_append, List.length_singleton]; omega⟩
  rcases ho with h | ⟨p, a1, b2, c, d, e⟩
  · exact .inl h
  · exact .inr ⟨p, a1, by rw [Mem.get_put, if_neg (by omega)]; exact b2, c, d, e⟩
theorem Oth.push {rl : Nat} {lv : AV} {s : Mem} (h : rl < s.next) (R : Row) : Oth rl lv lv s (s.push R) := ⟨(pushes s R).le (by omega), by rw [next_push']; omega, fun q h1 _ h3 => ⟨by rw [Mem.get_push, if_neg (by omega)], h3⟩⟩
theorem Oth.keep {rl : Nat} {lv : AV} {s t : Mem} (h : rl < s.next) (k : Keep s.next s t) : Oth rl lv lv s t := ⟨k.le (by omega), k.next, fun q h1 _ h3 => ⟨k.get q h1, h3⟩⟩
theorem Oth.put {rl ty sz : Nat} {lv v : AV} {acc : List (List AV)} {M N : Mem} (hn : rl < M.next) (ho : OwnL M (rl + 1) lv ty sz acc) (hx : KeepX lv M N) (hv : ∀ r i n z, v = .own r i n z → M.next ≤ r) (R : Option Row) : Oth rl lv v M (N.put rl R) := by
  refine ⟨⟨by rw [next_put']; exact hx.next, by rw [floor_put']; exact hx.floor, fun q hq => ?_⟩, by rw [next_put']; exact hx.next, fun q h1 h2 h3 => ⟨?_, fun i n z e => ?_⟩⟩
  · rw [Mem.get_put, if_neg (by omega)]
    exact hx.get q (by omega) fun i n z e => by have := ho.row _ _ _ _ e; omega
  · rw [Mem.get_put, if_neg h2]; exact hx.get q h1 h3
  · have := hv _ _ _ _ e; omega
attribute [local irreducible] Ws Wp W C
set_option maxHeartbeats 4000000
theorem itIxP_c {l : List Intent} {v : AV} {D : Nat → Prop} {f : Nat} {cp : List AV} {p : Intent → Bool} {G : Mem → Prop} {s : Mem} {K : AV → Mem → Prop} (hI : In D s) (hv : Ints s D v l) (hl : l.length < 1000000000)
    (hG : ∀ M, Keep s.next s M → G M) (hp : FnP intA G f cp p)
    (hK : ∀ s', Keep s.next s s' → K (.int .i64 (idx l p)) s') : C tab 104 [v, .fn f cp] s K := by
  refine C_enter (cf := cf104) rfl (Nat.le_of_ble_eq_true rfl) ?_
  simp only [cf104, oo, on, om, og, oc, ou]
  have hlen : lenA false v = some l.length := hv.lenB
  (repeat' (with_reducible first|refine w_1 ?_|refine w_2 ?_|refine w_3 ?_|simp (maxDischargeDepth:=12) only [viz,↓reduceIte,Int.reduceNeg,Nat.reduceAdd,hlen]))
  refine W_inv l.length (fun i E s' => Keep s.next s s' ∧ E.get 0 = v ∧ E.get 1 = .fn f cp ∧ E.get 7 = .int .i64 l.length ∧ E.get 8 = .int .i64 i ∧ ∀ j x, j < i → l[j]? = some x → p x = false) (by delta cf104l0 oo on om og oc ou; exact rfl) ?_ ?_
  · (repeat' with_reducible simp (maxDischargeDepth:=12) only [viz,↓reduceIte,Nat.reduceEqDiff,reduceCtorEq])
    exact ⟨rfl, by omega⟩
  rintro i E s' hile _ ⟨hi, g0, g1, g7, g8, hno⟩
  by_cases hlt : i < l.length
  · obtain ⟨x, hx⟩ := get_of hlt
    obtain ⟨q, hq, P, hld⟩ := hv.ldk hI hx rfl rfl
    have hld' := hld _ hi
    (repeat' (with_reducible first|refine w_1 ?_|refine w_2 ?_|refine w_3 ?_|refine w_4 ?_|refine w_5 ?_|simp (maxDischargeDepth:=12) only [viz,↓reduceIte,Nat.reduceEqDiff,reduceCtorEq,Int.reduceNeg,g0,g1,g7,g8,lt_true hlt,hq,hld']))
    refine hp x s' _ (hG _ hi) fun s2 h2 => ?_
    (repeat' (with_reducible first|refine w_1 ?_|refine w_2 ?_|refine w_4 ?_|refine w_5 ?_|refine w_6 ?_|(refine w_8 (fun hb=>?_) (fun hb=>?_)<;>(try simp only [Bool.not_eq_true',Bool.not_eq_false'] at hb)<;>try simp only [hb])|simp (maxDischargeDepth:=12) only [viz,↓reduceIte,Nat.reduceEqDiff,reduceCtorEq,Int.reduceNeg,g0,g1,g7,g8]))
    · unfold idx at hK
      rw [idx_at hx hb hno] at hK
      exact hK _ (hi.then h2)
    · refine ⟨hlt, hi.then h2, succ_av (by omega), fun j y hj hy => ?_⟩
      by_cases hji : j = i
      · rw [hji, hx] at hy; obtain rfl := Option.some.inj hy; exact hb
      · exact hno j y (by omega) hy
  · (repeat' (with_reducible first|refine w_1 ?_|refine w_2 ?_|refine w_4 ?_|refine w_6 ?_|refine w_7 ?_|simp (maxDischargeDepth:=12) only [viz,↓reduceIte,Int.reduceNeg,g7,g8,lt_false hlt]))
    unfold idx at hK
    rw [idx_no fun j x hj => hno j x (by omega)] at hK
    exact hK _ hi
theorem itAny_c {l : List Intent} {v : AV} {D : Nat → Prop} {f : Nat} {cp : List AV} {p : Intent → Bool} {G : Mem → Prop} {s : Mem} {K : AV → Mem → Prop} (hI : In D s) (hv : Ints s D v l) (hl : l.length < 1000000000)
    (hG : ∀ M, Keep s.next s M → G M) (hp : FnP intA G f cp p)
    (hK : ∀ s', Keep s.next s s' → K (.bool (l.any p)) s') : C tab 55 [v, .fn f cp] s K := by
  refine C_enter (cf := cf55) rfl (Nat.le_of_ble_eq_true rfl) ?_
  simp only [cf55, oo, on, om, og, oc, ou]
  (repeat' (with_reducible first|refine w_1 ?_|refine w_2 ?_|simp (maxDischargeDepth:=12) only [viz,↓reduceIte,Nat.reduceAdd]))
  refine itIxP_c hI hv hl hG hp fun s1 h1 => ?_
  (repeat' (with_reducible first|refine w_6 ?_|simp (maxDischargeDepth:=12) only [viz,↓reduceIte]))
  rw [any_idx]
  exact hK _ h1
theorem exHas (x : Span) (r t : Nat) : FnP intA (fun M => M.floor ≤ M.next ∧ M.get r = some ⟨t, 2, [[.str x.frm, .str x.to]]⟩ ∧ r < M.next) 56 [.ptr r 0 0] (fun i => hasP x i.key) := by
  rintro y M K ⟨hf, hg, hr⟩ hK
  refine C_enter (cf := cf56) rfl (Nat.le_of_ble_eq_true rfl) ?_
  simp only [cf56, oo, on, om, og, oc, ou, intA, intC]
  have hne : (r = M.next) = False := by simp; omega
  (repeat' (with_reducible first|refine w_1 ?_|refine w_2 ?_|simp (maxDischargeDepth:=12) only [viz,↓reduceIte,Nat.reduceAdd,hg,hne]))
  refine shas_c (x := x) fun s1 h1 => ?_
  (repeat' (with_reducible first|refine w_6 ?_|simp (maxDischargeDepth:=12) only [viz,↓reduceIte]))
  exact hK _ ((pushes _ _).then h1)
def rowH (lv : AV) : Row := ⟨23, 1, [[lv]]⟩
theorem exHold (x : Span) (rl rx : Nat) : FnA holdA holdC 60 [.ptr rx 0 0, .ptr rl 0 0] rl (fun h => hasP x h.key) (AccE rl rx x rowH 58 3) := by
  intro y acc lv M K hf ha hl hK
  refine C_enter (cf := cf60) rfl (Nat.le_of_ble_eq_true rfl) ?_
  simp only [cf60, oo, on, om, og, oc, ou, holdA, holdC]
  have hn := ha.n
  have hh := ha.h
  have ne1 : (rx = M.next) = False := by simp; omega
  have ne2 : (rl = M.next) = False := by simp; omega
  have gx := ha.x
  (repeat' (with_reducible first|refine w_1 ?_|refine w_2 ?_|simp (maxDischargeDepth:=12) only [viz,↓reduceIte,Nat.reduceAdd,gx,ne1]))
  have hp0 := pushes M ⟨58, 3, [[.str y.key, .int .u64 y.token, .int .i64 y.till]]⟩
  refine shas_c (x := x) fun s1 h1 => ?_
  have a1 := (ha.push ⟨58, 3, [[.str y.key, .int .u64 y.token, .int .i64 y.till]]⟩).keep h1
  have k1 := hp0.then h1
  have q1 := (Kp.of_push M ⟨58, 3, [[.str y.key, .int .u64 y.token, .int .i64 y.till]]⟩).then h1
  have gx1 := a1.x
  have gl1 := a1.l
  simp only [rowH] at gl1
  have g1 := q1.g
  have n1 := a1.n
  have c1 := own_cell a1.o
  (repeat' (with_reducible first|refine w_1 ?_|refine w_2 ?_|refine w_4 ?_|refine w_5 ?_|(refine w_8 (fun hb=>?_) (fun hb=>?_)<;>(try simp only [Bool.not_eq_true',Bool.not_eq_false'] at hb)<;>try simp only [hb])|simp (maxDischargeDepth:=12) only [viz,↓reduceIte,Nat.reduceEqDiff,Nat.reduceAdd,gx1,gl1,g1]))
  · refine app_lit (v := lv) (k := 1) (b := rl + 1) (xs := acc) (ys := [holdC y]) (s := s1) (by have := a1.f; omega) (by omega) a1.o (by simp only [ev, Env.get_set, ↓reduceIte, Nat.reduceEqDiff]) (by simp only [ev, Env.get_set, ↓reduceIte, Nat.reduceEqDiff]) rfl rfl (room (by simp; omega) (by simp; omega)) ?_
    intro v2 s2 ho2 hx2 hfr _
    have hnl : ∀ p, p ≤ rl ∨ p = M.next → ∀ i n z, lv ≠ .own p i n z := fun p hp i n z e => by have := ha.o.row p i n z e; omega
    have gx2 := (hx2.get rx (by omega) (hnl rx (by omega))).trans gx1
    have gl2 := (hx2.get rl (by omega) (hnl rl (by omega))).trans gl1
    have gm2 := (hx2.get M.next (by have := q1.n; omega) (hnl _ (.inr rfl))).trans g1
    have f2 : s2.floor ≤ rl := by rw [hx2.floor]; exact a1.f
    have c2 := own_cell ho2
    have ne3 : (rx = rl) = False := by simp; omega
    have ne4 : (M.next = rl) = False := by simp; omega
    have o3 : Oth rl lv v2 M (s2.put rl (some (rowH v2))) := ((Oth.push hn ⟨58, 3, [[.str y.key, .int .u64 y.token, .int .i64 y.till]]⟩).trans (Oth.keep (by rw [next_push']; omega) h1)).trans (Oth.put n1 a1.o hx2 hfr _)
    have a3 := a1.more ho2 hx2 hl
    have n2 := hx2.next
    simp only [rowH] at o3 a3
    (repeat' (with_reducible first|refine w_1 ?_|refine w_2 ?_|simp (maxDischargeDepth:=12) only [viz,↓reduceIte,Nat.reduceEqDiff,Nat.reduceAdd,gx2,gl2,gm2,f2,c2,cells_cell c2,ne3,ne4]))
    refine shas_c (x := x) fun s4 h4 => ?_
    (repeat' (with_reducible first|refine w_6 ?_|simp (maxDischargeDepth:=12) only [viz,↓reduceIte]))
    refine hK v2 s4 (o3.trans (Oth.keep (by rw [next_put']; omega) h4)) ?_
    have : hasP x y.key = true := hb
    simp only [this, if_true]
    exact a3.keep h4
  · refine shas_c (x := x) fun s4 h4 => ?_
    (repeat' (with_reducible first|refine w_6 ?_|simp (maxDischargeDepth:=12) only [viz,↓reduceIte]))
    refine hK lv s4 (((Oth.push hn ⟨58, 3, [[.str y.key, .int .u64 y.token, .int .i64 y.till]]⟩).trans (Oth.keep (by rw [next_push']; omega) h1)).trans (Oth.keep (by omega) h4)) ?_
    have : hasP x y.key = false := hb
    simp only [this, Bool.false_eq_true, if_false, List.append_nil]
    exact a1.keep h4
def rowP (plan : Int) (x : Span) (hv : AV) (lv : AV) : Row := ⟨49, 5, [[.int .u64 plan, .str x.frm, .str x.to, hv, lv]]⟩
theorem exMark (plan : Int) (x : Span) (hv : AV) (rl rx : Nat) : FnA markA markC 63 [.ptr rx 0 0, .ptr rl 0 0] rl (fun m => hasP x m.key) (AccE rl rx x (rowP plan x hv) 68 2) := by
  intro y acc lv M K hf ha hl hK
  refine C_enter (cf := cf63) rfl (Nat.le_of_ble_eq_true rfl) ?_
  simp only [cf63, oo, on, om, og, oc, ou, markA, markC]
  have hn := ha.n
  have hh := ha.h
  have ne1 : (rx = M.next) = False := by simp; omega
  have ne2 : (rl = M.next) = False := by simp; omega
  have gx := ha.x
  (repeat' (with_reducible first|refine w_1 ?_|refine w_2 ?_|simp (maxDischargeDepth:=12) only [viz,↓reduceIte,Nat.reduceAdd,gx,ne1]))
  have hp0 := pushes M ⟨68, 2, [[.str y.key, .int .u64 y.token]]⟩
  refine shas_c (x := x) fun s1 h1 => ?_
  have a1 := (ha.push ⟨68, 2, [[.str y.key, .int .u64 y.token]]⟩).keep h1
  have k1 := hp0.then h1
  have q1 := (Kp.of_push M ⟨68, 2, [[.str y.key, .int .u64 y.token]]⟩).then h1
  have gx1 := a1.x
  have gl1 := a1.l
  simp only [rowP] at gl1
  have g1 := q1.g
  have n1 := a1.n
  have c1 := own_cell a1.o
  (repeat' (with_reducible first|refine w_1 ?_|refine w_2 ?_|refine w_4 ?_|refine w_5 ?_|(refine w_8 (fun hb=>?_) (fun hb=>?_)<;>(try simp only [Bool.not_eq_true',Bool.not_eq_false'] at hb)<;>try simp only [hb])|simp (maxDischargeDepth:=12) only [viz,↓reduceIte,Nat.reduceEqDiff,Nat.reduceAdd,gx1,gl1,g1]))
  · refine app_lit (v := lv) (k := 1) (b := rl + 1) (xs := acc) (ys := [markC y]) (s := s1) (by have := a1.f; omega) (by omega) a1.o (by simp only [ev, Env.get_set, ↓reduceIte, Nat.reduceEqDiff]) (by simp only [ev, Env.get_set, ↓reduceIte, Nat.reduceEqDiff]) rfl rfl (room (by simp; omega) (by simp; omega)) ?_
    intro v2 s2 ho2 hx2 hfr _
    have hnl : ∀ p, p ≤ rl ∨ p = M.next → ∀ i n z, lv ≠ .own p i n z := fun p hp i n z e => by have := ha.o.row p i n z e; omega
    have gx2 := (hx2.get rx (by omega) (hnl rx (by omega))).trans gx1
    have gl2 := (hx2.get rl (by omega) (hnl rl (by omega))).trans gl1
    have gm2 := (hx2.get M.next (by have := q1.n; omega) (hnl _ (.inr rfl))).trans g1
    have f2 : s2.floor ≤ rl := by rw [hx2.floor]; exact a1.f
    have c2 := own_cell ho2
    have ne3 : (rx = rl) = False := by simp; omega
    have ne4 : (M.next = rl) = False := by simp; omega
    have o3 : Oth rl lv v2 M (s2.put rl (some (rowP plan x hv v2))) := ((Oth.push hn ⟨68, 2, [[.str y.key, .int .u64 y.token]]⟩).trans (Oth.keep (by rw [next_push']; omega) h1)).trans (Oth.put n1 a1.o hx2 hfr _)
    have a3 := a1.more ho2 hx2 hl
    have n2 := hx2.next
    simp only [rowP] at o3 a3
    (repeat' (with_reducible first|refine w_1 ?_|refine w_2 ?_|simp (maxDischargeDepth:=12) only [viz,↓reduceIte,Nat.reduceEqDiff,Nat.reduceAdd,gx2,gl2,gm2,f2,c2,cells_cell c2,ne3,ne4]))
    refine shas_c (x := x) fun s4 h4 => ?_
    (repeat' (with_reducible first|refine w_6 ?_|simp (maxDischargeDepth:=12) only [viz,↓reduceIte]))
    refine hK v2 s4 (o3.trans (Oth.keep (by rw [next_put']; omega) h4)) ?_
    have : hasP x y.key = true := hb
    simp only [this, if_true]
    exact a3.keep h4
  · refine shas_c (x := x) fun s4 h4 => ?_
    (repeat' (with_reducible first|refine w_6 ?_|simp (maxDischargeDepth:=12) only [viz,↓reduceIte]))
    refine hK lv s4 (((Oth.push hn ⟨68, 2, [[.str y.key, .int .u64 y.token]]⟩).trans (Oth.keep (by rw [next_push']; omega) h1)).trans (Oth.keep (by omega) h4)) ?_
    have : hasP x y.key = false := hb
    simp only [this, Bool.false_eq_true, if_false, List.append_nil]
    exact a1.keep h4
def FnT (G : Mem → Prop) (f : Nat) (cp : List AV) (lo hi : Int) (g : Int → Int) : Prop := ∀ (n : Int) (M : Mem) (K : AV → Mem → Prop), lo ≤ n → n ≤ hi → G M → K (.int .i64 (g n)) M → C tab f (.int .i64 n :: cp) M K
def tillG (g : Int → Int) (h : Hold) : Hold := ⟨h.key, h.token, g h.till⟩
theorem packF (now : Int) (r : Nat) (h0 : 0 ≤ now) (h1 : now ≤ 2147483647) : FnT (fun M => M.get r = some ⟨3, 1, [[.int .i64 now]]⟩) 117 [.ptr r 0 0] 0 2147483647 (fun n => max 0 (n - now)) := by
  intro n M K hlo hhi hg hK
  refine C_enter (cf := cf117) rfl (Nat.le_of_ble_eq_true rfl) ?_
  simp only [cf117, oo, on, om, og, oc, ou]
  have e : IntKind.i64.wrap (n - now) = n - now := wrap_i64 (by omega)
  (repeat' (with_reducible first|refine w_1 ?_|refine w_2 ?_|simp (maxDischargeDepth:=12) only [viz,↓reduceIte,Nat.reduceAdd,hg,e]))
  refine mxk_c (k := .i64) (a := 0) (b := n - now) (by simp only [ev, Env.get_set, ↓reduceIte, Nat.reduceEqDiff]) (by simp only [ev, Env.get_set, ↓reduceIte, Nat.reduceEqDiff]) ?_
  (repeat' (with_reducible first|refine w_6 ?_|simp (maxDischargeDepth:=12) only [viz,↓reduceIte]))
  exact hK
theorem unpackF (now : Int) (r : Nat) (h0 : 0 ≤ now) (h1 : now ≤ 2147483647) : FnT (fun M => M.get r = some ⟨3, 1, [[.int .i64 now]]⟩) 123 [.ptr r 0 0] 0 2147483647 (fun n => min 2147483647 (n + now)) := by
  intro n M K hlo hhi hg hK
  refine C_enter (cf := cf123) rfl (Nat.le_of_ble_eq_true rfl) ?_
  simp only [cf123, oo, on, om, og, oc, ou]
  have e : IntKind.i64.wrap (n + now) = n + now := wrap_i64 (by omega)
  (repeat' (with_reducible first|refine w_1 ?_|refine w_2 ?_|simp (maxDischargeDepth:=12) only [viz,↓reduceIte,Nat.reduceAdd,hg,e]))
  refine mnk_c (k := .i64) (a := 2147483647) (b := n + now) (by simp only [ev, Env.get_set, ↓reduceIte, Nat.reduceEqDiff]) (by simp only [ev, Env.get_set, ↓reduceIte, Nat.reduceEqDiff]) ?_
  (repeat' (with_reducible first|refine w_6 ?_|simp (maxDischargeDepth:=12) only [viz,↓reduceIte]))
  exact hK
theorem till_at {l : List Hold} {G : Hold → Hold} {i : Nat} {x : Hold} (hx : l[i]? = some x) : ((l.take i).map G ++ l.drop i)[i]? = some x ∧ ((l.take i).map G ++ l.drop i).set i (G x) = (l.take (i + 1)).map G ++ l.drop (i + 1) := by
  have hlt := (List.getElem?_eq_some_iff.mp hx).1
  have hl : ((l.take i).map G).length = i := by rw [List.length_map, List.length_take]; omega
  constructor
  · rw [List.getElem?_append_right (by omega), hl, Nat.sub_self, drop_cons hx]; rfl
  · rw [drop_cons hx, List.set_append_right _ _ (by omega), hl, Nat.sub_self, List.set_cons_zero, List.take_add_one, hx, Option.toList_some, List.map_append, List.append_assoc]
    rfl
theorem tillT_c {l : List Hold} {now : Int} {v : AV} {f : Nat} {cp : List AV} {g : Int → Int} {G : Mem → Prop} {D : Nat → Prop} {s : Mem} {K : AV → Mem → Prop} (hf : s.floor ≤ s.next) (hI : In D s) (hv : Holds s D v l) (hl : l.length < 4000) (h0 : 0 ≤ now) (h1 : now ≤ 2147483647) (hh : holdsS l = true)
    (hp : FnT G f cp 0 2147483647 g) (hG : ∀ M, Keep s.next s M → G M)
    (hK : ∀ v' s', Keep s.next s s' → OwnL s' s.next v' 58 3 ((l.map (tillG g)).map holdC) → K (.tup [v', .int .i64 0]) s') : C tab 116 [v, .int .i64 now, .fn f cp] s K := by
  refine C_enter (cf := cf116) rfl (Nat.le_of_ble_eq_true rfl) ?_
  simp only [cf116, oo, on, om, og, oc, ou]
  have hmay := hold_may hh
  (repeat' (with_reducible first|refine w_1 ?_|refine w_2 ?_|simp (maxDischargeDepth:=12) only [viz,↓reduceIte,reduceCtorEq,Nat.reduceAdd]))
  refine lcheck_c (D := D) hf hI hv (by omega) fun s1 k1 => ?_
  rw [hh]
  have e1 : decide (now ≥ 0) = true := by simp; omega
  have e2 : decide (now ≤ 2147483647) = true := by simp; omega
  (repeat' with_reducible ((try refine w_9 ?_);simp (maxDischargeDepth:=12) only [viz,↓reduceIte,Nat.reduceEqDiff,bne_self_eq_false, Int.reduceBEq, Int.reduceBNe, Int.reduceLT, Int.reduceLE, Int.reduceGT, Int.reduceGE]))
  refine C_enter (cf := cf136) rfl (Nat.le_of_ble_eq_true rfl) ?_
  simp only [cf136, oo, on, om, og, oc, ou]
  (repeat' (with_reducible first|refine w_1 ?_|refine w_2 ?_|refine w_4 ?_|refine w_5 ?_|refine w_6 ?_|((try refine w_9 ?_);simp (maxDischargeDepth:=12) only [viz,↓reduceIte,reduceCtorEq,Nat.reduceAdd,e1,e2])))
  refine hoclone_c (D := D) (k1.ok hf) (hI.keep k1) (hv.keep fun r hr => k1.get r (hI r hr)) (by omega) fun v2 s2 o2 k2 => ?_
  have k12 := k1.then k2
  have e12 := k1.next
  have hl2 : lenA false v2 = some l.length := by rw [o2.len, List.length_map]
  (repeat' (with_reducible first|refine w_1 ?_|refine w_2 ?_|refine w_3 ?_|simp (maxDischargeDepth:=12) only [viz,↓reduceIte,hl2]))
  refine W_inv l.length (fun i E s' => Keep s.next s s' ∧ OwnL s' s.next v2 58 3 (((l.take i).map (tillG g) ++ l.drop i).map holdC) ∧ E.get 0 = v2 ∧ E.get 2 = .fn f cp ∧ E.get 20 = .int .i64 l.length ∧ E.get 21 = .int .i64 i) (by delta cf116l0 oo on om og oc ou; exact rfl) ?_ ?_
  · refine ⟨k12, by simpa using o2.le e12, (by simp only [ev, Env.get_set, ↓reduceIte, Nat.reduceEqDiff]), (by simp only [ev, Env.get_set, ↓reduceIte, Nat.reduceEqDiff]), (by simp only [ev, Env.get_set, ↓reduceIte, Nat.reduceEqDiff]), ?_⟩
    simp only [ev, Env.get_set, ↓reduceIte, Nat.reduceEqDiff]
    rfl
  rintro i E s' hile _ ⟨hk, ho, g0, g2, g20, g21⟩
  by_cases hlt : i < l.length
  · obtain ⟨x, hx⟩ := get_of hlt
    obtain ⟨t1, t2⟩ := till_at (G := tillG g) hx
    have hlen : ((l.take i).map (tillG g) ++ l.drop i).length = l.length := by simp; omega
    generalize (l.take i).map (tillG g) ++ l.drop i = cur at ho t1 t2 hlen
    obtain ⟨r, rfl, hr, hfr, hbr, hrn⟩ : ∃ r, v2 = .own r 0 l.length 3 ∧ s'.get r = some ⟨58, 3, cur.map holdC⟩ ∧ s'.floor ≤ r ∧ s.next ≤ r ∧ r < s'.next := by
      rcases ho with ⟨_, h⟩ | ⟨r, a, b, c, d, e⟩
      · have : cur = [] := by simpa using h
        rw [this] at hlen; simp at hlen; omega
      · exact ⟨r, by rw [a, List.length_map, hlen], b, c, d, e⟩
    have hat : atA 3 (.own r 0 l.length 3) (.int .i64 (i : Int)) = some (.ptr r i 0) := at0 hlt
    have hcx : (cur.map holdC)[i]? = some [.str x.key, .int .u64 x.token, .int .i64 x.till] := by rw [List.getElem?_map, t1]; rfl
    have hmx := hmay x (List.mem_of_getElem? hx)
    simp only [mayH, Bool.and_eq_true, decide_eq_true_eq] at hmx
    have hset : (cur.map holdC).set i [.str x.key, .int .u64 x.token, .int .i64 (g x.till)] = (cur.set i (tillG g x)).map holdC := by rw [List.map_set]; rfl
    (repeat' (with_reducible first|refine w_1 ?_|refine w_2 ?_|refine w_3 ?_|refine w_4 ?_|refine w_5 ?_|simp (maxDischargeDepth:=12) only [viz,↓reduceIte,Nat.reduceEqDiff,reduceCtorEq,Nat.reduceAdd,g0,g2,g20,g21,lt_true hlt,hat,hr,hcx]))
    refine hp x.till s' _ hmx.1.2 hmx.2 (hG s' hk) ?_
    (repeat' (with_reducible first|refine w_2 ?_|simp (maxDischargeDepth:=12) only [viz,↓reduceIte,Nat.reduceEqDiff,reduceCtorEq,Nat.reduceAdd,g0,g2,g20,g21,hr,hcx,hfr,hset]))
    refine ⟨hlt, hk.trans (Keep.put hbr _), .inr ⟨r, ?_, ?_, ?_, hbr, ?_⟩, succ_av (by omega)⟩
    · rw [← t2, List.length_map, List.length_set, hlen]
    · rw [← t2, Mem.get_put, if_pos rfl]
    · rw [floor_put']; exact hfr
    · rw [next_put']; exact hrn
  · rw [List.take_of_length_le (by omega), drop_end hlt, List.append_nil] at ho
    (repeat' (with_reducible first|refine w_1 ?_|refine w_2 ?_|refine w_4 ?_|refine w_6 ?_|refine w_7 ?_|simp (maxDischargeDepth:=12) only [viz,↓reduceIte,reduceCtorEq,g0,g20,g21,lt_false hlt]))
    exact hK v2 s' hk ho
end Go.Proofs.YthibbbfhkfebkaaGreat
/- Keys handed over: the program. No statement of the seat is proved here. -/
namespace Go.Proofs.YthibbbfhkfebkaaGreat
open Go Go.VI
set_option linter.unusedSimpArgs false
theorem holds_filter {l : List Hold} (p : Hold → Bool) (h : holdsS l = true) : holdsS (l.filter p) = true := by
  rw [holds_iff] at h ⊢
  exact ⟨Nat.le_trans (List.length_filter_le _ _) h.1, fun x hx => h.2.1 x (List.mem_filter.mp hx).1, h.2.2.filter _⟩
theorem marks_filter {l : List Mark} (p : Mark → Bool) (h : marksS l = true) : marksS (l.filter p) = true := by
  rw [marks_iff] at h ⊢
  exact ⟨Nat.le_trans (List.length_filter_le _ _) h.1, fun x hx => h.2.1 x (List.mem_filter.mp hx).1, h.2.2.filter _⟩
structure Parcel where
  plan : Int
  sp : Span
  ho : List Hold
  ma : List Mark
def parC (p : Parcel) (hv mv : AV) : List AV := [.int .u64 p.plan, .str p.sp.frm, .str p.sp.to, hv, mv]
def zeroP : Parcel := ⟨0, ⟨[], []⟩, [], []⟩
def packG (now : Int) (n : Int) : Int := max 0 (n - now)
def outT (t : Table) (x : Span) : Table := ⟨t.now, lessP t.spans x, lessP t.frozen x, t.holds.filter fun h => !hasP x h.key, t.marks.filter fun m => !hasP x m.key, t.ints⟩
def outP (t : Table) (plan : Int) (x : Span) : Parcel := ⟨plan, x, (t.holds.filter fun h => hasP x h.key).map (tillG (packG t.now)), t.marks.filter fun m => hasP x m.key⟩
def expP (t : Table) (plan : Int) (x : Span) : Int × Table × Parcel :=
  if (mayT t && mayS x) = false then (1, zeroT, zeroP)
  else if coversS t.spans x = false then (10, zeroT, zeroP)
  else if (coversS t.frozen x && !(t.ints.any fun i => hasP x i.key)) = false then (9, zeroT, zeroP)
  else if (lessP t.spans x).length ≤ 64 ∧ (lessP t.frozen x).length ≤ 64 then (0, outT t x, outP t plan x) else (2, zeroT, zeroP)
theorem may_parts {t : Table} (h : mayT t = true) : 0 ≤ t.now ∧ t.now ≤ 2147483647 ∧ holdsS t.holds = true ∧ marksS t.marks = true := by
  simp only [mayT, Bool.and_eq_true, decide_eq_true_eq] at h
  exact ⟨h.1.1.1.1.1.1.1.1.1, h.1.1.1.1.1.1.1.1.2, h.1.1.1.1.1.2, h.1.1.1.1.2⟩
attribute [local irreducible] Ws Wp W C
set_option maxHeartbeats 4000000
theorem pack_c {l : List Hold} {now : Int} {v : AV} {D : Nat → Prop} {s : Mem} {K : AV → Mem → Prop} (hf : s.floor ≤ s.next) (hI : In D s) (hv : Holds s D v l) (hl : l.length < 4000) (h0 : 0 ≤ now) (h1 : now ≤ 2147483647) (hh : holdsS l = true)
    (hK : ∀ v' s', Keep s.next s s' → OwnL s' s.next v' 58 3 ((l.map (tillG (packG now))).map holdC) → K (.tup [v', .int .i64 0]) s') : C tab 61 [v, .int .i64 now] s K := by
  refine C_enter (cf := cf61) rfl (Nat.le_of_ble_eq_true rfl) ?_
  simp only [cf61, oo, on, om, og, oc, ou]
  (repeat' (with_reducible first|refine w_1 ?_|refine w_2 ?_|simp (maxDischargeDepth:=12) only [viz,↓reduceIte,Nat.reduceEqDiff,Nat.reduceAdd]))
  have hp := pushes s ⟨3, 1, [[.int .i64 now]]⟩
  refine tillT_c (g := packG now) (D := D) (hp.ok hf) (hI.keep hp) (hv.keep fun r hr => hp.get r (hI r hr)) hl h0 h1 hh (packF now s.next h0 h1) (fun M hM => by rw [hM.get _ (by rw [next_push']; omega), Mem.get_push, if_pos rfl]) fun v2 s2 h2 o2 => ?_
  (repeat' (with_reducible first|refine w_6 ?_|simp (maxDischargeDepth:=12) only [viz,↓reduceIte]))
  exact hK v2 s2 (hp.then h2) (o2.le (by rw [next_push']; omega))
theorem unpack_c {l : List Hold} {now : Int} {v : AV} {D : Nat → Prop} {s : Mem} {K : AV → Mem → Prop} (hf : s.floor ≤ s.next) (hI : In D s) (hv : Holds s D v l) (hl : l.length < 4000) (h0 : 0 ≤ now) (h1 : now ≤ 2147483647) (hh : holdsS l = true)
    (hK : ∀ v' s', Keep s.next s s' → OwnL s' s.next v' 58 3 ((l.map (tillG fun n => min 2147483647 (n + now))).map holdC) → K (.tup [v', .int .i64 0]) s') : C tab 72 [v, .int .i64 now] s K := by
  refine C_enter (cf := cf72) rfl (Nat.le_of_ble_eq_true rfl) ?_
  simp only [cf72, oo, on, om, og, oc, ou]
  (repeat' (with_reducible first|refine w_1 ?_|refine w_2 ?_|simp (maxDischargeDepth:=12) only [viz,↓reduceIte,Nat.reduceEqDiff,Nat.reduceAdd]))
  have hp := pushes s ⟨3, 1, [[.int .i64 now]]⟩
  refine tillT_c (g := fun n => min 2147483647 (n + now)) (D := D) (hp.ok hf) (hI.keep hp) (hv.keep fun r hr => hp.get r (hI r hr)) hl h0 h1 hh (unpackF now s.next h0 h1) (fun M hM => by rw [hM.get _ (by rw [next_push']; omega), Mem.get_push, if_pos rfl]) fun v2 s2 h2 o2 => ?_
  (repeat' (with_reducible first|refine w_6 ?_|simp (maxDischargeDepth:=12) only [viz,↓reduceIte]))
  exact hK v2 s2 (hp.then h2) (o2.le (by rw [next_push']; omega))
theorem export_c {t : Table} {w : TV} {plan : Int} {x : Span} {D : Nat → Prop} {s : Mem} {K : AV → Mem → Prop} (hf : s.floor ≤ s.next) (hI : In D s) (hw : TabIn s D w t) (hs : Small t)
    (hK : ∀ w' hv mv s', Keep s.next s s' → TabIn s' (fun r => s.next ≤ r ∧ r < s'.next) w' (expP t plan x).2.1 → Holds s' (fun r => s.next ≤ r ∧ r < s'.next) hv (expP t plan x).2.2.ho → Marks s' (fun r => s.next ≤ r ∧ r < s'.next) mv (expP t plan x).2.2.ma →
      K (.tup [.agg (tabC (expP t plan x).2.1 w'), .agg (parC (expP t plan x).2.2 hv mv), .int .i64 (expP t plan x).1]) s') : C tab 17 [.agg (tabC t w), .int .u64 plan, .agg (spanC x)] s K := by
  refine C_enter (cf := cf17) rfl (Nat.le_of_ble_eq_true rfl) ?_
  simp only [cf17, oo, on, om, og, oc, ou, tabC, spanC]
  have hz : ∀ M e R Q, Keep s.next s M → expP t plan x = (e, zeroT, zeroP) → K (.tup [.agg [.int .i64 0, .nilS, .nilS, .nilS, .nilS, .nilS], .agg [.int .u64 0, .str [], .str [], .nilS, .nilS], .int .i64 e]) ((M.put (s.next + 1 + 1) R).put (s.next + 1 + 1 + 1) Q) := fun M e R Q hM h => by
    rw [h] at hK
    exact hK zeroW .nilS .nilS _ ((hM.trans (Keep.put (by omega) _)).trans (Keep.put (by omega) _)) (zero_in _ _) (Sl.nil _ _ _) (Sl.nil _ _ _)
  have r0 := R4.of_push s ⟨27, 6, [[.int .i64 t.now, w.sp, w.fr, w.ho, w.ma, w.it]]⟩ ⟨47, 2, [[.str x.frm, .str x.to]]⟩ ⟨27, 6, [[.int .i64 0, .nilS, .nilS, .nilS, .nilS, .nilS]]⟩ ⟨49, 5, [[.int .u64 0, .str [], .str [], .nilS, .nilS]]⟩
  have k0 := (pushes s ⟨27, 6, [[.int .i64 t.now, w.sp, w.fr, w.ho, w.ma, w.it]]⟩).then ((pushes _ ⟨47, 2, [[.str x.frm, .str x.to]]⟩).then ((pushes _ ⟨27, 6, [[.int .i64 0, .nilS, .nilS, .nilS, .nilS, .nilS]]⟩).then (pushes _ ⟨49, 5, [[.int .u64 0, .str [], .str [], .nilS, .nilS]]⟩)))
  (repeat' (with_reducible first|refine w_1 ?_|refine w_2 ?_|refine w_3 ?_|simp (maxDischargeDepth:=12) only [viz,↓reduceIte,Nat.reduceAdd,hw.sp.cell,hw.fr.cell,hw.ho.cell,hw.ma.cell,hw.it.cell,r0.a]))
  generalize (((s.push _).push _).push _).push _ = S0 at *
  have d43 : (s.next + 1 + 1 + 1 = s.next + 1 + 1) = False := by simp
  have d34 : (s.next + 1 + 1 = s.next + 1 + 1 + 1) = False := by simp
  refine check_c (D := D) (k0.ok hf) (hI.keep k0) (hw.keep fun r hr => k0.get r (hI r hr)) hs fun s1 h1 => ?_
  rw [tab_same]
  have r1 := r0.then h1
  have k1 := k0.then h1
  have f1 : s1.floor ≤ s.next + 1 + 1 := by rw [k1.floor]; omega
  have g1 : s1.floor ≤ s.next + 1 + 1 + 1 := by omega
  (repeat' (with_reducible first|refine w_1 ?_|refine w_2 ?_|refine w_4 ?_|refine w_6 ?_|(refine w_8 (fun hb=>?_) (fun hb=>?_)<;>(try simp only [Bool.not_eq_true',Bool.not_eq_false'] at hb)<;>try simp only [hb])|refine w_13 (fun hc=>(by (try simp only [Bool.and_eq_true] at hc);simp (maxDischargeDepth:=12) only [viz,↓reduceIte,Nat.reduceEqDiff,r1.b,cond_false,hc];first|exact ⟨rfl,rfl⟩|exact rfl)) ?_|refine w_12 ?_|((try refine w_9 ?_);simp (maxDischargeDepth:=12) only [viz,↓reduceIte,Nat.reduceEqDiff,Nat.reduceAdd,r1.c,r1.e,f1,g1,d43,d34])))
  · refine scheck_c (x := x) fun s2 h2 => ?_
    have r2 := r1.then h2
    have k2 := k1.then h2
    have f2 : s2.floor ≤ s.next + 1 + 1 := by rw [k2.floor]; omega
    have g2 : s2.floor ≤ s.next + 1 + 1 + 1 := by omega
    (repeat' (with_reducible first|refine w_1 ?_|refine w_2 ?_|refine w_4 ?_|refine w_6 ?_|(refine w_8 (fun hb=>?_) (fun hb=>?_)<;>(try simp only [Bool.not_eq_true',Bool.not_eq_false'] at hb)<;>try simp only [hb])|((try refine w_9 ?_);simp (maxDischargeDepth:=12) only [viz,↓reduceIte,Nat.reduceEqDiff,Nat.reduceAdd,r2.a,r2.b,r2.c,r2.e,f2,g2,d43,d34])))
    · refine hz _ _ _ _ k2 ?_
      unfold expP
      rw [if_pos (by grind)]
    have hmt : mayT t = true := by grind
    have hmx : mayS x = true := by grind
    obtain ⟨fo1, fo2⟩ := may_form hmt
    obtain ⟨n0, n1, hoo, mao⟩ := may_parts hmt
    have hx0 : (mayT t && mayS x) = true := by rw [hmt, hmx]; rfl
    refine covers_c (a := x) (D := D) (k2.ok hf) (hI.keep k2) (hw.sp.keep fun r hr => k2.get r (hI r hr)) (by have := hs.sp; omega) fun s3 h3 => ?_
    have r3 := r2.then h3
    have k3 := k2.then h3
    have f3 : s3.floor ≤ s.next + 1 + 1 := by rw [k3.floor]; omega
    have g3 : s3.floor ≤ s.next + 1 + 1 + 1 := by omega
    (repeat' (with_reducible first|refine w_1 ?_|refine w_2 ?_|refine w_4 ?_|refine w_6 ?_|(refine w_8 (fun hb=>?_) (fun hb=>?_)<;>(try simp only [Bool.not_eq_true',Bool.not_eq_false'] at hb)<;>try simp only [hb])|simp (maxDischargeDepth:=12) only [viz,↓reduceIte,Nat.reduceEqDiff,Nat.reduceAdd,r3.a,r3.b,r3.c,r3.e,f3,g3,d43,d34]))
    · refine hz _ _ _ _ k3 ?_
      unfold expP
      rw [if_neg (by rw [hx0]; simp), if_pos (by simpa using hb)]
    have hcv : coversS t.spans x = true := by simpa using hb
    refine covers_c (a := x) (D := D) (k3.ok hf) (hI.keep k3) (hw.fr.keep fun r hr => k3.get r (hI r hr)) (by have := hs.fr; omega) fun s4 h4 => ?_
    have r4 := r3.then h4
    have k4 := k3.then h4
    have f4 : s4.floor ≤ s.next + 1 + 1 := by rw [k4.floor]; omega
    have g4 : s4.floor ≤ s.next + 1 + 1 + 1 := by omega
    (repeat' (with_reducible first|refine w_1 ?_|refine w_2 ?_|refine w_4 ?_|refine w_6 ?_|(refine w_8 (fun hb=>?_) (fun hb=>?_)<;>(try simp only [Bool.not_eq_true',Bool.not_eq_false'] at hb)<;>try simp only [hb])|refine w_13 (fun hc=>(by (try simp only [Bool.and_eq_true] at hc);simp (maxDischargeDepth:=12) only [viz,↓reduceIte,Nat.reduceEqDiff,Nat.reduceAdd,r4.a,cond_false,hc];first|exact ⟨rfl,rfl⟩|exact rfl)) ?_|refine w_12 ?_|((try refine w_9 ?_);simp (maxDischargeDepth:=12) only [viz,↓reduceIte,Nat.reduceEqDiff,Nat.reduceAdd,r4.c,r4.e,f4,g4,d43,d34])))
    · refine itAny_c (D := D) (p := fun i => hasP x i.key) (hI.keep k4) (hw.it.keep fun r hr => k4.get r (hI r hr)) (by have := hs.it; omega) (fun M hM => ⟨hM.ok (k4.ok hf), by rw [hM.get _ (by have := r4.n; omega)]; exact r4.b, by have := r4.n; have := hM.next; omega⟩) (exHas x (s.next + 1) 47) fun s5 h5 => ?_
      have r5 := r4.then h5
      have k5 := k4.then h5
      have f5 : s5.floor ≤ s.next + 1 + 1 := by rw [k5.floor]; omega
      have g5 : s5.floor ≤ s.next + 1 + 1 + 1 := by omega
      (repeat' (with_reducible first|refine w_1 ?_|refine w_2 ?_|refine w_4 ?_|refine w_5 ?_|refine w_6 ?_|(refine w_8 (fun hb=>?_) (fun hb=>?_)<;>(try simp only [Bool.not_eq_true',Bool.not_eq_false'] at hb)<;>try simp only [hb])|simp (maxDischargeDepth:=12) only [viz,↓reduceIte,Nat.reduceEqDiff,Nat.reduceAdd,r5.a,r5.b,r5.c,r5.e,f5,g5,d43,d34]))
      · refine hz _ _ _ _ k5 ?_
        unfold expP
        rw [if_neg (by rw [hx0]; simp), if_neg (by rw [hcv]; simp), if_pos (by grind)]
      have hmid : (coversS t.frozen x && !(t.ints.any fun i => hasP x i.key)) = true := by grind
      refine sless_c (x := x) (l := t.spans) (D := D) (k5.ok hf) (hI.keep k5) (hw.sp.keep fun r hr => k5.get r (hI r hr)) (by have := hs.sp; omega) fo1 hmx fun vs s6 h6 o6 => ?_
      have r6 := r5.then h6
      have k6 := k5.then h6
      have n5 := r5.n
      have n56 := h6.next
      have el1 : ∀ (n : Nat) (v : AV), ∃ a e, (if n ≤ 64 then AV.tup [v, .int .i64 0] else AV.tup [.nilS, .int .i64 2]) = .tup [a, .int .i64 e] ∧ (n ≤ 64 → a = v ∧ e = 0) ∧ (¬ n ≤ 64 → e = 2) := fun n v => by
        by_cases h : n ≤ 64
        · exact ⟨v, 0, by rw [if_pos h], fun _ => ⟨rfl, rfl⟩, fun h2 => absurd h h2⟩
        · exact ⟨.nilS, 2, by rw [if_neg h], fun h2 => absurd h2 h, fun _ => rfl⟩
      obtain ⟨a6, e6, q6, q6a, q6b⟩ := el1 (lessP t.spans x).length vs
      rw [q6]
      (repeat' (with_reducible first|refine w_1 ?_|refine w_2 ?_|simp (maxDischargeDepth:=12) only [viz,↓reduceIte,Nat.reduceEqDiff,Nat.reduceAdd,r6.a,r6.b]))
      refine sless_c (x := x) (l := t.frozen) (D := D) (k6.ok hf) (hI.keep k6) (hw.fr.keep fun r hr => k6.get r (hI r hr)) (by have := hs.fr; omega) fo2 hmx fun vf s7 h7 o7 => ?_
      have r7 := r6.then h7
      have k7 := k6.then h7
      have n6 := r6.n
      have n67 := h7.next
      have f7 : s7.floor ≤ s.next + 1 + 1 := by rw [k7.floor]; omega
      have g7 : s7.floor ≤ s.next + 1 + 1 + 1 := by omega
      obtain ⟨a7, e7, q7, q7a, q7b⟩ := el1 (lessP t.frozen x).length vf
      rw [q7]
      by_cases hfit : (lessP t.spans x).length ≤ 64 ∧ (lessP t.frozen x).length ≤ 64
      case neg =>
        have hfz : expP t plan x = (2, zeroT, zeroP) := by
          unfold expP
          rw [if_neg (by rw [hx0]; simp), if_neg (by rw [hcv]; simp), if_neg (by rw [hmid]; simp), if_neg hfit]
        by_cases ha : (lessP t.spans x).length ≤ 64
        · have hb' : ¬ (lessP t.frozen x).length ≤ 64 := fun h => hfit ⟨ha, h⟩
          rw [(q6a ha).2, q7b hb']
          (repeat' (with_reducible first|refine w_1 ?_|refine w_2 ?_|refine w_4 ?_|refine w_6 ?_|((try refine w_9 ?_);simp (maxDischargeDepth:=12) only [viz,↓reduceIte,Nat.reduceEqDiff,Nat.reduceAdd,r7.c,r7.e,f7,g7,d43,d34,bne_self_eq_false, Int.reduceBEq, Int.reduceBNe, Int.reduceLT, Int.reduceLE, Int.reduceGT, Int.reduceGE])))
          exact hz _ _ _ _ k7 hfz
        · rw [q6b ha]
          (repeat' (with_reducible first|refine w_1 ?_|refine w_2 ?_|refine w_4 ?_|refine w_6 ?_|((try refine w_9 ?_);simp (maxDischargeDepth:=12) only [viz,↓reduceIte,Nat.reduceEqDiff,Nat.reduceAdd,r7.c,r7.e,f7,g7,d43,d34, Int.reduceBEq, Int.reduceBNe, Int.reduceLT, Int.reduceLE, Int.reduceGT, Int.reduceGE])))
          exact hz _ _ _ _ k7 hfz
      obtain ⟨ha, hb'⟩ := hfit
      obtain ⟨rfl, rfl⟩ := q6a ha
      obtain ⟨rfl, rfl⟩ := q7a hb'
      have hfz : expP t plan x = (0, outT t x, outP t plan x) := by
        unfold expP
        rw [if_neg (by rw [hx0]; simp), if_neg (by rw [hcv]; simp), if_neg (by rw [hmid]; simp), if_pos ⟨ha, hb'⟩]
      rw [hfz] at hK
      clear hz el1 q6 q7 q6a q6b q7a q7b
      (repeat' (with_reducible first|refine w_1 ?_|refine w_2 ?_|refine w_4 ?_|refine w_5 ?_|((try refine w_9 ?_);simp (maxDischargeDepth:=12) only [viz,↓reduceIte,Nat.reduceEqDiff,Nat.reduceAdd,r7.a,bne_self_eq_false, Int.reduceBEq, Int.reduceBNe, Int.reduceLT, Int.reduceLE, Int.reduceGT, Int.reduceGE])))
      refine own2_c (D := D) (k7.ok hf) (hI.keep k7) (hw.keep fun r hr => k7.get r (hI r hr)) hs fun w8 m1 m2 m3 s8 h8 o8 => ?_
      have r8 := r7.then h8
      have k8 := k7.then h8
      have n7 := r7.n
      have n78 := h8.next
      have f8 : s8.floor ≤ s.next := by rw [k8.floor]; exact hf
      obtain ⟨b1, b2, b3, b4⟩ := o8.ord
      have sp8 : Spans s8 (fun q => s5.next ≤ q ∧ q < s6.next) a6 (lessP t.spans x) := (o6.sl (D := fun q => s5.next ≤ q ∧ q < s6.next) (span_cells _) fun r n e => o6.row r 0 n 2 e).keep fun q hq => (h7.then h8).get q hq.2
      have fr8 : Spans s8 (fun q => s6.next ≤ q ∧ q < s7.next) a7 (lessP t.frozen x) := (o7.sl (D := fun q => s6.next ≤ q ∧ q < s7.next) (span_cells _) fun r n e => o7.row r 0 n 2 e).keep fun q hq => h8.get q hq.2
      have csp := sp8.cell
      have cfr := fr8.cell
      have cho := own_cell o8.ho
      have cma := own_cell o8.ma
      have cit := own_cell o8.it
      have cw1 := o8.sp.cell
      have cw2 := o8.fr.cell
      simp only [tabC]
      have hf8 : s8.floor ≤ s8.next := k8.ok hf
      have ne8 : (s.next = s8.next) = False := by simp; omega
      have ne81 : (s.next = s8.next + 1) = False := by simp; omega
      (repeat' (with_reducible first|refine w_1 ?_|refine w_2 ?_|simp (maxDischargeDepth:=12) only [viz,↓reduceIte,Nat.reduceEqDiff,Nat.reduceAdd,r8.a,r8.b,f8,hf8,ne8,ne81,csp,cfr,cho,cma,cit,cw1,cw2,cells_cell csp,cells_cell cfr]))
      generalize hS8 : ((s8.put s.next _).put s.next _).put s.next _ = S8
      have S8n : S8.next = s8.next := by rw [← hS8]; rfl
      have S8f : S8.floor = s8.floor := by rw [← hS8]; rfl
      have S8g : ∀ q, q ≠ s.next → S8.get q = s8.get q := fun q hq => by
        rw [← hS8]; simp only [Mem.get_put, if_neg hq]
      have S8t : S8.get s.next = some ⟨27, 6, [[.int .i64 t.now, a6, a7, w8.ho, w8.ma, w8.it]]⟩ := by
        rw [← hS8]; simp only [Mem.get_put, if_pos]
      clear hS8
      generalize hM0 : Mem.push (Mem.push _ _) _ = M0
      have M0n : M0.next = s8.next + 1 + 1 := by rw [← hM0]; simp only [next_push', S8n]
      have M0f : M0.floor = s8.floor := by rw [← hM0]; simp only [floor_push', S8f]
      have M0g : ∀ q, q < s8.next → M0.get q = S8.get q := fun q hq => by
        rw [← hM0]; simp only [Mem.get_push, next_push', S8n]; rw [if_neg (by omega), if_neg (by omega)]
      have M0p : M0.get s8.next = some ⟨49, 5, [[.int .u64 plan, .str x.frm, .str x.to, .nilS, .nilS]]⟩ := by
        rw [← hM0]; simp only [Mem.get_push, next_push', S8n]; rw [if_neg (by omega), if_pos trivial]
      have M0h : M0.get (s8.next + 1) = some (rowH .nilS) := by
        rw [← hM0]; simp only [Mem.get_push, next_push', S8n]; rw [if_pos trivial]; rfl
      clear hM0
      have n8 := r8.n
      have M0s : M0.get (s.next + 1) = some ⟨47, 2, [[.str x.frm, .str x.to]]⟩ := by rw [M0g _ (by omega), S8g _ (by omega)]; exact r8.b
      have M0o : ∀ q, s.next < q → q < s8.next → M0.get q = s8.get q := fun q h1 h2 => by rw [M0g q h2, S8g q (by omega)]
      have ac : AccE (s8.next + 1) (s.next + 1) x rowH 58 3 [] .nilS M0 := ⟨M0s, M0h, OwnL.nil _ _ _ _, by omega, by omega, by omega, by simp⟩
      have hvo : OwnL M0 m1 w8.ho 58 3 (t.holds.map holdC) := by
        rcases o8.ho with h | ⟨r, a, b, c, d, e⟩
        · exact .inl h
        · exact .inr ⟨r, a, by rw [M0o r (by omega) e]; exact b, by omega, d, by omega⟩
      refine hoDelA_c (m := m1) (l := t.holds) (p := fun h => hasP x h.key) (R := rowH) (by omega) hvo (fun r i n z e => by have := o8.hoR r i n z e; omega) (by have := hs.ho; omega) (by omega) (by omega) ac (exHold x (s8.next + 1) (s.next + 1)) fun v9 lv9 s9 h9 sl9 ac9 ot9 => ?_
      have n9 := h9.next
      have hoN : ∀ q, m2 ≤ q → ∀ i n z, w8.ho ≠ .own q i n z := fun q hq i n z e => by have := o8.hoR q i n z e; omega
      have maN : ∀ q, m3 ≤ q → ∀ i n z, w8.ma ≠ .own q i n z := fun q hq i n z e => by have := o8.maR q i n z e; omega
      have maN2 : ∀ q, q < m2 → ∀ i n z, w8.ma ≠ .own q i n z := fun q hq i n z e => by have := (o8.ma.row q i n z e).1; omega
      have t9 : s9.get s.next = _ := ((h9.get s.next (by omega)).trans (M0g _ (by omega))).trans S8t
      have f9 : s9.floor ≤ s.next := by rw [h9.floor, M0f]; exact f8
      have p9 : s9.get s8.next = _ := (ot9 s8.next (by omega) (by omega) (hoN _ (by omega))).trans M0p
      have l9 := ac9.l
      simp only [rowH] at l9
      have c9 := sl9.cell
      have cl9 := own_cell ac9.o
      have d1 : (s8.next + 1 = s.next) = False := by simp; omega
      have d2 : (s8.next = s.next) = False := by simp; omega
      have d3 : (s.next = s8.next) = False := by simp; omega
      (repeat' (with_reducible first|refine w_1 ?_|refine w_2 ?_|simp (maxDischargeDepth:=12) only [viz,↓reduceIte,Nat.reduceEqDiff,Nat.reduceAdd,t9,l9,f9,c9,cells_cell c9,d1]))
      generalize hS9 : s9.put s.next _ = S9
      have S9n : S9.next = s9.next := by rw [← hS9]; rfl
      have S9f : S9.floor = s9.floor := by rw [← hS9]; rfl
      have S9g : ∀ q, q ≠ s.next → S9.get q = s9.get q := fun q hq => by rw [← hS9]; simp only [Mem.get_put, if_neg hq]
      have S9t : S9.get s.next = some ⟨27, 6, [[.int .i64 t.now, a6, a7, v9, w8.ma, w8.it]]⟩ := by rw [← hS9]; simp only [Mem.get_put, if_pos]
      clear hS9
      have hl9 : Holds S9 (fun q => s8.next + 1 + 1 ≤ q ∧ q < s9.next) lv9 (t.holds.filter fun h => hasP x h.key) := (ac9.o.sl (D := fun q => s8.next + 1 + 1 ≤ q ∧ q < s9.next) (hold_cells _) fun r n e => ac9.o.row r 0 n 3 e).keep fun q hq => S9g q (by omega)
      refine pack_c (D := fun q => s8.next + 1 + 1 ≤ q ∧ q < s9.next) (by omega) (fun q hq => by rw [S9n]; exact hq.2) hl9 (by have := List.length_filter_le (fun h => hasP x h.key) t.holds; have := hs.ho; omega) n0 n1 (holds_filter _ hoo) fun v10 s10 h10 o10 => ?_
      have n10 := h10.next
      have f10 : s10.floor ≤ s8.next := by rw [h10.floor, S9f]; omega
      have t10 : s10.get s.next = _ := (h10.get _ (by omega)).trans S9t
      have p10 : s10.get s8.next = _ := (h10.get _ (by omega)).trans ((S9g _ (by omega)).trans p9)
      have c10 := own_cell o10
      (repeat' (with_reducible first|refine w_1 ?_|refine w_2 ?_|simp (maxDischargeDepth:=12) only [viz,↓reduceIte,Nat.reduceEqDiff,Nat.reduceAdd,t10,p10,f10,c10,cells_cell c10,d3]))
      generalize hS10 : s10.put s8.next _ = S10
      have S10n : S10.next = s10.next := by rw [← hS10]; rfl
      have S10f : S10.floor = s10.floor := by rw [← hS10]; rfl
      have S10g : ∀ q, q ≠ s8.next → S10.get q = s10.get q := fun q hq => by rw [← hS10]; simp only [Mem.get_put, if_neg hq]
      have S10p : S10.get s8.next = some (rowP plan x v10 .nilS) := by rw [← hS10]; simp only [Mem.get_put, if_pos]; rfl
      clear hS10
      have since : ∀ q, s.next < q → q < s8.next → (∀ i n z, w8.ho ≠ .own q i n z) → S10.get q = s8.get q := fun q q1 q2 q3 => by
        rw [S10g q (by omega), h10.get q (by omega), S9g q (by omega), ot9 q (by omega) (by omega) q3, M0o q q1 q2]
      have hvm : OwnL S10 m2 w8.ma 68 2 (t.marks.map markC) := by
        rcases o8.ma with h | ⟨r, a, b, c, d, e⟩
        · exact .inl h
        · exact .inr ⟨r, a, by rw [since r (by omega) e (hoN r d)]; exact b, by rw [S10f, h10.floor, S9f]; omega, d, by omega⟩
      have ac10 : AccE s8.next (s.next + 1) x (rowP plan x v10) 68 2 [] .nilS S10 := ⟨by rw [since _ (by omega) (by omega) (fun i n z e => by have := (o8.ho.row _ i n z e).1; omega)]; exact r8.b, S10p, OwnL.nil _ _ _ _, by omega, by rw [S10f]; exact f10, by omega, by simp⟩
      refine maDelA_c (m := m2) (l := t.marks) (p := fun h => hasP x h.key) (R := rowP plan x v10) (by rw [S10f, h10.floor, S9f]; omega) hvm (fun r i n z e => by have := o8.maR r i n z e; omega) (by have := hs.ma; omega) (by omega) (by omega) ac10 (exMark plan x v10 s8.next (s.next + 1)) fun v11 lv11 s11 h11 sl11 ac11 ot11 => ?_
      have n11 := h11.next
      have t11 : s11.get s.next = _ := ((h11.get s.next (by omega)).trans (S10g _ (by omega))).trans t10
      have f11 : s11.floor ≤ s.next := by rw [h11.floor, S10f, h10.floor, S9f]; exact f9
      have f11b : s11.floor ≤ s.next + 1 + 1 := by omega
      have f11c : s11.floor ≤ s.next + 1 + 1 + 1 := by omega
      have old11 : ∀ q, s.next < q → q < m1 → s11.get q = s8.get q := fun q q1 q2 => by
        rw [h11.get q (by omega), since q q1 (by omega) fun i n z e => by have := (o8.ho.row q i n z e).1; omega]
      have c11 : s11.get (s.next + 1 + 1) = _ := (old11 _ (by omega) (by omega)).trans r8.c
      have e11 : s11.get (s.next + 1 + 1 + 1) = _ := (old11 _ (by omega) (by omega)).trans r8.e
      have p11 := ac11.l
      simp only [rowP] at p11
      have cv11 := sl11.cell
      have clv := own_cell ac11.o
      have d5 : (s.next + 1 + 1 = s8.next) = False := by simp; omega
      have d6 : (s.next + 1 + 1 + 1 = s8.next) = False := by simp; omega
      have d7 : (s8.next = s.next + 1 + 1) = False := by simp; omega
      have d8 : (s.next + 1 + 1 = s.next) = False := by simp; omega
      have d9 : (s.next + 1 + 1 + 1 = s.next) = False := by simp; omega
      (repeat' (with_reducible first|refine w_1 ?_|refine w_2 ?_|refine w_6 ?_|simp (maxDischargeDepth:=12) only [viz,↓reduceIte,Nat.reduceEqDiff,Nat.reduceAdd,t11,p11,c11,e11,f11,f11b,f11c,cv11,clv,cells_cell cv11,d2,d5,d6,d8,d9,d43,d34,csp,cfr,c9,cit,c10]))
      generalize hPe : Mem.put _ _ _ = P
      have hPg : ∀ q, s.next + 1 + 1 + 1 < q → q ≠ s8.next → P.get q = s11.get q := fun q h1 h2 => by
        rw [← hPe]
        simp only [Mem.get_put]
        rw [if_neg (by omega), if_neg (by omega), if_neg (by omega), if_neg (by omega), if_neg (by omega)]
      have hPn : P.next = s11.next := by rw [← hPe]; rfl
      have hPf : P.floor = s11.floor := by rw [← hPe]; rfl
      have hPl : ∀ q, q < s.next → P.get q = s11.get q := fun q h1 => by
        rw [← hPe]
        simp only [Mem.get_put]
        rw [if_neg (by omega), if_neg (by omega), if_neg (by omega), if_neg (by omega), if_neg (by omega)]
      clear hPe
      have hkP : Keep s.next s P := by
        refine ⟨by have := k8.next; omega, by rw [hPf, h11.floor, S10f, h10.floor, S9f, h9.floor, M0f]; exact k8.floor, fun q hq => ?_⟩
        rw [hPl q hq, h11.get q (by omega), S10g q (by omega), h10.get q (by omega), S9g q (by omega), h9.get q (by omega), M0g q (by omega), S8g q (by omega)]
        exact k8.get q hq
      refine hK ⟨a6, a7, v9, v11, w8.it⟩ v10 lv11 P hkP ⟨?_, ?_, ?_, ?_, ?_⟩ ?_ ?_
      · exact (sp8.keep fun q hq => by rw [hPg q (by omega) (by omega), old11 q (by omega) (by omega)]).mono fun q hq => by omega
      · exact (fr8.keep fun q hq => by rw [hPg q (by omega) (by omega), old11 q (by omega) (by omega)]).mono fun q hq => by omega
      · refine (sl9.keep fun q hq => ?_).mono fun q hq => by omega
        obtain ⟨⟨z1, z2⟩, i, n, z, e⟩ := hq
        have := o8.hoR q i n z e
        rw [hPg q (by omega) (by omega), h11.get q this, S10g q (by omega), h10.get q (by omega), S9g q (by omega)]
      · refine (sl11.keep fun q hq => ?_).mono fun q hq => by omega
        obtain ⟨⟨z1, z2⟩, i, n, z, e⟩ := hq
        rw [hPg q (by omega) (by omega)]
      · refine ((o8.it.sl (D := fun q => m3 ≤ q ∧ q < s8.next) (int_cells _) fun r n e => o8.it.row r 0 n 6 e).keep fun q hq => ?_).mono fun q hq => by omega
        rw [hPg q (by omega) (by omega), ot11 q (by omega) (by omega) (maN q (by omega)), since q (by omega) hq.2 (hoN q (by omega))]
      · refine ((o10.sl (D := fun q => S9.next ≤ q ∧ q < s10.next) (hold_cells _) fun r n e => o10.row r 0 n 3 e).keep fun q hq => ?_).mono fun q hq => by omega
        rw [hPg q (by omega) (by omega), ot11 q (by omega) (by omega) (maN q (by omega)), S10g q (by omega)]
      · refine ((ac11.o.sl (D := fun q => s8.next + 1 ≤ q ∧ q < s11.next) (mark_cells _) fun r n e => ac11.o.row r 0 n 2 e).keep fun q hq => ?_).mono fun q hq => by omega
        rw [hPg q (by omega) (by omega)]
    · refine hz _ _ _ _ k4 ?_
      unfold expP
      rw [if_neg (by rw [hx0]; simp), if_neg (by rw [hcv]; simp), if_pos (by grind)]
  · refine hz _ _ _ _ k1 ?_
    unfold expP
    rw [if_pos (by grind)]
end Go.Proofs.YthibbbfhkfebkaaGreat

