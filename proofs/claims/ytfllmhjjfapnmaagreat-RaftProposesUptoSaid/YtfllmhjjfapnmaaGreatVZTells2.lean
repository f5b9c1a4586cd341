/- Slices of a log; whether a log is fresh. No statement of the seat is proved here. -/
import Derived.Test.YtfllmhjjfapnmaaGreatVZTT
import Derived.Test.YtfllmhjjfapnmaaGreatVZVE
namespace Go.Proofs.YtfllmhjjfapnmaaGreat
open Go Go.VI
set_option linter.unusedSimpArgs false
attribute [local irreducible] Ws Wp W C
set_option maxHeartbeats 4000000
theorem filter_drop : ∀ (es : List Entry) (b : Int) (k : Nat), Cons b es → es.filter (fun e => decide (e.index ≥ b + 1 + k)) = es.drop k := by
  intro es
  induction es with
  | nil => intro b k _; simp
  | cons e es ih =>
    intro b k h
    obtain ⟨h1, h2⟩ := h.tail
    cases k with
    | zero =>
      rw [List.drop_zero, List.filter_eq_self]
      intro x hx
      obtain ⟨j, hj⟩ := List.mem_iff_getElem?.mp hx
      have := h j x hj
      simp; omega
    | succ k =>
      have e1 : decide (e.index ≥ b + 1 + ((k + 1 : Nat) : Int)) = false := by simp; omega
      simp only [List.filter_cons, e1, Bool.false_eq_true, if_false]
      rw [List.drop_succ_cons, ← ih (b + 1) k h2]
      congr 1
      have : b + 1 + ((k + 1 : Nat) : Int) = b + 1 + 1 + (k : Int) := by push_cast; omega
      rw [this]
def sliceE (b : Int) (es : List Entry) (from_ mx : Int) : List Entry :=
  if from_ ≤ b then [] else (es.filter fun e => decide (e.index ≥ from_)).take mx.toNat
theorem sliceE_out {b from_ mx : Int} {es : List Entry} (hc : Cons b es) (h : from_ ≤ b ∨ mx < 1 ∨ b + es.length < from_) : sliceE b es from_ mx = [] := by
  unfold sliceE
  split
  · rfl
  · rename_i h0
    rcases h with h | h | h
    · exact absurd h h0
    · rw [show mx.toNat = 0 by omega]; rfl
    · rw [List.filter_eq_nil_iff.mpr]
      · exact List.take_nil
      · intro e he
        obtain ⟨j, hj⟩ := List.mem_iff_getElem?.mp he
        have := hc j e hj
        have := (List.getElem?_eq_some_iff.mp hj).1
        simp; omega
theorem mn_c {F : Nat → Option CFunc} {x y : Opd} {e : Env} {s : Mem} {K : AV → Mem → Prop} {a b : Int} (hx : ev e x = .int .i64 a) (hy : ev e y = .int .i64 b) (hK : K (.int .i64 (min a b)) s) : Wp F (.mnmx false [x, y]) e s K := by
  rw [Wp_mnmx]
  simp only [stepOp, List.map_cons, List.map_nil, hx, hy, best, if_true, Bool.false_eq_true, if_false, Option.map_some, K2_some]
  have : (if b < a then b else a) = min a b := by simp only [Int.min_def]; split <;> split <;> omega
  rw [this]; exact hK
theorem sliceN_c {l : Log} {from_ mx : Int} {D : Nat → Prop} {s : Mem} {v : AV} {K : AV → Mem → Prop} (hf : s.floor ≤ s.next) (hI : In D s) (hv : LogV s D v l) (hw : l.Wf) (hc : Cons l.base.index l.l) (hfr : 0 ≤ from_ ∧ from_ ≤ 18446744073709551615) (hmx : mx ≤ 9223372036854775807)
    (hK : ∀ v' s', Ents s' (NewD D s.next s'.next) v' (sliceE l.base.index l.l from_ mx) → Keep s.next s s' → K v' s') : C tab 89 [v, .int .u64 from_, .int .i64 mx] s K := by
  obtain ⟨d, w, rfl, hd, hes⟩ := hv
  have hn := hw.len
  have hbi := hw.base.index
  refine C_enter (cf := cf89) rfl (Nat.le_of_ble_eq_true rfl) ?_
  simp only [cf89, oo, on, om, og, oc, ou]
  have hk0 := pushes s ⟨28, 5, [[.int .u64 l.base.index, .int .u64 l.base.term, .int .i64 l.base.kind, d, w]]⟩
  have hes1 := hes.keep (keep_old hI hk0)
  have w0 : IntKind.u64.wrap (l.l.length : Int) = l.l.length := wrap_u64 (by omega)
  have none : from_ ≤ l.base.index ∨ mx < 1 ∨ l.base.index + l.l.length < from_ → K .nilS (s.push (logRow l d w)) := fun h => by
    have := sliceE_out hc h
    rw [this] at hK
    exact hK _ _ ⟨[], Sl.nil _ _ _, EntsC.nil _ _⟩ hk0
  by_cases hlow : from_ ≤ l.base.index
  · have c1 : decide (from_ ≤ l.base.index) = true := by simp [hlow]
    (repeat' (with_reducible first|refine w_1 ?_|refine w_2 ?_|refine w_3 ?_|refine w_4 ?_|refine w_5 ?_|refine w_6 ?_|refine w_7 ?_|(refine w_8 (fun hb=>?_) (fun hb=>?_)<;>try simp only [hb])|refine w_9 ?_|simp (maxDischargeDepth:=12) only [viz,↓reduceIte,Nat.reduceEqDiff,reduceCtorEq,Int.reduceEq,Int.reduceNeg,Nat.reduceAdd,Nat.reduceLeDiff,hd.cell,hes.cell,hf,c1]))
    exact none (.inl hlow)
  · have c1 : decide (from_ ≤ l.base.index) = false := by simp [hlow]
    have w1 : IntKind.u64.wrap (from_ - l.base.index) = from_ - l.base.index := wrap_u64 (by omega)
    by_cases h1 : mx < 1
    · have c2 : decide (mx < 1) = true := by simp [h1]
      (repeat' (with_reducible first|refine w_1 ?_|refine w_2 ?_|refine w_3 ?_|refine w_4 ?_|refine w_5 ?_|refine w_6 ?_|refine w_7 ?_|(refine w_8 (fun hb=>?_) (fun hb=>?_)<;>try simp only [hb])|refine w_9 ?_|simp (maxDischargeDepth:=12) only [viz,↓reduceIte,Nat.reduceEqDiff,reduceCtorEq,Int.reduceEq,Int.reduceNeg,Nat.reduceAdd,Nat.reduceLeDiff,hd.cell,hes.cell,hf,c1,c2]))
      exact none (.inr (.inl h1))
    · have c2 : decide (mx < 1) = false := by simp [h1]
      by_cases h2 : from_ - l.base.index > l.l.length
      · have c3 : decide (from_ - l.base.index > (l.l.length : Int)) = true := by simp [h2]
        (repeat' (with_reducible first|refine w_1 ?_|refine w_2 ?_|refine w_3 ?_|refine w_4 ?_|refine w_5 ?_|refine w_6 ?_|refine w_7 ?_|(refine w_8 (fun hb=>?_) (fun hb=>?_)<;>try simp only [hb])|refine w_9 ?_|simp (maxDischargeDepth:=12) only [viz,↓reduceIte,Nat.reduceEqDiff,reduceCtorEq,Int.reduceEq,Int.reduceNeg,Nat.reduceAdd,Nat.reduceLeDiff,hd.cell,hes.cell,hes.len,hf,c1,c2,c3,w0,w1]))
        exact none (.inr (.inr (by omega)))
      · have c3 : decide (from_ - l.base.index > (l.l.length : Int)) = false := by simp; omega
        obtain ⟨k, hk⟩ : ∃ k : Nat, from_ = l.base.index + 1 + k := ⟨(from_ - l.base.index - 1).toNat, by omega⟩
        have w2 : IntKind.u64.wrap (from_ - l.base.index - 1) = (k : Int) := by rw [wrap_u64 (by omega)]; omega
        obtain ⟨ys, hys, hyse⟩ := hes1
        have hyl := hyse.1
        obtain ⟨v2, hcut, hv2⟩ := hys.cut (lo := some k) (hi := Option.none) (by simp only [Option.getD_some, Option.getD_none]; omega) (by simp)
        have hv2' : Sl (s.push (logRow l d w)) D v2 4 (ys.drop k) := by simpa using hv2
        have hL2 : lenA false v2 = some (l.l.length - k) := by rw [hv2'.len, List.length_drop, hyl]
        obtain ⟨n, hnn⟩ : ∃ n : Nat, min mx ((l.l.length - k : Nat) : Int) = (n : Int) := ⟨(min mx ((l.l.length - k : Nat) : Int)).toNat, by omega⟩
        obtain ⟨v3, hcut3, hv3⟩ := hv2'.cut (lo := Option.none) (hi := some n) (by simp) (by simp only [Option.getD_some, List.length_drop]; omega)
        have hres : Ents (s.push (logRow l d w)) D v3 ((l.l.drop k).take n) := ⟨(ys.drop k).take n, by simpa using hv3, (hyse.drop k).take n⟩
        have hsl : sliceE l.base.index l.l from_ mx = (l.l.drop k).take n := by
          unfold sliceE
          rw [if_neg hlow, hk, filter_drop _ _ _ hc, List.take_eq_take_iff, List.length_drop]
          omega
        rw [hsl] at hK
        (repeat' (with_reducible first|refine w_1 ?_|refine w_2 ?_|refine w_3 ?_|refine w_4 ?_|refine w_5 ?_|refine w_6 ?_|refine w_7 ?_|(refine w_8 (fun hb=>?_) (fun hb=>?_)<;>try simp only [hb])|refine w_9 ?_|simp (maxDischargeDepth:=12) only [viz,↓reduceIte,Nat.reduceEqDiff,reduceCtorEq,Int.reduceEq,Int.reduceNeg,Nat.reduceAdd,Nat.reduceLeDiff,hd.cell,hes.cell,hes.len,hf,c1,c2,c3,w0,w1,w2,bdA_some,bdV_nat,hcut,hL2]))
        refine mn_c (a := mx) (b := ((l.l.length - k : Nat) : Int)) (by simp only [ev, Env.get_set, ↓reduceIte, Nat.reduceEqDiff]) (by simp only [ev, Env.get_set, ↓reduceIte, Nat.reduceEqDiff]) ?_
        rw [hnn]
        (repeat' (with_reducible first|refine w_1 ?_|refine w_2 ?_|refine w_3 ?_|refine w_4 ?_|refine w_5 ?_|refine w_6 ?_|refine w_7 ?_|(refine w_8 (fun hb=>?_) (fun hb=>?_)<;>try simp only [hb])|refine w_9 ?_|simp (maxDischargeDepth:=12) only [viz,↓reduceIte,Nat.reduceEqDiff,reduceCtorEq,Int.reduceEq,Int.reduceNeg,Nat.reduceAdd,Nat.reduceLeDiff,bdA_some,bdV_nat,hcut3]))
        refine own_c (D := D) (hk0.ok hf) (hI.keep hk0) hres (fun e he => hw.all e (List.mem_of_mem_drop (List.mem_of_mem_take he))) (by show _ < 1000000000000; rw [List.length_take, List.length_drop]; omega) fun v4 s4 ho4 hk4 => ?_
        (repeat' (with_reducible first|refine w_1 ?_|refine w_2 ?_|refine w_3 ?_|refine w_4 ?_|refine w_5 ?_|refine w_6 ?_|refine w_7 ?_|(refine w_8 (fun hb=>?_) (fun hb=>?_)<;>try simp only [hb])|refine w_9 ?_|simp (maxDischargeDepth:=12) only [viz,↓reduceIte,Nat.reduceEqDiff,reduceCtorEq,Int.reduceEq,Int.reduceNeg,Nat.reduceAdd,Nat.reduceLeDiff]))
        exact hK _ _ (ho4.ents.mono fun q hq => .inr ⟨by have := hq.1; simp only [next_push'] at this; omega, hq.2⟩) (hk0.then hk4)
theorem take_grow {α : Type} (xs : List α) (y : α) (n : Nat) : (xs ++ [y]).take n = if (xs.take n).length < n then xs.take n ++ [y] else xs.take n := by
  rw [List.length_take]
  by_cases h : xs.length < n
  · rw [if_pos (by omega), List.take_of_length_le (by simp; omega), List.take_of_length_le (by omega)]
  · rw [if_neg (by omega), List.take_append_of_le_length (by omega)]
theorem rsliceN_c {l : Log} {from_ mx : Int} {D : Nat → Prop} {s : Mem} {v : AV} {K : AV → Mem → Prop} (hf : s.floor ≤ s.next) (hI : In D s) (hv : LogV s D v l) (hn : Fit l.l.length)
    (hK : ∀ v' s', Ents s' (NewD D s.next s'.next) v' (sliceE l.base.index l.l from_ mx) → Keep s.next s s' → K v' s') : C tab 132 [v, .int .u64 from_, .int .i64 mx] s K := by
  obtain ⟨d, w, rfl, hd, hes⟩ := hv
  refine C_enter (cf := cf132) rfl (Nat.le_of_ble_eq_true rfl) ?_
  simp only [cf132, oo, on, om, og, oc, ou]
  (repeat' (with_reducible first|refine w_1 ?_|refine w_2 ?_|refine w_3 ?_|refine w_4 ?_|refine w_5 ?_|refine w_6 ?_|refine w_7 ?_|(refine w_8 (fun hb=>?_) (fun hb=>?_)<;>try simp only [hb])|refine w_9 ?_|simp (maxDischargeDepth:=12) only [viz,↓reduceIte,Nat.reduceEqDiff,reduceCtorEq,Int.reduceEq,Int.reduceNeg,Nat.reduceAdd,Nat.reduceLeDiff,hd.cell,hes.cell,hf]))
  generalize hS : (s.push ⟨28, 5, [[.int .u64 l.base.index, .int .u64 l.base.term, .int .i64 l.base.kind, d, w]]⟩).push ⟨25, 4, []⟩ = S
  have hk0 : Keep s.next s S := by rw [← hS]; exact (pushes _ _).then (pushes _ _)
  have hgS : S.get s.next = some (logRow l d w) := by rw [← hS, Mem.get_push, if_neg (by simp only [next_push']; omega), Mem.get_push, if_pos rfl]
  have nS : S.next = s.next + 2 := by rw [← hS]; rfl
  have fS := hk0.ok hf
  have heS := hes.keep (keep_old hI hk0)
  have IS := hI.keep hk0
  refine W_inv l.l.length (fun i e s' => Keep S.next S s' ∧ e.get 1 = .int .u64 from_ ∧ e.get 2 = .int .i64 mx ∧ e.get 3 = .ptr s.next 0 0 ∧ e.get 8 = .int .i64 i ∧ ∃ xs, OwnL s' S.next (e.get 7) 25 4 xs ∧ EntsC s' D xs (sliceE l.base.index (l.l.take i) from_ mx)) (by delta cf132l0 oo on om og oc ou; exact rfl) ?_ ?_
  · (repeat' (with_reducible first|refine w_1 ?_|refine w_2 ?_|refine w_3 ?_|refine w_4 ?_|refine w_5 ?_|refine w_6 ?_|refine w_7 ?_|(refine w_8 (fun hb=>?_) (fun hb=>?_)<;>try simp only [hb])|refine w_9 ?_|simp (maxDischargeDepth:=12) only [viz,↓reduceIte,Nat.reduceEqDiff,reduceCtorEq,Int.reduceEq,Int.reduceNeg,Nat.reduceAdd,Nat.reduceLeDiff]))
    refine ⟨rfl, [], OwnL.emp _ _ _ _, ?_⟩
    have : sliceE l.base.index (l.l.take 0) from_ mx = [] := by simp [sliceE]
    rw [this]; exact EntsC.nil _ _
  · rintro i e s' hi _ ⟨hk, g1, g2, g3, g8, xs, hx, hxe⟩
    have hg := (hk.get s.next (by omega)).trans hgS
    have he' := heS.keep (keep_old IS hk)
    have I' := IS.keep hk
    have f' := hk.ok fS
    have done : sliceE l.base.index (l.l.take i) from_ mx = sliceE l.base.index l.l from_ mx → ∃ xs, OwnL s' S.next (e.get 7) 25 4 xs ∧ EntsC s' D xs (sliceE l.base.index l.l from_ mx) := fun h => ⟨xs, hx, by rw [← h]; exact hxe⟩
    have leave : sliceE l.base.index (l.l.take i) from_ mx = sliceE l.base.index l.l from_ mx → K (e.get 7) s' := fun h => by
      obtain ⟨xs, h1, h2⟩ := done h
      have hk1 := hk0.then hk
      have n1 := hk.next
      exact hK _ _ ⟨xs, h1.sl h2.sizes fun q n h => .inr ⟨by have := (h1.row q 0 n 4 h).1; omega, (h1.row q 0 n 4 h).2⟩, h2.mono fun q hq => .inl hq⟩ hk1
    by_cases hlt : i < l.l.length
    · by_cases hfr : from_ > l.base.index
      · have c1 : decide (from_ > l.base.index) = true := by simp [hfr]
        obtain ⟨x, hxi⟩ := get_of hlt
        obtain ⟨dx, p, hp, P, hdx⟩ := he'.atk I' hxi
        have hfs := filter_snoc (p := fun e => decide (e.index ≥ from_)) hxi
        have hsl : ∀ j, sliceE l.base.index (l.l.take j) from_ mx = ((l.l.take j).filter fun e => decide (e.index ≥ from_)).take mx.toNat := fun j => by
          unfold sliceE; rw [if_neg (by omega)]
        have hxl := hxe.1
        have hlen : lenA false (e.get 7) = some xs.length := hx.len
        have hxn : xs.length ≤ l.l.length := by
          rw [hxl, hsl, List.length_take]
          have := List.length_filter_le (fun e => decide (e.index ≥ from_)) (l.l.take i)
          rw [List.length_take] at this
          omega
        by_cases hge : x.index ≥ from_
        · have c2 : decide (x.index ≥ from_) = true := by simp [hge]
          simp only [c2, if_true] at hfs
          have hs1 := hsl (i + 1)
          rw [hfs, take_grow, ← hsl i, ← hxl] at hs1
          by_cases hroom : xs.length < mx.toNat
          · have c3 : decide ((xs.length : Int) < mx) = true := by simp; omega
            rw [if_pos hroom] at hs1
            (repeat' (with_reducible first|refine w_1 ?_|refine w_2 ?_|refine w_3 ?_|refine w_4 ?_|refine w_5 ?_|refine w_6 ?_|refine w_7 ?_|(refine w_8 (fun hb=>?_) (fun hb=>?_)<;>try simp only [hb])|refine w_9 ?_|simp (maxDischargeDepth:=12) only [viz,↓reduceIte,Nat.reduceEqDiff,reduceCtorEq,Int.reduceEq,Int.reduceNeg,Nat.reduceAdd,Nat.reduceLeDiff,g1,g2,g3,g8,hg,he'.len,lt_true hlt,c1,c2,c3,hp,P.ld,P.ldf,P.adr,Nat.zero_le,hdx.cell,hlen]))
            refine app_lit (k := 1) (b := S.next) (xs := xs) (by rw [hk.floor]; exact fS) hk.next hx (by simp only [ev, Env.get_set, ↓reduceIte, Nat.reduceEqDiff]) (by simp only [ev, Env.get_set, ↓reduceIte, Nat.reduceEqDiff]) rfl rfl (room (by simp only [List.length_cons, List.length_nil]; omega) (by simp only [List.length_cons, List.length_nil]; omega)) ?_
            intro v2 s2 ho2 hx2 _ _
            have hk2 : Keep S.next s' s2 := hx2.keep hk.next fun r i n z h => (hx.row r i n z h).1
            (repeat' (with_reducible first|refine w_1 ?_|refine w_2 ?_|refine w_3 ?_|refine w_4 ?_|refine w_5 ?_|refine w_6 ?_|refine w_7 ?_|(refine w_8 (fun hb=>?_) (fun hb=>?_)<;>try simp only [hb])|refine w_9 ?_|simp (maxDischargeDepth:=12) only [viz,↓reduceIte,Nat.reduceEqDiff,reduceCtorEq,Int.reduceEq,Int.reduceNeg,Nat.reduceAdd,Nat.reduceLeDiff,g1,g2,g3,g8,succ_av (i := i) (by omega)]))
            rw [hs1]
            exact ⟨hlt, hk.trans hk2, _, ho2, EntsC.append (hxe.keep fun q hq => hk2.get q (IS q hq)) (EntsC.one ⟨dx, rfl, hdx.keep fun q hq => hk2.get q (IS q hq)⟩)⟩
          · have c3 : decide ((xs.length : Int) < mx) = false := by simp; omega
            rw [if_neg hroom] at hs1
            (repeat' (with_reducible first|refine w_1 ?_|refine w_2 ?_|refine w_3 ?_|refine w_4 ?_|refine w_5 ?_|refine w_6 ?_|refine w_7 ?_|(refine w_8 (fun hb=>?_) (fun hb=>?_)<;>try simp only [hb])|refine w_9 ?_|simp (maxDischargeDepth:=12) only [viz,↓reduceIte,Nat.reduceEqDiff,reduceCtorEq,Int.reduceEq,Int.reduceNeg,Nat.reduceAdd,Nat.reduceLeDiff,g1,g2,g3,g8,hg,he'.len,lt_true hlt,c1,c2,c3,hp,P.ld,P.ldf,P.adr,Nat.zero_le,hdx.cell,hlen]))
            rw [hs1]
            exact ⟨hlt, hk, succ_av (by omega), xs, hx, hxe⟩
        · have c2 : decide (x.index ≥ from_) = false := by simp; omega
          simp only [c2, Bool.false_eq_true, if_false, List.append_nil] at hfs
          have hs1 := hsl (i + 1)
          rw [hfs, ← hsl i] at hs1
          (repeat' (with_reducible first|refine w_1 ?_|refine w_2 ?_|refine w_3 ?_|refine w_4 ?_|refine w_5 ?_|refine w_6 ?_|refine w_7 ?_|(refine w_8 (fun hb=>?_) (fun hb=>?_)<;>try simp only [hb])|refine w_9 ?_|simp (maxDischargeDepth:=12) only [viz,↓reduceIte,Nat.reduceEqDiff,reduceCtorEq,Int.reduceEq,Int.reduceNeg,Nat.reduceAdd,Nat.reduceLeDiff,g1,g2,g3,g8,hg,he'.len,lt_true hlt,c1,c2,hp,P.ld,P.ldf,P.adr,Nat.zero_le,hdx.cell,hlen]))
          rw [hs1]
          exact ⟨hlt, hk, succ_av (by omega), xs, hx, hxe⟩
      · have c1 : decide (from_ > l.base.index) = false := by simp; omega
        (repeat' (with_reducible first|refine w_1 ?_|refine w_2 ?_|refine w_3 ?_|refine w_4 ?_|refine w_5 ?_|refine w_6 ?_|refine w_7 ?_|(refine w_8 (fun hb=>?_) (fun hb=>?_)<;>try simp only [hb])|refine w_9 ?_|simp (maxDischargeDepth:=12) only [viz,↓reduceIte,Nat.reduceEqDiff,reduceCtorEq,Int.reduceEq,Int.reduceNeg,Nat.reduceAdd,Nat.reduceLeDiff,g1,g2,g3,g8,hg,he'.len,lt_true hlt,c1]))
        exact leave (by unfold sliceE; rw [if_pos (by omega), if_pos (by omega)])
    · (repeat' (with_reducible first|refine w_1 ?_|refine w_2 ?_|refine w_3 ?_|refine w_4 ?_|refine w_5 ?_|refine w_6 ?_|refine w_7 ?_|(refine w_8 (fun hb=>?_) (fun hb=>?_)<;>try simp only [hb])|refine w_9 ?_|simp (maxDischargeDepth:=12) only [viz,↓reduceIte,Nat.reduceEqDiff,reduceCtorEq,Int.reduceEq,Int.reduceNeg,Nat.reduceAdd,Nat.reduceLeDiff,g1,g2,g3,g8,hg,he'.len,lt_false hlt]))
      exact leave (by rw [List.take_of_length_le (by omega)])
end Go.Proofs.YtfllmhjjfapnmaaGreat

