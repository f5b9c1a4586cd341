/- A lone voter leads behind its ticks. No statement of the seat is proved here. -/
import Derived.Test.YtfllmhjjfapnmaaGreatVZRaftTick
import Derived.Test.YtfllmhjjfapnmaaGreatVZVE
namespace Go.Proofs.YtfllmhjjfapnmaaGreat
open Go Go.VI
set_option linter.unusedSimpArgs false
theorem C_iso {F : Nat → Option CFunc} {f : Nat} {cf : CFunc} {s : Mem} {K : AV → Mem → Prop} (hf : F f = some cf) (hi : cf.iso = true) (hp : cf.prim = none) (h : W F cf.body (Env.start []) .zero (RK cf.res (fun v _ => plainA v = true ∧ K v s))) : C F f [] s K := by
  have hi' : (isoF F f && ([] : List AV).isEmpty) = true := by simp only [isoF, hf, hi]; rfl
  have hp' : primF F f = none := by simp only [primF, hf]; exact hp
  obtain ⟨n, x, e', s', h1, h2⟩ := h
  cases x with
  | normal =>
    obtain ⟨r, s2, h3, h4, h5⟩ := h2
    refine ⟨n, r, s, ?_, h5⟩
    simp only [run, callA, hi', if_true, callB, hp', callC, hf, if_pos (And.intro (Nat.zero_le _) hp), h1, List.length_nil]
    simp only [h3, h4, if_true]
  | exit id => exact h2.elim
  | ret =>
    obtain ⟨r, s2, h3, h4, h5⟩ := h2
    refine ⟨n, r, s, ?_, h5⟩
    simp only [run, callA, hi', if_true, callB, hp', callC, hf, if_pos (And.intro (Nat.zero_le _) hp), h1, List.length_nil]
    simp only [h3, h4, if_true]
attribute [local irreducible] Ws Wp W C
set_option maxHeartbeats 4000000
def byteL (vs : List Int) : List UInt8 := vs.map fun a => UInt8.ofNat a.toNat
def newR (n : Int) (vs : List Int) : Raft := ⟨n, 0, 0, ⟨⟨0, 0, 0, byteL vs⟩, []⟩, 0, 0, 0, 0, [], []⟩
theorem up_all : ∀ (l : List Int) (a : Int), up a l = true → ∀ b ∈ l, 1 ≤ b ∧ b ≤ 7 := by
  intro l
  induction l with
  | nil => intro a _ b hb; cases hb
  | cons x l ih =>
    intro a h b hb
    simp only [up, Bool.and_eq_true, decide_eq_true_eq] at h
    rcases List.mem_cons.mp hb with rfl | hb
    · exact h.1.1
    · exact ih x h.2 b hb
theorem okV_all {vs : List Int} (h : okV vs = true) : ∀ b ∈ vs, 1 ≤ b ∧ b ≤ 7 := by
  simp only [okV, Bool.and_eq_true] at h
  exact up_all vs 0 h.1
theorem byteL_c {a : Int} (h : 1 ≤ a ∧ a ≤ 7) : byteC (UInt8.ofNat a.toNat) = [.int .u8 a] := by
  simp only [byteC, UInt8.toNat_ofNat']
  rw [Nat.mod_eq_of_lt (by omega), Int.toNat_of_nonneg (by omega)]
theorem newRaft_c {n : Int} {vs : List Int} {D : Nat → Prop} {s : Mem} {v : AV} {K : AV → Mem → Prop} (hf : s.floor ≤ s.next) (hI : In D s) (hv : Sl s D v 1 (intsA .i64 vs)) (hn : Fit vs.length)
    (hbad : (nodeOk n && okV vs) = false → ∀ v' s', Keep s.next s s' → RaftV s' (Lt s'.next) v' zeroR → K (.tup [v', .int .i64 1]) s')
    (hgood : (nodeOk n && okV vs) = true → ∀ v' s', Keep s.next s s' → RaftV s' (Lt s'.next) v' (newR n vs) → K (.tup [v', .int .i64 0]) s') : C tab 17 [.int .i64 n, v] s K := by
  refine C_enter (cf := cf17) rfl (Nat.le_of_ble_eq_true rfl) ?_
  simp only [cf17, oo, on, om, og, oc, ou]
  have f0 : (s.floor ≤ s.next) = True := by simp; exact hf
  (repeat' (with_reducible first|refine w_1 ?_|refine w_2 ?_|refine w_3 ?_|refine w_4 ?_|refine w_5 ?_|refine w_6 ?_|refine w_7 ?_|(refine w_8 (fun hb=>?_) (fun hb=>?_)<;>try simp only [hb])|refine w_9 ?_|simp (maxDischargeDepth:=12) only [viz,↓reduceIte,Nat.reduceEqDiff,reduceCtorEq,Int.reduceEq,Int.reduceNeg,Nat.reduceAdd,Nat.reduceLeDiff,f0]))
  have zr : ∀ s' D, RaftV s' D (.agg [.int .i64 0, .int .u64 0, .int .i64 0, .int .u64 0, .int .u64 0, .int .i64 0, .nilS, .nilS, .int .u64 0, .int .i64 0, .int .i64 0, .int .i64 0, .nilS, .nilS]) zeroR := fun s' D => ⟨_, rfl, .nilS, .nilS, .nilS, .nilS, rfl, Sl.nil _ _ _, ⟨[], Sl.nil _ _ _, EntsC.nil _ _⟩, Sl.nil _ _ _, Sl.nil _ _ _⟩
  have hk0 := pushes s ⟨32, 14, [[.int .i64 0, .int .u64 0, .int .i64 0, .int .u64 0, .int .u64 0, .int .i64 0, .nilS, .nilS, .int .u64 0, .int .i64 0, .int .i64 0, .int .i64 0, .nilS, .nilS]]⟩
  refine rnode_c ?_
  cases h1 : nodeOk n
  · (repeat' (with_reducible first|refine w_1 ?_|refine w_2 ?_|refine w_3 ?_|refine w_4 ?_|refine w_5 ?_|refine w_6 ?_|refine w_7 ?_|(refine w_8 (fun hb=>?_) (fun hb=>?_)<;>try simp only [hb])|refine w_9 ?_|simp (maxDischargeDepth:=12) only [viz,↓reduceIte,Nat.reduceEqDiff,reduceCtorEq,Int.reduceEq,Int.reduceNeg,Nat.reduceAdd,Nat.reduceLeDiff,f0,bne_self_eq_false, Int.reduceBEq, Int.reduceBNe, Int.reduceLT, Int.reduceLE, Int.reduceGT, Int.reduceGE]))
    exact hbad (by rw [h1]; rfl) _ _ (pushes _ _) (zr _ _)
  (repeat' (with_reducible first|refine w_1 ?_|refine w_2 ?_|refine w_3 ?_|refine w_4 ?_|refine w_5 ?_|refine w_6 ?_|refine w_7 ?_|(refine w_8 (fun hb=>?_) (fun hb=>?_)<;>try simp only [hb])|refine w_9 ?_|simp (maxDischargeDepth:=12) only [viz,↓reduceIte,Nat.reduceEqDiff,reduceCtorEq,Int.reduceEq,Int.reduceNeg,Nat.reduceAdd,Nat.reduceLeDiff,bne_self_eq_false, Int.reduceBEq, Int.reduceBNe, Int.reduceLT, Int.reduceLE, Int.reduceGT, Int.reduceGE]))
  refine check_c (hv.keep (keep_old hI hk0)) hn ?_
  cases h2 : okV vs
  · (repeat' (with_reducible first|refine w_1 ?_|refine w_2 ?_|refine w_3 ?_|refine w_4 ?_|refine w_5 ?_|refine w_6 ?_|refine w_7 ?_|(refine w_8 (fun hb=>?_) (fun hb=>?_)<;>try simp only [hb])|refine w_9 ?_|simp (maxDischargeDepth:=12) only [viz,↓reduceIte,Nat.reduceEqDiff,reduceCtorEq,Int.reduceEq,Int.reduceNeg,Nat.reduceAdd,Nat.reduceLeDiff,f0,bne_self_eq_false, Int.reduceBEq, Int.reduceBNe, Int.reduceLT, Int.reduceLE, Int.reduceGT, Int.reduceGE]))
    exact hbad (by rw [h1, h2]; rfl) _ _ (pushes _ _) (zr _ _)
  have hg := hgood (by rw [h1, h2]; rfl)
  have h7 := (okV_len h2).2
  have hall := okV_all h2
  (repeat' (with_reducible first|refine w_1 ?_|refine w_2 ?_|refine w_3 ?_|refine w_4 ?_|refine w_5 ?_|refine w_6 ?_|refine w_7 ?_|(refine w_8 (fun hb=>?_) (fun hb=>?_)<;>try simp only [hb])|refine w_9 ?_|simp (maxDischargeDepth:=12) only [viz,↓reduceIte,Nat.reduceEqDiff,reduceCtorEq,Int.reduceEq,Int.reduceNeg,Nat.reduceAdd,Nat.reduceLeDiff,hv.lenB,bne_self_eq_false, Int.reduceBEq, Int.reduceBNe, Int.reduceLT, Int.reduceLE, Int.reduceGT, Int.reduceGE]))
  refine W_inv vs.length (fun i e s' => Keep (s.next + 1) (s.push ⟨32, 14, [[.int .i64 0, .int .u64 0, .int .i64 0, .int .u64 0, .int .u64 0, .int .i64 0, .nilS, .nilS, .int .u64 0, .int .i64 0, .int .i64 0, .int .i64 0, .nilS, .nilS]]⟩) s' ∧ e.get 20 = .int .i64 i ∧ ∃ l, e.get 6 = l ∧ OwnL s' (s.next + 1) l 5 1 ((byteL (vs.take i)).map byteC)) (by delta cf17l0 oo on om og oc ou; exact rfl) ?_ ?_
  · exact ⟨Keep.refl _ _, by simp only [Env.get_set, ↓reduceIte]; rfl, .nilS, (by simp only [ev, Env.get_set, ↓reduceIte, Nat.reduceEqDiff]), OwnL.nil _ _ _ _⟩
  · rintro i e s' hi hT ⟨hk, g20, l, g6, ho⟩
    have g0 := hT 0 rfl
    have g4 := hT 4 rfl
    have g18 := hT 18 rfl
    have g19 := hT 19 rfl
    simp only [Env.get_set, ↓reduceIte, Nat.reduceEqDiff, Env.start, Env.ofList] at g0 g4 g18 g19
    clear hT
    have hk1 : Keep s.next s s' := hk0.trans (hk.le (by omega))
    have nx : s.next + 1 ≤ s'.next := hk.next
    by_cases hlt : i < vs.length
    · obtain ⟨a, ha⟩ := get_of hlt
      have ha7 := hall a (List.mem_of_getElem? ha)
      obtain ⟨p, hp, P⟩ := (hv.keep (keep_old hI hk1)).atkB (hI.keep hk1) ha
      have ld : loadA s' false 1 p = some (.int .i64 a) := by rw [P.ld _ (Keep.refl _ _)]; exact rfl
      have w1 : IntKind.u8.wrap a = a := by
        unfold IntKind.wrap; simp only [IntKind.bits, IntKind.signed, Bool.false_and, Bool.false_eq_true, if_false]; omega
      (repeat' (with_reducible first|refine w_1 ?_|refine w_2 ?_|refine w_3 ?_|refine w_4 ?_|refine w_5 ?_|refine w_6 ?_|refine w_7 ?_|(refine w_8 (fun hb=>?_) (fun hb=>?_)<;>try simp only [hb])|refine w_9 ?_|simp (maxDischargeDepth:=12) only [viz,↓reduceIte,Nat.reduceEqDiff,reduceCtorEq,Int.reduceEq,Int.reduceNeg,Nat.reduceAdd,Nat.reduceLeDiff,g0,g4,g18,g19,g20,g6,lt_true hlt,hp,ld,w1]))
      have hll : ((byteL (vs.take i)).map byteC).length ≤ 7 := by simp only [byteL, List.length_map, List.length_take]; omega
      refine app_lit (v := l) (k := 1) (b := s.next + 1) (xs := (byteL (vs.take i)).map byteC) (by rw [hk.floor]; show s.floor ≤ _; omega) nx ho (by simp only [ev, Env.get_set, ↓reduceIte, Nat.reduceEqDiff]) (by simp only [ev, Env.get_set, ↓reduceIte, Nat.reduceEqDiff]) rfl rfl (room (by rw [List.length_singleton]; omega) (by rw [List.length_singleton]; omega)) ?_
      intro v5 s5 ho5 hx5 _ _
      have e5 : (byteL (vs.take i)).map byteC ++ [[.int .u8 a]] = (byteL (vs.take (i + 1))).map byteC := by
        rw [← byteL_c ha7]
        unfold byteL
        rw [map_next ha, List.map_append]
        rfl
      rw [e5] at ho5
      (repeat' (with_reducible first|refine w_1 ?_|refine w_2 ?_|refine w_3 ?_|refine w_4 ?_|refine w_5 ?_|refine w_6 ?_|refine w_7 ?_|(refine w_8 (fun hb=>?_) (fun hb=>?_)<;>try simp only [hb])|refine w_9 ?_|simp (maxDischargeDepth:=12) only [viz,↓reduceIte,Nat.reduceEqDiff,reduceCtorEq,Int.reduceEq,Int.reduceNeg,Nat.reduceAdd,Nat.reduceLeDiff,g0,g4,g18,g19,g20]))
      exact ⟨hlt, hk.trans (hx5.keep nx fun q i n z h => (ho.row q i n z h).1), succ_av (by omega), v5, rfl, ho5⟩
    · rw [List.take_of_length_le (by omega)] at ho
      have hcl : isCell l = true := by rcases ho with ⟨h | h, _⟩ | ⟨q, h, _⟩ <;> rw [h] <;> rfl
      have r4 : s'.get s.next = some ⟨32, 14, [[.int .i64 0, .int .u64 0, .int .i64 0, .int .u64 0, .int .u64 0, .int .i64 0, .nilS, .nilS, .int .u64 0, .int .i64 0, .int .i64 0, .int .i64 0, .nilS, .nilS]]⟩ := by
        rw [hk.get s.next (by omega), Mem.get_push, if_pos rfl]
      have fl : (s'.floor ≤ s.next) = True := by rw [hk1.floor]; exact f0
      (repeat' (with_reducible first|refine w_1 ?_|refine w_2 ?_|refine w_3 ?_|refine w_4 ?_|refine w_5 ?_|refine w_6 ?_|refine w_7 ?_|(refine w_8 (fun hb=>?_) (fun hb=>?_)<;>try simp only [hb])|refine w_9 ?_|simp (maxDischargeDepth:=12) only [viz,↓reduceIte,Nat.reduceEqDiff,reduceCtorEq,Int.reduceEq,Int.reduceNeg,Nat.reduceAdd,Nat.reduceLeDiff,g0,g4,g18,g19,g20,g6,lt_false hlt,hcl,cells_cell hcl,r4,fl,bne_self_eq_false, Int.reduceBEq, Int.reduceBNe, Int.reduceLT, Int.reduceLE, Int.reduceGT, Int.reduceGE]))
      refine hg _ _ (hk1.trans (Keep.put (Nat.le_refl _) _)) ⟨_, rfl, l, .nilS, .nilS, .nilS, rfl, ?_, ⟨[], Sl.nil _ _ _, EntsC.nil _ _⟩, Sl.nil _ _ _, Sl.nil _ _ _⟩
      refine (Sl.keep (ho.sl (D := fun q => s.next + 1 ≤ q ∧ q < s'.next) (byteC_len _) fun q n h => ⟨(ho.row q _ _ _ h).1, (ho.row q _ _ _ h).2⟩) fun q hq => by rw [Mem.get_put, if_neg (by omega)]).mono fun q hq => ?_
      show q < s'.next
      exact hq.2
def rA (e : Int) : Raft := ⟨1, 0, 0, ⟨⟨0, 0, 0, [1]⟩, []⟩, 0, 0, 0, e, [], []⟩
theorem tickA {e : Int} (h0 : 0 ≤ e) (h1 : e < 11) : tickR (rA e) = rA (e + 1) := by
  have ha : aged (rA e) = rA (e + 1) := by
    have : min 1000 (e + 1) = e + 1 := by omega
    simp only [aged, rA, this]
  have hk : asks (rA e) = false := by
    unfold asks
    rw [ha]
    have : ¬ (10 + 2 * (rA e).node ≤ (rA (e + 1)).elapsed) := by simp only [rA]; omega
    rw [decide_eq_false this]; rfl
  unfold tickR
  rw [if_neg (by simp [rA]), hk]
  simp only [Bool.false_eq_true, if_false]
  exact ha
theorem rA_ok {e : Int} (h0 : 0 ≤ e) (h1 : e ≤ 1000) : stOk (rA e) = true := by
  have g : logOk ⟨⟨0, 0, 0, [1]⟩, []⟩ = true := by decide
  simp only [stOk, rA]
  rw [g]
  simp [nodeOk, someOk, lastE, h0, h1]
theorem rA_wf (e : Int) : (rA e).Wf := by
  refine ⟨⟨⟨by simp [rA], by simp [rA], by simp [rA], by simp [rA]⟩, by simp [rA], by simp [rA]⟩, by simp [rA], by simp [rA], by simp [rA], by simp [rA, InU], by simp [rA, InU]⟩
theorem led : (tickR (rA 11)).role = 2 ∧ (tickR (rA 11)).term = 1 ∧ (tickR (rA 11)).commit = 1 := by decide +kernel
def rI (i : Nat) : Raft := if i < 12 then rA i else tickR (rA 11)
theorem rI_next {i : Nat} (h : i < 12) : tickR (rI i) = rI (i + 1) := by
  unfold rI
  rw [if_pos h]
  by_cases h2 : i + 1 < 12
  · rw [if_pos h2, tickA (by omega) (by omega)]; rfl
  · rw [if_neg h2, show i = 11 by omega]; rfl
set_option maxRecDepth 100000 in
theorem awake14_c {s : Mem} (K : AV → Mem → Prop) (h : K (.bool true) s) : C tab 9 [] s K := by
  refine C_iso (cf := cf9) rfl rfl rfl ?_
  simp only [cf9, oo, on, om, og, oc, ou]
  (repeat' (with_reducible first|refine w_1 ?_|refine w_2 ?_|refine w_3 ?_|refine w_4 ?_|refine w_5 ?_|refine w_6 ?_|refine w_7 ?_|(refine w_8 (fun hb=>?_) (fun hb=>?_)<;>try simp only [hb])|refine w_9 ?_|simp (maxDischargeDepth:=12) only [viz,↓reduceIte,Nat.reduceEqDiff,reduceCtorEq,Int.reduceEq,Int.reduceNeg,Nat.reduceAdd,Nat.reduceLeDiff]))
  refine newRaft_c (n := 1) (vs := [1]) (D := fun q => q < Mem.zero.next + 1) (by simp only [floor_push', next_push']; exact Nat.zero_le _) (fun q hq => by simp only [next_push']; exact hq) (Sl.of_row (ty := 3) (by rw [Mem.get_push, if_pos rfl]; rfl) (Nat.lt_succ_self _) (intsA_sz _ _) rfl) (by decide) (fun h => by cases h) fun _ v1 s1 hk1 hv1 => ?_
  obtain ⟨d, w, vv, pv, rfl, hd, hl, hvv, hpv⟩ := raftC_row hv1
  have hnr : newR 1 [1] = rI 0 := rfl
  have f1 : s1.floor = 0 := hk1.floor
  have fT : (s1.floor ≤ s1.next) = True := by rw [f1]; simp
  simp only [raftA]
  (repeat' (with_reducible first|refine w_1 ?_|refine w_2 ?_|refine w_3 ?_|refine w_4 ?_|refine w_5 ?_|refine w_6 ?_|refine w_7 ?_|(refine w_8 (fun hb=>?_) (fun hb=>?_)<;>try simp only [hb])|refine w_9 ?_|simp (maxDischargeDepth:=12) only [viz,↓reduceIte,Nat.reduceEqDiff,reduceCtorEq,Int.reduceEq,Int.reduceNeg,Nat.reduceAdd,Nat.reduceLeDiff,fT,hd.cell,hl.cell,hvv.cell,hpv.cell]))
  refine W_inv 12 (fun i e s' => e.get 2 = .int .i64 0 ∧ e.get 3 = .int .i64 i ∧ s'.floor = 0 ∧ s1.next < s'.next ∧ ∃ d w vv pv, s'.get s1.next = some (raftRow (rI i) d w vv pv) ∧ RaftV s' (Lt s'.next) (raftA (rI i) d w vv pv) (rI i)) (by delta cf9l0 oo on om og oc ou; exact rfl) ?_ ?_
  · refine ⟨(by simp only [ev, Env.get_set, ↓reduceIte, Nat.reduceEqDiff]), by simp only [Env.get_set, ↓reduceIte]; rfl, f1, by simp only [next_push']; omega, d, w, vv, pv, by rw [Mem.get_push, if_pos rfl]; rfl, ?_⟩
    have hkp := pushes s1 (raftRow (rI 0) d w vv pv)
    have := (hv1.keep (s' := s1.push (raftRow (rI 0) d w vv pv)) fun q hq => hkp.get q hq).mono (D' := Lt (s1.push (raftRow (rI 0) d w vv pv)).next) fun q hq => Nat.lt_succ_of_lt hq
    exact this
  · rintro i e s' hi hT ⟨g2, g3, hfl, hnx, d, w, vv, pv, hr, hv⟩
    have g1 := hT 1 rfl
    simp only [Env.get_set, ↓reduceIte, Nat.reduceEqDiff] at g1
    clear hT
    have hr' := hr
    simp only [raftRow] at hr'
    by_cases hlt : i < 12
    · have c1 : decide ((i : Int) < 12) = true := by simp; omega
      have hri : rI i = rA i := by unfold rI; rw [if_pos hlt]
      have hst : stOk (rI i) = true := by rw [hri]; exact rA_ok (by omega) (by omega)
      (repeat' (with_reducible first|refine w_1 ?_|refine w_2 ?_|refine w_3 ?_|refine w_4 ?_|refine w_5 ?_|refine w_6 ?_|refine w_7 ?_|(refine w_8 (fun hb=>?_) (fun hb=>?_)<;>try simp only [hb])|refine w_9 ?_|simp (maxDischargeDepth:=12) only [viz,↓reduceIte,Nat.reduceEqDiff,reduceCtorEq,Int.reduceEq,Int.reduceNeg,Nat.reduceAdd,Nat.reduceLeDiff,g1,g2,g3,c1,hr',bne_self_eq_false, Int.reduceBEq, Int.reduceBNe, Int.reduceLT, Int.reduceLE, Int.reduceGT, Int.reduceGE]))
      refine tick_c (r := rI i) (D := Lt s'.next) (by rw [hfl]; exact Nat.zero_le _) (fun q hq => hq) hv (by rw [hri]; exact rA_wf _) (fun h => by rw [hst] at h; cases h) fun _ v2 ov2 s2 hk2 hv2 _ => ?_
      obtain ⟨d2, w2, vv2, pv2, rfl, hd2, hl2, hvv2, hpv2⟩ := raftC_row hv2
      have n2 := hk2.next
      have hr2 := (hk2.get s1.next hnx).trans hr
      have fl2 : (s2.floor ≤ s1.next) = True := by rw [hk2.floor, hfl]; simp
      simp only [raftRow] at hr2
      simp only [raftA]
      (repeat' (with_reducible first|refine w_1 ?_|refine w_2 ?_|refine w_3 ?_|refine w_4 ?_|refine w_5 ?_|refine w_6 ?_|refine w_7 ?_|(refine w_8 (fun hb=>?_) (fun hb=>?_)<;>try simp only [hb])|refine w_9 ?_|simp (maxDischargeDepth:=12) only [viz,↓reduceIte,Nat.reduceEqDiff,reduceCtorEq,Int.reduceEq,Int.reduceNeg,Nat.reduceAdd,Nat.reduceLeDiff,g1,g2,g3,hr2,fl2,hd2.cell,hl2.cell,hvv2.cell,hpv2.cell,bne_self_eq_false, Int.reduceBEq, Int.reduceBNe, Int.reduceLT, Int.reduceLE, Int.reduceGT, Int.reduceGE]))
      have hsw : Swap s1.next s2 (s2.put s1.next (some (raftRow (rI (i + 1)) d2 w2 vv2 pv2))) := ⟨⟨_, _, hr2, rfl⟩, ⟨_, _, by rw [Mem.get_put, if_pos rfl]; rfl⟩, fun q hq => by rw [Mem.get_put, if_neg hq]⟩
      rw [rI_next hlt] at hv2 hd2 hl2 hvv2 hpv2 ⊢
      refine ⟨hlt, succ_av (by omega), by rw [hk2.floor]; exact hfl, by omega, d2, w2, vv2, pv2, rfl, ?_⟩
      obtain ⟨_, e1, hc⟩ := hv2
      exact ⟨_, e1, hsw.raft hc⟩
    · have hi12 : i = 12 := by omega
      subst hi12
      have c1 : decide (((12 : Nat) : Int) < 12) = false := by decide
      have hrr : rI 12 = tickR (rA 11) := rfl
      obtain ⟨h1, h2, h3⟩ := led
      rw [← hrr] at h1 h2 h3
      have b1 : ((rI 12).role == 2) = true := by rw [h1]; rfl
      have b2 : ((rI 12).term == 1) = true := by rw [h2]; rfl
      have b3 : ((rI 12).commit == 1) = true := by rw [h3]; rfl
      (repeat' (with_reducible first|refine w_1 ?_|refine w_2 ?_|refine w_3 ?_|refine w_4 ?_|refine w_5 ?_|refine w_6 ?_|refine w_7 ?_|(refine w_8 (fun hb=>?_) (fun hb=>?_)<;>try simp only [hb])|refine w_9 ?_|simp (maxDischargeDepth:=12) only [viz,↓reduceIte,Nat.reduceEqDiff,reduceCtorEq,Int.reduceEq,Int.reduceNeg,Nat.reduceAdd,Nat.reduceLeDiff,g1,g2,g3,c1,hr',b1,b2,b3,bne_self_eq_false, Int.reduceBEq, Int.reduceBNe, Int.reduceLT, Int.reduceLE, Int.reduceGT, Int.reduceGE]))
      exact ⟨rfl, h⟩
end Go.Proofs.YtfllmhjjfapnmaaGreat

