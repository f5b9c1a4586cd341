/- What the document says of peers told. No statement of the seat is proved here. -/
import Derived.Test.YtfllmhjjfapnmaaGreatVZRaftPure
import Derived.Test.YtfllmhjjfapnmaaGreatVZRaftRCommit
import Derived.Test.YtfllmhjjfapnmaaGreatVZVE
namespace Go.Proofs.YtfllmhjjfapnmaaGreat
open Go Go.VI
set_option linter.unusedSimpArgs false
attribute [local irreducible] Ws Wp W C
set_option maxHeartbeats 4000000
def stRow (r : Raft) (d w vv pv ov : AV) : Row := ⟨40, 15, [[.int .i64 r.node, .int .u64 r.term, .int .i64 r.vote, .int .u64 r.log.base.index, .int .u64 r.log.base.term, .int .i64 r.log.base.kind, d, w, .int .u64 r.commit, .int .i64 r.role, .int .i64 r.leads, .int .i64 r.elapsed, vv, pv, ov]]⟩
def stA (r : Raft) (d w vv pv ov : AV) : AV := .agg [.int .i64 r.node, .int .u64 r.term, .int .i64 r.vote, .int .u64 r.log.base.index, .int .u64 r.log.base.term, .int .i64 r.log.base.kind, d, w, .int .u64 r.commit, .int .i64 r.role, .int .i64 r.leads, .int .i64 r.elapsed, vv, pv, ov]
structure StIn (s : Mem) (D : Nat → Prop) (r : Raft) (out : List Msg) (d w vv pv ov : AV) : Prop where
  d : Byt s D d r.log.base.data
  w : Ents s D w r.log.l
  vv : Sl s D vv 1 (intsA .i64 r.votes)
  pv : Sl s D pv 3 (peersC r.peers)
  ov : Msgs s D ov out
section
variable {s s' : Mem} {D D' : Nat → Prop} {r : Raft} {out : List Msg} {d w vv pv ov : AV} {K : AV → Mem → Prop}
theorem StIn.keep (h : StIn s D r out d w vv pv ov) (hD : ∀ q, D q → s'.get q = s.get q) : StIn s' D r out d w vv pv ov := ⟨h.d.keep hD, h.w.keep hD, h.vv.keep hD, h.pv.keep hD, h.ov.keep hD⟩
theorem StIn.mono (h : StIn s D r out d w vv pv ov) (hD : ∀ q, D q → D' q) : StIn s D' r out d w vv pv ov := ⟨h.d.mono hD, h.w.mono hD, h.vv.mono hD, h.pv.mono hD, h.ov.mono hD⟩
theorem StIn.log (h : StIn s D r out d w vv pv ov) : LogV s D (.agg [.int .u64 r.log.base.index, .int .u64 r.log.base.term, .int .i64 r.log.base.kind, d, w]) r.log := ⟨d, w, rfl, h.d, h.w⟩
theorem NewD.trans {a b c e f g : Nat} (h1 : f ≤ a) (h2 : b ≤ g) (h3 : f ≤ c) (h4 : e ≤ g) : ∀ q, NewD (NewD D a b) c e q → NewD D f g q := by
  rintro q ((h | h) | h)
  · exact .inl h
  · exact .inr ⟨by omega, by omega⟩
  · exact .inr ⟨by omega, by omega⟩
theorem NewD.up {a b f g : Nat} (h1 : f ≤ a) (h2 : b ≤ g) : ∀ q, NewD D a b q → NewD D f g q := by
  rintro q (h | h)
  · exact .inl h
  · exact .inr ⟨by omega, by omega⟩
set_option maxRecDepth 100000 in
theorem rsay_c {c : List AV} {m : Msg} (hf : s.floor ≤ s.next) (hI : In D s) (hS : StIn s D r out d w vv pv ov) (hm : MsgC s D c m) (ho : out.length < 100000)
    (hK : ∀ ov' s', StIn s' (NewD D s.next s'.next) r (out ++ [stamp r m]) d w vv pv ov' → Keep s.next s s' → K (stA r d w vv pv ov') s') : C tab 79 [stA r d w vv pv ov, .agg c] s K := by
  obtain ⟨ew, sd, rfl, he, hd⟩ := hm
  obtain ⟨xs, hx, hxm⟩ := hS.ov
  have hxl := hxm.1
  simp only [stA]
  refine C_enter (cf := cf79) rfl (Nat.le_of_ble_eq_true rfl) ?_
  simp only [cf79, oo, on, om, og, oc, ou]
  have f1 : (s.floor ≤ s.next + 1) = True := by simp; omega
  have f2 : (s.floor ≤ s.next + 1 + 1) = True := by simp; omega
  (repeat' (with_reducible first|refine w_1 ?_|refine w_2 ?_|refine w_3 ?_|refine w_4 ?_|refine w_5 ?_|refine w_6 ?_|refine w_7 ?_|(refine w_8 (fun hb=>?_) (fun hb=>?_)<;>try simp only [hb])|refine w_9 ?_|simp (maxDischargeDepth:=12) only [viz,↓reduceIte,Nat.reduceEqDiff,reduceCtorEq,Int.reduceEq,Int.reduceNeg,Nat.reduceAdd,Nat.reduceLeDiff,he.cell,hd.cell,hS.d.cell,hS.w.cell,hS.vv.cell,hS.pv.cell,hS.ov.cell,hf,f1,f2,bne_self_eq_false, Int.reduceBEq, Int.reduceBNe, Int.reduceLT, Int.reduceLE, Int.reduceGT, Int.reduceGE]))
  generalize hP : Mem.push _ _ = P
  have P0 : P.next = s.next + 4 := by rw [← hP]; simp only [next_put', next_push']; rfl
  have P5 : P.floor = s.next + 4 := by rw [← hP]; simp only [floor_put', floor_push']; rfl
  have Pold : ∀ q, q < s.next → P.get q = s.get q := fun q hq => by
    rw [← hP]
    simp only [Mem.get_put, Mem.get_push, next_push', next_put', mat_next, mat_get]
    repeat rw [if_neg (by omega)]
  have P1 : P.get s.next = some (stRow r d w vv pv ov) := by
    rw [← hP]
    simp only [Mem.get_put, Mem.get_push, next_push', next_put', mat_next, mat_get, if_true]
    repeat first | rw [if_neg (by omega)] | rw [if_pos rfl]
    rfl
  have P3 : P.get (s.next + 1) = some ⟨45, 14, [[.int .i64 m.kind, .int .i64 r.node, .int .i64 m.to, .int .u64 r.term, .int .u64 m.index, .int .u64 m.prev, ew, .int .u64 m.commit, .bool m.ok, .int .u64 m.mtch, .int .u64 m.snap.index, .int .u64 m.snap.term, .int .i64 m.snap.kind, sd]]⟩ := by
    rw [← hP]
    simp only [Mem.get_put, Mem.get_push, next_push', next_put', mat_next, mat_get, if_true]
    repeat first | rw [if_neg (by omega)] | rw [if_pos rfl]
  have P4 : P.get (s.next + 1 + 1) = some ⟨40, 15, [[.int .i64 0, .int .u64 0, .int .i64 0, .int .u64 0, .int .u64 0, .int .i64 0, .nilS, .nilS, .int .u64 0, .int .i64 0, .int .i64 0, .int .i64 0, .nilS, .nilS, .nilS]]⟩ := by
    rw [← hP]
    simp only [Mem.get_put, Mem.get_push, next_push', next_put', mat_next, mat_get, if_true]
    repeat first | rw [if_neg (by omega)] | rw [if_pos rfl]
  clear hP
  simp only [stRow] at P1
  have hxP : Sl P D ov 14 xs := hx.keep fun q hq => Pold q (hI q hq)
  refine app_x (b := P.next) (xs := []) (ys := xs) (by rw [P5, P0]; exact Nat.le_refl _) (Nat.le_refl _) (by simp only [ev, Env.get_set, ↓reduceIte, Nat.reduceEqDiff]; exact OwnL.emp _ _ _ _) (by simp only [ev, Env.get_set, ↓reduceIte, Nat.reduceEqDiff]; exact hxP.read) hxP.uni (room (by simp only [List.length_nil]; omega) (by simp only [List.length_nil]; omega)) ?_
  intro v6 s6 ho6 hx6 _ hr6
  have n6 : s.next + 4 ≤ s6.next := by have := hx6.next; omega
  have old6 : ∀ q, q < s.next + 4 → s6.get q = P.get q := fun q hq => hx6.get q (by omega) fun i n z h => by simp only [ev, Env.get_set, ↓reduceIte, Nat.reduceEqDiff, reduceCtorEq] at h
  have r1 := (old6 s.next (by omega)).trans P1
  have r3 := (old6 (s.next + 1) (by omega)).trans P3
  have r4 := (old6 (s.next + 1 + 1) (by omega)).trans P4
  have f6 : (s.floor ≤ s6.next) = True := by simp; omega
  have ho6' : OwnL (s6.at s.floor) P.next v6 45 14 xs := ho6.at (by omega)
  (repeat' (with_reducible first|refine w_1 ?_|refine w_2 ?_|refine w_3 ?_|refine w_4 ?_|refine w_5 ?_|refine w_6 ?_|refine w_7 ?_|(refine w_8 (fun hb=>?_) (fun hb=>?_)<;>try simp only [hb])|refine w_9 ?_|simp (maxDischargeDepth:=12) only [viz,↓reduceIte,Nat.reduceEqDiff,reduceCtorEq,Int.reduceEq,Int.reduceNeg,Nat.reduceAdd,Nat.reduceLeDiff,r1,r3,r4,f1,f2,hf,f6,he.cell,hd.cell,bne_self_eq_false, Int.reduceBEq, Int.reduceBNe, Int.reduceLT, Int.reduceLE, Int.reduceGT, Int.reduceGE]))
  refine app_lit (v := v6) (k := 1) (b := P.next) (xs := xs) (s := s6.at s.floor) (show s.floor ≤ P.next by omega) (show P.next ≤ s6.next by omega) ho6' (by simp only [ev, Env.get_set, ↓reduceIte, Nat.reduceEqDiff]) (by simp only [ev, Env.get_set, ↓reduceIte, Nat.reduceEqDiff]; rfl) rfl rfl (room (by rw [List.length_singleton]; omega) (by rw [List.length_singleton]; omega)) ?_
  intro v7 s7 ho7 hx7 hr7 _
  have n7 : s6.next ≤ s7.next := hx7.next
  have old7 : ∀ q, q < s.next + 4 → s7.get q = P.get q := fun q hq => by
    rw [hx7.get q (by show q < s6.next; omega) fun i n z h => by have := (ho6.row q i n z h).1; omega]
    exact old6 q hq
  have q1 := (old7 s.next (by omega)).trans P1
  have q4 := (old7 (s.next + 1 + 1) (by omega)).trans P4
  have f7 : s7.floor = s.floor := hx7.floor
  have f8 : (s7.floor ≤ s.next) = True := by rw [f7]; simp; exact hf
  have f9 : (s7.floor ≤ s.next + 1 + 1) = True := by rw [f7]; exact f2
  have hc7 : isCell v7 = true := by rcases ho7 with ⟨h1 | h1, _⟩ | ⟨q, h1, _⟩ <;> rw [h1] <;> rfl
  (repeat' (with_reducible first|refine w_1 ?_|refine w_2 ?_|refine w_3 ?_|refine w_4 ?_|refine w_5 ?_|refine w_6 ?_|refine w_7 ?_|(refine w_8 (fun hb=>?_) (fun hb=>?_)<;>try simp only [hb])|refine w_9 ?_|simp (maxDischargeDepth:=12) only [viz,↓reduceIte,Nat.reduceEqDiff,reduceCtorEq,Int.reduceEq,Int.reduceNeg,Nat.reduceAdd,Nat.reduceLeDiff,q1,q4,f8,f9,hc7,cells_cell hc7,hS.d.cell,hS.w.cell,hS.vv.cell,hS.pv.cell,bne_self_eq_false, Int.reduceBEq, Int.reduceBNe, Int.reduceLT, Int.reduceLE, Int.reduceGT, Int.reduceGE]))
  have kf : ∀ x y, Keep s.next s ((s7.put s.next x).put (s.next + 1 + 1) y) := fun x y => ⟨by simp only [next_put']; omega, by simp only [floor_put']; exact f7, fun q hq => by rw [Mem.get_put, if_neg (by omega), Mem.get_put, if_neg (by omega), old7 q (by omega), Pold q hq]⟩
  have hsn : ∀ x y q, D q → NewD D s.next ((s7.put s.next x).put (s.next + 1 + 1) y).next q := fun x y q hq => .inl hq
  refine hK v7 _ ⟨(hS.d.keep (keep_old hI (kf _ _))).mono (hsn _ _), (hS.w.keep (keep_old hI (kf _ _))).mono (hsn _ _), (hS.vv.keep (keep_old hI (kf _ _))).mono (hsn _ _), (hS.pv.keep (keep_old hI (kf _ _))).mono (hsn _ _), _, ?_, MsgsC.snoc ((hxm.keep (keep_old hI (kf _ _))).mono (hsn _ _)) ⟨ew, sd, rfl, (he.keep (keep_old hI (kf _ _))).mono (hsn _ _), Sl.mono (Sl.keep (by assumption : Byt s D sd m.snap.data) (keep_old hI (kf _ _))) (hsn _ _)⟩⟩ (kf _ _)
  refine (Sl.keep (ho7.sl (D := fun q => P.next ≤ q ∧ q < s7.next) ?_ fun q n h => ⟨(ho7.row q _ _ _ h).1, (ho7.row q _ _ _ h).2⟩) fun q hq => ?_).mono fun q hq => .inr ⟨by omega, by simp only [next_put']; omega⟩
  · intro c hc
    rcases List.mem_append.mp hc with hc | hc
    · exact hxm.sizes c hc
    · rw [List.mem_singleton] at hc; subst hc; rfl
  · rw [Mem.get_put, if_neg (by omega), Mem.get_put, if_neg (by omega)]
end
end Go.Proofs.YtfllmhjjfapnmaaGreat

