/- law14.light, walked. No statement of the seat is proved here. -/
import Derived.Test.YtfllmhjjfapnmaaGreatVZRaftCheck
import Derived.Test.YtfllmhjjfapnmaaGreatVZVE
namespace Go.Proofs.YtfllmhjjfapnmaaGreat
open Go Go.VI
set_option linter.unusedSimpArgs false
attribute [local irreducible] Ws Wp W C
set_option maxHeartbeats 4000000
theorem light14_c {r : Raft} {D : Nat → Prop} {s : Mem} {v : AV} {K : AV → Mem → Prop} (_hf : s.floor ≤ s.next) (hI : In D s) (hv : RaftV s D v r) (hw : r.Wf)
    (hK : ∀ b s', Keep s.next s s' → K (.bool b) s') : C tab 8 [v] s K := by
  obtain ⟨d, w, vv, pv, rfl, hd, hl, hvv, hpv⟩ := raftC_row hv
  simp only [raftA]
  refine C_enter (cf := cf8) rfl (Nat.le_of_ble_eq_true rfl) ?_
  simp only [cf8, oo, on, om, og, oc, ou]
  (repeat' (with_reducible first|refine w_1 ?_|refine w_2 ?_|refine w_3 ?_|refine w_4 ?_|refine w_5 ?_|refine w_6 ?_|refine w_7 ?_|(refine w_8 (fun hb=>?_) (fun hb=>?_)<;>try simp only [hb])|refine w_9 ?_|simp (maxDischargeDepth:=12) only [viz,↓reduceIte,Nat.reduceEqDiff,reduceCtorEq,Int.reduceEq,Int.reduceNeg,Nat.reduceAdd,Nat.reduceLeDiff,hd.cell,hl.cell,hvv.cell,hpv.cell]))
  have hk0 := pushes s (raftRow r d w vv pv)
  have hg0 : (s.push (raftRow r d w vv pv)).get s.next = some (raftRow r d w vv pv) := by rw [Mem.get_push, if_pos rfl]
  have hpl : lenA false pv = some r.peers.length := by rw [hpv.len, peersC_len]
  have hvl : lenA false vv = some r.votes.length := hvv.lenB
  have hI0 := hI.keep hk0
  have hl0 := hl.keep (keep_old hI hk0)
  have hll := hw.log.len
  have hlen : lenA false w = some r.log.l.length := hl.len
  simp only [raftRow] at hg0 hI0 hl0
  refine W_inv r.log.l.length (fun i e s' => s' = s.push (raftRow r d w vv pv) ∧ e.get 4 = .int .i64 i ∧ ∃ n, e.get 3 = .int .i64 n) (by delta cf8l0 oo on om og oc ou; exact rfl) ?_ ?_
  · exact ⟨rfl, by simp only [Env.get_set, ↓reduceIte]; rfl, 0, (by simp only [ev, Env.get_set, ↓reduceIte, Nat.reduceEqDiff])⟩
  · rintro i e s' hi hT ⟨rfl, g4, n, g3⟩
    have g1 := hT 1 rfl
    simp only [Env.get_set, ↓reduceIte, Nat.reduceEqDiff, Env.start, Env.ofList] at g1
    clear hT
    simp only [raftRow]
    have fin : ∀ (m : Int) (e : Env), e.get 1 = .ptr s.next 0 0 → e.get 3 = .int .i64 m → True := fun _ _ _ _ => trivial
    by_cases hlt : i < r.log.l.length
    · obtain ⟨x, hx⟩ := get_of hlt
      obtain ⟨dx, p, hp, P, hdx⟩ := hl0.at hx
      by_cases h3 : i < 300
      · have c1 : decide ((i : Int) < 300) = true := by simp; omega
        (repeat' (with_reducible first|refine w_1 ?_|refine w_2 ?_|refine w_3 ?_|refine w_4 ?_|refine w_5 ?_|refine w_6 ?_|refine w_7 ?_|(refine w_8 (fun hb=>?_) (fun hb=>?_)<;>try simp only [hb])|refine w_9 ?_|simp (maxDischargeDepth:=12) only [viz,↓reduceIte,Nat.reduceEqDiff,reduceCtorEq,Int.reduceEq,Int.reduceNeg,Nat.reduceAdd,Nat.reduceLeDiff,g1,g3,g4,hg0,hlen,lt_true hlt,c1,hp,P.adr,P.ld,P.ldf,Nat.zero_le,hdx.lenB,bne_self_eq_false, Int.reduceBEq, Int.reduceBNe, Int.reduceLT, Int.reduceLE, Int.reduceGT, Int.reduceGE]))
        first | exact ⟨hlt, succ_av (by omega), _, rfl⟩ | exact ⟨hlt, rfl, succ_av (by omega), _, rfl⟩
      · have c1 : decide ((i : Int) < 300) = false := by simp; omega
        (repeat' (with_reducible first|refine w_1 ?_|refine w_2 ?_|refine w_3 ?_|refine w_4 ?_|refine w_5 ?_|refine w_6 ?_|refine w_7 ?_|(refine w_8 (fun hb=>?_) (fun hb=>?_)<;>try simp only [hb])|refine w_9 ?_|simp (maxDischargeDepth:=12) only [viz,↓reduceIte,Nat.reduceEqDiff,reduceCtorEq,Int.reduceEq,Int.reduceNeg,Nat.reduceAdd,Nat.reduceLeDiff,g1,g3,g4,hg0,hlen,hvl,hpl,lt_true hlt,c1,bne_self_eq_false, Int.reduceBEq, Int.reduceBNe, Int.reduceLT, Int.reduceLE, Int.reduceGT, Int.reduceGE]))
        all_goals exact hK _ _ hk0
    · (repeat' (with_reducible first|refine w_1 ?_|refine w_2 ?_|refine w_3 ?_|refine w_4 ?_|refine w_5 ?_|refine w_6 ?_|refine w_7 ?_|(refine w_8 (fun hb=>?_) (fun hb=>?_)<;>try simp only [hb])|refine w_9 ?_|simp (maxDischargeDepth:=12) only [viz,↓reduceIte,Nat.reduceEqDiff,reduceCtorEq,Int.reduceEq,Int.reduceNeg,Nat.reduceAdd,Nat.reduceLeDiff,g1,g3,g4,hg0,hlen,hvl,hpl,lt_false hlt,bne_self_eq_false, Int.reduceBEq, Int.reduceBNe, Int.reduceLT, Int.reduceLE, Int.reduceGT, Int.reduceGE]))
      all_goals exact hK _ _ hk0
end Go.Proofs.YtfllmhjjfapnmaaGreat

