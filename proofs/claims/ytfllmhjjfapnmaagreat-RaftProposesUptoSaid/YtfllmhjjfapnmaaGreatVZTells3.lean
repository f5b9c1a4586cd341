/- The voters of a log. No statement of the seat is proved here. -/
import Derived.Test.YtfllmhjjfapnmaaGreatVZLB
import Derived.Test.YtfllmhjjfapnmaaGreatVZVE
namespace Go.Proofs.YtfllmhjjfapnmaaGreat
open Go Go.VI
set_option linter.unusedSimpArgs false
attribute [local irreducible] Ws Wp W C
set_option maxHeartbeats 4000000
def cfgT (base : List UInt8) (es : List Entry) : Nat → List UInt8
  | 0 => base
  | k + 1 => match es[k]? with
    | some e => if e.kind = 2 then e.data else cfgT base es k
    | none => cfgT base es k
theorem cfgT_succ {base : List UInt8} {es : List Entry} {k : Nat} {e : Entry} (h : es[k]? = some e) : cfgT base es (k + 1) = if e.kind = 2 then e.data else cfgT base es k := by
  rw [cfgT, h]
theorem cfgT_fit {l : Log} (hw : l.Wf) : ∀ k, Fit (cfgT l.base.data l.l k).length := by
  intro k
  induction k with
  | zero => exact hw.base.data
  | succ k ih =>
    rw [cfgT]
    split
    · rename_i e he
      split
      · exact (hw.all e (List.mem_of_getElem? he)).data
      · exact ih
    · exact ih
theorem back_find {s : Mem} {D : Nat → Prop} {xs : List (List AV)} {es : List Entry} {d : AV} {base : List UInt8} (hxe : EntsC s D xs es) (hd : Byt s D d base) : ∀ k, k ≤ es.length → ∃ d', backFind xs d k = some d' ∧ Byt s D d' (cfgT base es k) := by
  intro k
  induction k with
  | zero => intro _; exact ⟨d, rfl, hd⟩
  | succ k ih =>
    intro hk
    obtain ⟨e, he⟩ := get_of (l := es) (i := k) (by omega)
    obtain ⟨c, hc, dx, rfl, hdx⟩ := hxe.get he
    obtain ⟨d', h1, h2⟩ := ih (by omega)
    rw [cfgT_succ he]
    simp only [backFind, hc, hdx.slice, if_true]
    by_cases hk2 : e.kind = 2
    · rw [if_pos hk2, if_pos hk2]; exact ⟨dx, rfl, hdx⟩
    · rw [if_neg hk2, if_neg hk2]; exact ⟨d', h1, h2⟩
theorem voters_c {l : Log} {D : Nat → Prop} {s : Mem} {v : AV} {K : AV → Mem → Prop} (hf : s.floor ≤ s.next) (hI : In D s) (hv : LogV s D v l) (hw : l.Wf)
    (hK : ∀ v' s', OwnL s' s.next v' 3 1 (intsA .i64 (nodes (cfgT l.base.data l.l l.l.length))) → Keep s.next s s' → K v' s') : C tab 95 [v] s K := by
  obtain ⟨d, w, rfl, hd, xs, hs, hxe⟩ := hv
  obtain ⟨d', h1, h2⟩ := back_find hxe hd l.l.length (Nat.le_refl _)
  have hn := hw.len
  refine C_back (cf := cf95) (cg := cf106) (d := d') rfl rfl rfl ?_ rfl rfl rfl ?_
  · simp only [backSel, hs.read, Option.bind_some]
    rw [if_pos (by rw [Nat.ble_eq, hxe.1]; omega), hxe.1]
    exact h1
  · exact nodes_c hf h2 hI (cfgT_fit hw _) fun v' s' ho hk => ⟨ho.slice, hK v' s' ho hk⟩
theorem rvoters_c {l : Log} {D : Nat → Prop} {s : Mem} {v : AV} {K : AV → Mem → Prop} (hf : s.floor ≤ s.next) (hI : In D s) (hv : LogV s D v l) (hw : l.Wf)
    (hK : ∀ v' s', OwnL s' s.next v' 3 1 (intsA .i64 (nodes (cfgT l.base.data l.l l.l.length))) → Keep s.next s s' → K v' s') : C tab 25 [v] s K := by
  obtain ⟨d, w, rfl, hd, hes⟩ := hv
  have hn := hw.len
  refine C_enter (cf := cf25) rfl (Nat.le_of_ble_eq_true rfl) ?_
  simp only [cf25, oo, on, om, og, oc, ou]
  have hk0 := pushes s ⟨28, 5, [[.int .u64 l.base.index, .int .u64 l.base.term, .int .i64 l.base.kind, d, w]]⟩
  (repeat' (with_reducible first|refine w_1 ?_|refine w_2 ?_|refine w_3 ?_|refine w_4 ?_|refine w_5 ?_|refine w_6 ?_|refine w_7 ?_|(refine w_8 (fun hb=>?_) (fun hb=>?_)<;>try simp only [hb])|refine w_9 ?_|simp (maxDischargeDepth:=12) only [viz,↓reduceIte,Nat.reduceEqDiff,reduceCtorEq,Int.reduceEq,Int.reduceNeg,Nat.reduceAdd,Nat.reduceLeDiff,hd.cell,hes.cell]))
  refine rnodes_c (hk0.ok hf) (hd.keep (keep_old hI hk0)) (hI.keep hk0) hw.base.data fun v1 s1 ho1 hk1 => ?_
  have a1 : s.next < s1.next := hk1.next
  have hk01 := hk0.then hk1
  have hg1 : s1.get s.next = some ⟨28, 5, [[.int .u64 l.base.index, .int .u64 l.base.term, .int .i64 l.base.kind, d, w]]⟩ := (hk1.get _ (Nat.lt_succ_self _)).trans (by rw [Mem.get_push, if_pos rfl])
  (repeat' (with_reducible first|refine w_1 ?_|refine w_2 ?_|refine w_3 ?_|refine w_4 ?_|refine w_5 ?_|refine w_6 ?_|refine w_7 ?_|(refine w_8 (fun hb=>?_) (fun hb=>?_)<;>try simp only [hb])|refine w_9 ?_|simp (maxDischargeDepth:=12) only [viz,↓reduceIte,Nat.reduceEqDiff,reduceCtorEq,Int.reduceEq,Int.reduceNeg,Nat.reduceAdd,Nat.reduceLeDiff]))
  refine W_inv l.l.length (fun i e s' => Keep s.next s s' ∧ s'.get s.next = some ⟨28, 5, [[.int .u64 l.base.index, .int .u64 l.base.term, .int .i64 l.base.kind, d, w]]⟩ ∧ s.next < s'.next ∧ e.get 1 = .ptr s.next 0 0 ∧ e.get 4 = .int .i64 i ∧ OwnL s' s.next (e.get 3) 3 1 (intsA .i64 (nodes (cfgT l.base.data l.l i)))) (by delta cf25l0 oo on om og oc ou; exact rfl) ?_ ?_
  · (repeat' (with_reducible first|refine w_1 ?_|refine w_2 ?_|refine w_3 ?_|refine w_4 ?_|refine w_5 ?_|refine w_6 ?_|refine w_7 ?_|(refine w_8 (fun hb=>?_) (fun hb=>?_)<;>try simp only [hb])|refine w_9 ?_|simp (maxDischargeDepth:=12) only [viz,↓reduceIte,Nat.reduceEqDiff,reduceCtorEq,Int.reduceEq,Int.reduceNeg,Nat.reduceAdd,Nat.reduceLeDiff]))
    exact ⟨hk01, hg1, a1, rfl, ho1.le (Nat.le_succ _)⟩
  · rintro i e s' hi _ ⟨hk, hg, hlt', g1, g4, ho⟩
    have he' := hes.keep (keep_old hI hk)
    have I' := hI.keep hk
    have f' := hk.ok hf
    by_cases hlt : i < l.l.length
    · obtain ⟨x, hx⟩ := get_of hlt
      obtain ⟨dx, p, hp, P, hdx⟩ := he'.atk I' hx
      have hcf := cfgT_succ (base := l.base.data) hx
      by_cases hk2 : x.kind = 2
      · have c1 : (x.kind == 2) = true := by simp [hk2]
        rw [if_pos hk2] at hcf
        (repeat' (with_reducible first|refine w_1 ?_|refine w_2 ?_|refine w_3 ?_|refine w_4 ?_|refine w_5 ?_|refine w_6 ?_|refine w_7 ?_|(refine w_8 (fun hb=>?_) (fun hb=>?_)<;>try simp only [hb])|refine w_9 ?_|simp (maxDischargeDepth:=12) only [viz,↓reduceIte,Nat.reduceEqDiff,reduceCtorEq,Int.reduceEq,Int.reduceNeg,Nat.reduceAdd,Nat.reduceLeDiff,g1,g4,hg,he'.len,lt_true hlt,hp,P.adr,P.ldf,Nat.le_refl,Nat.zero_le,c1]))
        refine rnodes_c f' hdx I' (hw.all x (List.mem_of_getElem? hx)).data fun v2 s2 ho2 hk2 => ?_
        have n2 := hk2.next
        (repeat' (with_reducible first|refine w_1 ?_|refine w_2 ?_|refine w_3 ?_|refine w_4 ?_|refine w_5 ?_|refine w_6 ?_|refine w_7 ?_|(refine w_8 (fun hb=>?_) (fun hb=>?_)<;>try simp only [hb])|refine w_9 ?_|simp (maxDischargeDepth:=12) only [viz,↓reduceIte,Nat.reduceEqDiff,reduceCtorEq,Int.reduceEq,Int.reduceNeg,Nat.reduceAdd,Nat.reduceLeDiff,g1,g4,succ_av (i := i) (by omega)]))
        rw [hcf]
        exact ⟨hlt, hk.then hk2, (hk2.get _ hlt').trans hg, by omega, ho2.le (by omega)⟩
      · have c1 : (x.kind == 2) = false := by simp [hk2]
        rw [if_neg hk2] at hcf
        (repeat' (with_reducible first|refine w_1 ?_|refine w_2 ?_|refine w_3 ?_|refine w_4 ?_|refine w_5 ?_|refine w_6 ?_|refine w_7 ?_|(refine w_8 (fun hb=>?_) (fun hb=>?_)<;>try simp only [hb])|refine w_9 ?_|simp (maxDischargeDepth:=12) only [viz,↓reduceIte,Nat.reduceEqDiff,reduceCtorEq,Int.reduceEq,Int.reduceNeg,Nat.reduceAdd,Nat.reduceLeDiff,g1,g4,hg,he'.len,lt_true hlt,hp,P.adr,P.ldf,Nat.le_refl,Nat.zero_le,c1]))
        rw [hcf]
        exact ⟨hlt, hk, hlt', succ_av (by omega), ho⟩
    · (repeat' (with_reducible first|refine w_1 ?_|refine w_2 ?_|refine w_3 ?_|refine w_4 ?_|refine w_5 ?_|refine w_6 ?_|refine w_7 ?_|(refine w_8 (fun hb=>?_) (fun hb=>?_)<;>try simp only [hb])|refine w_9 ?_|simp (maxDischargeDepth:=12) only [viz,↓reduceIte,Nat.reduceEqDiff,reduceCtorEq,Int.reduceEq,Int.reduceNeg,Nat.reduceAdd,Nat.reduceLeDiff,g1,g4,hg,he'.len,lt_false hlt]))
      have : i = l.l.length := by omega
      rw [this] at ho
      exact hK _ _ ho hk
theorem sameInts_c {is : List Int} {D : Nat → Prop} {s : Mem} {v1 v2 : AV} {K : AV → Mem → Prop} (hI : In D s) (h1 : Sl s D v1 1 (intsA .i64 is)) (h2 : Sl s D v2 1 (intsA .i64 is)) (hn : Fit is.length)
    (hK : ∀ s', Keep s.next s s' → K (.bool true) s') : C tab 24 [v1, v2] s K := by
  refine C_enter (cf := cf24) rfl (Nat.le_of_ble_eq_true rfl) ?_
  simp only [cf24, oo, on, om, og, oc, ou]
  (repeat' (with_reducible first|refine w_1 ?_|refine w_2 ?_|refine w_3 ?_|refine w_4 ?_|refine w_5 ?_|refine w_6 ?_|refine w_7 ?_|(refine w_8 (fun hb=>?_) (fun hb=>?_)<;>try simp only [hb])|refine w_9 ?_|simp (maxDischargeDepth:=12) only [viz,↓reduceIte,Nat.reduceEqDiff,reduceCtorEq,Int.reduceEq,Int.reduceNeg,Nat.reduceAdd,Nat.reduceLeDiff,h1.lenB,h2.lenB,bne_self_eq_false]))
  refine W_inv is.length (fun i e s' => s' = s ∧ e.get 0 = v1 ∧ e.get 1 = v2 ∧ e.get 5 = .int .i64 i) (by delta cf24l0 oo on om og oc ou; exact rfl) ?_ ?_
  · (repeat' (with_reducible first|refine w_1 ?_|refine w_2 ?_|refine w_3 ?_|refine w_4 ?_|refine w_5 ?_|refine w_6 ?_|refine w_7 ?_|(refine w_8 (fun hb=>?_) (fun hb=>?_)<;>try simp only [hb])|refine w_9 ?_|simp (maxDischargeDepth:=12) only [viz,↓reduceIte,Nat.reduceEqDiff,reduceCtorEq,Int.reduceEq,Int.reduceNeg,Nat.reduceAdd,Nat.reduceLeDiff]))
    all_goals first | rfl | exact ⟨rfl, rfl⟩
  · rintro i e s' hi _ ⟨rfl, g0, g1, g5⟩
    by_cases hlt : i < is.length
    · obtain ⟨b, hb⟩ := get_of hlt
      obtain ⟨p, hp, P⟩ := h1.atkB hI hb
      obtain ⟨p2, hp2, P2⟩ := h2.atkB hI hb
      (repeat' (with_reducible first|refine w_1 ?_|refine w_2 ?_|refine w_3 ?_|refine w_4 ?_|refine w_5 ?_|refine w_6 ?_|refine w_7 ?_|(refine w_8 (fun hb=>?_) (fun hb=>?_)<;>try simp only [hb])|refine w_9 ?_|simp (maxDischargeDepth:=12) only [viz,↓reduceIte,Nat.reduceEqDiff,reduceCtorEq,Int.reduceEq,Int.reduceNeg,Nat.reduceAdd,Nat.reduceLeDiff,g0,g1,g5,h1.lenB,lt_true hlt,hp,P.ld,hp2,P2.ld,bne_self_eq_false]))
      exact ⟨hlt, succ_av (by omega)⟩
    · (repeat' (with_reducible first|refine w_1 ?_|refine w_2 ?_|refine w_3 ?_|refine w_4 ?_|refine w_5 ?_|refine w_6 ?_|refine w_7 ?_|(refine w_8 (fun hb=>?_) (fun hb=>?_)<;>try simp only [hb])|refine w_9 ?_|simp (maxDischargeDepth:=12) only [viz,↓reduceIte,Nat.reduceEqDiff,reduceCtorEq,Int.reduceEq,Int.reduceNeg,Nat.reduceAdd,Nat.reduceLeDiff,g0,g1,g5,h1.lenB,lt_false hlt]))
      exact hK _ (Keep.refl _ _)
end Go.Proofs.YtfllmhjjfapnmaaGreat

