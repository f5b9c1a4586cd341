/- Logs copied. No statement of the seat is proved here. -/
import Derived.Test.YtfllmhjjfapnmaaGreatVZLA
import Derived.Test.YtfllmhjjfapnmaaGreatVZVE
namespace Go.Proofs.YtfllmhjjfapnmaaGreat
open Go Go.VI
set_option linter.unusedSimpArgs false
attribute [local irreducible] Ws Wp W C
set_option maxHeartbeats 2000000
theorem cloneB_c {bs : List UInt8} {D : Nat → Prop} {s : Mem} {v : AV} {K : AV → Mem → Prop} (hf : s.floor ≤ s.next) (hI : In D s) (hv : Byt s D v bs) (hn : Fit bs.length)
    (hK : ∀ v' s', OwnL s' s.next v' 5 1 (bs.map byteC) → Keep s.next s s' → K v' s') : C tab 90 [v] s K := by
  refine C_enter (cf := cf90) rfl (Nat.le_of_ble_eq_true rfl) ?_
  simp only [cf90, oo, on, om, og, oc, ou]
  by_cases h0 : v = .nilS
  · subst h0
    have hb : bs.map byteC = [] := by
      rcases hv.2 with ⟨_, h⟩ | ⟨h, _⟩ | h | ⟨r, i, n, row, h, _⟩
      · exact h
      all_goals cases h
    rw [hb] at hK
    (repeat' (with_reducible first|refine w_1 ?_|refine w_2 ?_|refine w_3 ?_|refine w_4 ?_|refine w_5 ?_|refine w_6 ?_|refine w_7 ?_|(refine w_8 (fun hb=>?_) (fun hb=>?_)<;>try simp only [hb])|refine w_9 ?_|simp (maxDischargeDepth:=12) only [viz,↓reduceIte,Nat.reduceEqDiff,reduceCtorEq,Int.reduceEq,Int.reduceNeg,Nat.reduceAdd,Nat.reduceLeDiff,eq_nil]))
    exact hK _ _ (OwnL.nil _ _ _ _) (Keep.refl _ _)
  · have he : eqA .sl v .nilS = some false := by
      rcases hv.2 with ⟨h, _⟩ | ⟨rfl, _⟩ | rfl | ⟨r, i, n, row, rfl, _⟩
      · exact absurd h h0
      all_goals rfl
    (repeat' (with_reducible first|refine w_1 ?_|refine w_2 ?_|refine w_3 ?_|refine w_4 ?_|refine w_5 ?_|refine w_6 ?_|refine w_7 ?_|(refine w_8 (fun hb=>?_) (fun hb=>?_)<;>try simp only [hb])|refine w_9 ?_|simp (maxDischargeDepth:=12) only [viz,↓reduceIte,Nat.reduceEqDiff,reduceCtorEq,Int.reduceEq,Int.reduceNeg,Nat.reduceAdd,Nat.reduceLeDiff,he]))
    refine app_x (b := s.next) (xs := []) (ys := bs.map byteC) (by simp only [floor_push']; exact hf) (by simp only [next_push']; omega) (OwnL.emp _ _ _ _) (hv.readk hI _ (pushes _ _)) ?_ (room (by simp; omega) (by simp; omega)) ?_
    · exact hv.uni
    · intro v' s' ho hx _ _
      (repeat' (with_reducible first|refine w_1 ?_|refine w_2 ?_|refine w_3 ?_|refine w_4 ?_|refine w_5 ?_|refine w_6 ?_|refine w_7 ?_|(refine w_8 (fun hb=>?_) (fun hb=>?_)<;>try simp only [hb])|refine w_9 ?_|simp (maxDischargeDepth:=12) only [viz,↓reduceIte,Nat.reduceEqDiff,reduceCtorEq,Int.reduceEq,Int.reduceNeg,Nat.reduceAdd,Nat.reduceLeDiff]))
      exact hK _ _ ho ((pushes _ _).then (hx.keep (Nat.le_refl _) fun r i n z h => by simp only [ev, Env.get_set, ↓reduceIte, Nat.reduceEqDiff, reduceCtorEq] at h))
theorem cloneE_c {es : List (List AV)} {D : Nat → Prop} {s : Mem} {v : AV} {K : AV → Mem → Prop} (hf : s.floor ≤ s.next) (hI : In D s) (hv : Sl s D v 4 es) (hn : Fit es.length)
    (hK : ∀ v' s', OwnL s' s.next v' 25 4 es → Keep s.next s s' → K v' s') : C tab 142 [v] s K := by
  refine C_enter (cf := cf142) rfl (Nat.le_of_ble_eq_true rfl) ?_
  simp only [cf142, oo, on, om, og, oc, ou]
  by_cases h0 : v = .nilS
  · subst h0
    have hb : es = [] := by
      rcases hv.2 with ⟨_, h⟩ | ⟨h, _⟩ | h | ⟨r, i, n, row, h, _⟩
      · exact h
      all_goals cases h
    rw [hb] at hK
    (repeat' (with_reducible first|refine w_1 ?_|refine w_2 ?_|refine w_3 ?_|refine w_4 ?_|refine w_5 ?_|refine w_6 ?_|refine w_7 ?_|(refine w_8 (fun hb=>?_) (fun hb=>?_)<;>try simp only [hb])|refine w_9 ?_|simp (maxDischargeDepth:=12) only [viz,↓reduceIte,Nat.reduceEqDiff,reduceCtorEq,Int.reduceEq,Int.reduceNeg,Nat.reduceAdd,Nat.reduceLeDiff,eq_nil]))
    exact hK _ _ (OwnL.nil _ _ _ _) (Keep.refl _ _)
  · have he : eqA .sl v .nilS = some false := by
      rcases hv.2 with ⟨h, _⟩ | ⟨rfl, _⟩ | rfl | ⟨r, i, n, row, rfl, _⟩
      · exact absurd h h0
      all_goals rfl
    (repeat' (with_reducible first|refine w_1 ?_|refine w_2 ?_|refine w_3 ?_|refine w_4 ?_|refine w_5 ?_|refine w_6 ?_|refine w_7 ?_|(refine w_8 (fun hb=>?_) (fun hb=>?_)<;>try simp only [hb])|refine w_9 ?_|simp (maxDischargeDepth:=12) only [viz,↓reduceIte,Nat.reduceEqDiff,reduceCtorEq,Int.reduceEq,Int.reduceNeg,Nat.reduceAdd,Nat.reduceLeDiff,he]))
    refine app_x (b := s.next) (xs := []) (ys := es) (by simp only [floor_push']; exact hf) (by simp only [next_push']; omega) (OwnL.emp _ _ _ _) (hv.readk hI _ (pushes _ _)) ?_ (room (by simp; omega) (by simp; omega)) ?_
    · exact hv.uni
    · intro v' s' ho hx _ _
      (repeat' (with_reducible first|refine w_1 ?_|refine w_2 ?_|refine w_3 ?_|refine w_4 ?_|refine w_5 ?_|refine w_6 ?_|refine w_7 ?_|(refine w_8 (fun hb=>?_) (fun hb=>?_)<;>try simp only [hb])|refine w_9 ?_|simp (maxDischargeDepth:=12) only [viz,↓reduceIte,Nat.reduceEqDiff,reduceCtorEq,Int.reduceEq,Int.reduceNeg,Nat.reduceAdd,Nat.reduceLeDiff]))
      exact hK _ _ ho ((pushes _ _).then (hx.keep (Nat.le_refl _) fun r i n z h => by simp only [ev, Env.get_set, ↓reduceIte, Nat.reduceEqDiff, reduceCtorEq] at h))
def OwnE (s : Mem) (b : Nat) (v : AV) (es : List Entry) : Prop := ∃ xs, OwnL s b v 25 4 xs ∧ EntsC s (fun r => b ≤ r ∧ r < s.next ∧ ∀ i n z, v ≠ .own r i n z) xs es
theorem putD (a b c d x : AV) : putCells [a, b, c, d] 3 [x] = [a, b, c, x] := by simp [putCells]
theorem EntsC.set {s : Mem} {F G : Nat → Nat → Prop} {xs : List (List AV)} {es : List Entry} {i : Nat} {c : List AV} {e : Entry} (_h1 : xs.length = es.length) (h : ∀ (j : Nat) (c : List AV) (e : Entry), xs[j]? = some c → es[j]? = some e → EntC s (F j) c e) (he : es[i]? = some e) (hc : EntC s (G i) c e) (hG : ∀ j, j ≠ i → ∀ r, F j r → G j r) :
    ∀ (j : Nat) (c' : List AV) (e : Entry), (xs.set i c)[j]? = some c' → es[j]? = some e → EntC s (G j) c' e := by
  intro j c' e' g1 g2
  rw [List.getElem?_set] at g1
  split at g1
  · rename_i hij
    subst hij
    split at g1
    · obtain rfl := Option.some.inj g1
      rw [he] at g2
      obtain rfl := Option.some.inj g2
      exact hc
    · cases g1
  · rename_i hij
    exact (h j c' e' g1 g2).mono (hG j (Ne.symm hij))
theorem own_c {es : List Entry} {D : Nat → Prop} {s : Mem} {v : AV} {K : AV → Mem → Prop} (hf : s.floor ≤ s.next) (hI : In D s) (hv : Ents s D v es) (hw : ∀ e ∈ es, e.Wf) (hn : Fit es.length)
    (hK : ∀ v' s', OwnE s' s.next v' es → Keep s.next s s' → K v' s') : C tab 128 [v] s K := by
  obtain ⟨xs, hs, hx⟩ := hv
  refine C_enter (cf := cf128) rfl (Nat.le_of_ble_eq_true rfl) ?_
  simp only [cf128, oo, on, om, og, oc, ou]
  (repeat' (with_reducible first|refine w_1 ?_|refine w_2 ?_|refine w_3 ?_|refine w_4 ?_|refine w_5 ?_|refine w_6 ?_|refine w_7 ?_|(refine w_8 (fun hb=>?_) (fun hb=>?_)<;>try simp only [hb])|refine w_9 ?_|simp (maxDischargeDepth:=12) only [viz,↓reduceIte,Nat.reduceEqDiff,reduceCtorEq,Int.reduceEq,Int.reduceNeg,Nat.reduceAdd,Nat.reduceLeDiff]))
  refine cloneE_c hf hI hs (by rw [hx.1]; exact hn) fun v' s1 ho hk1 => ?_
  (repeat' (with_reducible first|refine w_1 ?_|refine w_2 ?_|refine w_3 ?_|refine w_4 ?_|refine w_5 ?_|refine w_6 ?_|refine w_7 ?_|(refine w_8 (fun hb=>?_) (fun hb=>?_)<;>try simp only [hb])|refine w_9 ?_|simp (maxDischargeDepth:=12) only [viz,↓reduceIte,Nat.reduceEqDiff,reduceCtorEq,Int.reduceEq,Int.reduceNeg,Nat.reduceAdd,Nat.reduceLeDiff,ho.len]))
  rw [hx.1]
  refine W_inv es.length (fun i e s' => Keep s.next s s' ∧ e.get 0 = v' ∧ e.get 7 = .int .i64 es.length ∧ e.get 8 = .int .i64 i ∧ ∃ xs, OwnL s' s.next v' 25 4 xs ∧ xs.length = es.length ∧
    ∀ (j : Nat) (c : List AV) (e : Entry), xs[j]? = some c → es[j]? = some e → EntC s' (fun r => if j < i then s.next ≤ r ∧ r < s'.next ∧ ∀ i n z, v' ≠ .own r i n z else D r) c e) (by delta cf128l0 oo on om og oc ou; exact rfl) ?_ ?_
  · (repeat' (with_reducible first|refine w_1 ?_|refine w_2 ?_|refine w_3 ?_|refine w_4 ?_|refine w_5 ?_|refine w_6 ?_|refine w_7 ?_|(refine w_8 (fun hb=>?_) (fun hb=>?_)<;>try simp only [hb])|refine w_9 ?_|simp (maxDischargeDepth:=12) only [viz,↓reduceIte,Nat.reduceEqDiff,reduceCtorEq,Int.reduceEq,Int.reduceNeg,Nat.reduceAdd,Nat.reduceLeDiff]))
    refine ⟨hk1, rfl, xs, ho, hx.1, ?_⟩
    intro j c e h1 h2
    simp only [Nat.not_lt_zero, if_false]
    exact (hx.2 j c e h1 h2).keep fun r hr => hk1.get r (hI r hr)
  · rintro i e s' hi _ ⟨hk, h0, h7, h8, ys, ho', hl, hy⟩
    by_cases hlt : i < es.length
    · obtain ⟨x, hx'⟩ := get_of hlt
      obtain ⟨c, hc⟩ := get_of (l := ys) (i := i) (by omega)
      obtain ⟨d, rfl, hd⟩ := hy i c x hc hx'
      simp only [Nat.lt_irrefl, if_false] at hd
      rcases ho' with ⟨_, h⟩ | ⟨r, rfl, hr1, hr2, hr3, hr4⟩
      · rw [h] at hl; simp at hl; omega
      · have hfr : s'.floor ≤ s'.next := hk.ok hf
        have hgi : ∀ M, Keep s'.next s' M → M.get r = some ⟨25, 4, ys⟩ := fun M hM => by rw [hM.get r hr4]; exact hr1
        have hsz : ys.length = es.length := hl
        have hat : atA 4 (.own r 0 ys.length 4) (.int .i64 (i : Int)) = some (.ptr r i 0) := by
          simp only [atA, toNat_cast, Option.bind_some]; rw [if_pos ⟨by omega, trivial⟩, Nat.zero_add]
        (repeat' (with_reducible first|refine w_1 ?_|refine w_2 ?_|refine w_3 ?_|refine w_4 ?_|refine w_5 ?_|refine w_6 ?_|refine w_7 ?_|(refine w_8 (fun hb=>?_) (fun hb=>?_)<;>try simp only [hb])|refine w_9 ?_|simp (maxDischargeDepth:=12) only [viz,↓reduceIte,Nat.reduceEqDiff,reduceCtorEq,Int.reduceEq,Int.reduceNeg,Nat.reduceAdd,Nat.reduceLeDiff,h0,h7,h8,lt_true hlt,hat,hr1,hc]))
        refine cloneB_c hfr (hI.keep hk) hd (hw x (List.mem_of_getElem? hx')).data fun v2 s2 ho2 hk2 => ?_
        have hcell : isCell v2 = true := (ho2.sl (byteC_len _) (D := fun _ => True) (fun _ _ _ => trivial)).cell
        have hle : s2.floor ≤ r := by rw [hk2.floor]; exact hr2
        (repeat' (with_reducible first|refine w_1 ?_|refine w_2 ?_|refine w_3 ?_|refine w_4 ?_|refine w_5 ?_|refine w_6 ?_|refine w_7 ?_|(refine w_8 (fun hb=>?_) (fun hb=>?_)<;>try simp only [hb])|refine w_9 ?_|simp (maxDischargeDepth:=12) only [viz,↓reduceIte,Nat.reduceEqDiff,reduceCtorEq,Int.reduceEq,Int.reduceNeg,Nat.reduceAdd,Nat.reduceLeDiff,h0,h7,h8,hat,hgi s2 hk2,hc,hcell,cells_cell hcell,hle,putD]))
        have hM : Keep s.next s (s2.put r (some ⟨25, 4, ys.set i [.int .u64 x.index, .int .u64 x.term, .int .i64 x.kind, v2]⟩)) := (hk.then hk2).trans (Keep.put hr3 _)
        have hg2 : ∀ q y, q ≠ r → q < s'.next → (s2.put r y).get q = s'.get q := fun q y h1 h2 => by rw [Mem.get_put, if_neg h1]; exact hk2.get q h2
        refine ⟨hlt, hM, succ_av (by omega), ys.set i _, .inr ⟨r, by simp, by rw [Mem.get_put, if_pos rfl], hle, hr3, by have := hk2.next; show r < s2.next; omega⟩, by simp [hl], ?_⟩
        refine EntsC.set (F := fun j q => if j < i then s.next ≤ q ∧ q < s2.next ∧ q ≠ r else D q) hl ?_ hx' ⟨v2, rfl, ?_⟩ ?_
        · intro j c e' h1 h2
          refine ((hy j c e' h1 h2).keep ?_).mono ?_
          · intro q hq
            have := hk.next
            split at hq
            · exact hg2 q _ (fun h => hq.2.2 0 ys.length 4 (by rw [h])) hq.2.1
            · have := hI q hq
              exact hg2 q _ (by omega) (by omega)
          · intro q hq
            have := hk2.next
            by_cases h : j < i
            · rw [if_pos h] at hq
              rw [if_pos h]
              exact ⟨hq.1, by omega, fun h => hq.2.2 0 ys.length 4 (by rw [h])⟩
            · rw [if_neg h] at hq
              rw [if_neg h]
              exact hq
        · have := ho2.sl (D := fun q => s'.next ≤ q ∧ q < s2.next) (byteC_len _) (fun q n h => ho2.row q 0 n 1 h)
          refine (this.keep fun q hq => ?_).mono fun q hq => ?_
          · rw [Mem.get_put, if_neg (by omega)]
          · rw [if_pos (by omega)]
            have := hk.next
            exact ⟨by omega, hq.2, fun i n z h => by have := (AV.own.inj h).1; omega⟩
        · intro j hj q hq
          show if j < i + 1 then _ else _
          by_cases h : j < i
          · rw [if_pos (by omega)]
            rw [if_pos h] at hq
            exact ⟨hq.1, hq.2.1, fun i n z h => hq.2.2 (AV.own.inj h).1.symm⟩
          · rw [if_neg (by omega)]
            rw [if_neg h] at hq
            exact hq
    · (repeat' (with_reducible first|refine w_1 ?_|refine w_2 ?_|refine w_3 ?_|refine w_4 ?_|refine w_5 ?_|refine w_6 ?_|refine w_7 ?_|(refine w_8 (fun hb=>?_) (fun hb=>?_)<;>try simp only [hb])|refine w_9 ?_|simp (maxDischargeDepth:=12) only [viz,↓reduceIte,Nat.reduceEqDiff,reduceCtorEq,Int.reduceEq,Int.reduceNeg,Nat.reduceAdd,Nat.reduceLeDiff,h0,h7,h8,lt_false hlt]))
      refine hK _ _ ⟨ys, ho', hl, fun j c e' h1 h2 => (hy j c e' h1 h2).mono fun q hq => ?_⟩ hk
      have := (List.getElem?_eq_some_iff.mp h2).1
      rw [if_pos (show j < i by omega)] at hq
      exact hq
def OwnLog (s : Mem) (b : Nat) (v : AV) (l : Log) : Prop := ∃ d w, v = .agg [.int .u64 l.base.index, .int .u64 l.base.term, .int .i64 l.base.kind, d, w] ∧ Byt s (fun r => b ≤ r ∧ r < s.next ∧ ∀ i n z, w ≠ .own r i n z) d l.base.data ∧ OwnE s b w l.l
theorem OwnE.to {s s' : Mem} {b b' : Nat} {v : AV} {es : List Entry} (h : OwnE s b v es) (hg : ∀ q, b ≤ q → q < s.next → s'.get q = s.get q) (hn : s.next ≤ s'.next) (hf : s'.floor ≤ s.floor) (hb : b' ≤ b) : OwnE s' b' v es := by
  obtain ⟨xs, h1, h2⟩ := h
  refine ⟨xs, ?_, (h2.keep fun r hr => hg r hr.1 hr.2.1).mono fun r hr => ⟨by omega, by omega, hr.2.2⟩⟩
  rcases h1 with h1 | ⟨r, rfl, g1, g2, g3, g4⟩
  · exact .inl h1
  · exact .inr ⟨r, rfl, by rw [hg r g3 g4]; exact g1, by omega, by omega, by omega⟩
theorem OwnE.cell {s : Mem} {b : Nat} {v : AV} {es : List Entry} (h : OwnE s b v es) : isCell v = true := by
  obtain ⟨xs, h1, h2⟩ := h
  exact (h1.sl (D := fun _ => True) h2.sizes fun _ _ _ => trivial).cell
theorem copied_c {l : Log} {D : Nat → Prop} {s : Mem} {v : AV} {K : AV → Mem → Prop} (hf : s.floor ≤ s.next) (hI : In D s) (hv : LogV s D v l) (hw : l.Wf)
    (hK : ∀ v' s', OwnLog s' s.next v' l → Keep s.next s s' → K v' s') : C tab 112 [v] s K := by
  obtain ⟨d, w, rfl, hd, hes⟩ := hv
  refine C_enter (cf := cf112) rfl (Nat.le_of_ble_eq_true rfl) ?_
  simp only [cf112, oo, on, om, og, oc, ou]
  (repeat' (with_reducible first|refine w_1 ?_|refine w_2 ?_|refine w_3 ?_|refine w_4 ?_|refine w_5 ?_|refine w_6 ?_|refine w_7 ?_|(refine w_8 (fun hb=>?_) (fun hb=>?_)<;>try simp only [hb])|refine w_9 ?_|simp (maxDischargeDepth:=12) only [viz,↓reduceIte,Nat.reduceEqDiff,reduceCtorEq,Int.reduceEq,Int.reduceNeg,Nat.reduceAdd,Nat.reduceLeDiff,hd.cell,hes.cell,hf]))
  have hk0 := (pushes s ⟨28, 5, [[.int .u64 l.base.index, .int .u64 l.base.term, .int .i64 l.base.kind, d, w]]⟩).then (pushes _ ⟨28, 5, [[.int .u64 0, .int .u64 0, .int .i64 0, .nilS, .nilS]]⟩)
  refine cloneB_c (D := D) (Nat.le_refl _) (fun r hr => hI.keep hk0 r hr) (hd.keep fun r hr => keep_old hI hk0 r hr) hw.base.data fun d2 s2 ho2 hk2 => ?_
  have hk02 := hk0.then (Keep.of_at hk2)
  have hlt : s.next + 1 < s2.next := hk2.next
  have hc2 : isCell d2 = true := (ho2.sl (byteC_len _) (D := fun _ => True) (fun _ _ _ => trivial)).cell
  (repeat' (with_reducible first|refine w_1 ?_|refine w_2 ?_|refine w_3 ?_|refine w_4 ?_|refine w_5 ?_|refine w_6 ?_|refine w_7 ?_|(refine w_8 (fun hb=>?_) (fun hb=>?_)<;>try simp only [hb])|refine w_9 ?_|simp (maxDischargeDepth:=12) only [viz,↓reduceIte,Nat.reduceEqDiff,reduceCtorEq,Int.reduceEq,Int.reduceNeg,Nat.reduceAdd,Nat.reduceLeDiff,hk2.get]))
  refine own_c (hk02.ok hf) (hI.keep hk02) (hes.keep (keep_old hI hk02)) hw.all hw.len fun w2 s3 ho3 hk3 => ?_
  have hlt3 : s2.next ≤ s3.next := hk3.next
  have hc3 := ho3.cell
  have hf3 : s3.floor ≤ s.next := by rw [hk3.floor]; exact hf
  have a1 : s.next < s2.next := by omega
  (repeat' (with_reducible first|refine w_1 ?_|refine w_2 ?_|refine w_3 ?_|refine w_4 ?_|refine w_5 ?_|refine w_6 ?_|refine w_7 ?_|(refine w_8 (fun hb=>?_) (fun hb=>?_)<;>try simp only [hb])|refine w_9 ?_|simp (maxDischargeDepth:=12) only [viz,↓reduceIte,Nat.reduceEqDiff,reduceCtorEq,Int.reduceEq,Int.reduceNeg,Nat.reduceAdd,Nat.reduceLeDiff,hk2.get,hk3.get,hlt,a1,hc2,hc3,cells_cell hc2,cells_cell hc3,hf3,le_s1 hf3]))
  have hk03 : Keep s.next s s3 := Keep.then (t := s2.at s.floor) hk02 hk3
  refine hK _ _ ⟨d2, w2, rfl, ?_, ?_⟩ (((hk03.trans (Keep.put (Nat.le_refl _) _)).trans (Keep.put (Nat.le_refl _) _)).trans (Keep.put (Nat.le_succ _) _))
  · have := ho2.sl (D := fun q => s.next + 1 < q ∧ q < s2.next) (byteC_len _) (fun q n h => ho2.row q 0 n 1 h)
    refine (this.keep fun q hq => ?_).mono fun q hq => ?_
    · rw [Mem.get_put, if_neg (by omega), Mem.get_put, if_neg (by omega), Mem.get_put, if_neg (by omega)]
      exact hk3.get q hq.2
    · refine ⟨by omega, show q < s3.next by omega, fun i n z h => ?_⟩
      obtain ⟨xs, g, _⟩ := ho3
      have : s2.next ≤ q := (g.row q i n z h).1
      omega
  · refine ho3.to (fun q h1 h2 => ?_) (Nat.le_refl _) (Nat.le_refl _) (show s.next ≤ s2.next by omega)
    have h1 : s2.next ≤ q := h1
    rw [Mem.get_put, if_neg (by omega), Mem.get_put, if_neg (by omega), Mem.get_put, if_neg (by omega)]
end Go.Proofs.YtfllmhjjfapnmaaGreat
/- Logs compared. No statement of the seat is proved here. -/
namespace Go.Proofs.YtfllmhjjfapnmaaGreat
open Go Go.VI
set_option linter.unusedSimpArgs false
attribute [local irreducible] Ws Wp W C
set_option maxHeartbeats 2000000
theorem str_same (b : List UInt8) : strOp .eql b b = some (.bool true) := by simp [strOp]
theorem sameE_c {e : Entry} {D : Nat → Prop} {s : Mem} {d1 d2 : AV} {K : AV → Mem → Prop} (hI : In D s) (h1 : Byt s D d1 e.data) (h2 : Byt s D d2 e.data)
    (hK : ∀ s', Keep s.next s s' → K (.bool true) s') : C tab 60 [.agg [.int .u64 e.index, .int .u64 e.term, .int .i64 e.kind, d1], .agg [.int .u64 e.index, .int .u64 e.term, .int .i64 e.kind, d2]] s K := by
  refine C_enter (cf := cf60) rfl (Nat.le_of_ble_eq_true rfl) ?_
  simp only [cf60, oo, on, om, og, oc, ou]
  (repeat' (with_reducible first|refine w_1 ?_|refine w_2 ?_|refine w_3 ?_|refine w_4 ?_|refine w_5 ?_|refine w_6 ?_|refine w_7 ?_|(refine w_8 (fun hb=>?_) (fun hb=>?_)<;>try simp only [hb])|refine w_9 ?_|simp (maxDischargeDepth:=12) only [viz,↓reduceIte,Nat.reduceEqDiff,reduceCtorEq,Int.reduceEq,Int.reduceNeg,Nat.reduceAdd,Nat.reduceLeDiff,h1.cell,h2.cell,h1.textk hI,h2.textk hI,decide_true,str_same]))
  exact hK _ ((pushes _ _).then (pushes _ _))
theorem sameEs_c {es : List Entry} {D : Nat → Prop} {s : Mem} {v1 v2 : AV} {K : AV → Mem → Prop} (_hf : s.floor ≤ s.next) (hI : In D s) (h1 : Ents s D v1 es) (h2 : Ents s D v2 es) (hn : Fit es.length)
    (hK : ∀ s', Keep s.next s s' → K (.bool true) s') : C tab 104 [v1, v2] s K := by
  refine C_enter (cf := cf104) rfl (Nat.le_of_ble_eq_true rfl) ?_
  simp only [cf104, oo, on, om, og, oc, ou]
  (repeat' (with_reducible first|refine w_1 ?_|refine w_2 ?_|refine w_3 ?_|refine w_4 ?_|refine w_5 ?_|refine w_6 ?_|refine w_7 ?_|(refine w_8 (fun hb=>?_) (fun hb=>?_)<;>try simp only [hb])|refine w_9 ?_|simp (maxDischargeDepth:=12) only [viz,↓reduceIte,Nat.reduceEqDiff,reduceCtorEq,Int.reduceEq,Int.reduceNeg,Nat.reduceAdd,Nat.reduceLeDiff,h1.len,h2.len,bne_self_eq_false]))
  refine W_inv es.length (fun i e s' => Keep s.next s s' ∧ e.get 0 = v1 ∧ e.get 1 = v2 ∧ e.get 5 = .int .i64 i) (by delta cf104l0 oo on om og oc ou; exact rfl) ?_ ?_
  · (repeat' (with_reducible first|refine w_1 ?_|refine w_2 ?_|refine w_3 ?_|refine w_4 ?_|refine w_5 ?_|refine w_6 ?_|refine w_7 ?_|(refine w_8 (fun hb=>?_) (fun hb=>?_)<;>try simp only [hb])|refine w_9 ?_|simp (maxDischargeDepth:=12) only [viz,↓reduceIte,Nat.reduceEqDiff,reduceCtorEq,Int.reduceEq,Int.reduceNeg,Nat.reduceAdd,Nat.reduceLeDiff]))
    all_goals first | rfl | skip
  · rintro i e s' hi _ ⟨hk, g0, g1, g5⟩
    have h1' := h1.keep (keep_old hI hk)
    have h2' := h2.keep (keep_old hI hk)
    by_cases hlt : i < es.length
    · obtain ⟨x, hx⟩ := get_of hlt
      obtain ⟨d, p, hp, P, hd⟩ := h1'.atk (hI.keep hk) hx
      obtain ⟨d2, p2, hp2, P2, hd2⟩ := h2'.atk (hI.keep hk) hx
      (repeat' (with_reducible first|refine w_1 ?_|refine w_2 ?_|refine w_3 ?_|refine w_4 ?_|refine w_5 ?_|refine w_6 ?_|refine w_7 ?_|(refine w_8 (fun hb=>?_) (fun hb=>?_)<;>try simp only [hb])|refine w_9 ?_|simp (maxDischargeDepth:=12) only [viz,↓reduceIte,Nat.reduceEqDiff,reduceCtorEq,Int.reduceEq,Int.reduceNeg,Nat.reduceAdd,Nat.reduceLeDiff,g0,g1,g5,h1'.len,lt_true hlt,hp,P.ld,hp2,P2.ld]))
      refine sameE_c (hI.keep hk) hd hd2 fun s2 hk2 => ?_
      (repeat' (with_reducible first|refine w_1 ?_|refine w_2 ?_|refine w_3 ?_|refine w_4 ?_|refine w_5 ?_|refine w_6 ?_|refine w_7 ?_|(refine w_8 (fun hb=>?_) (fun hb=>?_)<;>try simp only [hb])|refine w_9 ?_|simp (maxDischargeDepth:=12) only [viz,↓reduceIte,Nat.reduceEqDiff,reduceCtorEq,Int.reduceEq,Int.reduceNeg,Nat.reduceAdd,Nat.reduceLeDiff,g0,g1,g5]))
      exact ⟨hlt, hk.then hk2, succ_av (by omega)⟩
    · (repeat' (with_reducible first|refine w_1 ?_|refine w_2 ?_|refine w_3 ?_|refine w_4 ?_|refine w_5 ?_|refine w_6 ?_|refine w_7 ?_|(refine w_8 (fun hb=>?_) (fun hb=>?_)<;>try simp only [hb])|refine w_9 ?_|simp (maxDischargeDepth:=12) only [viz,↓reduceIte,Nat.reduceEqDiff,reduceCtorEq,Int.reduceEq,Int.reduceNeg,Nat.reduceAdd,Nat.reduceLeDiff,g0,g1,g5,h1'.len,lt_false hlt]))
      exact hK _ hk
theorem same_c {l : Log} {D : Nat → Prop} {s : Mem} {v1 v2 : AV} {K : AV → Mem → Prop} (hf : s.floor ≤ s.next) (hI : In D s) (h1 : LogV s D v1 l) (h2 : LogV s D v2 l) (hn : Fit l.l.length)
    (hK : ∀ s', Keep s.next s s' → K (.bool true) s') : C tab 48 [v1, v2] s K := by
  obtain ⟨d1, w1, rfl, hd1, he1⟩ := h1
  obtain ⟨d2, w2, rfl, hd2, he2⟩ := h2
  refine C_enter (cf := cf48) rfl (Nat.le_of_ble_eq_true rfl) ?_
  simp only [cf48, oo, on, om, og, oc, ou]
  (repeat' (with_reducible first|refine w_1 ?_|refine w_2 ?_|refine w_3 ?_|refine w_4 ?_|refine w_5 ?_|refine w_6 ?_|refine w_7 ?_|(refine w_8 (fun hb=>?_) (fun hb=>?_)<;>try simp only [hb])|refine w_9 ?_|simp (maxDischargeDepth:=12) only [viz,↓reduceIte,Nat.reduceEqDiff,reduceCtorEq,Int.reduceEq,Int.reduceNeg,Nat.reduceAdd,Nat.reduceLeDiff,hd1.cell,hd2.cell,he1.cell,he2.cell]))
  have hk0 := (pushes s ⟨28, 5, [[.int .u64 l.base.index, .int .u64 l.base.term, .int .i64 l.base.kind, d1, w1]]⟩).then (pushes _ ⟨28, 5, [[.int .u64 l.base.index, .int .u64 l.base.term, .int .i64 l.base.kind, d2, w2]]⟩)
  refine sameE_c (e := l.base) (hI.keep hk0) (hd1.keep (keep_old hI hk0)) (hd2.keep (keep_old hI hk0)) fun s2 hk2 => ?_
  have hk02 := hk0.then hk2
  have a1 : s.next < s2.next := by have := hk2.next; simp only [next_push'] at this; omega
  (repeat' (with_reducible first|refine w_1 ?_|refine w_2 ?_|refine w_3 ?_|refine w_4 ?_|refine w_5 ?_|refine w_6 ?_|refine w_7 ?_|(refine w_8 (fun hb=>?_) (fun hb=>?_)<;>try simp only [hb])|refine w_9 ?_|simp (maxDischargeDepth:=12) only [viz,↓reduceIte,Nat.reduceEqDiff,reduceCtorEq,Int.reduceEq,Int.reduceNeg,Nat.reduceAdd,Nat.reduceLeDiff,hk2.get]))
  refine sameEs_c (hk02.ok hf) (hI.keep hk02) (he1.keep (keep_old hI hk02)) (he2.keep (keep_old hI hk02)) hn fun s3 hk3 => ?_
  (repeat' (with_reducible first|refine w_1 ?_|refine w_2 ?_|refine w_3 ?_|refine w_4 ?_|refine w_5 ?_|refine w_6 ?_|refine w_7 ?_|(refine w_8 (fun hb=>?_) (fun hb=>?_)<;>try simp only [hb])|refine w_9 ?_|simp (maxDischargeDepth:=12) only [viz,↓reduceIte,Nat.reduceEqDiff,reduceCtorEq,Int.reduceEq,Int.reduceNeg,Nat.reduceAdd,Nat.reduceLeDiff]))
  exact hK _ (hk02.then hk3)
end Go.Proofs.YtfllmhjjfapnmaaGreat

