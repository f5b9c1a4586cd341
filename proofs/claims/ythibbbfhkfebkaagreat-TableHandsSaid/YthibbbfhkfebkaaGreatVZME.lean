/- Keys taken on: what two spans have; holds and marks put into a table. No statement of the seat is proved here. -/
import Derived.Test.YthibbbfhkfebkaaGreatVZMD
import Derived.Test.YthibbbfhkfebkaaGreatVZFB
import Derived.Test.YthibbbfhkfebkaaGreatVZVE
namespace Go.Proofs.YthibbbfhkfebkaaGreat
open Go Go.VI
set_option linter.unusedSimpArgs false
def setF (l : List Hold) (h : Hold) : List Hold := putG Hold.key h l
def markF (l : List Mark) (m : Mark) : List Mark := putG Mark.key (mkM l m.key m.token) l
theorem setF_ok {l : List Hold} {h : Hold} (hl : holdsS l = true) (hm : mayH h = true) (hn : l.length < 1000) : holdsS (setF l h) = true := by
  rw [holds_iff] at hl ⊢
  refine ⟨by have := putG_len Hold.key h l; unfold setF; omega, fun x hx => ?_, putG_up h hl.2.2⟩
  rcases putG_mem hx with rfl | ⟨h1, _⟩
  · exact hm
  · exact hl.2.1 x h1
theorem markF_ok {l : List Mark} {m : Mark} (hl : marksS l = true) (h64 : m.key.length ≤ 64) (ht : 0 < m.token) (hn : l.length < 1000) : marksS (markF l m) = true := by
  rw [marks_iff] at hl ⊢
  refine ⟨by have := putG_len Mark.key (mkM l m.key m.token) l; unfold markF; omega, fun x hx => ?_, putG_up (mkM l m.key m.token) hl.2.2⟩
  rcases putG_mem hx with rfl | ⟨h1, _⟩
  · unfold mkM mayM
    split
    · rename_i h
      have : ¬ lastM l m.key = 0 := by omega
      simp [this, h64]
    · have : ¬ m.token = 0 := by omega
      simp [this, h64]
  · exact hl.2.1 x h1
theorem setFs_ok : ∀ (hs l : List Hold), holdsS l = true → (∀ h ∈ hs, mayH h = true) → l.length + hs.length < 1000 → holdsS (hs.foldl setF l) = true ∧ (hs.foldl setF l).length ≤ l.length + hs.length
  | [], l, h, _, _ => ⟨h, by simp⟩
  | x :: hs, l, h, hm, hn => by
    have hp := putG_len Hold.key x l
    simp only [List.length_cons] at hn
    obtain ⟨h1, h2⟩ := setFs_ok hs (setF l x) (setF_ok h (hm x (by simp)) (by omega)) (fun y hy => hm y (List.mem_cons_of_mem _ hy)) (by unfold setF; omega)
    refine ⟨h1, ?_⟩
    rw [List.foldl_cons, List.length_cons]
    unfold setF at h2 ⊢
    omega
theorem markFs_ok : ∀ (ms l : List Mark), marksS l = true → (∀ m ∈ ms, m.key.length ≤ 64 ∧ 0 < m.token) → l.length + ms.length < 1000 → marksS (ms.foldl markF l) = true ∧ (ms.foldl markF l).length ≤ l.length + ms.length
  | [], l, h, _, _ => ⟨h, by simp⟩
  | x :: ms, l, h, hm, hn => by
    have hp := putG_len Mark.key (mkM l x.key x.token) l
    simp only [List.length_cons] at hn
    obtain ⟨h1, h2⟩ := markFs_ok ms (markF l x) (markF_ok h (hm x (by simp)).1 (hm x (by simp)).2 (by omega)) (fun y hy => hm y (List.mem_cons_of_mem _ hy)) (by unfold markF; omega)
    refine ⟨h1, ?_⟩
    rw [List.foldl_cons, List.length_cons]
    unfold markF at h2 ⊢
    omega
attribute [local irreducible] Ws Wp W C
set_option maxHeartbeats 4000000
theorem smeet_c {a b : Span} {s : Mem} {K : AV → Mem → Prop} (hf : s.floor ≤ s.next) (hK : ∀ c s', Keep s.next s s' → K (.tup [.agg (spanC c), .bool (meetB b a)]) s') : C tab 71 [.agg (spanC a), .agg (spanC b)] s K := by
  refine C_enter (cf := cf71) rfl (Nat.le_of_ble_eq_true rfl) ?_
  simp only [cf71, oo, on, om, og, oc, ou, spanC]
  have hK' : ∀ (f t : Txt) (q : Bool) s', Keep s.next s s' → q = meetB b a → K (.tup [.agg [.str f, .str t], .bool q]) s' := fun f t q s' h e => e ▸ hK ⟨f, t⟩ s' h
  (repeat' (with_reducible first|refine w_1 ?_|refine w_2 ?_|simp (maxDischargeDepth:=12) only [viz,↓reduceIte,Nat.reduceEqDiff,Nat.reduceAdd]))
  refine mx_str (a := a.frm) (b := b.frm) (by simp only [ev, Env.get_set, ↓reduceIte, Nat.reduceEqDiff]) (by simp only [ev, Env.get_set, ↓reduceIte, Nat.reduceEqDiff]) ?_
  (repeat' with_reducible simp (maxDischargeDepth:=12) only [viz,↓reduceIte,Nat.reduceAdd])
  refine least_c ?_
  have fe : (s.floor ≤ s.next + 1 + 1 + 1) = True := by simp; omega
  have r0 := R4.of_push s ⟨47, 2, [[.str a.frm, .str a.to]]⟩ ⟨47, 2, [[.str b.frm, .str b.to]]⟩ ⟨47, 2, [[.str [], .str []]]⟩ ⟨47, 2, [[.str (mxS a.frm b.frm), .str (leastS a.to b.to)]]⟩
  have k0 := (pushes s ⟨47, 2, [[.str a.frm, .str a.to]]⟩).then ((pushes _ ⟨47, 2, [[.str b.frm, .str b.to]]⟩).then ((pushes _ ⟨47, 2, [[.str [], .str []]]⟩).then (pushes _ ⟨47, 2, [[.str (mxS a.frm b.frm), .str (leastS a.to b.to)]]⟩)))
  (repeat' (with_reducible first|refine w_1 ?_|refine w_2 ?_|simp (maxDischargeDepth:=12) only [viz,↓reduceIte,Nat.reduceEqDiff,Nat.reduceAdd,fe]))
  generalize (((s.push _).push _).push _).push _ = S0 at *
  have f0 : S0.floor ≤ s.next + 1 + 1 := by rw [k0.floor]; omega
  (repeat' with_reducible simp (maxDischargeDepth:=12) only [viz,↓reduceIte,Nat.reduceEqDiff,reduceCtorEq,Int.reduceEq,Int.reduceNeg,Nat.reduceAdd,Nat.reduceLeDiff,r0.a,r0.b,r0.c,r0.e,f0])
  refine smay_c (x := a) fun s1 h1 => ?_
  have r1 := r0.then h1
  have k1 := k0.then h1
  have f1 : s1.floor ≤ s.next + 1 + 1 := by rw [k1.floor]; omega
  (repeat' (with_reducible first|refine w_1 ?_|refine w_2 ?_|refine w_4 ?_|refine w_6 ?_|(refine w_8 (fun hb=>?_) (fun hb=>?_)<;>(try simp only [Bool.not_eq_true',Bool.not_eq_false'] at hb)<;>try simp only [hb])|refine w_13 (fun hc=>(by (try simp only [Bool.and_eq_true] at hc);simp (maxDischargeDepth:=12) only [viz,↓reduceIte,Nat.reduceEqDiff,r1.b,cond_false,hc];first|exact ⟨rfl,rfl⟩|exact rfl)) ?_|refine w_12 ?_|((try refine w_9 ?_);simp (maxDischargeDepth:=12) only [viz,↓reduceIte,Nat.reduceEqDiff,Nat.reduceAdd,r1.c,f1])))
  · refine smay_c (x := b) fun s2 h2 => ?_
    have r2 := r1.then h2
    have k2 := k1.then h2
    have f2 : s2.floor ≤ s.next + 1 + 1 := by rw [k2.floor]; omega
    (repeat' (with_reducible first|refine w_1 ?_|refine w_2 ?_|refine w_4 ?_|refine w_6 ?_|(refine w_8 (fun hb=>?_) (fun hb=>?_)<;>(try simp only [Bool.not_eq_true',Bool.not_eq_false'] at hb)<;>try simp only [hb])|refine w_13 (fun hc=>(by (try simp only [Bool.and_eq_true] at hc);simp (maxDischargeDepth:=12) only [viz,↓reduceIte,Nat.reduceEqDiff,r2.e,cond_false,hc];first|exact ⟨rfl,rfl⟩|exact rfl)) ?_|refine w_12 ?_|((try refine w_9 ?_);simp (maxDischargeDepth:=12) only [viz,↓reduceIte,Nat.reduceEqDiff,Nat.reduceAdd,r2.c,f2])))
    · refine smay_c (x := meetS a b) fun s3 h3 => ?_
      have r3 := r2.then h3
      have k3 := k2.then h3
      have f3 : s3.floor ≤ s.next + 1 + 1 := by rw [k3.floor]; omega
      (repeat' (with_reducible first|refine w_1 ?_|refine w_2 ?_|refine w_4 ?_|refine w_5 ?_|refine w_6 ?_|(refine w_8 (fun hb=>?_) (fun hb=>?_)<;>(try simp only [Bool.not_eq_true',Bool.not_eq_false'] at hb)<;>try simp only [hb])|((try refine w_9 ?_);simp (maxDischargeDepth:=12) only [viz,↓reduceIte,Nat.reduceEqDiff,Nat.reduceAdd,r3.c,r3.e,f3])))
      · refine hK' _ _ _ _ (k3.trans (Keep.put (by omega) _)) ?_
        simp_all [meetB]
      · refine hK' _ _ _ _ (k3.trans (Keep.put (by omega) _)) ?_
        simp_all [meetB]
    · refine hK' _ _ _ _ (k2.trans (Keep.put (by omega) _)) ?_
      simp_all [meetB]
  · refine hK' _ _ _ _ (k1.trans (Keep.put (by omega) _)) ?_
    simp_all [meetB]
theorem imMeet (plan : Int) (x : Span) (hv mv : AV) (r : Nat) : FnP spanA (fun M => M.floor ≤ M.next ∧ M.get r = some ⟨49, 5, [[.int .u64 plan, .str x.frm, .str x.to, hv, mv]]⟩ ∧ r < M.next) 70 [.ptr r 0 0] (meetB x) := by
  rintro y M K ⟨hf, hg, hr⟩ hK
  refine C_enter (cf := cf70) rfl (Nat.le_of_ble_eq_true rfl) ?_
  simp only [cf70, oo, on, om, og, oc, ou, spanA, spanC]
  have hne : (r = M.next) = False := by simp; omega
  have hp := pushes M ⟨47, 2, [[.str y.frm, .str y.to]]⟩
  (repeat' (with_reducible first|refine w_1 ?_|refine w_2 ?_|simp (maxDischargeDepth:=12) only [viz,↓reduceIte,Nat.reduceEqDiff,Nat.reduceAdd,hg,hne]))
  refine smeet_c (a := y) (b := x) (hp.ok hf) fun c s1 h1 => ?_
  have k1 := hp.then h1
  have f1 : s1.floor ≤ s1.next := k1.ok hf
  simp only [spanC]
  (repeat' (with_reducible first|refine w_1 ?_|refine w_2 ?_|refine w_6 ?_|simp (maxDischargeDepth:=12) only [viz,↓reduceIte,Nat.reduceAdd,f1]))
  exact hK _ (k1.then (pushes _ _))
end Go.Proofs.YthibbbfhkfebkaaGreat
/- Keys taken on: the program. No statement of the seat is proved here. -/
namespace Go.Proofs.YthibbbfhkfebkaaGreat
open Go Go.VI
set_option linter.unusedSimpArgs false
def mayP (p : Parcel) : Bool := mayS p.sp && holdsS p.ho && marksS p.ma && hereS [p.sp] p.ho p.ma
def unpG (now : Int) (n : Int) : Int := min 2147483647 (n + now)
def putT (t : Table) (sp : List Span) (hs : List Hold) (ms : List Mark) : Table := ⟨t.now, sp, t.frozen, hs.foldl setF t.holds, ms.foldl markF t.marks, t.ints⟩
def inT (t : Table) (p : Parcel) : Table := putT t (addP t.spans p.sp) (p.ho.map (tillG (unpG t.now))) p.ma
def impP (t : Table) (p : Parcel) : Int × Table :=
  if (mayT t && mayP p) = false then (1, zeroT)
  else if t.spans.any (meetB p.sp) = true then (6, zeroT)
  else if (addP t.spans p.sp).length ≤ 64 ∧ t.holds.length + t.marks.length + t.ints.length + p.ho.length + p.ma.length ≤ 1024 then (0, inT t p) else (2, zeroT)
theorem till_may {l : List Hold} {now : Int} (h0 : 0 ≤ now) (h : holdsS l = true) : ∀ x ∈ l.map (tillG (unpG now)), mayH x = true := fun x hx => by
  obtain ⟨y, hy, rfl⟩ := List.mem_map.mp hx
  have := hold_may h y hy
  unfold mayH at this ⊢
  rw [Bool.and_eq_true, Bool.and_eq_true, decide_eq_true_eq, decide_eq_true_eq] at this ⊢
  obtain ⟨⟨h1, h2⟩, h3⟩ := this
  exact ⟨⟨h1, by simp only [tillG, unpG]; omega⟩, by simp only [tillG, unpG]; omega⟩
attribute [local irreducible] Ws Wp W C
set_option maxHeartbeats 8000000
theorem import_c {t : Table} {w : TV} {p : Parcel} {hv mv : AV} {D : Nat → Prop} {s : Mem} {K : AV → Mem → Prop} (hf : s.floor ≤ s.next) (hI : In D s) (hw : TabIn s D w t) (hs : Small t) (hh : Holds s D hv p.ho) (hm : Marks s D mv p.ma)
    (hl : t.holds.length ≤ 300 ∧ t.marks.length ≤ 300) (hpl : p.ho.length ≤ 300 ∧ p.ma.length ≤ 300) (hmk : ∀ m ∈ p.ma, 0 ≤ m.token)
    (hK : ∀ w' s', Keep s.next s s' → TabIn s' (fun r => s.next ≤ r ∧ r < s'.next) w' (impP t p).2 → K (.tup [.agg (tabC (impP t p).2 w'), .int .i64 (impP t p).1]) s') : C tab 20 [.agg (tabC t w), .agg (parC p hv mv)] s K := by
  refine C_enter (cf := cf20) rfl (Nat.le_of_ble_eq_true rfl) ?_
  simp only [cf20, oo, on, om, og, oc, ou, tabC, parC]
  have hz : ∀ M e R, Keep s.next s M → impP t p = (e, zeroT) → K (.tup [.agg [.int .i64 0, .nilS, .nilS, .nilS, .nilS, .nilS], .int .i64 e]) (M.put (s.next + 1 + 1) R) := fun M e R hM h => by
    rw [h] at hK
    exact hK zeroW _ (hM.trans (Keep.put (by omega) _)) (zero_in _ _)
  have r0 := R4.of_push s ⟨27, 6, [[.int .i64 t.now, w.sp, w.fr, w.ho, w.ma, w.it]]⟩ ⟨49, 5, [[.int .u64 p.plan, .str p.sp.frm, .str p.sp.to, hv, mv]]⟩ ⟨27, 6, [[.int .i64 0, .nilS, .nilS, .nilS, .nilS, .nilS]]⟩ ⟨47, 2, [[.str p.sp.frm, .str p.sp.to]]⟩
  have k0 := (pushes s ⟨27, 6, [[.int .i64 t.now, w.sp, w.fr, w.ho, w.ma, w.it]]⟩).then ((pushes _ ⟨49, 5, [[.int .u64 p.plan, .str p.sp.frm, .str p.sp.to, hv, mv]]⟩).then ((pushes _ ⟨27, 6, [[.int .i64 0, .nilS, .nilS, .nilS, .nilS, .nilS]]⟩).then (pushes _ ⟨47, 2, [[.str p.sp.frm, .str p.sp.to]]⟩)))
  have ne1 : (s.next + 1 = s.next + 1 + 1) = False := by simp
  have chv := hh.cell
  have cmv := hm.cell
  (repeat' (with_reducible first|refine w_1 ?_|refine w_2 ?_|simp (maxDischargeDepth:=12) only [viz,↓reduceIte,Nat.reduceEqDiff,Nat.reduceAdd,hw.sp.cell,hw.fr.cell,hw.ho.cell,hw.ma.cell,hw.it.cell,chv,cmv,r0.a]))
  generalize (((s.push _).push _).push _).push _ = S0 at *
  (repeat' with_reducible simp (maxDischargeDepth:=12) only [viz,↓reduceIte,Nat.reduceEqDiff,reduceCtorEq,Int.reduceEq,Int.reduceNeg,Nat.reduceAdd,Nat.reduceLeDiff,r0.a,r0.b])
  refine check_c (D := D) (k0.ok hf) (hI.keep k0) (hw.keep fun r hr => k0.get r (hI r hr)) hs fun s1 h1 => ?_
  rw [tab_same]
  have r1 := r0.then h1
  have k1 := k0.then h1
  have f1 : s1.floor ≤ s.next + 1 + 1 := by rw [k1.floor]; omega
  have bad : mayP p = false → impP t p = (1, zeroT) := fun h => by unfold impP; rw [if_pos (by rw [h, Bool.and_false])]
  (repeat' (with_reducible first|refine w_1 ?_|refine w_2 ?_|refine w_4 ?_|refine w_6 ?_|(refine w_8 (fun hb=>?_) (fun hb=>?_)<;>(try simp only [Bool.not_eq_true',Bool.not_eq_false'] at hb)<;>try simp only [hb])|refine w_13 (fun hc=>(by (try simp only [Bool.and_eq_true] at hc);simp (maxDischargeDepth:=12) only [viz,↓reduceIte,Nat.reduceEqDiff,Nat.reduceAdd,r1.b,cond_false,hc];first|exact ⟨rfl,rfl⟩|exact rfl)) ?_|refine w_12 ?_|((try refine w_9 ?_);simp (maxDischargeDepth:=12) only [viz,↓reduceIte,Nat.reduceEqDiff,Nat.reduceAdd,r1.c,f1])))
  case' _ => skip
  · refine scheck_c (x := p.sp) fun s2 h2 => ?_
    have r2 := r1.then h2
    have k2 := k1.then h2
    have f2 : s2.floor ≤ s.next + 1 + 1 := by rw [k2.floor]; omega
    (repeat' (with_reducible first|refine w_1 ?_|refine w_2 ?_|refine w_4 ?_|refine w_6 ?_|(refine w_8 (fun hb=>?_) (fun hb=>?_)<;>(try simp only [Bool.not_eq_true',Bool.not_eq_false'] at hb)<;>try simp only [hb])|refine w_13 (fun hc=>(by (try simp only [Bool.and_eq_true] at hc);simp (maxDischargeDepth:=12) only [viz,↓reduceIte,Nat.reduceEqDiff,Nat.reduceAdd,r2.b,cond_false,hc];first|exact ⟨rfl,rfl⟩|exact rfl)) ?_|refine w_12 ?_|((try refine w_9 ?_);simp (maxDischargeDepth:=12) only [viz,↓reduceIte,Nat.reduceEqDiff,Nat.reduceAdd,r2.c,f2])))
    · refine lcheck_c (l := p.ho) (D := D) (k2.ok hf) (hI.keep k2) (hh.keep fun r hr => k2.get r (hI r hr)) (by omega) fun s3 h3 => ?_
      have r3 := r2.then h3
      have k3 := k2.then h3
      have f3 : s3.floor ≤ s.next + 1 + 1 := by rw [k3.floor]; omega
      (repeat' (with_reducible first|refine w_1 ?_|refine w_2 ?_|refine w_4 ?_|refine w_6 ?_|(refine w_8 (fun hb=>?_) (fun hb=>?_)<;>(try simp only [Bool.not_eq_true',Bool.not_eq_false'] at hb)<;>try simp only [hb])|refine w_13 (fun hc=>(by (try simp only [Bool.and_eq_true] at hc);simp (maxDischargeDepth:=12) only [viz,↓reduceIte,Nat.reduceEqDiff,Nat.reduceAdd,r3.b,cond_false,hc];first|exact ⟨rfl,rfl⟩|exact rfl)) ?_|refine w_12 ?_|((try refine w_9 ?_);simp (maxDischargeDepth:=12) only [viz,↓reduceIte,Nat.reduceEqDiff,Nat.reduceAdd,r3.c,f3])))
      · refine lmarks_c (l := p.ma) (D := D) (k3.ok hf) (hI.keep k3) (hm.keep fun r hr => k3.get r (hI r hr)) (by omega) fun s4 h4 => ?_
        have r4 := r3.then h4
        have k4 := k3.then h4
        have f4 : s4.floor ≤ s.next + 1 + 1 := by rw [k4.floor]; omega
        (repeat' (with_reducible first|refine w_1 ?_|refine w_2 ?_|refine w_4 ?_|refine w_6 ?_|(refine w_8 (fun hb=>?_) (fun hb=>?_)<;>(try simp only [Bool.not_eq_true',Bool.not_eq_false'] at hb)<;>try simp only [hb])|refine w_13 (fun hc=>(by (try simp only [Bool.and_eq_true] at hc);simp (maxDischargeDepth:=12) only [viz,↓reduceIte,Nat.reduceEqDiff,Nat.reduceAdd,r4.b,cond_false,hc];first|exact ⟨rfl,rfl⟩|exact rfl)) ?_|refine w_12 ?_|((try refine w_9 ?_);simp (maxDischargeDepth:=12) only [viz,↓reduceIte,Nat.reduceEqDiff,Nat.reduceAdd,r4.c,f4])))
        · have n4 := r4.n
          refine here_c (sp := [p.sp]) (ho := p.ho) (ma := p.ma) (D := fun q => D q ∨ q = s.next + 1 + 1 + 1) (k4.ok hf) (fun q hq => by rcases hq with hq | hq; exact hI.keep k4 q hq; omega) (Sl.of_row (ty := 47) (by rw [r4.e]; rfl) (.inr rfl) (span_cells [p.sp]) rfl) ((hh.keep fun r hr => k4.get r (hI r hr)).mono fun _ => .inl) ((hm.keep fun r hr => k4.get r (hI r hr)).mono fun _ => .inl) (by simp) (by omega) (by omega) fun s5 h5 => ?_
          have r5 := r4.then h5
          have k5 := k4.then h5
          have f5 : s5.floor ≤ s.next + 1 + 1 := by rw [k5.floor]; omega
          (repeat' (with_reducible first|refine w_1 ?_|refine w_2 ?_|refine w_4 ?_|refine w_5 ?_|refine w_6 ?_|(refine w_8 (fun hb=>?_) (fun hb=>?_)<;>(try simp only [Bool.not_eq_true',Bool.not_eq_false'] at hb)<;>try simp only [hb])|((try refine w_9 ?_);simp (maxDischargeDepth:=12) only [viz,↓reduceIte,Nat.reduceEqDiff,Nat.reduceAdd,r5.a,r5.c,f5])))
          · refine hz _ _ _ k5 (bad ?_)
            grind [mayP]
          have hmt : mayT t = true := by grind
          have hmp : mayP p = true := by grind [mayP]
          have hms : mayS p.sp = true := by grind
          have hmh : holdsS p.ho = true := by grind
          have hmm : marksS p.ma = true := by grind
          have hx0 : (mayT t && mayP p) = true := by rw [hmt, hmp]; rfl
          obtain ⟨fo1, fo2⟩ := may_form hmt
          obtain ⟨n0, n1, hoo, mao⟩ := may_parts hmt
          clear bad
          refine spAny_c (D := D) (p := meetB p.sp) (hI.keep k5) (hw.sp.keep fun r hr => k5.get r (hI r hr)) (by have := hs.sp; omega) (fun M hM => ⟨hM.ok (k5.ok hf), by rw [hM.get _ (by have := r5.n; omega)]; exact r5.b, by have := r5.n; have := hM.next; omega⟩) (imMeet p.plan p.sp hv mv (s.next + 1)) fun s6 h6 => ?_
          have r6 := r5.then h6
          have k6 := k5.then h6
          have f6 : s6.floor ≤ s.next + 1 + 1 := by rw [k6.floor]; omega
          (repeat' (with_reducible first|refine w_1 ?_|refine w_2 ?_|refine w_4 ?_|refine w_5 ?_|refine w_6 ?_|(refine w_8 (fun hb=>?_) (fun hb=>?_)<;>(try simp only [Bool.not_eq_true',Bool.not_eq_false'] at hb)<;>try simp only [hb])|simp (maxDischargeDepth:=12) only [viz,↓reduceIte,Nat.reduceEqDiff,Nat.reduceAdd,r6.a,r6.b,r6.c,f6]))
          · refine hz _ _ _ k6 ?_
            unfold impP
            rw [if_neg (by rw [hx0]; simp), if_pos (by assumption)]
          have hno : ¬ t.spans.any (meetB p.sp) = true := by simp only [*]; simp
          refine sadd_c (x := p.sp) (l := t.spans) (D := D) (k6.ok hf) (hI.keep k6) (hw.sp.keep fun r hr => k6.get r (hI r hr)) (by have := hs.sp; omega) fo1 hms fun v7 s7 h7 o7 => ?_
          have r7 := r6.then h7
          have k7 := k6.then h7
          have n6 := r6.n
          have n67 := h7.next
          have f7 : s7.floor ≤ s.next + 1 + 1 := by rw [k7.floor]; omega
          have l1 : lenA false w.ho = some t.holds.length := hw.ho.lenB
          have l2 : lenA false w.ma = some t.marks.length := hw.ma.lenB
          have l3 : lenA false w.it = some t.ints.length := hw.it.lenB
          have l4 : lenA false hv = some p.ho.length := hh.lenB
          have l5 : lenA false mv = some p.ma.length := hm.lenB
          have hsi := hs.it
          have a1 := wrap_add (a := t.holds.length) (b := t.marks.length) (by omega)
          have a2 := wrap_add (a := t.holds.length + t.marks.length) (b := t.ints.length) (by omega)
          have a3 := wrap_add (a := t.holds.length + t.marks.length + t.ints.length) (b := p.ho.length) (by omega)
          have a4 := wrap_add (a := t.holds.length + t.marks.length + t.ints.length + p.ho.length) (b := p.ma.length) (by omega)
          by_cases h64 : (addP t.spans p.sp).length ≤ 64
          case neg =>
            simp only [h64, if_false]
            (repeat' (with_reducible first|refine w_1 ?_|refine w_2 ?_|refine w_4 ?_|refine w_6 ?_|((try refine w_9 ?_);simp (maxDischargeDepth:=12) only [viz,↓reduceIte,Nat.reduceEqDiff,Nat.reduceAdd,r7.c,f7, Int.reduceBEq, Int.reduceBNe, Int.reduceLT, Int.reduceLE, Int.reduceGT, Int.reduceGE])))
            refine hz _ _ _ k7 ?_
            unfold impP
            rw [if_neg (by rw [hx0]; simp), if_neg hno, if_neg fun h => h64 h.1]
          simp only [h64, if_true]
          (repeat' (with_reducible first|refine w_1 ?_|refine w_2 ?_|refine w_4 ?_|refine w_5 ?_|refine w_6 ?_|(refine w_8 (fun hb=>?_) (fun hb=>?_)<;>(try simp only [Bool.not_eq_true',Bool.not_eq_false'] at hb)<;>try simp only [hb])|((try refine w_9 ?_);simp (maxDischargeDepth:=12) only [viz,↓reduceIte,Nat.reduceEqDiff,Nat.reduceAdd,r7.a,r7.b,r7.c,f7,bne_self_eq_false, Int.reduceBEq, Int.reduceBNe, Int.reduceLT, Int.reduceLE, Int.reduceGT, Int.reduceGE,l1,l2,l3,l4,l5,a1,a2,a3,a4])))
          · refine hz _ _ _ k7 ?_
            unfold impP
            rw [if_neg (by rw [hx0]; simp), if_neg hno, if_neg fun h => by have := h.2; simp only [decide_eq_true_eq] at *; omega]
          have hroom : t.holds.length + t.marks.length + t.ints.length + p.ho.length + p.ma.length ≤ 1024 := by simp only [decide_eq_false_iff_not] at *; omega
          have hfz : impP t p = (0, inT t p) := by
            unfold impP
            rw [if_neg (by rw [hx0]; simp), if_neg hno, if_pos ⟨h64, hroom⟩]
          rw [hfz] at hK
          clear hz
          refine own_c (D := D) (k7.ok hf) (hI.keep k7) (hw.keep fun r hr => k7.get r (hI r hr)) hs fun w8 m s8 h8 o8 => ?_
          have r8 := r7.then h8
          have k8 := k7.then h8
          have f8 : s8.floor ≤ s.next := by rw [k8.floor]; exact hf
          have t8 := o8.tab
          have n7 := r7.n
          have n78 := h8.next
          have sp8 : Spans s8 (fun q => s6.next ≤ q ∧ q < s7.next) v7 (addP t.spans p.sp) := (o7.sl (D := fun q => s6.next ≤ q ∧ q < s7.next) (span_cells _) fun r n e => o7.row r 0 n 2 e).keep fun q hq => h8.get q hq.2
          have c7 := sp8.cell
          simp only [tabC]
          (repeat' (with_reducible first|refine w_1 ?_|refine w_2 ?_|simp (maxDischargeDepth:=12) only [viz,↓reduceIte,Nat.reduceEqDiff,Nat.reduceAdd,r8.a,r8.b,f8,t8.sp.cell,t8.fr.cell,t8.ho.cell,t8.ma.cell,t8.it.cell,c7,cells_cell c7]))
          generalize hS8 : (s8.put s.next _).put s.next _ = S8
          have S8n : S8.next = s8.next := by rw [← hS8]; rfl
          have S8f : S8.floor = s8.floor := by rw [← hS8]; rfl
          have S8g : ∀ q, q ≠ s.next → S8.get q = s8.get q := fun q hq => by
            rw [← hS8]; simp only [Mem.get_put, if_neg hq]
          have S8t : S8.get s.next = some ⟨27, 6, [[.int .i64 t.now, v7, w8.fr, w8.ho, w8.ma, w8.it]]⟩ := by
            rw [← hS8]; simp only [Mem.get_put, if_pos]
          clear hS8
          have n8 := r8.n
          have hmks : ∀ m ∈ p.ma, m.key.length ≤ 64 ∧ 0 < m.token := fun m hx => by
            have h1 := ((marks_iff _).mp hmm).2.1 m hx
            have h2 := hmk m hx
            simp only [mayM, Bool.and_eq_true, decide_eq_true_eq, Bool.not_eq_true', decide_eq_false_iff_not] at h1
            exact ⟨h1.1, by have := h1.2; omega⟩
          have hDl : ∀ r, D r → S8.get r = s.get r := fun r hr => by
            have := hI r hr
            rw [S8g r (by omega)]; exact k8.get r this
          refine unpack_c (D := D) (by omega) (fun r hr => by rw [S8n]; have := hI r hr; omega) (hh.keep hDl) (by omega) n0 n1 hmh fun v9 s9 h9 o9 => ?_
          have hHS := till_may (now := t.now) n0 hmh
          have lHS : (p.ho.map (tillG (unpG t.now))).length = p.ho.length := List.length_map ..
          have e9 := o9.sl (D := fun q => s8.next ≤ q ∧ q < s9.next) (hold_cells _) fun r n e => by have := o9.row r 0 n 3 e; omega
          have eH : p.ho.map (tillG fun n => min 2147483647 (n + t.now)) = p.ho.map (tillG (unpG t.now)) := rfl
          rw [eH] at e9
          have hK2 : ∀ w' s', Keep s.next s s' → TabIn s' (fun r => s.next ≤ r ∧ r < s'.next) w' (putT t (addP t.spans p.sp) (p.ho.map (tillG (unpG t.now))) p.ma) → K (.tup [.agg (tabC (putT t (addP t.spans p.sp) (p.ho.map (tillG (unpG t.now))) p.ma) w'), .int .i64 0]) s' := hK
          generalize p.ho.map (tillG (unpG t.now)) = HS at *
          clear hK eH o9
          have n9 := h9.next
          have t9 : s9.get s.next = _ := (h9.get _ (by omega)).trans S8t
          have f9 : s9.floor ≤ s.next := by rw [h9.floor, S8f]; exact f8
          have g9 : ∀ q, s.next < q → q < s8.next → s9.get q = s8.get q := fun q h1 h2 => by rw [h9.get q (by omega), S8g q (by omega)]
          have l9 : lenA false v9 = some HS.length := e9.lenB
          have ti9 : TabIn s9 (fun q => s6.next ≤ q ∧ q < s9.next) ⟨v7, w8.fr, w8.ho, w8.ma, w8.it⟩ (putT t (addP t.spans p.sp) [] []) := by
            have g : ∀ q, s7.next ≤ q ∧ q < s8.next → s9.get q = s8.get q := fun q hq => g9 q (by omega) hq.2
            exact ⟨(sp8.keep fun q hq => g9 q (by omega) (by omega)).mono fun q hq => by omega, (t8.fr.keep g).mono fun q hq => by omega, (t8.ho.keep g).mono fun q hq => by omega, (t8.ma.keep g).mono fun q hq => by omega, (t8.it.keep g).mono fun q hq => by omega⟩
          have k9 : Keep s.next s s9 := ⟨by have := k8.next; omega, by rw [h9.floor, S8f]; exact k8.floor, fun q hq => by rw [h9.get q (by omega), S8g q (by omega)]; exact k8.get q hq⟩
          have c9 : s9.get (s.next + 1 + 1) = _ := (g9 _ (by omega) (by omega)).trans r8.c
          have p9 : s9.get (s.next + 1) = _ := (g9 _ (by omega) (by omega)).trans r8.b
          (repeat' (with_reducible first|refine w_1 ?_|refine w_2 ?_|refine w_3 ?_|simp (maxDischargeDepth:=12) only [viz,↓reduceIte,l9]))
          refine W_inv HS.length (fun i E s' => ∃ w', s'.get s.next = some ⟨27, 6, [tabC (putT t (addP t.spans p.sp) (HS.take i) []) w']⟩ ∧ TabIn s' (fun q => s6.next ≤ q ∧ q < s'.next) w' (putT t (addP t.spans p.sp) (HS.take i) []) ∧ ((∀ q, q < s9.next → q ≠ s.next → s'.get q = s9.get q) ∧ s9.next ≤ s'.next ∧ s'.floor = s9.floor) ∧ E.get 2 = .ptr s.next 0 0 ∧ E.get 3 = .ptr (s.next + 1) 0 0 ∧ E.get 4 = .ptr (s.next + 1 + 1) 0 0 ∧ E.get 99 = v9 ∧ E.get 100 = .int .i64 HS.length ∧ E.get 101 = .int .i64 i) (by delta cf20l0 oo on om og oc ou; exact rfl) ?_ ?_
          · refine ⟨⟨v7, w8.fr, w8.ho, w8.ma, w8.it⟩, t9, ti9, ⟨fun q _ _ => rfl, Nat.le_refl _, rfl⟩, (by simp only [ev, Env.get_set, ↓reduceIte, Nat.reduceEqDiff]), (by simp only [ev, Env.get_set, ↓reduceIte, Nat.reduceEqDiff]), (by simp only [ev, Env.get_set, ↓reduceIte, Nat.reduceEqDiff]), (by simp only [ev, Env.get_set, ↓reduceIte, Nat.reduceEqDiff]), (by simp only [ev, Env.get_set, ↓reduceIte, Nat.reduceEqDiff]), ?_⟩
            simp only [ev, Env.get_set, ↓reduceIte, Nat.reduceEqDiff]; rfl
          rintro i E s10 hile _ ⟨w', a10, t10, ⟨o10, n10, f10⟩, q2, q3, q4, q99, q100, q101⟩
          have f10' : s10.floor ≤ s.next := by rw [f10]; exact f9
          have f10'' : s10.floor ≤ s10.next := by omega
          by_cases hlt : i < HS.length
          · obtain ⟨x, hx⟩ := get_of hlt
            have e10 : Sl s10 (fun q => s8.next ≤ q ∧ q < s9.next) v9 3 (HS.map holdC) := e9.keep fun q hq => o10 q (by omega) (by omega)
            obtain ⟨q, hq, P, hld⟩ := e10.ldk (fun q hq => by omega) hx rfl rfl
            have hld' := hld _ (Keep.refl _ _)
            simp only [holdC] at hld'
            have ne10 : (s.next = s10.next) = False := by simp; omega
            have htk : HS.take (i + 1) = HS.take i ++ [x] := by rw [List.take_add_one, hx]; rfl
            have hp10 := pushes s10 ⟨58, 3, [[.str x.key, .int .u64 x.token, .int .i64 x.till]]⟩
            have hxm := hHS x (List.mem_of_getElem? hx)
            obtain ⟨z1, z2⟩ := setFs_ok (HS.take i) t.holds hoo (fun y hy => hHS y (List.mem_of_mem_take hy)) (by rw [List.length_take]; omega)
            rw [List.length_take] at z2
            simp only [tabC] at a10
            (repeat' (with_reducible first|refine w_1 ?_|refine w_2 ?_|refine w_3 ?_|refine w_4 ?_|refine w_5 ?_|simp (maxDischargeDepth:=12) only [viz,↓reduceIte,Nat.reduceEqDiff,Nat.reduceAdd,q2,q99,q100,q101,lt_true hlt,hq,hld',f10'',a10,ne10]))
            have np := hp10.next
            simp only [next_push'] at np
            refine set_c (l := (HS.take i).foldl setF t.holds) (h := x) (D := fun q => s6.next ≤ q ∧ q < s10.next) (hp10.ok f10'') (fun q hq => by rw [next_push']; omega) (t10.ho.keep fun q hq => hp10.get q hq.2) (by omega) z1 hxm fun v11 s11 h11 e11 => ?_
            have h11' := hp10.then h11
            have n11 := h11'.next
            have a11 := (h11'.get s.next (by omega)).trans a10
            have f11 : s11.floor ≤ s.next := by rw [h11'.floor]; exact f10'
            have c11 := e11.cell
            (repeat' (with_reducible first|refine w_2 ?_|simp (maxDischargeDepth:=12) only [viz,↓reduceIte,Nat.reduceEqDiff,Nat.reduceAdd,q2,q3,q4,q99,q100,q101,a11,f11,c11,cells_cell c11]))
            refine ⟨hlt, ⟨w'.sp, w'.fr, v11, w'.ma, w'.it⟩, rfl, ?_, ⟨fun q p1 p2 => ?_, by omega, by rw [h11'.floor]; exact f10⟩, succ_av (by omega)⟩
            · have g : ∀ q, s6.next ≤ q ∧ q < s10.next → (s11.put s.next (some ⟨27, 6, [[.int .i64 (putT t (addP t.spans p.sp) (HS.take i) []).now, w'.sp, w'.fr, v11, w'.ma, w'.it]]⟩)).get q = s10.get q := fun q hq => by
                rw [Mem.get_put, if_neg (by omega)]; exact h11'.get q hq.2
              have m : ∀ q, s6.next ≤ q ∧ q < s10.next → s6.next ≤ q ∧ q < s11.next := fun q hq => by omega
              refine ⟨(t10.sp.keep g).mono m, (t10.fr.keep g).mono m, ?_, (t10.ma.keep g).mono m, (t10.it.keep g).mono m⟩
              show Holds _ _ v11 ((HS.take (i + 1)).foldl setF t.holds)
              rw [htk, List.foldl_append]
              refine (e11.keep fun q hq => ?_).mono fun q hq => ?_
              · simp only [next_push'] at hq
                rw [Mem.get_put, if_neg (by omega)]
              · simp only [next_push'] at hq
                exact ⟨by omega, hq.2⟩
            · rw [if_neg p2, h11'.get q (by omega)]; exact o10 q p1 p2
          have hfull : HS.take i = HS := List.take_of_length_le (by omega)
          rw [hfull] at a10 t10
          have p10 : s10.get (s.next + 1) = _ := (o10 _ (by omega) (by omega)).trans p9
          have c10 : s10.get (s.next + 1 + 1) = _ := (o10 _ (by omega) (by omega)).trans c9
          clear ti9 t9
          (repeat' (with_reducible first|refine w_1 ?_|refine w_2 ?_|refine w_3 ?_|refine w_4 ?_|refine w_7 ?_|simp (maxDischargeDepth:=12) only [viz,↓reduceIte,Nat.reduceEqDiff,Nat.reduceAdd,q3,q100,q101,lt_false hlt,p10,l5]))
          refine W_inv p.ma.length (fun i E s' => ∃ w', s'.get s.next = some ⟨27, 6, [tabC (putT t (addP t.spans p.sp) HS (p.ma.take i)) w']⟩ ∧ TabIn s' (fun q => s6.next ≤ q ∧ q < s'.next) w' (putT t (addP t.spans p.sp) HS (p.ma.take i)) ∧ ((∀ q, q < s9.next → q ≠ s.next → s'.get q = s9.get q) ∧ s9.next ≤ s'.next ∧ s'.floor = s9.floor) ∧ E.get 2 = .ptr s.next 0 0 ∧ E.get 4 = .ptr (s.next + 1 + 1) 0 0 ∧ E.get 112 = mv ∧ E.get 113 = .int .i64 p.ma.length ∧ E.get 114 = .int .i64 i) (by delta cf20l1 oo on om og oc ou; exact rfl) ?_ ?_
          · refine ⟨w', a10, t10, ⟨o10, n10, f10⟩, ?_, ?_, ?_, ?_, ?_⟩
            all_goals simp only [ev, Env.get_set, ↓reduceIte, Nat.reduceEqDiff, q2, q4]
            all_goals rfl
          rintro i E s10 hile _ ⟨w', a10, t10, ⟨o10, n10, f10⟩, q2, q4, q112, q113, q114⟩
          have f10' : s10.floor ≤ s.next := by rw [f10]; exact f9
          have f10'' : s10.floor ≤ s10.next := by omega
          by_cases hlt : i < p.ma.length
          · obtain ⟨x, hx⟩ := get_of hlt
            have e10 : Marks s10 D mv p.ma := hm.keep fun q hq => by
              have := hI q hq
              rw [o10 q (by omega) (by omega)]; exact k9.get q this
            obtain ⟨q, hq, P, hld⟩ := e10.ldk (fun q hq => by have := hI q hq; omega) hx rfl rfl
            have hld' := hld _ (Keep.refl _ _)
            simp only [markC] at hld'
            have ne10 : (s.next = s10.next) = False := by simp; omega
            have htk : p.ma.take (i + 1) = p.ma.take i ++ [x] := by rw [List.take_add_one, hx]; rfl
            have hp10 := pushes s10 ⟨68, 2, [[.str x.key, .int .u64 x.token]]⟩
            obtain ⟨x1, x2⟩ := hmks x (List.mem_of_getElem? hx)
            obtain ⟨z1, z2⟩ := markFs_ok (p.ma.take i) t.marks mao (fun y hy => hmks y (List.mem_of_mem_take hy)) (by rw [List.length_take]; omega)
            rw [List.length_take] at z2
            simp only [tabC] at a10
            (repeat' (with_reducible first|refine w_1 ?_|refine w_2 ?_|refine w_3 ?_|refine w_4 ?_|refine w_5 ?_|simp (maxDischargeDepth:=12) only [viz,↓reduceIte,Nat.reduceEqDiff,Nat.reduceAdd,q2,q112,q113,q114,lt_true hlt,hq,hld',f10'',a10,ne10]))
            have np := hp10.next
            simp only [next_push'] at np
            refine mark_c (l := (p.ma.take i).foldl markF t.marks) (k := x.key) (token := x.token) (D := fun q => s6.next ≤ q ∧ q < s10.next) (hp10.ok f10'') (fun q hq => by rw [next_push']; omega) (t10.ma.keep fun q hq => hp10.get q hq.2) (by omega) z1 x1 x2 fun v11 s11 h11 e11 => ?_
            have h11' := hp10.then h11
            have n11 := h11'.next
            have a11 := (h11'.get s.next (by omega)).trans a10
            have f11 : s11.floor ≤ s.next := by rw [h11'.floor]; exact f10'
            have c11 := e11.cell
            (repeat' (with_reducible first|refine w_2 ?_|simp (maxDischargeDepth:=12) only [viz,↓reduceIte,Nat.reduceEqDiff,Nat.reduceAdd,q2,q4,q112,q113,q114,a11,f11,c11,cells_cell c11]))
            refine ⟨hlt, ⟨w'.sp, w'.fr, w'.ho, v11, w'.it⟩, rfl, ?_, ⟨fun q p1 p2 => ?_, by omega, by rw [h11'.floor]; exact f10⟩, succ_av (by omega)⟩
            · have g : ∀ q, s6.next ≤ q ∧ q < s10.next → (s11.put s.next (some ⟨27, 6, [[.int .i64 (putT t (addP t.spans p.sp) HS (p.ma.take i)).now, w'.sp, w'.fr, w'.ho, v11, w'.it]]⟩)).get q = s10.get q := fun q hq => by
                rw [Mem.get_put, if_neg (by omega)]; exact h11'.get q hq.2
              have m : ∀ q, s6.next ≤ q ∧ q < s10.next → s6.next ≤ q ∧ q < s11.next := fun q hq => by omega
              refine ⟨(t10.sp.keep g).mono m, (t10.fr.keep g).mono m, (t10.ho.keep g).mono m, ?_, (t10.it.keep g).mono m⟩
              show Marks _ _ v11 ((p.ma.take (i + 1)).foldl markF t.marks)
              rw [htk, List.foldl_append]
              refine (e11.keep fun q hq => ?_).mono fun q hq => ?_
              · simp only [next_push'] at hq
                rw [Mem.get_put, if_neg (by omega)]
              · simp only [next_push'] at hq
                exact ⟨by omega, hq.2⟩
            · rw [if_neg p2, h11'.get q (by omega)]; exact o10 q p1 p2
          have hfull : p.ma.take i = p.ma := List.take_of_length_le (by omega)
          rw [hfull] at a10 t10
          have c10 : s10.get (s.next + 1 + 1) = _ := (o10 _ (by omega) (by omega)).trans c9
          have f10c : s10.floor ≤ s.next + 1 + 1 := by omega
          simp only [tabC] at a10
          (repeat' (with_reducible first|refine w_1 ?_|refine w_2 ?_|refine w_4 ?_|refine w_6 ?_|refine w_7 ?_|simp (maxDischargeDepth:=12) only [viz,↓reduceIte,Nat.reduceEqDiff,Nat.reduceAdd,q2,q4,q113,q114,lt_false hlt,a10,c10,f10c,t10.sp.cell,t10.fr.cell,t10.ho.cell,t10.ma.cell,t10.it.cell]))
          generalize hPe : Mem.put _ _ _ = P
          have hPg : ∀ q, q ≠ s.next + 1 + 1 → P.get q = s10.get q := fun q h1 => by rw [← hPe, Mem.get_put, if_neg h1]
          have hPn : P.next = s10.next := by rw [← hPe]; rfl
          have hPf : P.floor = s10.floor := by rw [← hPe]; rfl
          have kn9 := k9.next
          refine hK2 w' P ⟨by omega, by rw [hPf, f10]; exact k9.floor, fun q hq => by rw [hPg q (by omega), o10 q (by omega) (by omega)]; exact k9.get q hq⟩ ((t10.keep fun q hq => hPg q (by omega)).mono fun q hq => by omega)
        · exact hz _ _ _ k4 (bad (by grind [mayP]))
      · exact hz _ _ _ k3 (bad (by grind [mayP]))
    · exact hz _ _ _ k2 (bad (by grind [mayP]))
  · refine hz _ _ _ k1 ?_
    unfold impP
    rw [if_pos (by grind)]
end Go.Proofs.YthibbbfhkfebkaaGreat

