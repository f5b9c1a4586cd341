/- Holds and marks that are sought. No statement of the seat is proved here. -/
import Derived.Test.YthibbbfhkfebkaaGreatVZTB
import Derived.Test.YthibbbfhkfebkaaGreatVZTD
import Derived.Test.YthibbbfhkfebkaaGreatVZVE
namespace Go.Proofs.YthibbbfhkfebkaaGreat
open Go Go.VI
set_option linter.unusedSimpArgs false
def holdA (x : Hold) : AV := .agg (holdC x)
def markA (x : Mark) : AV := .agg (markC x)
def findH (l : List Hold) (k : Txt) : Option Hold := l.find? fun x => x.key == k
def gotH (o : Option Hold) : Hold := o.getD ⟨[], 0, 0⟩
def lastM (l : List Mark) (k : Txt) : Int := match l.find? fun x => x.key == k with | some m => m.token | none => 0
theorem find_some {α : Type} {l : List α} {p : α → Bool} {i : Nat} (h : l.findIdx? p = some i) : ∃ x, l[i]? = some x ∧ l.find? p = some x := by
  obtain ⟨hl, hp, _⟩ := List.findIdx?_eq_some_iff_getElem.mp h
  refine ⟨l[i], List.getElem?_eq_getElem hl, ?_⟩
  rw [List.find?_eq_bind_findIdx?_getElem?, h]
  simp [hl]
theorem find_none {α : Type} {l : List α} {p : α → Bool} (h : l.findIdx? p = none) : l.find? p = none := by
  rw [List.find?_eq_bind_findIdx?_getElem?, h]; rfl
attribute [local irreducible] Ws Wp W C
set_option maxHeartbeats 4000000
theorem maIx_c {l : List Mark} {v : AV} {D : Nat → Prop} {f : Nat} {cp : List AV} {p : Mark → Bool} {G : Mem → Prop} {s : Mem} {K : AV → Mem → Prop} (hI : In D s) (hv : Marks s D v l) (hl : l.length < 1000000000)
    (hG : ∀ M, Keep s.next s M → G M) (hp : FnP markA G f cp p)
    (hK : ∀ s', Keep s.next s s' → K (.int .i64 (idx l p)) s') : C tab 118 [v, .fn f cp] s K := by
  refine C_enter (cf := cf118) rfl (Nat.le_of_ble_eq_true rfl) ?_
  simp only [cf118, oo, on, om, og, oc, ou]
  have hlen : lenA false v = some l.length := hv.lenB
  (repeat' (with_reducible first|refine w_1 ?_|refine w_2 ?_|refine w_3 ?_|simp (maxDischargeDepth:=12) only [viz,↓reduceIte,Int.reduceNeg,Nat.reduceAdd,hlen]))
  refine W_inv l.length (fun i E s' => Keep s.next s s' ∧ E.get 0 = v ∧ E.get 1 = .fn f cp ∧ E.get 7 = .int .i64 l.length ∧ E.get 8 = .int .i64 i ∧ ∀ j x, j < i → l[j]? = some x → p x = false) (by delta cf118l0 oo on om og oc ou; exact rfl) ?_ ?_
  · (repeat' with_reducible simp (maxDischargeDepth:=12) only [viz,↓reduceIte,Nat.reduceEqDiff,reduceCtorEq])
    exact ⟨rfl, by omega⟩
  rintro i E s' hile _ ⟨hi, g0, g1, g7, g8, hno⟩
  by_cases hlt : i < l.length
  · obtain ⟨x, hx⟩ := get_of hlt
    obtain ⟨q, hq, P, hld⟩ := hv.ldk hI hx rfl rfl
    have hld' := hld _ hi
    (repeat' (with_reducible first|refine w_1 ?_|refine w_2 ?_|refine w_3 ?_|refine w_4 ?_|refine w_5 ?_|simp (maxDischargeDepth:=12) only [viz,↓reduceIte,Nat.reduceEqDiff,reduceCtorEq,Int.reduceNeg,g0,g1,g7,g8,lt_true hlt,hq,hld']))
    refine hp x s' _ (hG _ hi) fun s2 h2 => ?_
    (repeat' (with_reducible first|refine w_1 ?_|refine w_2 ?_|refine w_4 ?_|refine w_5 ?_|refine w_6 ?_|(refine w_8 (fun hb=>?_) (fun hb=>?_)<;>(try simp only [Bool.not_eq_true',Bool.not_eq_false'] at hb)<;>try simp only [hb])|simp (maxDischargeDepth:=12) only [viz,↓reduceIte,Nat.reduceEqDiff,reduceCtorEq,Int.reduceNeg,g0,g1,g7,g8]))
    · unfold idx at hK
      rw [idx_at hx hb hno] at hK
      exact hK _ (hi.then h2)
    · refine ⟨hlt, hi.then h2, succ_av (by omega), fun j y hj hy => ?_⟩
      by_cases hji : j = i
      · rw [hji, hx] at hy; obtain rfl := Option.some.inj hy; exact hb
      · exact hno j y (by omega) hy
  · (repeat' (with_reducible first|refine w_1 ?_|refine w_2 ?_|refine w_4 ?_|refine w_6 ?_|refine w_7 ?_|simp (maxDischargeDepth:=12) only [viz,↓reduceIte,Int.reduceNeg,g7,g8,lt_false hlt]))
    unfold idx at hK
    rw [idx_no fun j x hj => hno j x (by omega)] at hK
    exact hK _ hi
end Go.Proofs.YthibbbfhkfebkaaGreat
/- Tables; holds and marks that are here. No statement of the seat is proved here. -/
namespace Go.Proofs.YthibbbfhkfebkaaGreat
open Go Go.VI
set_option linter.unusedSimpArgs false
abbrev Ints (s : Mem) (D : Nat → Prop) (v : AV) (l : List Intent) : Prop := Sl s D v 6 (l.map intC)
structure Table where
  now : Int
  spans : List Span
  frozen : List Span
  holds : List Hold
  marks : List Mark
  ints : List Intent
structure TV where
  sp : AV
  fr : AV
  ho : AV
  ma : AV
  it : AV
def tabC (t : Table) (w : TV) : List AV := [.int .i64 t.now, w.sp, w.fr, w.ho, w.ma, w.it]
structure TabIn (s : Mem) (D : Nat → Prop) (w : TV) (t : Table) : Prop where
  sp : Spans s D w.sp t.spans
  fr : Spans s D w.fr t.frozen
  ho : Holds s D w.ho t.holds
  ma : Marks s D w.ma t.marks
  it : Ints s D w.it t.ints
theorem TabIn.keep {s s' : Mem} {D : Nat → Prop} {w : TV} {t : Table} (h : TabIn s D w t) (hD : ∀ r, D r → s'.get r = s.get r) : TabIn s' D w t := ⟨h.sp.keep hD, h.fr.keep hD, h.ho.keep hD, h.ma.keep hD, h.it.keep hD⟩
theorem TabIn.mono {s : Mem} {D D' : Nat → Prop} {w : TV} {t : Table} (h : TabIn s D w t) (hD : ∀ r, D r → D' r) : TabIn s D' w t := ⟨h.sp.mono hD, h.fr.mono hD, h.ho.mono hD, h.ma.mono hD, h.it.mono hD⟩
structure Small (t : Table) : Prop where
  sp : t.spans.length ≤ 100
  fr : t.frozen.length ≤ 100
  ho : t.holds.length ≤ 2000
  ma : t.marks.length ≤ 2000
  it : t.ints.length ≤ 2000
def strEs (b : List Txt) : List (List AV) := b.map fun q => [.str q, .bool true]
theorem strEs_len (b : List Txt) : (strEs b).length = b.length := by simp [strEs]
theorem find_str (k : Txt) : ∀ (b : List Txt) (i : Nat), findM [.s] false [.str k] i (strEs b) = some (if b.contains k then some (i + b.idxOf k, .bool true) else none)
  | [], i => rfl
  | y :: b, i => by
    have hk : keyOk [.s] false (.str y) = true := rfl
    simp only [strEs, List.map_cons, findM]
    rw [if_pos hk]
    have e : eqL [.s] [.str k] (cells (.str y)) = some (k == y) := by
      show eqL [.s] [.str k] [.str y] = _
      have h1 : eqLf .s (.str k) (.str y) = some (k == y) := rfl
      simp only [eqL, h1]
      cases k == y <;> rfl
    simp only [e]
    by_cases h : k = y
    · subst h; simp
    · have h1 : (k == y) = false := by simpa using h
      have h2 : (y == k) = false := by simpa using fun e => h e.symm
      simp only [h1]
      have := find_str k b (i + 1)
      simp only [strEs] at this
      rw [this]
      simp only [List.contains_cons, h1, Bool.false_or, List.idxOf_cons, h2, cond_false]
      split <;> simp <;> omega
def insT (b : List Txt) (q : Txt) : List Txt := if b.contains q then b else b ++ [q]
theorem insT_has (b : List Txt) (q k : Txt) : (insT b q).contains k = (b.contains k || q == k) := by
  unfold insT
  split
  · rename_i h
    by_cases e : q = k
    · subst e; simp only [h, Bool.true_or]
    · have : (q == k) = false := by simpa using e
      rw [this, Bool.or_false]
  · by_cases e : q = k
    · subst e; simp
    · have h1 : (q == k) = false := by simpa using e
      have h2 : ¬ k = q := fun h => e h.symm
      simp [h1, h2]
theorem get_key {M : Mem} {r ty : Nat} {b : List Txt} (h : M.get r = some ⟨ty, 0, strEs b⟩) (k : Txt) :
    mapGetA M [.s] false (.bool false) (.mapv r) (.str k) = some (.bool (b.contains k), b.contains k) := by
  have hk : keyOk [.s] false (.str k) = true := rfl
  simp only [mapGetA, h, Option.bind_eq_bind, Option.bind_some, hk, if_true]
  rw [show cells (.str k) = [.str k] from rfl, find_str]
  by_cases hb : k ∈ b <;> simp [hb]
theorem put_key {M : Mem} {r ty : Nat} {b : List Txt} (h : M.get r = some ⟨ty, 0, strEs b⟩) (hf : M.floor ≤ r) (k : Txt) :
    mapPutA M [.s] false (.mapv r) (.str k) (.bool true) = some (M.put r (some ⟨ty, 0, strEs (insT b k)⟩)) := by
  have hk : keyOk [.s] false (.str k) = true := rfl
  simp only [mapPutA, h, Option.bind_eq_bind, Option.bind_some, hk, hf, and_self, if_true]
  rw [show cells (.str k) = [.str k] from rfl, find_str]
  by_cases hb : b.contains k = true
  · rw [if_pos hb]
    simp only [insT, if_pos hb]
    have hm : k ∈ b := by simpa using hb
    have hlt := List.idxOf_lt_length_iff.mpr hm
    congr 5
    apply List.ext_getElem?
    intro j
    rw [List.getElem?_set]
    by_cases hj : 0 + b.idxOf k = j
    · subst hj
      rw [if_pos rfl, strEs_len, if_pos (by omega), Nat.zero_add]
      simp only [strEs, List.getElem?_map]
      rw [List.getElem?_eq_getElem hlt, List.getElem_idxOf hlt]
      rfl
    · rw [if_neg hj]
  · rw [if_neg hb]
    simp only [insT, if_neg hb]
    simp [strEs]
def hereS (sp : List Span) (ho : List Hold) (ma : List Mark) : Bool := (ho.all fun h => inS sp h.key) && !(ma.any fun m => (ho.any fun h => h.key == m.key) || !inS sp m.key)
theorem cells_mapv (r : Nat) : cells (.mapv r) = [.mapv r] := rfl
theorem cell_mapv (r : Nat) : isCell (.mapv r) = true := rfl
attribute [local irreducible] Ws Wp W C
set_option maxHeartbeats 4000000
structure HereG (D : Nat → Prop) (sp : List Span) (v : AV) (b : List Txt) (r : Nat) (M : Mem) : Prop where
  m0 : M.get r = some ⟨22, 1, [[v]]⟩
  m1 : M.get (r + 1) = some ⟨151, 0, strEs b⟩
  m2 : M.get (r + 1 + 1) = some ⟨151, 1, [[.mapv (r + 1)]]⟩
  n : r + 3 ≤ M.next
  f : M.floor ≤ M.next
  v : Spans M D v sp
  i : In D M
theorem hereF (D : Nat → Prop) (sp : List Span) (v : AV) (b : List Txt) (r : Nat) (h1 : sp.length ≤ 2000) : FnP markA (HereG D sp v b r) 121 [.ptr (r + 1 + 1) 0 0, .ptr r 0 0] (fun m => b.contains m.key || !inS sp m.key) := by
  rintro x M K ⟨m0, m1, m2, n, f, hv, hI⟩ hK
  refine C_enter (cf := cf121) rfl (Nat.le_of_ble_eq_true rfl) ?_
  simp only [cf121, oo, on, om, og, oc, ou, markA, markC]
  have n0 : (r = M.next) = False := by simp; omega
  have n1 : (r + 1 = M.next) = False := by simp; omega
  have n2 : (r + 1 + 1 = M.next) = False := by simp; omega
  have hp := pushes M ⟨68, 2, [[.str x.key, .int .u64 x.token]]⟩
  have hg := get_key (M := M.push ⟨68, 2, [[.str x.key, .int .u64 x.token]]⟩) (r := r + 1) (b := b) (ty := 151) (by rw [hp.get _ (by omega)]; exact m1) x.key
  (repeat' (with_reducible first|refine w_1 ?_|refine w_2 ?_|refine w_6 ?_|(refine w_8 (fun hb=>?_) (fun hb=>?_)<;>(try simp only [Bool.not_eq_true',Bool.not_eq_false'] at hb)<;>try simp only [hb])|refine w_13 (fun hc=>(by (try simp only [Bool.and_eq_true] at hc);simp (maxDischargeDepth:=12) only [viz,↓reduceIte,Nat.reduceEqDiff,Nat.reduceAdd,m0,n0,cond_false,hc];first|exact ⟨rfl,rfl⟩|exact rfl)) ?_|refine w_12 ?_|((try refine w_9 ?_);simp (maxDischargeDepth:=12) only [viz,↓reduceIte,Nat.reduceAdd,m2,n2,hg])))
  · refine sin_c (D := D) (hp.ok f) (hI.keep hp) (hv.keep fun q hq => hp.get q (hI q hq)) (by omega) fun s1 h2 => ?_
    (repeat' (with_reducible first|refine w_6 ?_|((try refine w_9 ?_);simp (maxDischargeDepth:=12) only [viz,↓reduceIte])))
    exact K_of hK (hp.then h2) (by simp only [hb, Bool.false_or])
  · exact K_of hK hp (by simp only [hb, Bool.true_or])
theorem here_c {sp : List Span} {ho : List Hold} {ma : List Mark} {v w u : AV} {D : Nat → Prop} {s : Mem} {K : AV → Mem → Prop} (hf : s.floor ≤ s.next) (hI : In D s) (hv : Spans s D v sp) (hw : Holds s D w ho) (hu : Marks s D u ma) (h1 : sp.length ≤ 2000) (h2 : ho.length ≤ 2000) (h3 : ma.length ≤ 2000)
    (hK : ∀ s', Keep s.next s s' → K (.bool (hereS sp ho ma)) s') : C tab 68 [v, w, u] s K := by
  refine C_enter (cf := cf68) rfl (Nat.le_of_ble_eq_true rfl) ?_
  simp only [cf68, oo, on, om, og, oc, ou]
  have hlw : lenA false w = some ho.length := hw.lenB
  (repeat' (with_reducible first|refine w_1 ?_|refine w_2 ?_|refine w_3 ?_|simp (maxDischargeDepth:=12) only [viz,↓reduceIte,Nat.reduceEqDiff,Nat.reduceAdd,hf,hlw,hv.cell,cells_cell hv.cell,cells_mapv,cell_mapv]))
  refine W_inv ho.length (fun i E s' => ∃ b, Keep s.next s s' ∧ (s.next + 3 ≤ s'.next ∧ s'.get s.next = some ⟨22, 1, [[v]]⟩ ∧ s'.get (s.next + 1) = some ⟨151, 0, strEs b⟩ ∧ s'.get (s.next + 1 + 1) = some ⟨151, 1, [[.mapv (s.next + 1)]]⟩) ∧ (∀ k, b.contains k = (ho.take i).any fun h => h.key == k) ∧ ((ho.take i).all (fun h => inS sp h.key) = true) ∧ E.get 2 = u ∧ E.get 3 = .ptr s.next 0 0 ∧ E.get 7 = .ptr (s.next + 1 + 1) 0 0 ∧ E.get 11 = w ∧ E.get 12 = .int .i64 ho.length ∧ E.get 13 = .int .i64 i) (by delta cf68l0 oo on om og oc ou; exact rfl) ?_ ?_
  · refine ⟨[], (pushes s _).then ((pushes _ _).then (pushes _ _)), ⟨by simp only [next_push']; omega, ?_, ?_, ?_⟩, fun k => by simp, rfl, (by simp only [ev, Env.get_set, ↓reduceIte, Nat.reduceEqDiff]), (by simp only [ev, Env.get_set, ↓reduceIte, Nat.reduceEqDiff]), (by simp only [ev, Env.get_set, ↓reduceIte, Nat.reduceEqDiff]), (by simp only [ev, Env.get_set, ↓reduceIte, Nat.reduceEqDiff]), (by simp only [ev, Env.get_set, ↓reduceIte, Nat.reduceEqDiff]), by simp only [ev, Env.get_set, ↓reduceIte, Nat.reduceEqDiff]; rfl⟩
    · simp only [Mem.get_push, next_push']
      rw [if_neg (by omega), if_neg (by omega), if_pos trivial]
    · simp only [Mem.get_push, next_push']
      rw [if_neg (by omega), if_pos trivial]; rfl
    · simp only [Mem.get_push, next_push']
      rw [if_pos trivial]
  rintro i E s' hile _ ⟨b, hk, ⟨hn, m0, m1, m2⟩, hbm, hall, g2, g3, g7, g11, g12, g13⟩
  by_cases hlt : i < ho.length
  · obtain ⟨x, hx⟩ := get_of hlt
    obtain ⟨q, hq, P, hld⟩ := hw.ldk hI hx rfl rfl
    have hld' := hld _ hk
    simp only [holdC] at hld'
    have hfl : s'.floor ≤ s'.next := hk.ok hf
    have n0 : (s.next = s'.next) = False := by simp; omega
    have n1 : (s.next + 1 = s'.next) = False := by simp; omega
    have n2 : (s.next + 1 + 1 = s'.next) = False := by simp; omega
    have n3 : (s'.next = s.next + 1) = False := by simp; omega
    have hp := pushes s' ⟨58, 3, [[.str x.key, .int .u64 x.token, .int .i64 x.till]]⟩
    have hpt := put_key (M := s'.push ⟨58, 3, [[.str x.key, .int .u64 x.token, .int .i64 x.till]]⟩) (r := s.next + 1) (b := b) (ty := 151) (by rw [hp.get _ (by omega)]; exact m1) (by rw [hp.floor, hk.floor]; omega) x.key
    (repeat' (with_reducible first|refine w_1 ?_|refine w_2 ?_|refine w_3 ?_|refine w_4 ?_|refine w_5 ?_|simp (maxDischargeDepth:=12) only [viz,↓reduceIte,Nat.reduceEqDiff,Nat.reduceAdd,g3,g7,g11,g12,g13,lt_true hlt,hq,hld',hfl,m0,m2,n0,n2,n3,hpt]))
    generalize hPe : Mem.put _ _ _ = Q
    have hkQ : Keep (s.next + 1) s' Q := by rw [← hPe]; exact (hp.le (by omega)).trans (Keep.put (Nat.le_refl _) _)
    have hkQ' : Keep s.next s Q := hk.trans (hkQ.le (by omega))
    have q0 : Q.get s.next = some ⟨22, 1, [[v]]⟩ := (hkQ.get _ (by omega)).trans m0
    have q1 : Q.get (s.next + 1) = some ⟨151, 0, strEs (insT b x.key)⟩ := by rw [← hPe, Mem.get_put, if_pos rfl]
    have q2 : Q.get (s.next + 1 + 1) = some ⟨151, 1, [[.mapv (s.next + 1)]]⟩ := by
      rw [← hPe, Mem.get_put, if_neg (by omega), hp.get _ (by omega)]; exact m2
    have hnQ : s'.next ≤ Q.next := hkQ.next
    have e : ho.take (i + 1) = ho.take i ++ [x] := by rw [List.take_add_one, hx]; rfl
    refine sin_c (D := D) (hkQ'.ok hf) (hI.keep hkQ') (hv.keep fun q hq => hkQ'.get q (hI q hq)) (by omega) fun s2 h2 => ?_
    (repeat' (with_reducible first|refine w_1 ?_|refine w_2 ?_|refine w_4 ?_|refine w_5 ?_|refine w_6 ?_|(refine w_8 (fun hb=>?_) (fun hb=>?_)<;>(try simp only [Bool.not_eq_true',Bool.not_eq_false'] at hb)<;>try simp only [hb])|simp (maxDischargeDepth:=12) only [viz,↓reduceIte,Nat.reduceEqDiff,g2,g3,g7,g11,g12,g13]))
    · refine K_of hK (hkQ'.then h2) ?_
      have : (ho.all fun h => inS sp h.key) = false := by
        rw [List.all_eq_false]
        refine ⟨x, List.mem_of_getElem? hx, ?_⟩
        simp_all
      simp only [hereS, this, Bool.false_and]
    · refine ⟨hlt, insT b x.key, hkQ'.then h2, ⟨by have := h2.next; omega, ?_, ?_, ?_⟩, fun k => ?_, ?_, succ_av (by omega)⟩
      · rw [h2.get _ (by omega)]; exact q0
      · rw [h2.get _ (by omega)]; exact q1
      · rw [h2.get _ (by omega)]; exact q2
      · rw [insT_has, hbm, e, List.any_append]; simp
      · rw [e, List.all_append, hall]; simp_all
  · (repeat' (with_reducible first|refine w_1 ?_|refine w_2 ?_|refine w_4 ?_|refine w_7 ?_|simp (maxDischargeDepth:=12) only [viz,↓reduceIte,Nat.reduceEqDiff,g2,g3,g7,g12,g13,lt_false hlt]))
    rw [List.take_of_length_le (by omega)] at hbm hall
    refine C_enter (cf := cf120) rfl (Nat.le_of_ble_eq_true rfl) ?_
    simp only [cf120, oo, on, om, og, oc, ou]
    (repeat' (with_reducible first|refine w_1 ?_|refine w_2 ?_|simp (maxDischargeDepth:=12) only [viz,↓reduceIte,Nat.reduceAdd]))
    refine maIx_c (D := D) (G := HereG D sp v b s.next) (p := fun m => b.contains m.key || !inS sp m.key) (hI.keep hk) (hu.keep fun q hq => hk.get q (hI q hq)) (by omega) (fun M hM => ?_) (hereF D sp v b s.next (by omega)) fun s1 h1 => ?_
    · have hkM := hk.then hM
      exact ⟨by rw [hM.get _ (by omega)]; exact m0, by rw [hM.get _ (by omega)]; exact m1, by rw [hM.get _ (by omega)]; exact m2, by have := hM.next; omega, hkM.ok hf, hv.keep fun q hq => hkM.get q (hI q hq), hI.keep hkM⟩
    · (repeat' (with_reducible first|refine w_6 ?_|simp (maxDischargeDepth:=12) only [viz,↓reduceIte]))
      refine K_of hK (hk.then h1) ?_
      rw [any_idx]
      simp only [hereS, hall, Bool.true_and, hbm]
end Go.Proofs.YthibbbfhkfebkaaGreat
/- Intents that may be; tables that may be. No statement of the seat is proved here. -/
namespace Go.Proofs.YthibbbfhkfebkaaGreat
open Go Go.VI
set_option linter.unusedSimpArgs false
def intOk (p : Option Intent) (x : Intent) : Bool := decide (x.key.length ≤ 64) && idS x.client x.seq && lastsS x.kind x.ttl && !decide (x.token = 0) && (match p with | none => true | some q => bl q.key x.key)
def intIn (sp : List Span) (p : Option Intent) (x : Intent) : Bool := intOk p x && inS sp x.key
def roomS (t : Table) : Bool := decide (t.holds.length + t.marks.length + t.ints.length ≤ 1024)
def intsS (t : Table) : Bool := rising (intIn t.spans) none t.ints && roomS t
attribute [local irreducible] Ws Wp W C
set_option maxHeartbeats 4000000
theorem intents_c {t : Table} {w : TV} {D : Nat → Prop} {s : Mem} {K : AV → Mem → Prop} (hf : s.floor ≤ s.next) (hI : In D s) (hw : TabIn s D w t) (hs : Small t)
    (hK : ∀ s', Keep s.next s s' → K (.bool (intsS t)) s') : C tab 88 [.agg (tabC t w)] s K := by
  refine C_enter (cf := cf88) rfl (Nat.le_of_ble_eq_true rfl) ?_
  simp only [cf88, oo, on, om, og, oc, ou, tabC]
  have hlen : lenA false w.it = some t.ints.length := hw.it.lenB
  have hlh : lenA false w.ho = some t.holds.length := hw.ho.lenB
  have hlm : lenA false w.ma = some t.marks.length := hw.ma.lenB
  obtain ⟨a1, a2, a3, a4, a5⟩ := hs
  (repeat' (with_reducible first|refine w_1 ?_|refine w_2 ?_|refine w_3 ?_|simp (maxDischargeDepth:=12) only [viz,↓reduceIte,Nat.reduceAdd,hlen,hw.sp.cell,hw.fr.cell,hw.ho.cell,hw.ma.cell,hw.it.cell]))
  have hq := Kp.of_push s ⟨27, 6, [[.int .i64 t.now, w.sp, w.fr, w.ho, w.ma, w.it]]⟩
  have bad : rising (intIn t.spans) none t.ints = false → ∀ s', Keep s.next s s' → K (.bool false) s' := fun h s' hs => by
    have := hK s' hs
    rw [intsS, h, Bool.false_and] at this
    exact this
  refine W_inv t.ints.length (fun i E s' => Kp s ⟨27, 6, [[.int .i64 t.now, w.sp, w.fr, w.ho, w.ma, w.it]]⟩ s' ∧ E.get 1 = .ptr s.next 0 0 ∧ E.get 6 = w.it ∧ E.get 7 = .int .i64 t.ints.length ∧ E.get 8 = .int .i64 i ∧ rising (intIn t.spans) none t.ints = rising (intIn t.spans) (prevOf t.ints i) (t.ints.drop i)) (by delta cf88l0 oo on om og oc ou; exact rfl) ?_ ?_
  · (repeat' with_reducible simp (maxDischargeDepth:=12) only [viz,↓reduceIte,Nat.reduceEqDiff])
    exact ⟨hq, rfl, rfl⟩
  rintro i E s' hile _ ⟨q, g1, g6, g7, g8, hr⟩
  have qg := q.g
  have hqn := q.n
  have hfl : s'.floor ≤ s'.next := q.k.ok hf
  by_cases hlt : i < t.ints.length
  · obtain ⟨x, hx⟩ := get_of hlt
    obtain ⟨p, hp, P, hld⟩ := hw.it.ldk hI hx rfl rfl
    have hld' := hld _ q.k
    have hlx := lt_true hlt
    have e0 := gt64 x.key.length
    have hne : (s.next = s'.next) = False := by simp; omega
    have hp1 := pushes s' ⟨70, 6, [intC x]⟩
    rw [rising_step hx] at hr
    simp only [intC] at hld' hp1
    have qx0 := Kp.of_push s' ⟨70, 6, [[.str x.key, .int .i64 x.client, .int .u64 x.seq, .int .i64 x.kind, .int .u64 x.token, .int .i64 x.ttl]]⟩
    have qt0 := q.then hp1
    rcases i with _ | j
    all_goals first
      | (have h0 : ((0 : Nat) : Int) = 0 := rfl
         rw [h0] at hp hlx
         (repeat' (with_reducible first|refine w_1 ?_|refine w_2 ?_|refine w_3 ?_|refine w_4 ?_|refine w_5 ?_|refine w_6 ?_|(refine w_8 (fun hb=>?_) (fun hb=>?_)<;>(try simp only [Bool.not_eq_true',Bool.not_eq_false'] at hb)<;>try simp only [hb])|refine w_13 (fun hc=>(by (try simp only [Bool.and_eq_true] at hc);simp (maxDischargeDepth:=12) only [viz,↓reduceIte,Nat.reduceEqDiff,Nat.reduceAdd, Int.reduceBEq, Int.reduceBNe, Int.reduceLT, Int.reduceLE, Int.reduceGT, Int.reduceGE,cond_true,cond_false,hc];first|exact ⟨rfl,rfl⟩|exact rfl)) ?_|refine w_12 ?_|((try refine w_9 ?_);simp (maxDischargeDepth:=12) only [viz,↓reduceIte,Nat.reduceEqDiff,Nat.reduceAdd,g6,g7,g8,h0,hlx,hp,hld',hfl,e0, Int.reduceBEq, Int.reduceBNe, Int.reduceLT, Int.reduceLE, Int.reduceGT, Int.reduceGE])))
         refine id_c fun s2 h2 => ?_
         have qx := (qx0.then h2).g
         have qt := (qt0.then h2).g
         (repeat' (with_reducible first|refine w_1 ?_|refine w_2 ?_|refine w_4 ?_|refine w_6 ?_|(refine w_8 (fun hb=>?_) (fun hb=>?_)<;>(try simp only [Bool.not_eq_true',Bool.not_eq_false'] at hb)<;>try simp only [hb])|refine w_13 (fun hc=>(by (try simp only [Bool.and_eq_true] at hc);simp (maxDischargeDepth:=12) only [viz,↓reduceIte,Nat.reduceEqDiff,Nat.reduceAdd,qx, Int.reduceBEq, Int.reduceBNe, Int.reduceLT, Int.reduceLE, Int.reduceGT, Int.reduceGE,cond_true,cond_false,hc];first|exact ⟨rfl,rfl⟩|exact rfl)) ?_|refine w_12 ?_|((try refine w_9 ?_);simp (maxDischargeDepth:=12) only [viz,↓reduceIte,Nat.reduceEqDiff, Int.reduceBEq, Int.reduceBNe, Int.reduceLT, Int.reduceLE, Int.reduceGT, Int.reduceGE]))))
      | (obtain ⟨y, hy⟩ := get_of (l := t.ints) (i := j) (by omega)
         obtain ⟨p2, hp2, P2, _⟩ := hw.it.ldk hI hy rfl rfl
         have hj : decide (((j + 1 : Nat) : Int) > 0) = true := by simp
         have hpj := pred_cast j (by omega)
         (repeat' (with_reducible first|refine w_1 ?_|refine w_2 ?_|refine w_3 ?_|refine w_4 ?_|refine w_5 ?_|refine w_6 ?_|(refine w_8 (fun hb=>?_) (fun hb=>?_)<;>(try simp only [Bool.not_eq_true',Bool.not_eq_false'] at hb)<;>try simp only [hb])|refine w_13 (fun hc=>(by (try simp only [Bool.and_eq_true] at hc);simp (maxDischargeDepth:=12) only [viz,↓reduceIte,Nat.reduceEqDiff,Nat.reduceAdd,cond_true,cond_false,hc];first|exact ⟨rfl,rfl⟩|exact rfl)) ?_|refine w_12 ?_|((try refine w_9 ?_);simp (maxDischargeDepth:=12) only [viz,↓reduceIte,Nat.reduceEqDiff,Nat.reduceAdd,g6,g7,g8,hlx,hp,hld',hfl,e0])))
         refine id_c fun s2 h2 => ?_
         have qx := (qx0.then h2).g
         have qt := (qt0.then h2).g
         have hld4 : loadA s2 false 1 (VI.adr p2 0) = some (.str y.key) := by
           have := P2.ldf _ (qt0.then h2).k 0 false 1 (by simp [intC])
           rw [this]; rfl
         (repeat' (with_reducible first|refine w_1 ?_|refine w_2 ?_|refine w_4 ?_|refine w_6 ?_|(refine w_8 (fun hb=>?_) (fun hb=>?_)<;>(try simp only [Bool.not_eq_true',Bool.not_eq_false'] at hb)<;>try simp only [hb])|refine w_13 (fun hc=>(by (try simp only [Bool.and_eq_true] at hc);simp (maxDischargeDepth:=12) only [viz,↓reduceIte,Nat.reduceEqDiff,Nat.reduceAdd,qx,cond_true,cond_false,hc];first|exact ⟨rfl,rfl⟩|exact rfl)) ?_|refine w_12 ?_|((try refine w_9 ?_);simp (maxDischargeDepth:=12) only [viz,↓reduceIte,Nat.reduceEqDiff]))))
    · refine lasts_c ?_
      (repeat' (with_reducible first|refine w_1 ?_|refine w_2 ?_|refine w_4 ?_|refine w_6 ?_|(refine w_8 (fun hb=>?_) (fun hb=>?_)<;>(try simp only [Bool.not_eq_true',Bool.not_eq_false'] at hb)<;>try simp only [hb])|refine w_13 (fun hc=>(by (try simp only [Bool.and_eq_true] at hc);simp (maxDischargeDepth:=12) only [viz,↓reduceIte,Nat.reduceEqDiff,Nat.reduceAdd,g1,qx,qt, Int.reduceBEq, Int.reduceBNe, Int.reduceLT, Int.reduceLE, Int.reduceGT, Int.reduceGE,cond_true,cond_false,hc];first|exact ⟨rfl,rfl⟩|exact rfl)) ?_|refine w_12 ?_|((try refine w_9 ?_);simp (maxDischargeDepth:=12) only [viz,↓reduceIte,Nat.reduceEqDiff, Int.reduceBEq, Int.reduceBNe, Int.reduceLT, Int.reduceLE, Int.reduceGT, Int.reduceGE])))
      · have k2 := (qt0.then h2).k
        refine sin_c (D := D) (k2.ok hf) (hI.keep k2) (hw.sp.keep fun r hr => k2.get r (hI r hr)) (by omega) fun s3 h3 => ?_
        (repeat' (with_reducible first|refine w_1 ?_|refine w_2 ?_|refine w_4 ?_|refine w_5 ?_|refine w_6 ?_|(refine w_8 (fun hb=>?_) (fun hb=>?_)<;>(try simp only [Bool.not_eq_true',Bool.not_eq_false'] at hb)<;>try simp only [hb])|((try refine w_9 ?_);simp (maxDischargeDepth:=12) only [viz,↓reduceIte,Nat.reduceEqDiff,Nat.reduceAdd,g1,g6,g7,g8,h0, Int.reduceBEq, Int.reduceBNe, Int.reduceLT, Int.reduceLE, Int.reduceGT, Int.reduceGE])))
        · have e : intIn t.spans (prevOf t.ints 0) x = false := by simp only [intIn, intOk, prevOf_zero, bl]; grind
          exact bad (by rw [hr, e]; rfl) _ (k2.then h3)
        · have e : intIn t.spans (prevOf t.ints 0) x = true := by simp only [intIn, intOk, prevOf_zero, bl]; grind
          refine ⟨hlt, (qt0.then h2).then h3, rfl, ?_⟩
          rw [hr, e, Bool.true_and]
      · have e : intIn t.spans (prevOf t.ints 0) x = false := by simp only [intIn, intOk, prevOf_zero, bl]; grind
        exact bad (by rw [hr, e]; rfl) _ (qt0.then h2).k
    · have e : intIn t.spans (prevOf t.ints 0) x = false := by simp only [intIn, intOk, prevOf_zero, bl]; grind
      exact bad (by rw [hr, e]; rfl) _ (qt0.then h2).k
    · have e : intIn t.spans (prevOf t.ints 0) x = false := by simp only [intIn, intOk, prevOf_zero, bl]; grind
      exact bad (by rw [hr, e]; rfl) _ qt0.k
    · refine lasts_c ?_
      (repeat' (with_reducible first|refine w_1 ?_|refine w_2 ?_|refine w_4 ?_|refine w_6 ?_|(refine w_8 (fun hb=>?_) (fun hb=>?_)<;>(try simp only [Bool.not_eq_true',Bool.not_eq_false'] at hb)<;>try simp only [hb])|refine w_13 (fun hc=>(by (try simp only [Bool.and_eq_true] at hc);simp (maxDischargeDepth:=12) only [viz,↓reduceIte,Nat.reduceEqDiff,Nat.reduceAdd,g1,qx,qt,hj,hpj,hp2,P2.adr,hld4,le_not',cond_true,cond_false,hc];first|exact ⟨rfl,rfl⟩|exact rfl)) ?_|refine w_12 ?_|((try refine w_9 ?_);simp (maxDischargeDepth:=12) only [viz,↓reduceIte,Nat.reduceEqDiff])))
      · have k2 := (qt0.then h2).k
        refine sin_c (D := D) (k2.ok hf) (hI.keep k2) (hw.sp.keep fun r hr => k2.get r (hI r hr)) (by omega) fun s3 h3 => ?_
        (repeat' (with_reducible first|refine w_1 ?_|refine w_2 ?_|refine w_4 ?_|refine w_5 ?_|refine w_6 ?_|(refine w_8 (fun hb=>?_) (fun hb=>?_)<;>(try simp only [Bool.not_eq_true',Bool.not_eq_false'] at hb)<;>try simp only [hb])|((try refine w_9 ?_);simp (maxDischargeDepth:=12) only [viz,↓reduceIte,Nat.reduceEqDiff,g1,g6,g7,g8])))
        · have e : intIn t.spans (prevOf t.ints (j + 1)) x = false := by simp only [intIn, intOk, prevOf_succ, hy, bl]; grind
          exact bad (by rw [hr, e]; rfl) _ (k2.then h3)
        · have e : intIn t.spans (prevOf t.ints (j + 1)) x = true := by simp only [intIn, intOk, prevOf_succ, hy, bl]; grind
          refine ⟨hlt, (qt0.then h2).then h3, succ_av (by omega), ?_⟩
          rw [hr, e, Bool.true_and]
      · have e : intIn t.spans (prevOf t.ints (j + 1)) x = false := by simp only [intIn, intOk, prevOf_succ, hy, bl]; grind
        exact bad (by rw [hr, e]; rfl) _ (qt0.then h2).k
    · have e : intIn t.spans (prevOf t.ints (j + 1)) x = false := by simp only [intIn, intOk, prevOf_succ, hy, bl]; grind
      exact bad (by rw [hr, e]; rfl) _ (qt0.then h2).k
    · have e : intIn t.spans (prevOf t.ints (j + 1)) x = false := by simp only [intIn, intOk, prevOf_succ, hy, bl]; grind
      exact bad (by rw [hr, e]; rfl) _ qt0.k
  · (repeat' (with_reducible first|refine w_1 ?_|refine w_2 ?_|refine w_4 ?_|refine w_6 ?_|refine w_7 ?_|simp (maxDischargeDepth:=12) only [viz,↓reduceIte,Nat.reduceEqDiff,Nat.reduceAdd,g1,g7,g8,lt_false hlt,qg,hlen,hlh,hlm]))
    rw [rising_end hlt] at hr
    refine K_of hK q.k ?_
    rw [wrap_i64 (x := (t.holds.length : Int) + t.marks.length) (by omega), wrap_i64 (x := (t.holds.length : Int) + t.marks.length + t.ints.length) (by omega), intsS, hr, roomS, Bool.true_and, decide_eq_decide]
    omega
def coverAll (sp fr : List Span) : Bool := !(fr.any fun s => !coversS sp s)
def tabS (t : Table) : Bool := decide (0 ≤ t.now) && decide (t.now ≤ 2147483647) && formS t.spans && formS t.frozen && coverAll t.spans t.frozen && holdsS t.holds && marksS t.marks && hereS t.spans t.holds t.marks && intsS t
structure CkG (D : Nat → Prop) (t : Table) (w : TV) (r : Nat) (M : Mem) : Prop where
  g : M.get r = some ⟨27, 6, [[.int .i64 t.now, w.sp, w.fr, w.ho, w.ma, w.it]]⟩
  n : r < M.next
  f : M.floor ≤ M.next
  v : Spans M D w.sp t.spans
  i : In D M
theorem checkF (D : Nat → Prop) (t : Table) (w : TV) (r : Nat) (h1 : t.spans.length ≤ 2000) : FnP spanA (CkG D t w r) 87 [.ptr r 0 0] (fun x => !coversS t.spans x) := by
  rintro x M K ⟨g, n, f, hv, hI⟩ hK
  refine C_enter (cf := cf87) rfl (Nat.le_of_ble_eq_true rfl) ?_
  simp only [cf87, oo, on, om, og, oc, ou, spanA, spanC]
  have n0 : (r = M.next) = False := by simp; omega
  have hp := pushes M ⟨47, 2, [[.str x.frm, .str x.to]]⟩
  (repeat' (with_reducible first|refine w_1 ?_|refine w_2 ?_|simp (maxDischargeDepth:=12) only [viz,↓reduceIte,Nat.reduceAdd,g,n0]))
  refine covers_c (a := x) (D := D) (hp.ok f) (hI.keep hp) (hv.keep fun q hq => hp.get q (hI q hq)) (by omega) fun s1 h2 => ?_
  (repeat' (with_reducible first|refine w_6 ?_|simp (maxDischargeDepth:=12) only [viz,↓reduceIte]))
  exact hK _ (hp.then h2)
theorem check_c {t : Table} {w : TV} {D : Nat → Prop} {s : Mem} {K : AV → Mem → Prop} (hf : s.floor ≤ s.next) (hI : In D s) (hw : TabIn s D w t) (hs : Small t)
    (hK : ∀ s', Keep s.next s s' → K (.int .i64 (if tabS t then 0 else 1)) s') : C tab 29 [.agg (tabC t w)] s K := by
  refine C_enter (cf := cf29) rfl (Nat.le_of_ble_eq_true rfl) ?_
  simp only [cf29, oo, on, om, og, oc, ou, tabC]
  have bad : tabS t = false → ∀ s', Keep s.next s s' → K (.int .i64 1) s' := fun h s' hs => by
    have := hK s' hs
    rw [h] at this
    exact this
  have q0 := Kp.of_push s ⟨27, 6, [[.int .i64 t.now, w.sp, w.fr, w.ho, w.ma, w.it]]⟩
  obtain ⟨a1, a2, a3, a4, a5⟩ := hs
  (repeat' (with_reducible first|refine w_1 ?_|refine w_2 ?_|refine w_3 ?_|refine w_4 ?_|refine w_5 ?_|refine w_6 ?_|(refine w_8 (fun hb=>?_) (fun hb=>?_)<;>(try simp only [Bool.not_eq_true',Bool.not_eq_false'] at hb)<;>try simp only [hb])|refine w_13 (fun hc=>(by (try simp only [Bool.and_eq_true] at hc);simp (maxDischargeDepth:=12) only [viz,↓reduceIte,Nat.reduceEqDiff,Nat.reduceAdd,cond_false,hc];first|exact ⟨rfl,rfl⟩|exact rfl)) ?_|refine w_12 ?_|((try refine w_9 ?_);simp (maxDischargeDepth:=12) only [viz,↓reduceIte,Nat.reduceAdd,hw.sp.cell,hw.fr.cell,hw.ho.cell,hw.ma.cell,hw.it.cell])))
  rotate_left 1
  · exact bad (by grind [tabS, coverAll]) _ q0.k
  refine form_c (l := t.spans) (D := D) (q0.k.ok hf) (hI.keep q0.k) (hw.sp.keep fun r hr => q0.k.get r (hI r hr)) (by omega) fun s1 h1 => ?_
  have q1 := q0.then h1
  have g1 := q1.g
  (repeat' (with_reducible first|refine w_1 ?_|refine w_2 ?_|refine w_4 ?_|refine w_5 ?_|refine w_6 ?_|(refine w_8 (fun hb=>?_) (fun hb=>?_)<;>(try simp only [Bool.not_eq_true',Bool.not_eq_false'] at hb)<;>try simp only [hb])|refine w_13 (fun hc=>(by (try simp only [Bool.and_eq_true] at hc);simp (maxDischargeDepth:=12) only [viz,↓reduceIte,Nat.reduceEqDiff,Nat.reduceAdd,g1,cond_false,hc];first|exact ⟨rfl,rfl⟩|exact rfl)) ?_|refine w_12 ?_|((try refine w_9 ?_);simp (maxDischargeDepth:=12) only [viz,↓reduceIte])))
  all_goals first | exact bad (by grind [tabS, coverAll]) _ q1.k | skip
  refine form_c (l := t.frozen) (D := D) (q1.k.ok hf) (hI.keep q1.k) (hw.fr.keep fun r hr => q1.k.get r (hI r hr)) (by omega) fun s2 h2 => ?_
  have q2 := q1.then h2
  have g2 := q2.g
  (repeat' (with_reducible first|refine w_1 ?_|refine w_2 ?_|refine w_4 ?_|refine w_5 ?_|refine w_6 ?_|(refine w_8 (fun hb=>?_) (fun hb=>?_)<;>(try simp only [Bool.not_eq_true',Bool.not_eq_false'] at hb)<;>try simp only [hb])|((try refine w_9 ?_);simp (maxDischargeDepth:=12) only [viz,↓reduceIte,Nat.reduceEqDiff,Nat.reduceAdd,g2])))
  all_goals first | exact bad (by grind [tabS, coverAll]) _ q2.k | skip
  refine spAny_c (l := t.frozen) (D := D) (p := fun x => !coversS t.spans x) (G := CkG D t w s.next) (hI.keep q2.k) (hw.fr.keep fun r hr => q2.k.get r (hI r hr)) (by omega) (fun M hM => ⟨(q2.then hM).g, (q2.then hM).n, (q2.then hM).k.ok hf, hw.sp.keep fun r hr => (q2.then hM).k.get r (hI r hr), hI.keep (q2.then hM).k⟩) (checkF D t w s.next (by omega)) fun s3 h3 => ?_
  have q3 := q2.then h3
  have g3 := q3.g
  (repeat' (with_reducible first|refine w_1 ?_|refine w_2 ?_|refine w_4 ?_|refine w_5 ?_|refine w_6 ?_|(refine w_8 (fun hb=>?_) (fun hb=>?_)<;>(try simp only [Bool.not_eq_true',Bool.not_eq_false'] at hb)<;>try simp only [hb])|simp (maxDischargeDepth:=12) only [viz,↓reduceIte,Nat.reduceEqDiff,Nat.reduceAdd,g3]))
  all_goals first | exact bad (by grind [tabS, coverAll]) _ q3.k | skip
  refine lcheck_c (l := t.holds) (D := D) (q3.k.ok hf) (hI.keep q3.k) (hw.ho.keep fun r hr => q3.k.get r (hI r hr)) (by omega) fun s4 h4 => ?_
  have q4 := q3.then h4
  have g4 := q4.g
  (repeat' (with_reducible first|refine w_1 ?_|refine w_2 ?_|refine w_4 ?_|refine w_5 ?_|refine w_6 ?_|(refine w_8 (fun hb=>?_) (fun hb=>?_)<;>(try simp only [Bool.not_eq_true',Bool.not_eq_false'] at hb)<;>try simp only [hb])|refine w_13 (fun hc=>(by (try simp only [Bool.and_eq_true] at hc);simp (maxDischargeDepth:=12) only [viz,↓reduceIte,Nat.reduceEqDiff,Nat.reduceAdd,g4,cond_false,hc];first|exact ⟨rfl,rfl⟩|exact rfl)) ?_|refine w_12 ?_|((try refine w_9 ?_);simp (maxDischargeDepth:=12) only [viz,↓reduceIte,Nat.reduceEqDiff])))
  all_goals first | exact bad (by grind [tabS, coverAll]) _ q4.k | skip
  refine lmarks_c (l := t.marks) (D := D) (q4.k.ok hf) (hI.keep q4.k) (hw.ma.keep fun r hr => q4.k.get r (hI r hr)) (by omega) fun s5 h5 => ?_
  have q5 := q4.then h5
  have g5 := q5.g
  (repeat' (with_reducible first|refine w_1 ?_|refine w_2 ?_|refine w_4 ?_|refine w_5 ?_|refine w_6 ?_|(refine w_8 (fun hb=>?_) (fun hb=>?_)<;>(try simp only [Bool.not_eq_true',Bool.not_eq_false'] at hb)<;>try simp only [hb])|refine w_13 (fun hc=>(by (try simp only [Bool.and_eq_true] at hc);simp (maxDischargeDepth:=12) only [viz,↓reduceIte,Nat.reduceEqDiff,Nat.reduceAdd,g5,cond_false,hc];first|exact ⟨rfl,rfl⟩|exact rfl)) ?_|refine w_12 ?_|((try refine w_9 ?_);simp (maxDischargeDepth:=12) only [viz,↓reduceIte,Nat.reduceEqDiff])))
  all_goals first | exact bad (by grind [tabS, coverAll]) _ q5.k | skip
  refine here_c (sp := t.spans) (ho := t.holds) (ma := t.marks) (D := D) (q5.k.ok hf) (hI.keep q5.k) (hw.sp.keep fun r hr => q5.k.get r (hI r hr)) (hw.ho.keep fun r hr => q5.k.get r (hI r hr)) (hw.ma.keep fun r hr => q5.k.get r (hI r hr)) (by omega) (by omega) (by omega) fun s6 h6 => ?_
  have q6 := q5.then h6
  have g6 := q6.g
  (repeat' (with_reducible first|refine w_1 ?_|refine w_2 ?_|refine w_4 ?_|refine w_5 ?_|refine w_6 ?_|(refine w_8 (fun hb=>?_) (fun hb=>?_)<;>(try simp only [Bool.not_eq_true',Bool.not_eq_false'] at hb)<;>try simp only [hb])|refine w_13 (fun hc=>(by (try simp only [Bool.and_eq_true] at hc);simp (maxDischargeDepth:=12) only [viz,↓reduceIte,Nat.reduceEqDiff,g6,cond_false,hc];first|exact ⟨rfl,rfl⟩|exact rfl)) ?_|refine w_12 ?_|((try refine w_9 ?_);simp (maxDischargeDepth:=12) only [viz,↓reduceIte,Nat.reduceEqDiff])))
  all_goals first | exact bad (by grind [tabS, coverAll]) _ q6.k | skip
  refine intents_c (D := D) (q6.k.ok hf) (hI.keep q6.k) (hw.keep fun r hr => q6.k.get r (hI r hr)) ⟨a1, a2, a3, a4, a5⟩ fun s7 h7 => ?_
  have q7 := q6.then h7
  have g7 := q7.g
  (repeat' (with_reducible first|refine w_1 ?_|refine w_2 ?_|refine w_4 ?_|refine w_5 ?_|refine w_6 ?_|(refine w_8 (fun hb=>?_) (fun hb=>?_)<;>(try simp only [Bool.not_eq_true',Bool.not_eq_false'] at hb)<;>try simp only [hb])|((try refine w_9 ?_);simp (maxDischargeDepth:=12) only [viz,↓reduceIte])))
  · exact bad (by grind [tabS, coverAll]) _ q7.k
  · refine K_v hK q7.k ?_
    have : tabS t = true := by grind [tabS, coverAll]
    rw [this]; rfl
end Go.Proofs.YthibbbfhkfebkaaGreat

