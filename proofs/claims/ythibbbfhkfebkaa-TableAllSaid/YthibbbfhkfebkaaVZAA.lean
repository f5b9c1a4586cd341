/- What is prepared may be, and finished as it asked: the plain law. No statement of the seat is proved here. -/
import Derived.Test.YthibbbfhkfebkaaVZFD
import Derived.Test.YthibbbfhkfebkaaVZTJ
import Derived.Test.YthibbbfhkfebkaaVZVE
import Derived.Test.YthibbbfhkfebkaaVZFG
namespace Go.Proofs.Ythibbbfhkfebkaa
open Go Go.VI
set_option linter.unusedSimpArgs false
structure Bas (sp : List Span) (x : Intent) : Prop where
  k : x.key.length ≤ 64
  i : idS x.client x.seq = true
  l : lastsS x.kind x.ttl = true
  t : x.token ≠ 0
  s : inR sp x.key = true
theorem ints_bas {sp : List Span} {l : List Intent} (h : rising (intR sp) none l = true) : ∀ x ∈ l, Bas sp x := fun x hx => by
  obtain ⟨q, hq⟩ := rising_mem h x hx
  simp only [intR, intOk, Bool.and_eq_true, decide_eq_true_eq, Bool.not_eq_true', decide_eq_false_iff_not] at hq
  exact ⟨hq.1.1.1.1.1, hq.1.1.1.1.2, hq.1.1.1.2, hq.1.1.2, hq.2⟩
theorem ints_mk {sp : List Span} {l : List Intent} (h : ∀ x ∈ l, Bas sp x) (hu : UpI l) : rising (intR sp) none l = true := by
  refine rising_mk (key := Intent.key) l none (fun x hx q hq => ?_) hu (by simp)
  obtain ⟨b1, b2, b3, b4, b5⟩ := h x hx
  simp only [intR, intOk, Bool.and_eq_true, decide_eq_true_eq, Bool.not_eq_true', decide_eq_false_iff_not]
  refine ⟨⟨⟨⟨⟨b1, b2⟩, b3⟩, b4⟩, ?_⟩, b5⟩
  cases q with
  | none => rfl
  | some y => exact hq y rfl
structure Wit (T : Table) : Prop where
  h : ∀ x ∈ T.holds, inR T.spans x.key = true ∧ ∀ m ∈ T.marks, m.key ≠ x.key
  m : ∀ x ∈ T.marks, inR T.spans x.key = true
theorem wit_iff {T : Table} (hm : marksS T.marks = true) : withinS T.spans T.holds T.marks = true ↔ Wit T := by
  simp only [withinS, Bool.and_eq_true, List.all_eq_true, Bool.not_eq_true', marked_iff hm, List.any_eq_false]
  constructor
  · rintro ⟨h1, h2⟩
    exact ⟨fun x hx => ⟨(h1 x hx).1, fun m hm' e => (h1 x hx).2 m hm' (by simp [e])⟩, h2⟩
  · rintro ⟨h1, h2⟩
    exact ⟨fun x hx => ⟨(h1 x hx).1, fun m hm' e => (h1 x hx).2 m hm' (by simpa using e)⟩, h2⟩
theorem Wit.turn {T : Table} {x : Intent} (h : Wit T) (hs : inR T.spans x.key = true) : Wit (turnT T x) := by
  unfold turnT
  split
  · refine ⟨fun y hy => ?_, fun y hy => h.m y (List.mem_filter.mp hy).1⟩
    rcases putG_mem hy with rfl | ⟨hy, _⟩
    · refine ⟨hs, fun m hm e => ?_⟩
      have := (List.mem_filter.mp hm).2
      simp [e] at this
    · exact ⟨(h.h y hy).1, fun m hm => (h.h y hy).2 m (List.mem_filter.mp hm).1⟩
  · split
    · refine ⟨fun y hy => ?_, fun y hy => ?_⟩
      · obtain ⟨a, b⟩ := List.mem_filter.mp hy
        refine ⟨(h.h y a).1, fun m hm e => ?_⟩
        rcases putG_mem hm with rfl | ⟨hm, _⟩
        · have e' : x.key = y.key := e
          simp [e'] at b
        · exact (h.h y a).2 m hm e
      · rcases putG_mem hy with rfl | ⟨hy, _⟩
        · exact hs
        · exact h.m y hy
    · split
      · rename_i hk
        obtain ⟨hin, hkey⟩ := find_in hk.2
        refine ⟨fun y hy => ?_, h.m⟩
        rcases putG_mem hy with rfl | ⟨hy, _⟩
        · have h9 := h.h (gotH (findH T.holds x.key)) hin
          exact h9
        · exact h.h y hy
      · exact h
theorem turn_same (t : Table) (x : Intent) : (turnT t x).spans = t.spans ∧ (turnT t x).frozen = t.frozen ∧ (turnT t x).now = t.now := by
  unfold turnT
  split
  · exact ⟨rfl, rfl, rfl⟩
  · split
    · exact ⟨rfl, rfl, rfl⟩
    · split <;> exact ⟨rfl, rfl, rfl⟩
theorem turns_all : ∀ (ys : List Intent) (t : Table) (n : Nat), Good n t → Wit t → (∀ y ∈ ys, GoodI y ∧ inR t.spans y.key = true) → n + ys.length ≤ 900 → Good (n + ys.length) (ys.foldl turnT t) ∧ Wit (ys.foldl turnT t) ∧ (ys.foldl turnT t).spans = t.spans ∧ (ys.foldl turnT t).frozen = t.frozen ∧ (ys.foldl turnT t).now = t.now
  | [], t, n, h, hw, _, _ => ⟨by simpa using h, hw, rfl, rfl, rfl⟩
  | y :: ys, t, n, h, hw, hy, hn => by
    simp only [List.length_cons] at hn
    obtain ⟨e1, e2, e3⟩ := turn_same t y
    have g := hy y (by simp)
    obtain ⟨a1, a2, a3, a4, a5⟩ := turns_all ys (turnT t y) (n + 1) (h.turn g.1 (by omega)) (hw.turn g.2) (fun z hz => by rw [e1]; exact hy z (by simp [hz])) (by omega)
    rw [List.foldl_cons, List.length_cons, show n + (ys.length + 1) = n + 1 + ys.length by omega]
    exact ⟨a1, a2, a3.trans e1, a4.trans e2, a5.trans e3⟩
theorem find_put {h : Hold} {k : Txt} : ∀ {l : List Hold}, findH (putG Hold.key h l) k = if h.key = k then some h else findH l k
  | [] => by
    unfold putG findH
    by_cases e : h.key = k <;> simp [e]
  | x :: r => by
    have ih := find_put (h := h) (k := k) (l := r)
    unfold putG
    split
    · rename_i hx
      have hne : x.key ≠ h.key := fun e => by rw [e, bl_irrefl] at hx; cases hx
      unfold findH at ih ⊢
      by_cases e : h.key = k
      · have : x.key ≠ k := fun e2 => hne (e2.trans e.symm)
        rw [if_pos e] at ih ⊢
        rw [List.find?_cons_of_neg (by simpa using this)]; exact ih
      · rw [if_neg e] at ih ⊢
        by_cases e2 : x.key = k
        · simp [e2]
        · rw [List.find?_cons_of_neg (by simpa using e2), List.find?_cons_of_neg (by simpa using e2)]; exact ih
    · unfold findH
      by_cases e : h.key = k
      · rw [if_pos e]; simp [e]
      · rw [if_neg e, List.find?_cons_of_neg (by simpa using e), List.find?_filter]
        congr 1
        funext y
        by_cases e2 : y.key = k
        · have : y.key ≠ h.key := fun e3 => e (e3.symm.trans e2)
          simp [e2, show ¬ k = h.key from fun e3 => e e3.symm]
        · simp [e2]
theorem find_drop {l : List Hold} {k k2 : Txt} : findH (dropH l k2) k = if k2 = k then none else findH l k := by
  unfold findH dropH
  rw [List.find?_filter]
  by_cases e : k2 = k
  · rw [if_pos e, List.find?_eq_none]
    intro y _
    subst e
    simp
  · rw [if_neg e]
    congr 1
    funext y
    by_cases e2 : y.key = k
    · simp [e2, show ¬ k = k2 from fun e3 => e e3.symm]
    · simp [e2]
theorem turn_find {t : Table} {x : Intent} {k : Txt} (h : x.key ≠ k) : findH (turnT t x).holds k = findH t.holds k := by
  unfold turnT
  split
  · show findH (putG Hold.key _ t.holds) k = _
    rw [find_put, if_neg h]
  · split
    · show findH (dropH t.holds x.key) k = _
      rw [find_drop, if_neg h]
    · split
      · rename_i hk
        obtain ⟨_, hkey⟩ := find_in hk.2
        show findH (putG Hold.key _ t.holds) k = _
        rw [find_put, if_neg (by show ¬ (gotH (findH t.holds x.key)).key = k; rw [hkey]; exact h)]
      · rfl
theorem turns_find {k : Txt} : ∀ (ys : List Intent) (t : Table), (∀ y ∈ ys, y.key ≠ k) → findH (ys.foldl turnT t).holds k = findH t.holds k
  | [], _, _ => rfl
  | y :: ys, t, h => by rw [List.foldl_cons, turns_find ys _ fun z hz => h z (by simp [hz]), turn_find (h y (by simp))]
theorem turns_got : ∀ (ys : List Intent) (t : Table) (y : Intent), UpI ys → y ∈ ys → (y.kind = 1 → (gotH (findH (ys.foldl turnT t).holds y.key)).token = y.token) ∧ (y.kind = 2 → (gotH (findH (ys.foldl turnT t).holds y.key)).token = 0)
  | [], _, _, _, h => by cases h
  | x :: ys, t, y, hu, h => by
    have hc := List.pairwise_cons.mp hu
    rw [List.foldl_cons]
    by_cases e : y = x
    · subst e
      have hne : ∀ z ∈ ys, z.key ≠ y.key := fun z hz e => by
        have := hc.1 z hz
        rw [e, bl_irrefl] at this; cases this
      rw [turns_find ys _ hne]
      refine ⟨fun h1 => ?_, fun h2 => ?_⟩
      · have : (turnT t y).holds = putG Hold.key ⟨y.key, y.token, untilS t.now y.ttl⟩ t.holds := by unfold turnT; rw [if_pos h1]
        rw [this, find_put, if_pos rfl]; rfl
      · have : (turnT t y).holds = dropH t.holds y.key := by unfold turnT; rw [if_neg (by omega), if_pos h2]
        rw [this, find_drop, if_pos rfl]; rfl
    · rcases List.mem_cons.mp h with h | h
      · exact absurd h e
      · exact turns_got ys _ y hc.2 h
end Go.Proofs.Ythibbbfhkfebkaa
/- What is prepared may be: the plain law. No statement of the seat is proved here. -/
namespace Go.Proofs.Ythibbbfhkfebkaa
open Go Go.VI
set_option linter.unusedSimpArgs false
theorem mg_perm : ∀ ys xs : List Intent, (mg ys xs).Perm (ys ++ xs)
  | [], xs => by simp [mg]
  | y :: ys, [] => by simp [mg]
  | y :: ys, x :: xs => by
    unfold mg
    split
    · exact (mg_perm ys (x :: xs)).cons y
    · exact ((mg_perm (y :: ys) xs).cons x).trans List.perm_middle.symm
theorem news_bas {t : Table} {c q : Int} {k : Call} {token : Int} (hc : callS k = true) (hi : idS c q = true) (ht : token ≠ 0) (hr : ∀ key ∈ k.keys, refE t key k token = 0) : ∀ x ∈ k.keys.map (newI c q k token), Bas t.spans x := fun x hx => by
  obtain ⟨key, hk, rfl⟩ := List.mem_map.mp hx
  have hc' := hc
  simp only [callS, Bool.and_eq_true] at hc'
  refine ⟨callS_len hc key hk, hi, hc'.1.1.1.1, ?_, ?_⟩
  · show (if k.kind = 1 then token else k.token) ≠ 0
    have h2 := hc'.1.1.1.2
    split
    · exact ht
    · rename_i h1
      intro e
      simp [e, h1] at h2
  · have := hr key hk
    unfold refE at this
    show inR t.spans key = true
    cases h : inR t.spans key with
    | true => rfl
    | false => rw [h] at this; simp at this
theorem prep_ok {t a : Table} {c q : Int} {k : Call} {token : Int} (h : prepP t c q k token = (0, a)) : mayT t = true ∧ callS k = true ∧ mayT a = true ∧ a.holds = t.holds ∧ a.marks = t.marks ∧ a.spans = t.spans ∧ a.frozen = t.frozen ∧ a.ints.length ≤ t.ints.length + k.keys.length ∧ (a.ints.filter (isX c q)).length = k.keys.length := by
  unfold prepP at h
  split at h
  · simp at h
  rename_i hok
  have hok : (mayT t && callS k && idS c q && !decide (token = 0)) = true := by
    cases hq : (mayT t && callS k && idS c q && !decide (token = 0)) with
    | true => rfl
    | false => exact absurd hq hok
  have hmay : mayT t = true := by grind
  have hcal : callS k = true := by grind
  have hid : idS c q = true := by grind
  have htk : token ≠ 0 := by grind
  split at h
  · split at h
    · rename_i hne he
      obtain ⟨_, rfl⟩ := Prod.mk.inj h
      refine ⟨hmay, hcal, hmay, rfl, rfl, rfl, rfl, by omega, ?_⟩
      rw [beq_iff_eq] at he
      rw [← he]
      unfold theirsP; rw [List.length_map]
    · simp at h
  rename_i hne
  have hne : theirsP t.ints c q = [] := by simpa using hne
  split at h
  · rename_i key hkey
    have h2 := List.find?_some hkey
    have h1 := (Prod.mk.inj h).1
    simp [h1] at h2
  rename_i hnone
  split at h
  · simp at h
  rename_i hroom
  obtain ⟨_, rfl⟩ := Prod.mk.inj h
  have hr : ∀ key ∈ k.keys, refE t key k token = 0 := fun key hk => by
    have := List.find?_eq_none.mp hnone key hk
    simpa using this
  have hup := mayT_up hmay
  have hups : UpI (k.keys.map (newI c q k token)) := List.pairwise_map.mpr ((callS_up hcal).imp fun {a b} h => h)
  have hd : ∀ y ∈ k.keys.map (newI c q k token), ∀ x ∈ t.ints, x.key ≠ y.key := fun y hy x hx => by
    obtain ⟨key, hkey, rfl⟩ := List.mem_map.mp hy
    exact ref_has (hr key hkey) x hx
  have hcur := cur_ok hups hd hup _ (Nat.le_refl _)
  rw [List.take_length, ins_all _ _ hups hd] at hcur
  have hm' := hmay
  simp only [mayT, Bool.and_eq_true] at hm'
  have hb := ints_bas hm'.2
  have hn := news_bas (c := c) (q := q) hcal hid htk hr
  have hbas : ∀ x ∈ mg (k.keys.map (newI c q k token)) t.ints, Bas t.spans x := fun x hx => by
    rcases hcur.2.1 x hx with h | h
    · exact hb x h
    · exact hn x h
  have hlen : (mg (k.keys.map (newI c q k token)) t.ints).length = k.keys.length + t.ints.length := by
    have := (mg_perm (k.keys.map (newI c q k token)) t.ints).length_eq
    simpa using this
  refine ⟨hmay, hcal, ?_, rfl, rfl, rfl, rfl, by show (mg _ t.ints).length ≤ _; omega, ?_⟩
  · have hroom2 : roomS (withI t (mg (k.keys.map (newI c q k token)) t.ints)) = true := by
      show decide (t.holds.length + t.marks.length + (mg (k.keys.map (newI c q k token)) t.ints).length ≤ 1024) = true
      rw [hlen]; simp; omega
    have hri : rising (intR t.spans) none (mg (k.keys.map (newI c q k token)) t.ints) = true := ints_mk hbas hcur.1
    simp only [mayT, Bool.and_eq_true]
    exact ⟨⟨hm'.1.1, hroom2⟩, hri⟩
  · show ((mg (k.keys.map (newI c q k token)) t.ints).filter (isX c q)).length = _
    rw [((mg_perm (k.keys.map (newI c q k token)) t.ints).filter _).length_eq, List.filter_append, List.length_append]
    have e1 : t.ints.filter (isX c q) = [] := by
      unfold theirsP at hne
      simpa using hne
    have e2 : (k.keys.map (newI c q k token)).filter (isX c q) = k.keys.map (newI c q k token) := by
      rw [List.filter_eq_self]
      intro x hx
      obtain ⟨key, _, rfl⟩ := List.mem_map.mp hx
      simp [isX, newI]
    rw [e1, e2]; simp
end Go.Proofs.Ythibbbfhkfebkaa
/- What is finished may be, and is as it asked: the plain law. No statement of the seat is proved here. -/
namespace Go.Proofs.Ythibbbfhkfebkaa
open Go Go.VI
set_option linter.unusedSimpArgs false
theorem UpI.key_eq {l : List Intent} (h : UpI l) {x y : Intent} (hx : x ∈ l) (hy : y ∈ l) (e : x.key = y.key) : x = y := by
  obtain ⟨i, hi⟩ := List.mem_iff_getElem?.mp hx
  obtain ⟨j, hj⟩ := List.mem_iff_getElem?.mp hy
  rcases Nat.lt_trichotomy i j with hij | hij | hij
  · have := h.upK i j x y hij hi hj
    rw [e, bl_irrefl] at this; cases this
  · subst hij; rw [hi] at hj; exact Option.some.inj hj
  · have := h.upK j i y x hij hj hi
    rw [e, bl_irrefl] at this; cases this
structure FinOk (A b : Table) (c q : Int) : Prop where
  may : mayT b = true
  sp : b.spans = A.spans
  fr : b.frozen = A.frozen
  lh : b.holds.length ≤ 300
  lm : b.marks.length ≤ 300
  li : b.ints.length ≤ 200
  no : ∀ y ∈ A.ints, isX c q y = true → hasI b y.key = false ∧ inR b.spans y.key = true ∧ y.key.length ≤ 64
  acq : ∀ y ∈ A.ints, isX c q y = true → y.kind = 1 → (gotH (findH b.holds y.key)).token = y.token
  rel : ∀ y ∈ A.ints, isX c q y = true → y.kind = 2 → (gotH (findH b.holds y.key)).token = 0
theorem fin_ok {A : Table} {c q : Int} (hm : mayT A = true) (hl : A.holds.length ≤ 100 ∧ A.marks.length ≤ 100) (hli : A.ints.length ≤ 200) (htk : ∀ x ∈ A.ints, 0 ≤ x.token) : FinOk A (withI2 ((A.ints.filter (isX c q)).foldl turnT A) (A.ints.filter fun x => !isX c q x)) c q := by
  have hm' := hm
  simp only [mayT, Bool.and_eq_true, decide_eq_true_eq] at hm'
  obtain ⟨⟨⟨⟨⟨⟨⟨⟨⟨m1, m2⟩, m3⟩, m4⟩, m5⟩, m6⟩, m7⟩, m8⟩, m9⟩, m10⟩ := hm'
  have hbas := ints_bas m10
  have hup := mayT_up hm
  have hgi := may_goodI hm htk
  have h1 := List.length_filter_le (isX c q) A.ints
  have h2 := List.length_filter_le (fun x => !isX c q x) A.ints
  obtain ⟨g, wt, e1, e2, e3⟩ := turns_all (A.ints.filter (isX c q)) A 100 (may_good hm hl) ((wit_iff m6).mp m8) (fun y hy => ⟨hgi y (List.mem_filter.mp hy).1, (hbas y (List.mem_filter.mp hy).1).s⟩) (by omega)
  have gl := g.lh
  have gm := g.lm
  have hsub : ∀ y ∈ A.ints, isX c q y = true → y ∈ A.ints.filter (isX c q) := fun y hy hx => List.mem_filter.mpr ⟨hy, hx⟩
  have hfu : UpI (A.ints.filter (isX c q)) := hup.filter _
  generalize hY : A.ints.filter (isX c q) = Y at *
  generalize hZ : (A.ints.filter fun x => !isX c q x) = Z at *
  have hZm : ∀ z ∈ Z, z ∈ A.ints ∧ isX c q z = false := fun z hz => by
    rw [← hZ] at hz
    obtain ⟨a, b⟩ := List.mem_filter.mp hz
    exact ⟨a, by simpa using b⟩
  have hZu : UpI Z := by rw [← hZ]; exact hup.filter _
  refine ⟨?_, e1, e2, by show (Y.foldl turnT A).holds.length ≤ 300; omega, by show (Y.foldl turnT A).marks.length ≤ 300; omega, by show Z.length ≤ 200; omega, fun y hy hx => ⟨?_, ?_, (hbas y hy).k⟩, fun y hy hx => (turns_got Y A y hfu (hsub y hy hx)).1, fun y hy hx => (turns_got Y A y hfu (hsub y hy hx)).2⟩
  · have hw : withinS (Y.foldl turnT A).spans (Y.foldl turnT A).holds (Y.foldl turnT A).marks = true := (wit_iff g.ma).mpr wt
    have hr : roomS (withI2 (Y.foldl turnT A) Z) = true := by
      show decide ((Y.foldl turnT A).holds.length + (Y.foldl turnT A).marks.length + Z.length ≤ 1024) = true
      simp; omega
    have hri : rising (intR (Y.foldl turnT A).spans) none Z = true := by
      rw [e1]
      exact ints_mk (fun z hz => hbas z (hZm z hz).1) hZu
    simp only [mayT, Bool.and_eq_true, decide_eq_true_eq]
    refine ⟨⟨⟨⟨⟨⟨⟨⟨⟨?_, ?_⟩, ?_⟩, ?_⟩, ?_⟩, ?_⟩, ?_⟩, ?_⟩, ?_⟩, ?_⟩
    · exact g.n0
    · exact g.n1
    · show formS (Y.foldl turnT A).spans = true; rw [e1]; exact m3
    · show formS (Y.foldl turnT A).frozen = true; rw [e2]; exact m4
    · exact g.ho
    · exact g.ma
    · show ((Y.foldl turnT A).frozen.all fun s => (leftTo (Y.foldl turnT A).spans [s]).isEmpty) = true; rw [e1, e2]; exact m7
    · exact hw
    · exact hr
    · exact hri
  · unfold hasI
    rw [List.any_eq_false]
    intro z hz e
    obtain ⟨a, b⟩ := hZm z hz
    have := hup.key_eq a hy (by simpa using e)
    rw [this, hx] at b; cases b
  · show inR (Y.foldl turnT A).spans y.key = true
    rw [e1]; exact (hbas y hy).s
end Go.Proofs.Ythibbbfhkfebkaa
/- Arguments of TableAll; what an error leaves. No statement of the seat is proved here. -/
namespace Go.Proofs.Ythibbbfhkfebkaa
open Go Go.VI Go.RowKit
set_option maxRecDepth 100000
set_option linter.unusedSimpArgs false
theorem ty_call2 {B d : Nat} {c : List AV} (h : Ty Try.prog B (d + 3) 33 c) : ∃ (k : Call) (v : AV), c = callC v k ∧ isSl v (List.map txtC k.keys) ∧ k.keys.length ≤ B ∧ 0 ≤ k.token := by
  obtain ⟨p, _, rfl, g3, q, _, rfl, g4, r, _, rfl, g5, u, _, rfl, g6, rfl⟩ := Ty.fields (ts := [3, 31, 28, 3]) (by kernel_rfl) h
  obtain ⟨kind, rfl, _⟩ := Ty.int (k := .i64) (t := 3) (by kernel_rfl) g3
  obtain ⟨v, ks, rfl, hk, hl⟩ := ty_list (f := txtC) (e := 9) (by kernel_rfl) (fun x hx => ty_txt hx) (by kernel_rfl) g4
  obtain ⟨tok, rfl, ht⟩ := Ty.int (k := .u64) (t := 28) (by kernel_rfl) g5
  obtain ⟨ttl, rfl, _⟩ := Ty.int (k := .i64) (t := 3) (by kernel_rfl) g6
  exact ⟨⟨kind, ks, tok, ttl⟩, v, rfl, hk, hl, wf_u64 ht⟩
theorem tyV_txn2 {d : Nat} {c : AV} (h : TyV Try.prog reachBytes (d + 5) 35 c) : ∃ (x : Txn) (v : AV), c = .agg (txnC v x) ∧ isSl v (List.map txtC x.call.keys) ∧ x.call.keys.length < 1000000000000000000 ∧ 0 ≤ x.call.token ∧ 0 ≤ x.token := by
  obtain ⟨h1, a, h2, h3⟩ := h
  obtain ⟨x0, _, hx, t0, x1, _, rfl, t1, x2, _, rfl, t2, rfl⟩ := Ty.fields (ts := [30, 33, 28]) (by kernel_rfl) h1
  obtain ⟨p, q, rfl⟩ := ty_id t0
  obtain ⟨k, v, rfl, hk, hl, hkt⟩ := ty_call2 t1
  obtain ⟨m, rfl, hm⟩ := Ty.int (k := .u64) (by kernel_rfl) t2
  have : cAgg Try.prog 35 = some true := by kernel_rfl
  rw [this] at h2
  obtain rfl := Option.some.inj h2
  have hb : reachBytes < 1000000000000000000 := by decide
  refine ⟨⟨p, q, k, m⟩, v, ?_, hk, Nat.lt_of_le_of_lt hl hb, hkt, wf_u64 hm⟩
  rw [hx] at h3
  have h4 : c = .agg (.int .i64 p :: .int .u64 q :: (callC v k ++ [.int .u64 m])) := by simpa using h3
  exact h4
theorem prep_err {t : Table} {c q : Int} {k : Call} {token : Int} (h : (prepP t c q k token).1 ≠ 0) : (prepP t c q k token).2 = zeroT := by
  unfold prepP at h ⊢
  split
  · rfl
  · rename_i h1
    rw [if_neg h1] at h
    split
    · rename_i h2
      rw [if_pos h2] at h
      split
      · rename_i h3
        rw [if_pos h3] at h; exact absurd rfl h
      · rfl
    · rename_i h2
      rw [if_neg h2] at h
      split
      · rfl
      · rename_i h3
        rw [h3] at h
        simp only at h
        split
        · rfl
        · rename_i h4
          rw [if_neg h4] at h; exact absurd rfl h
theorem prep_tok {t a : Table} {c q : Int} {k : Call} {token : Int} (h : prepP t c q k token = (0, a)) (h1 : ∀ x ∈ t.ints, 0 ≤ x.token) (h2 : 0 ≤ token) (h3 : 0 ≤ k.token) : ∀ x ∈ a.ints, 0 ≤ x.token := by
  unfold prepP at h
  split at h
  · simp at h
  split at h
  · split at h
    · obtain ⟨_, rfl⟩ := Prod.mk.inj h; exact h1
    · simp at h
  split at h
  · rename_i key hkey
    have h4 := List.find?_some hkey
    have h5 := (Prod.mk.inj h).1
    simp [h5] at h4
  split at h
  · simp at h
  obtain ⟨_, rfl⟩ := Prod.mk.inj h
  intro x hx
  have := (mg_perm (k.keys.map (newI c q k token)) t.ints).mem_iff.mp hx
  rcases List.mem_append.mp this with h | h
  · obtain ⟨key, _, rfl⟩ := List.mem_map.mp h
    show 0 ≤ (if k.kind = 1 then token else k.token)
    split <;> assumption
  · exact h1 x h
end Go.Proofs.Ythibbbfhkfebkaa
/- Who holds a key. No statement of the seat is proved here. -/
namespace Go.Proofs.Ythibbbfhkfebkaa
open Go Go.VI
set_option linter.unusedSimpArgs false
attribute [local irreducible] Ws Wp W C
set_option maxHeartbeats 4000000
theorem inspect_c {t : Table} {w : TV} {k : Txt} {D : Nat → Prop} {s : Mem} {K : AV → Mem → Prop} (hf : s.floor ≤ s.next) (hI : In D s) (hw : TabIn s D w t) (hs : Small t) (hm : mayT t = true) (h64 : k.length ≤ 64) (hin : inR t.spans k = true) (hno : hasI t k = false)
    (hK : ∀ s', Keep s.next s s' → K (.tup [.int .u64 (gotH (findH t.holds k)).token, .int .i64 0]) s') : C tab 10 [.agg (tabC t w), .str k] s K := by
  refine C_enter (cf := cf10) rfl (Nat.le_of_ble_eq_true rfl) ?_
  simp only [cf10, oo, on, om, og, oc, ou, tabC]
  have hup := mayT_up hm
  have hfs : formS t.spans = true := by simp only [mayT] at hm; grind
  have q0 := Kp.of_push s ⟨27, 6, [[.int .i64 t.now, w.sp, w.fr, w.ho, w.ma, w.it]]⟩
  have g0 := q0.g
  have hli := hs.it
  have hlh := hs.ho
  have hls := hs.sp
  have e64 : decide ((k.length : Int) > 64) = false := by simp; omega
  (repeat' (with_reducible first|refine w_1 ?_|refine w_2 ?_|refine w_3 ?_|refine w_4 ?_|refine w_5 ?_|refine w_6 ?_|refine w_7 ?_|(refine w_8 (fun hb=>?_) (fun hb=>?_)<;>(try simp only [Bool.not_eq_true',Bool.not_eq_false'] at hb)<;>try simp only [hb])|refine w_13 (fun hc=>(by (try simp only [Bool.and_eq_true] at hc);simp (maxDischargeDepth:=12) only [viz,↓reduceIte,Nat.reduceEqDiff,reduceCtorEq,Int.reduceEq,Int.reduceNeg,Nat.reduceAdd,Nat.reduceLeDiff,hw.sp.cell,hw.fr.cell,hw.ho.cell,hw.ma.cell,hw.it.cell,cond_true,cond_false,hc];first|exact ⟨rfl,rfl⟩|exact rfl)) ?_|refine w_12 ?_|((try refine w_9 ?_);simp (maxDischargeDepth:=12) only [viz,↓reduceIte,Nat.reduceEqDiff,reduceCtorEq,Int.reduceEq,Int.reduceNeg,Nat.reduceAdd,Nat.reduceLeDiff,hw.sp.cell,hw.fr.cell,hw.ho.cell,hw.ma.cell,hw.it.cell])))
  generalize s.push _ = S0 at *
  refine tfind_c (t := t) (w := w) (hI.keep q0.k) (hw.keep fun r hr => q0.k.get r (hI r hr)) (by omega) hup.upK fun i s1 _ h1 _ _ => ?_
  have q1 := q0.then h1
  have g1 := q1.g
  (repeat' (with_reducible first|refine w_1 ?_|refine w_2 ?_|refine w_3 ?_|refine w_4 ?_|refine w_5 ?_|refine w_6 ?_|refine w_7 ?_|(refine w_8 (fun hb=>?_) (fun hb=>?_)<;>(try simp only [Bool.not_eq_true',Bool.not_eq_false'] at hb)<;>try simp only [hb])|refine w_13 (fun hc=>(by (try simp only [Bool.and_eq_true] at hc);simp (maxDischargeDepth:=12) only [viz,↓reduceIte,Nat.reduceEqDiff,reduceCtorEq,Int.reduceEq,Int.reduceNeg,Nat.reduceAdd,Nat.reduceLeDiff,g1,cond_true,cond_false,hc];first|exact ⟨rfl,rfl⟩|exact rfl)) ?_|refine w_12 ?_|((try refine w_9 ?_);simp (maxDischargeDepth:=12) only [viz,↓reduceIte,Nat.reduceEqDiff,reduceCtorEq,Int.reduceEq,Int.reduceNeg,Nat.reduceAdd,Nat.reduceLeDiff,g1])))
  refine check_c (t := t) (w := w) (D := D) (q1.k.ok hf) (hI.keep q1.k) (hw.keep fun r hr => q1.k.get r (hI r hr)) hs fun s2 h2 => ?_
  have q2 := q1.then h2
  have g2 := q2.g
  rw [tab_same, hm]
  (repeat' (with_reducible first|refine w_1 ?_|refine w_2 ?_|refine w_3 ?_|refine w_4 ?_|refine w_5 ?_|refine w_6 ?_|refine w_7 ?_|(refine w_8 (fun hb=>?_) (fun hb=>?_)<;>(try simp only [Bool.not_eq_true',Bool.not_eq_false'] at hb)<;>try simp only [hb])|refine w_13 (fun hc=>(by (try simp only [Bool.and_eq_true] at hc);simp (maxDischargeDepth:=12) only [viz,↓reduceIte,Nat.reduceEqDiff,reduceCtorEq,Int.reduceEq,Int.reduceNeg,Nat.reduceAdd,Nat.reduceLeDiff,g2,e64,bne_self_eq_false, Int.reduceBEq, Int.reduceBNe, Int.reduceLT, Int.reduceLE, Int.reduceGT, Int.reduceGE,cond_true,cond_false,hc];first|exact ⟨rfl,rfl⟩|exact rfl)) ?_|refine w_12 ?_|((try refine w_9 ?_);simp (maxDischargeDepth:=12) only [viz,↓reduceIte,Nat.reduceEqDiff,reduceCtorEq,Int.reduceEq,Int.reduceNeg,Nat.reduceAdd,Nat.reduceLeDiff,g2,e64,bne_self_eq_false, Int.reduceBEq, Int.reduceBNe, Int.reduceLT, Int.reduceLE, Int.reduceGT, Int.reduceGE])))
  refine sin_c (D := D) (q2.k.ok hf) (hI.keep q2.k) (hw.sp.keep fun r hr => q2.k.get r (hI r hr)) (by omega) fun s3 h3 => ?_
  have q3 := q2.then h3
  have g3 := q3.g
  rw [in_same hfs h64, hin]
  (repeat' (with_reducible first|refine w_1 ?_|refine w_2 ?_|refine w_3 ?_|refine w_4 ?_|refine w_5 ?_|refine w_6 ?_|refine w_7 ?_|(refine w_8 (fun hb=>?_) (fun hb=>?_)<;>(try simp only [Bool.not_eq_true',Bool.not_eq_false'] at hb)<;>try simp only [hb])|refine w_13 (fun hc=>(by (try simp only [Bool.and_eq_true] at hc);simp (maxDischargeDepth:=12) only [viz,↓reduceIte,Nat.reduceEqDiff,reduceCtorEq,Int.reduceEq,Int.reduceNeg,Nat.reduceAdd,Nat.reduceLeDiff,g3,hno,cond_true,cond_false,hc];first|exact ⟨rfl,rfl⟩|exact rfl)) ?_|refine w_12 ?_|((try refine w_9 ?_);simp (maxDischargeDepth:=12) only [viz,↓reduceIte,Nat.reduceEqDiff,reduceCtorEq,Int.reduceEq,Int.reduceNeg,Nat.reduceAdd,Nat.reduceLeDiff,g3,hno])))
  refine find_c (D := D) (q3.k.ok hf) (hI.keep q3.k) (hw.ho.keep fun r hr => q3.k.get r (hI r hr)) (by omega) fun s4 h4 => ?_
  have q4 := q3.then h4
  have f4 : s4.floor ≤ s4.next := q4.k.ok hf
  simp only [holdC]
  (repeat' (with_reducible first|refine w_1 ?_|refine w_2 ?_|refine w_3 ?_|refine w_4 ?_|refine w_5 ?_|refine w_6 ?_|refine w_7 ?_|(refine w_8 (fun hb=>?_) (fun hb=>?_)<;>(try simp only [Bool.not_eq_true',Bool.not_eq_false'] at hb)<;>try simp only [hb])|refine w_13 (fun hc=>(by (try simp only [Bool.and_eq_true] at hc);simp (maxDischargeDepth:=12) only [viz,↓reduceIte,Nat.reduceEqDiff,reduceCtorEq,Int.reduceEq,Int.reduceNeg,Nat.reduceAdd,Nat.reduceLeDiff,f4,cond_true,cond_false,hc];first|exact ⟨rfl,rfl⟩|exact rfl)) ?_|refine w_12 ?_|((try refine w_9 ?_);simp (maxDischargeDepth:=12) only [viz,↓reduceIte,Nat.reduceEqDiff,reduceCtorEq,Int.reduceEq,Int.reduceNeg,Nat.reduceAdd,Nat.reduceLeDiff,f4])))
  exact hK _ (q4.k.then (pushes _ _))
end Go.Proofs.Ythibbbfhkfebkaa

