/- Regions whose order is fixed, and what the others need. No statement of the seat is proved here. -/
import Derived.Test.YtdbbmeihhemflaaVSound
import Derived.LoopN
namespace Go.VI
open Go Go.RowKit

theorem mem_flatMap_of {α : Type} {f : α → List Nat} {l : List α} {x : α} {t : Nat} (hx : x ∈ l) (ht : t ∈ f x) : t ∈ l.flatMap f := List.mem_flatMap.mpr ⟨x, hx, ht⟩

theorem ev_congr {e e' : Env} {x : Opd} (h : ∀ t ∈ otmp x, e.get t = e'.get t) : ev e x = ev e' x := by
  cases x with
  | t n => exact h n (by simp [otmp])
  | c v => rfl

theorem boundA_congr {e e' : Env} {x : Option Opd} (h : ∀ t ∈ otmp? x, e.get t = e'.get t) : boundA e x = boundA e' x := by
  cases x with
  | none => rfl
  | some x => simp only [boundA]; rw [ev_congr h]

theorem map_congr {e e' : Env} {xs : List Opd} (h : ∀ t ∈ xs.flatMap otmp, e.get t = e'.get t) : xs.map (ev e) = xs.map (ev e') :=
  List.map_congr_left fun _ hx => ev_congr fun t ht => h t (mem_flatMap_of hx ht)

theorem fillParts_congr {e e' : Env} : ∀ (ps : List (Nat × Nat × Opd)) (cs : List AV), (∀ t ∈ ps.flatMap (fun p => otmp p.2.2), e.get t = e'.get t) → fillParts e ps cs = fillParts e' ps cs := by
  intro ps
  induction ps with
  | nil => intro cs _; rfl
  | cons p ps ih =>
    intro cs h
    obtain ⟨o, sz, x⟩ := p
    simp only [fillParts]
    rw [ev_congr (x := x) fun t ht => h t (by simp [ht])]
    split
    · exact ih _ fun t ht => h t (by rw [List.flatMap_cons]; exact List.mem_append_right _ ht)
    · rfl

theorem fillLit_congr {e e' : Env} {sz : Nat} : ∀ (ps : List (Nat × Opd)) (cs : List (List AV)), (∀ t ∈ ps.flatMap (fun p => otmp p.2), e.get t = e'.get t) → fillLit sz e ps cs = fillLit sz e' ps cs := by
  intro ps
  induction ps with
  | nil => intro cs _; rfl
  | cons p ps ih =>
    intro cs h
    obtain ⟨i, x⟩ := p
    simp only [fillLit]
    rw [ev_congr (x := x) fun t ht => h t (by simp [ht])]
    split
    · exact ih _ fun t ht => h t (by rw [List.flatMap_cons]; exact List.mem_append_right _ ht)
    · rfl

/-- An operation sees no more than it reads. -/
theorem stepOp_congr {call : CallF} {e e' : Env} {c : COp} {s : Mem} (h : ∀ t ∈ ctmps c, e.get t = e'.get t) : stepOp call c e s = stepOp call c e' s := by
  cases c <;> simp only [ctmps] at h <;> simp only [stepOp]
  case pick c a b => rw [ev_congr (x := c) fun t ht => h t (by simp [ht]), ev_congr (x := a) fun t ht => h t (by simp [ht]), ev_congr (x := b) fun t ht => h t (by simp [ht])]
  case build z ps => rw [fillParts_congr ps z h]
  case lit ty sz z len ps => rw [fillLit_congr ps _ h]
  case store sz a x => rw [ev_congr (x := a) fun t ht => h t (by simp [ht]), ev_congr (x := x) fun t ht => h t (by simp [ht])]
  case ibin op a x => rw [ev_congr (x := a) fun t ht => h t (by simp [ht]), ev_congr (x := x) fun t ht => h t (by simp [ht])]
  case beq ng k a x => rw [ev_congr (x := a) fun t ht => h t (by simp [ht]), ev_congr (x := x) fun t ht => h t (by simp [ht])]
  case sbin op a x => rw [ev_congr (x := a) fun t ht => h t (by simp [ht]), ev_congr (x := x) fun t ht => h t (by simp [ht])]
  case at_ sz a x => rw [ev_congr (x := a) fun t ht => h t (by simp [ht]), ev_congr (x := x) fun t ht => h t (by simp [ht])]
  case atT a x => rw [ev_congr (x := a) fun t ht => h t (by simp [ht]), ev_congr (x := x) fun t ht => h t (by simp [ht])]
  case ixA g sz n a x => rw [ev_congr (x := a) fun t ht => h t (by simp [ht]), ev_congr (x := x) fun t ht => h t (by simp [ht])]
  case atP sz n a x => rw [ev_congr (x := a) fun t ht => h t (by simp [ht]), ev_congr (x := x) fun t ht => h t (by simp [ht])]
  case app ty sz b a x => rw [ev_congr (x := a) fun t ht => h t (by simp [ht]), ev_congr (x := x) fun t ht => h t (by simp [ht])]
  case fn f xs => rw [map_congr h]
  case mnmx mx xs => rw [map_congr h]
  case cutS sz x l k => rw [ev_congr (x := x) fun t ht => h t (by simp [ht]), boundA_congr (x := l) fun t ht => h t (by simp [ht]), boundA_congr (x := k) fun t ht => h t (by simp [ht])]
  case cutT x l k => rw [ev_congr (x := x) fun t ht => h t (by simp [ht]), boundA_congr (x := l) fun t ht => h t (by simp [ht]), boundA_congr (x := k) fun t ht => h t (by simp [ht])]
  case cut3 x l k => rw [ev_congr (x := x) fun t ht => h t (by simp [ht]), ev_congr (x := l) fun t ht => h t (by simp [ht]), ev_congr (x := k) fun t ht => h t (by simp [ht])]
  case call f xs => rw [ev_congr (x := f) fun t ht => h t (by simp [ht]), map_congr (xs := xs) fun t ht => h t (by rw [List.mem_append]; exact .inr ht)]
  all_goals first | rw [ev_congr h] | rfl

theorem wantedA_congr {e e' : Env} {c : COper} (h : ∀ t ∈ creads c, e.get t = e'.get t) : wantedA c e = wantedA c e' := by
  unfold wantedA
  cases hg : c.guard with
  | none => rfl
  | some g =>
    obtain ⟨t, b⟩ := g
    simp only
    rw [h t (by simp [creads, hg])]

/-! Hidden rows. -/
theorem get_hide : ∀ (rs : List Nat) (s : Mem) (r : Nat), (s.hide rs).get r = if r ∈ rs then none else s.get r := by
  intro rs
  induction rs with
  | nil => intro s r; simp [Mem.hide]
  | cons q rs ih =>
    intro s r
    simp only [Mem.hide, ih, Mem.get_put, List.mem_cons]
    by_cases h1 : r ∈ rs
    · simp [h1]
    · by_cases h2 : r = q
      · simp [h2]
      · simp [h1, h2]
theorem next_hide : ∀ (rs : List Nat) (s : Mem), (s.hide rs).next = s.next := by
  intro rs
  induction rs with
  | nil => intro s; rfl
  | cons q rs ih => intro s; rw [Mem.hide, ih]; rfl
theorem floor_hide : ∀ (rs : List Nat) (s : Mem), (s.hide rs).floor = s.floor := by
  intro rs
  induction rs with
  | nil => intro s; rfl
  | cons q rs ih => intro s; rw [Mem.hide, ih]; rfl
theorem get_bring : ∀ (rs : List Nat) (s' s : Mem) (r : Nat), (s'.bring s rs).get r = if r ∈ rs then s.get r else s'.get r := by
  intro rs
  induction rs with
  | nil => intro s' s r; simp [Mem.bring]
  | cons q rs ih =>
    intro s' s r
    simp only [Mem.bring, Mem.get_put, ih, List.mem_cons]
    by_cases h2 : r = q
    · simp [h2]
    · simp [h2]
theorem next_bring : ∀ (rs : List Nat) (s' s : Mem), (s'.bring s rs).next = s'.next := by
  intro rs
  induction rs with
  | nil => intro s' s; rfl
  | cons q rs ih => intro s' s; rw [Mem.bring, Mem.next_put, ih]
theorem floor_bring : ∀ (rs : List Nat) (s' s : Mem), (s'.bring s rs).floor = s'.floor := by
  intro rs
  induction rs with
  | nil => intro s' s; rfl
  | cons q rs ih => intro s' s; rw [Mem.bring, Mem.floor_put, ih]
theorem WfM.hide {s : Mem} (h : WfM s) (rs : List Nat) : WfM (s.hide rs) := by
  refine ⟨by rw [next_hide, floor_hide]; exact h.floor, fun r hr => ?_⟩
  rw [next_hide] at hr
  rw [get_hide, h.none r hr]; simp
theorem Step.unhide {s s1 : Mem} {rs : List Nat} (h : WfM s) (hs : Step (s.hide rs) s1) : Step s (s1.bring s rs) := by
  have hn := hs.next
  have hf := hs.floor
  rw [next_hide] at hn
  rw [floor_hide] at hf
  refine ⟨by rw [next_bring]; exact hn, by rw [floor_bring]; exact hf, ?_, ⟨by rw [next_bring, floor_bring]; exact hs.wf.floor, ?_⟩, ?_⟩
  · intro r hr
    rw [get_bring]
    split
    · rfl
    · rename_i hm
      rw [hs.low r (by rw [floor_hide]; exact hr), get_hide, if_neg hm]
  · intro r hr
    rw [next_bring] at hr
    rw [get_bring]
    split
    · exact h.none r (Nat.le_trans hn hr)
    · exact hs.wf.none r hr
  · intro r hr hg
    rw [get_bring]
    split
    · exact hg
    · rename_i hm
      exact hs.dead r (by rw [next_hide]; exact hr) (by rw [get_hide, if_neg hm]; exact hg)
theorem Rel.hide {W0 : World} {m : PM} {s : Mem} {w : World} (h : Rel W0 m s w) (rs : List Nat) : Rel W0 m (s.hide rs) w := by
  have lv : ∀ r row, (s.hide rs).get r = some row → s.get r = some row := by
    intro r row hr
    rw [get_hide] at hr
    split at hr
    · cases hr
    · exact hr
  exact ⟨h.below, h.wf.hide rs, fun r pl row h1 h2 => h.row r pl row h1 (lv r row h2), h.blk, fun r r' pl pl' row row' h1 h2 h3 h4 h5 => h.inj r r' pl pl' row row' h1 h2 (lv _ _ h3) (lv _ _ h4) h5⟩
theorem live_hide {s : Mem} {rs : List Nat} {r : Nat} (h : ((s.hide rs).get r).isSome = true) : r ∉ rs ∧ (s.get r).isSome = true := by
  rw [get_hide] at h
  split at h
  · cases h
  · rename_i hm; exact ⟨hm, h⟩
theorem After.unhide {W0 : World} {m m' : PM} {s s1 : Mem} {rs : List Nat} {w w' : World} (hr : Rel W0 m s w) (hs : Step (s.hide rs) s1) (hf : Fresh m (s.hide rs) s1) (hA : After W0 m (s.hide rs) w m' s1 w') : After W0 m s w m' (s1.bring s rs) w' := by
  have hst := Step.unhide hr.wf hs
  have hsub := hA.sub hf
  have hn : (s.hide rs).next = s.next := next_hide rs s
  have hfl : (s.hide rs).floor = s.floor := floor_hide rs s
  have some_ : ∀ {o : Option Row}, o.isSome = true → ∃ x, o = some x := fun {o} h => Option.isSome_iff_exists.mp h
  -- a hidden row's block is nobody else's
  have apart : ∀ r pl row r' pl' row', r ∈ rs → m r = some pl → s.get r = some row → r' ∉ rs → m' r' = some pl' → s1.get r' = some row' → pl.blk = pl'.blk → False := by
    intro r pl row r' pl' row' h1 h2 h3 h4 h5 h6 h7
    have hb := (hr.blk r pl h2).2
    by_cases hlt : r' < s.next
    · have hl := (live_hide (hs.live (by rw [hn]; exact hlt) (by rw [h6]; rfl))).2
      obtain ⟨x, hx⟩ := some_ hl
      rw [hA.same r' (.inl (by rw [hn]; exact hlt))] at h5
      have := hr.inj r r' pl pl' row x h2 h5 h3 hx h7
      subst this
      exact h4 h1
    · have hlt2 := hs.wf.lt h6
      rcases hA.fresh r' pl' (by rw [hn]; omega) hlt2 h5 with h | ⟨r0, pl0, q1, q2, _, _, q5⟩
      · omega
      · obtain ⟨l1, l2⟩ := live_hide q5
        obtain ⟨x, hx⟩ := some_ l2
        have := hr.inj r r0 pl pl0 row x h2 q1 h3 hx (h7.trans q2.symm)
        subst this
        exact l1 h1
  have old : ∀ r pl row, r ∈ rs → m' r = some pl → s.get r = some row → m r = some pl := by
    intro r pl row _ h2 h3
    rw [hA.same r (.inl (by rw [hn]; exact hr.wf.lt h3))] at h2
    exact h2
  refine ⟨⟨hA.rel.below, hst.wf, ?_, hA.rel.blk, ?_⟩, ?_, ?_, ?_, hA.size⟩
  · intro r pl row h1 h2
    rw [get_bring] at h2
    split at h2
    · rename_i hm
      have h1' := old r pl row hm h1 h2
      refine (hr.row r pl row h1' h2).mono hsub ?_
      rcases hA.frame pl.blk (hr.blk r pl h1').2 with h | ⟨r0, pl0, q1, q2, _, _, q5⟩
      · exact h
      · exfalso
        obtain ⟨l1, l2⟩ := live_hide q5
        obtain ⟨x, hx⟩ := some_ l2
        have := hr.inj r r0 pl pl0 row x h1' q1 h2 hx q2.symm
        subst this
        exact l1 hm
    · exact hA.rel.row r pl row h1 h2
  · intro r r' pl pl' row row' h1 h2 h3 h4 h5
    rw [get_bring] at h3 h4
    split at h3 <;> split at h4
    · rename_i m1 m2
      exact hr.inj r r' pl pl' row row' (old r pl row m1 h1 h3) (old r' pl' row' m2 h2 h4) h3 h4 h5
    · rename_i m1 m2
      exact (apart r pl row r' pl' row' m1 (old r pl row m1 h1 h3) h3 m2 h2 h4 h5).elim
    · rename_i m1 m2
      exact (apart r' pl' row' r pl row m2 (old r' pl' row' m2 h2 h4) h4 m1 h1 h3 h5.symm).elim
    · exact hA.rel.inj r r' pl pl' row row' h1 h2 h3 h4 h5
  · intro r h
    rw [next_bring] at h
    exact hA.same r (by rw [hn]; exact h)
  · intro b hb
    rcases hA.frame b hb with h | ⟨r, pl, q1, q2, q3, q4, q5⟩
    · exact .inl h
    · exact .inr ⟨r, pl, q1, q2, hfl ▸ q3, hn ▸ q4, (live_hide q5).2⟩
  · intro r pl h1 h2 h3
    rw [next_bring] at h2
    rcases hA.fresh r pl (by rw [hn]; exact h1) h2 h3 with h | ⟨r0, pl0, q1, q2, q3, q4, q5⟩
    · exact .inl h
    · exact .inr ⟨r0, pl0, q1, q2, hfl ▸ q3, hn ▸ q4, (live_hide q5).2⟩

theorem hideRows_congr {e e' : Env} : ∀ (xs : List Opd), (∀ x ∈ xs, ev e x = ev e' x) → hideRows e xs = hideRows e' xs := by
  intro xs
  induction xs with
  | nil => intro _; rfl
  | cons x xs ih =>
    intro h
    simp only [hideRows, h x (List.mem_cons_self ..), ih fun y hy => h y (List.mem_cons_of_mem _ hy)]
theorem mem_hideRows {e : Env} {x : Opd} {r : Nat} : ∀ {xs : List Opd}, x ∈ xs → rowOf (ev e x) = some r → r ∈ hideRows e xs := by
  intro xs
  induction xs with
  | nil => intro h; simp at h
  | cons y xs ih =>
    intro h hr
    simp only [hideRows]
    rcases List.mem_cons.mp h with rfl | h
    · rw [hr]; exact List.mem_cons_self ..
    · cases rowOf (ev e y) with
      | none => exact ih h hr
      | some q => exact List.mem_cons_of_mem _ (ih h hr)

/-- The value that an operation yields, and the memory behind it. -/
def valR (call : CallF) (o : COper) (rs : List Nat) (e : Env) (s : Mem) : Option (AV × Mem) :=
  if wantedA o e then
    if o.up then (stepOp call o.op e { s with floor := s.next }).map fun p => (p.1, { p.2 with floor := s.floor })
    else (stepOp call o.op e (s.hide rs)).map fun p => (p.1, p.2.bring s rs)
  else some (und, s)
def valO (call : CallF) (o : COper) (e : Env) (s : Mem) : Option (AV × Mem) := valR call o (hideRows e o.hide) e s

theorem stepO_val (call : CallF) (o : COper) (e : Env) (s : Mem) : stepO call o e s = (valO call o e s).map fun p => (putO e o.dst p.1, p.2) := by
  unfold stepO valO valR
  split
  · split
    · cases stepOp call o.op e { s with floor := s.next } <;> rfl
    · cases stepOp call o.op e (s.hide (hideRows e o.hide)) <;> rfl
  · rfl

theorem valR_congr {call : CallF} {o : COper} {rs : List Nat} {e e' : Env} {s : Mem} (h : ∀ t ∈ creads o, e.get t = e'.get t) : valR call o rs e s = valR call o rs e' s := by
  unfold valR
  rw [wantedA_congr h, stepOp_congr (c := o.op) fun t ht => h t (by simp [creads, ht]), stepOp_congr (c := o.op) fun t ht => h t (by simp [creads, ht])]

theorem WfM.floored {s : Mem} (h : WfM s) {f : Nat} (hf : f ≤ s.next) : WfM { s with floor := f } := ⟨hf, h.none⟩

/-- Of the memory behind an operation. -/
theorem valO_step {call : CallF} (hcall : ∀ g avs s r s', WfM s → call g avs s = some (r, s') → Step s s') {o : COper} {e : Env} {s s' : Mem} {r : AV} (h : WfM s) (hh : valO call o e s = some (r, s')) :
    Step s s' ∧ (o.up = true → ∀ q, q < s.next → s'.get q = s.get q) ∧ (o.up = false → ∀ q ∈ hideRows e o.hide, s'.get q = s.get q) := by
  unfold valO valR at hh
  split at hh
  · split at hh
    · obtain ⟨⟨v, s1⟩, h1, h2⟩ := Option.map_eq_some_iff.mp hh
      obtain ⟨rfl, rfl⟩ := Prod.mk.inj h2
      have hst := stepOp_step hcall (h.floored (Nat.le_refl _)) h1
      rename_i hup
      refine ⟨⟨hst.next, rfl, ?_, ?_, hst.dead⟩, ?_, fun hd => by rw [hup] at hd; cases hd⟩
      · intro q hq
        exact hst.low q (Nat.lt_of_lt_of_le hq h.floor)
      · exact ⟨Nat.le_trans h.floor hst.next, hst.wf.none⟩
      · intro _ q hq
        exact hst.low q hq
    · rename_i hup
      obtain ⟨⟨v, s1⟩, h1, h2⟩ := Option.map_eq_some_iff.mp hh
      obtain ⟨rfl, rfl⟩ := Prod.mk.inj h2
      refine ⟨Step.unhide h (stepOp_step hcall (h.hide _) h1), fun h => absurd h hup, fun _ q hq => ?_⟩
      rw [get_bring, if_pos hq]
  · obtain ⟨rfl, rfl⟩ := Prod.mk.inj (Option.some.inj hh)
    exact ⟨Step.refl h, fun _ _ _ => rfl, fun _ _ _ => rfl⟩

theorem stepO_step {call : CallF} (hcall : ∀ g avs s r s', WfM s → call g avs s = some (r, s') → Step s s') {o : COper} {e e' : Env} {s s' : Mem} (h : WfM s) (hh : stepO call o e s = some (e', s')) : Step s s' := by
  rw [stepO_val] at hh
  obtain ⟨⟨v, s1⟩, h1, h2⟩ := Option.map_eq_some_iff.mp hh
  obtain ⟨_, rfl⟩ := Prod.mk.inj h2
  exact (valO_step hcall h h1).1

theorem opsA_step {call : CallF} (hcall : ∀ g avs s r s', WfM s → call g avs s = some (r, s') → Step s s') : ∀ (l : List COper) {e e' : Env} {s s' : Mem}, WfM s → opsA call l e s = some (e', s') → Step s s' := by
  intro l
  induction l with
  | nil => intro e e' s s' h hh; simp only [opsA] at hh; obtain ⟨_, rfl⟩ := Prod.mk.inj (Option.some.inj hh); exact Step.refl h
  | cons o l ih =>
    intro e e' s s' h hh
    simp only [opsA] at hh
    split at hh
    · rename_i p hp
      have h1 := stepO_step hcall h hp
      exact h1.trans (ih h1.wf hh)
    · cases hh

theorem Rel.floored {W0 : World} {m : PM} {s : Mem} {w : World} (h : Rel W0 m s w) {f : Nat} (hf : f ≤ s.next) : Rel W0 m { s with floor := f } w :=
  ⟨h.below, h.wf.floored hf, h.row, h.blk, h.inj⟩

section
variable {P : Program} {W0 : World} {m m' : PM} {s s' : Mem} {w w' : World} {n : Nat} {a : Act} {e e' : Env} {r : AV} {call : CallF} {ops : Array Oper}

theorem wanted_eq {o : Oper} {co : COper} {u : Bool × List Opd} (hc : cOper P n ops u o = some co) (he : EnvOK W0 m n a e) : Region.wanted o (yielded ops a.tmps) = wantedA co e := by
  simp only [cOper, Option.bind_eq_bind] at hc
  obtain ⟨c, h1, hc⟩ := Option.bind_eq_some_iff.mp hc
  obtain ⟨g, h2, hc⟩ := Option.bind_eq_some_iff.mp hc
  split at hc
  · obtain rfl := Option.some.inj hc
    unfold Region.wanted wantedA
    cases hg : o.guard with
    | none => rw [hg] at h2; simp only [cGuard] at h2; obtain rfl := Option.some.inj h2; rfl
    | some jb =>
      obtain ⟨j, b⟩ := jb
      rw [hg] at h2
      simp only [cGuard] at h2
      split at h2
      · rename_i t ht
        obtain rfl := Option.some.inj h2
        simp only [yielded, ht, Option.bind_some]
        have hv := he.get t
        rw [Array.getD_eq_getD_getElem?] at hv
        generalize e.get t = av at hv
        cases hx : a.tmps[t]? with
        | none =>
          rw [hx] at hv
          simp only [Option.getD_none, undef] at hv
          cases hv
          simp
        | some x =>
          rw [hx] at hv
          simp only [Option.getD_some] at hv
          cases hv <;> first | (rename_i c; cases c <;> cases b <;> rfl) | simp
      · cases h2
  · cases hc

theorem cOper_parts {o : Oper} {co : COper} {u : Bool × List Opd} (hc : cOper P n ops u o = some co) : cOp P o.op = some co.op ∧ co.dst = o.dst ∧ (co.up = u.1 ∧ co.hide = u.2) ∧ dstOk n o.dst = true := by
  simp only [cOper, Option.bind_eq_bind] at hc
  obtain ⟨c, h1, hc⟩ := Option.bind_eq_some_iff.mp hc
  obtain ⟨g, h2, hc⟩ := Option.bind_eq_some_iff.mp hc
  split at hc
  · rename_i hd
    obtain rfl := Option.some.inj hc
    exact ⟨h1, rfl, ⟨rfl, rfl⟩, (Bool.and_eq_true _ _ ▸ hd).1⟩
  · cases hc

theorem cOper_inert {o : Oper} {co : COper} {u : Bool × List Opd} (hc : cOper P n ops u o = some co) (hi : inertO o.op = true) : inertC co.op = true := by
  simp only [cOper, Option.bind_eq_bind] at hc
  obtain ⟨c, h1, hc⟩ := Option.bind_eq_some_iff.mp hc
  obtain ⟨g, h2, hc⟩ := Option.bind_eq_some_iff.mp hc
  split at hc
  · rename_i hd
    obtain rfl := Option.some.inj hc
    have h3 : (!inertO o.op || inertC c) = true := (Bool.and_eq_true _ _ ▸ hd).2
    rw [hi] at h3
    exact h3
  · cases hc

/-- One operation of a region. -/
theorem oper_ok (hC : CallOK P W0 call) {o : Oper} {co : COper} {u : Bool × List Opd} {i : Nat} (ho : ops[i]? = some o) (hc : cOper P n ops u o = some co) {rs : List Nat} (hs : valR call co rs e s = some (r, s')) (hr : Rel W0 m s w) (hf : Fresh m s s') (he : EnvOK W0 m n a e)
    {K : Act → World → Prop} {Q : Exit → Act → World → Prop}
    (hK : ∀ v m' w', After W0 m s w m' s' w' → (co.up = true → ∀ b, b < w.heap.size → w'.heap[b]? = w.heap[b]?) → (co.up = true → ∀ q pl, s.next ≤ q → q < s'.next → m' q = some pl → w.heap.size ≤ pl.blk) → V W0 m' v r → K (a.put o.dst v) w') : wpOp P ops Q i K a w := by
  obtain ⟨p1, p2, p3, p4⟩ := cOper_parts hc
  unfold wpOp
  rw [ho]
  simp only
  rw [wanted_eq hc he]
  unfold valR at hs
  split at hs
  · rename_i hw
    rw [if_pos hw]
    refine .inl ?_
    split at hs
    · obtain ⟨⟨v, s1⟩, h1, h2⟩ := Option.map_eq_some_iff.mp hs
      obtain ⟨rfl, rfl⟩ := Prod.mk.inj h2
      have hst := stepOp_step hC.step (hr.wf.floored (Nat.le_refl _)) h1
      refine op_sound hC p1 h1 (hr.floored (Nat.le_refl _)) hf he K Q ?_
      intro v m' w' hA hV
      refine hK v m' w' ⟨hA.rel.floored (Nat.le_trans hr.wf.floor hst.next), hA.same, ?_, ?_, hA.size⟩ ?_ ?_ hV
      · intro b hb
        rcases hA.frame b hb with h | ⟨q, pl, _, _, h3, h4, _⟩
        · exact .inl h
        · exact absurd h4 (Nat.not_lt.mpr h3)
      · intro q pl h3 h4 h5
        rcases hA.fresh q pl h3 h4 h5 with h | ⟨q0, pl0, _, _, h6, h7, _⟩
        · exact .inl h
        · exact absurd h7 (Nat.not_lt.mpr h6)
      · intro _ b hb
        rcases hA.frame b hb with h | ⟨q, pl, _, _, h3, h4, _⟩
        · exact h
        · exact absurd h4 (Nat.not_lt.mpr h3)
      · intro _ q pl h3 h4 h5
        rcases hA.fresh q pl h3 h4 h5 with h | ⟨q0, pl0, _, _, h6, h7, _⟩
        · exact h
        · exact absurd h7 (Nat.not_lt.mpr h6)
    · rename_i hup
      obtain ⟨⟨v, s1⟩, h1, h2⟩ := Option.map_eq_some_iff.mp hs
      obtain ⟨rfl, rfl⟩ := Prod.mk.inj h2
      have hst := stepOp_step hC.step (hr.wf.hide _) h1
      have hf1 : Fresh m (s.hide rs) s1 := by
        intro q h3 h4
        rw [next_hide] at h3
        exact hf q h3 (by rw [next_bring]; exact h4)
      refine op_sound hC p1 h1 (hr.hide _) hf1 he K Q ?_
      intro v m' w' hA hV
      exact hK v m' w' (After.unhide hr hst hf1 hA) (fun h => absurd h hup) (fun h => absurd h hup) hV
  · rename_i hw
    rw [if_neg hw]
    obtain ⟨rfl, rfl⟩ := Prod.mk.inj (Option.some.inj hs)
    exact hK undef m w (.refl hr) (fun _ _ _ => rfl) (fun _ q pl h1 h2 _ => by omega) (V.und W0 m)

/-- What a compact region is made of. -/
theorem cRegion_parts {draw : Bool} {cs : List COper} (h : cRegion P n ops draw = some cs) : cs.length = ops.size ∧ (∀ (i : Nat) (o : Oper) (co : COper), ops[i]? = some o → cs[i]? = some co → ∃ u, (ups P n ops draw)[i]? = some u ∧ cOper P n ops u o = some co) ∧
    (draw = true → P.follows .mixedOrders = true ∧ edgesOk ops = true ∧ readsOk (Region.before ops) cs = true) := by
  simp only [cRegion, Option.bind_eq_bind] at h
  obtain ⟨l, h1, h2⟩ := Option.bind_eq_some_iff.mp h
  have hups : (ups P n ops draw).length = ops.size := by
    unfold ups
    split <;> simp
  obtain ⟨g1, g2⟩ := mapM_some h1
  split at h2
  · cases h2
  · rename_i hd
    obtain rfl := Option.some.inj h2
    refine ⟨by rw [← g1]; simp [hups], ?_, ?_⟩
    · intro i o co ho hco
      have hi : i < ops.size := (Array.getElem?_eq_some_iff.mp ho).1
      have hz : (ops.toList.zip (ups P n ops draw))[i]? = some (o, (ups P n ops draw)[i]'(by omega)) := by
        rw [List.getElem?_zip_eq_some]
        exact ⟨by rw [Array.getElem?_toList]; exact ho, by simp⟩
      exact ⟨_, by simp, g2 i _ co hz hco⟩
    · intro hdr
      subst hdr
      simp only [Bool.true_and, Bool.not_eq_true', Bool.not_eq_false, Bool.and_eq_true] at hd
      exact ⟨hd.1.1, hd.1.2, hd.2⟩

/-- A region in the text's order. -/
theorem ops_sound (hC : CallOK P W0 call) {draw : Bool} {cs : List COper} (hcs : cs.length = ops.size) (hall : ∀ (i : Nat) (o : Oper) (co : COper), ops[i]? = some o → cs[i]? = some co → ∃ u, (ups P n ops draw)[i]? = some u ∧ cOper P n ops u o = some co) {Q : Exit → Act → World → Prop} :
    ∀ (d i : Nat) (m : PM) (s : Mem) (w : World) (a : Act) (e : Env), i + d = ops.size → opsA call (cs.drop i) e s = some (e', s') → Rel W0 m s w → Fresh m s s' → EnvOK W0 m n a e →
      (∀ a' m' w', After W0 m s w m' s' w' → EnvOK W0 m' n a' e' → Q .normal a' w') → wpOps P ops Q (List.range' i d) a w := by
  intro d
  induction d with
  | zero =>
    intro i m s w a e hi hs hr hf he hQ
    rw [List.drop_eq_nil_of_le (by omega)] at hs
    simp only [opsA] at hs
    obtain ⟨rfl, rfl⟩ := Prod.mk.inj (Option.some.inj hs)
    simp only [List.range'_zero, wpOps]
    exact hQ a m w (.refl hr) he
  | succ d ih =>
    intro i m s w a e hi hs hr hf he hQ
    have hlt : i < ops.size := by omega
    have ho : ops[i]? = some ops[i] := by simp
    have hco : cs[i]? = some cs[i] := List.getElem?_eq_getElem (by omega)
    obtain ⟨u, hu, hc⟩ := hall i _ _ ho hco
    rw [List.drop_eq_getElem_cons (by omega)] at hs
    simp only [opsA] at hs
    split at hs
    · rename_i p hp
      obtain ⟨e1, s1⟩ := p
      rw [stepO_val] at hp
      obtain ⟨⟨v, s1'⟩, hv, hp2⟩ := Option.map_eq_some_iff.mp hp
      obtain ⟨rfl, rfl⟩ := Prod.mk.inj hp2
      simp only at hs
      have st1 := (valO_step hC.step hr.wf hv).1
      have st2 := opsA_step hC.step _ st1.wf hs
      rw [List.range'_succ, wpOps_cons]
      refine oper_ok hC ho hc hv hr (hf.left st2) he ?_
      intro v m1 w1 hA _ _ hV
      obtain ⟨p1, p2, p3, p4⟩ := cOper_parts hc
      have hf1 := hf.right st1 hA
      refine ih (i + 1) m1 s1' w1 _ _ (by omega) hs hA.rel hf1 ?_ ?_
      · rw [p2]; exact (he.mono (hA.sub (hf.left st2))).put p4 hV
      · intro a' m' w' hA' he'
        exact hQ a' m' w' (After.trans st1 st2 hA hA') he'
    · cases hs

theorem region_sound (hC : CallOK P W0 call) {cs : List COper} {id : Nat} (hcr : cRegion P n ops false = some cs) (hs : opsA call cs e s = some (e', s')) (hr : Rel W0 m s w) (hf : Fresh m s s') (he : EnvOK W0 m n a e) {Q : Exit → Act → World → Prop}
    (hQ : ∀ a' m' w', After W0 m s w m' s' w' → EnvOK W0 m' n a' e' → Q .normal a' w') : (Code.region id ops false).wp P Q a w := by
  obtain ⟨h1, h2, _⟩ := cRegion_parts hcr
  refine wp_region ?_
  rw [List.range_eq_range']
  exact ops_sound hC h1 h2 ops.size 0 m s w a e (by omega) (by simpa using hs) hr hf he hQ

end
end Go.VI
