/- THE ABSTRACT RUN TELLS THE MACHINE'S. No statement of the seat is proved here. -/
import Derived.Test.YtdbbmeihhemflaaVDraw2
namespace Go.VI
open Go Go.RowKit

section
variable {P : Program} {W0 : World} {n : Nat}

def Ex.out : Ex → Exit
  | .normal => .normal
  | .exit id => .exit id
  | .ret => .ret

theorem callC_step {ex : CCode → Env → Mem → Option (Ex × Env × Mem)} {F : Nat → Option CFunc} (ih : ∀ (c : CCode) (e e' : Env) (s s' : Mem) (x : Ex), WfM s → ex c e s = some (x, e', s') → Step s s') {g : Nat} {avs : List AV} {s s' : Mem} {r : AV} (hw : WfM s) (h : callC ex F g avs s = some (r, s')) : Step s s' := by
  unfold callC at h
  split at h
  · split at h
    · split at h
      · rename_i hx
        obtain ⟨v, h1, h2⟩ := Option.map_eq_some_iff.mp h
        obtain ⟨_, rfl⟩ := Prod.mk.inj h2
        exact ih _ _ _ _ _ _ hw hx
      · rename_i hx
        obtain ⟨v, h1, h2⟩ := Option.map_eq_some_iff.mp h
        obtain ⟨_, rfl⟩ := Prod.mk.inj h2
        exact ih _ _ _ _ _ _ hw hx
      · cases h
    · cases h
  · cases h
theorem callB_step {ex : CCode → Env → Mem → Option (Ex × Env × Mem)} {F : Nat → Option CFunc} (ih : ∀ (c : CCode) (e e' : Env) (s s' : Mem) (x : Ex), WfM s → ex c e s = some (x, e', s') → Step s s') {g : Nat} {avs : List AV} {s s' : Mem} {r : AV} (hw : WfM s) (h : callB ex F g avs s = some (r, s')) : Step s s' := by
  unfold callB at h
  split at h
  · split at h
    · split at h
      · rename_i p hp
        split at h
        · obtain rfl := Option.some.inj h
          exact callC_step ih hw hp
        · cases h
      · cases h
    · cases h
  · exact callC_step ih hw h

theorem exec_step {F : Nat → Option CFunc} : ∀ (k : Nat) (c : CCode) (e e' : Env) (s s' : Mem) (x : Ex), WfM s → exec F k c e s = some (x, e', s') → Step s s' := by
  intro k
  induction k with
  | zero => intro c e e' s s' x _ h; simp [exec] at h
  | succ k ih =>
    have hcall : ∀ g avs s r s', WfM s → callA (exec F k) F g avs s = some (r, s') → Step s s' := by
      intro g avs s r s' hw h
      unfold callA at h
      split at h
      · split at h
        · split at h
          · obtain ⟨_, rfl⟩ := Prod.mk.inj (Option.some.inj h); exact Step.refl hw
          · cases h
        · cases h
      exact callB_step (fun c e e' s s' x hw h => ih c e e' s s' x hw h) hw h
    intro c e e' s s' x hw h
    cases c <;> simp only [exec] at h
    case skip => obtain ⟨_, _, rfl⟩ := (by simpa using h : _ ∧ _ ∧ _); exact Step.refl hw
    case region d ops =>
      obtain ⟨p, h1, h2⟩ := Option.map_eq_some_iff.mp h
      obtain ⟨_, h3⟩ := Prod.mk.inj h2
      obtain ⟨_, rfl⟩ := Prod.mk.inj h3
      exact opsA_step hcall ops hw (e' := p.1) h1
    case seq a b =>
      split at h
      · rename_i e1 s1 h1
        have g1 := ih _ _ _ _ _ _ hw h1
        exact g1.trans (ih _ _ _ _ _ _ g1.wf h)
      · exact ih _ _ _ _ _ _ hw h
    case cond c a b =>
      split at h
      · exact ih _ _ _ _ _ _ hw h
      · exact ih _ _ _ _ _ _ hw h
      · cases h
    case block id b =>
      split at h
      · rename_i j e1 s1 h1
        have g1 := ih _ _ _ _ _ _ hw h1
        split at h <;> (obtain ⟨_, _, rfl⟩ := (by simpa using h : _ ∧ _ ∧ _); exact g1)
      · exact ih _ _ _ _ _ _ hw h
    case loop b =>
      split at h
      · rename_i e1 s1 h1
        have g1 := ih _ _ _ _ _ _ hw h1
        exact g1.trans (ih _ _ _ _ _ _ g1.wf h)
      · exact ih _ _ _ _ _ _ hw h
    case exit id => obtain ⟨_, _, rfl⟩ := (by simpa using h : _ ∧ _ ∧ _); exact Step.refl hw
    case ret => obtain ⟨_, _, rfl⟩ := (by simpa using h : _ ∧ _ ∧ _); exact Step.refl hw

theorem callA_step {F : Nat → Option CFunc} (k : Nat) (g : Nat) (avs : List AV) (s : Mem) (r : AV) (s' : Mem) (hw : WfM s) (h : callA (exec F k) F g avs s = some (r, s')) : Step s s' := by
  unfold callA at h
  split at h
  · split at h
    · split at h
      · obtain ⟨_, rfl⟩ := Prod.mk.inj (Option.some.inj h); exact Step.refl hw
      · cases h
    · cases h
  exact callB_step (fun c e e' s s' x hw h => exec_step k c e e' s s' x hw h) hw h

def resV (tmps : Array Value) : ResultVar → Sem Value
  | .tmp t => pure (tmps.getD t undef)
  | .cell a t => do loadVar t (← asAddr (tmps.getD a undef))

theorem results_eq (fn : Func) (tmps : Array Value) : results fn tmps = (do let vs ← fn.results.mapM (resV tmps); pure (if h : vs.size = 1 then vs[0] else .tuple vs)) := rfl

/-- The results of a function. -/
theorem results_ok {fn : Func} {rs : List CRes} {m : PM} {s : Mem} {w : World} {a : Act} {e : Env} {r : AV} (hrs : fn.results.toList.mapM (cRes P) = some rs) (hr : Rel W0 m s w) (he : EnvOK W0 m n a e) (h : resultsA s e rs = some r) :
    ∃ v, (results fn a.tmps).run P w = .ok v w ∧ V W0 m v r := by
  have key : ∀ (l : List ResultVar) (rs : List CRes) (vs : List AV), l.mapM (cRes P) = some rs → rs.mapM (resA s e) = some vs →
      ∃ us : List Value, (l.mapM (resV a.tmps)).run P w = .ok us w ∧ us.length = vs.length ∧ ∀ (i : Nat) (v : Value) (c : AV), us[i]? = some v → vs[i]? = some c → V W0 m v c := by
    intro l
    induction l with
    | nil =>
      intro rs vs h1 h2
      simp at h1
      subst h1
      simp at h2
      subst h2
      exact ⟨[], by simp, rfl, by simp⟩
    | cons x l ih =>
      intro rs vs h1 h2
      simp only [List.mapM_cons, Option.pure_def, Option.bind_eq_bind] at h1
      obtain ⟨cr, hcr, h1⟩ := Option.bind_eq_some_iff.mp h1
      obtain ⟨crs, hcrs, h1⟩ := Option.bind_eq_some_iff.mp h1
      obtain rfl := Option.some.inj h1
      simp only [List.mapM_cons, Option.pure_def, Option.bind_eq_bind] at h2
      obtain ⟨v, hv, h2⟩ := Option.bind_eq_some_iff.mp h2
      obtain ⟨vs', hvs, h2⟩ := Option.bind_eq_some_iff.mp h2
      obtain rfl := Option.some.inj h2
      obtain ⟨us, g1, g2, g3⟩ := ih crs vs' hcrs hvs
      have one : ∃ u, (resV a.tmps x).run P w = .ok u w ∧ V W0 m u v := by
        cases x with
        | tmp t =>
          simp only [cRes] at hcr
          obtain rfl := Option.some.inj hcr
          simp only [resA] at hv
          obtain rfl := Option.some.inj hv
          exact ⟨_, by simp only [resV, Sem.run_pure], he.get t⟩
        | cell y t =>
          simp only [cRes] at hcr
          obtain ⟨agg, hag, hcr⟩ := Option.bind_eq_some_iff.mp hcr
          obtain ⟨sz, hsz, hcr⟩ := Option.bind_eq_some_iff.mp hcr
          obtain rfl := Option.some.inj hcr
          simp only [resA] at hv
          obtain ⟨ad, u, q1, q2, q3⟩ := loadA_ok (P := P) hag hsz hr (he.get y) hv
          refine ⟨u, ?_, q3⟩
          simp only [resV, q1, asAddr, Sem.run_bind, Sem.run_pure, Result.andThen_ok, q2]
      obtain ⟨u, q1, q2⟩ := one
      refine ⟨u :: us, ?_, by simp [g2], ?_⟩
      · rw [List.mapM_cons]
        simp only [Sem.run_bind, q1, Result.andThen_ok, g1, Sem.run_pure]
      · intro i v' c hi hc
        match i with
        | 0 => simp at hi hc; subst hi hc; exact q2
        | i + 1 => simp at hi hc; exact g3 i v' c hi hc
  unfold resultsA at h
  cases hvs : rs.mapM (resA s e) with
  | none => rw [hvs] at h; cases h
  | some vs =>
    rw [hvs] at h
    obtain ⟨us, g1, g2, g3⟩ := key _ _ _ hrs hvs
    have hrun : (results fn a.tmps).run P w = .ok (if h : us.toArray.size = 1 then us.toArray[0] else .tuple us.toArray) w := by
      rw [results_eq, Array.mapM_eq_mapM_toList]
      simp only [Sem.run_bind, Sem.run_map, g1, Result.andThen_ok, Sem.run_pure]
    refine ⟨_, hrun, ?_⟩
    match vs, g2, g3, h with
    | [v], g2, g3, h =>
      simp only at h
      obtain rfl := Option.some.inj h
      match us, g2, g3 with
      | [u], _, g3 => simpa using g3 0 u v rfl rfl
    | [], g2, g3, h =>
      simp only at h
      obtain rfl := Option.some.inj h
      match us, g2 with
      | [], _ => exact .tup _ _ rfl (by intro i v c h; simp at h)
    | v :: v' :: vs, g2, g3, h =>
      simp only at h
      obtain rfl := Option.some.inj h
      have hne : ¬ us.toArray.size = 1 := by rw [List.size_toArray, g2]; simp
      rw [dif_neg hne]
      refine .tup _ _ (by rw [List.size_toArray]; exact g2) ?_
      intro i x c hx hc
      exact g3 i x c (by simpa using hx) hc

theorem ofList_get : ∀ (vs : List AV) (i : Nat) (e : Env) (t : Nat), (Env.ofList i vs e).get t = if i ≤ t ∧ t < i + vs.length then (vs[t - i]?).getD und else e.get t := by
  intro vs
  induction vs with
  | nil => intro i e t; simp only [Env.ofList, List.length_nil]; rw [if_neg (by omega)]
  | cons v vs ih =>
    intro i e t
    simp only [Env.ofList, ih, Env.get_set, List.length_cons]
    by_cases h1 : t = i
    · subst h1
      rw [if_neg (by omega), if_pos rfl, if_pos (by omega)]
      simp
    · by_cases h2 : i + 1 ≤ t ∧ t < i + 1 + vs.length
      · rw [if_pos h2, if_pos (by omega)]
        have : t - i = (t - (i + 1)) + 1 := by omega
        rw [this, List.getElem?_cons_succ]
      · rw [if_neg h2, if_neg h1, if_neg (by omega)]

theorem start_ok {m : PM} {vs : Array Value} {avs : List AV} (h : VL W0 m vs avs) (hn : avs.length ≤ n) : EnvOK W0 m n { tmps := vs ++ Array.replicate (n - vs.size) undef, defers := [] } (Env.start avs) := by
  have hs := h.1
  refine ⟨by simp; omega, rfl, ?_⟩
  intro t
  simp only [Env.start, ofList_get, Nat.zero_add, Nat.sub_zero, Nat.zero_le, true_and]
  rw [Array.getD_eq_getD_getElem?]
  by_cases ht : t < avs.length
  · rw [if_pos ht, Array.getElem?_append_left (by omega)]
    have h1 : vs[t]? = some vs[t] := by simp
    have h2 : avs[t]? = some avs[t] := List.getElem?_eq_getElem ht
    rw [h1, h2]
    exact h.2 t _ _ h1 h2
  · rw [if_neg ht, Array.getElem?_append_right (by omega)]
    have : (Env.mk Tr.nil).get t = und := by simp [Env.get, Tr.get_nil]
    rw [this]
    cases hx : (Array.replicate (n - vs.size) undef)[t - vs.size]? with
    | none => exact V.und W0 m
    | some x =>
      rw [Array.getElem?_replicate] at hx
      split at hx
      · obtain rfl := Option.some.inj hx; exact V.und W0 m
      · cases hx

/-- What a code must do to be told by its abstract run. -/
def Told (P : Program) (W0 : World) (n : Nat) (c : Code) (F : Nat → Option CFunc) (k : Nat) (cc : CCode) : Prop :=
  ∀ (x : Ex) (e e' : Env) (s s' : Mem), exec F k cc e s = some (x, e', s') → ∀ (m : PM) (w : World) (a : Act), Rel W0 m s w → Fresh m s s' → EnvOK W0 m n a e →
    ∀ (Q : Exit → Act → World → Prop), (∀ a' m' w', After W0 m s w m' s' w' → EnvOK W0 m' n a' e' → Q x.out a' w') → c.wp P Q a w

theorem rel_none {w : World} (h : Below W0.heap.size W0 w) : Rel W0 (fun _ => none) Mem.zero w := by
  refine ⟨h, ⟨Nat.le_refl _, fun r _ => by simp [Mem.get, Mem.zero, Tr.get_nil]⟩, ?_, ?_, ?_⟩
  · intro r pl row h; cases h
  · intro r pl h; cases h
  · intro r r' pl pl' row row' h; cases h

/-- A function that is told apart, at the machine. -/
def Back (P : Program) (f g : Nat) : Prop :=
  ∀ (W0 : World) (m : PM) (s : Mem) (w : World) (vs : Array Value) (avs : List AV) (d : AV) (s' : Mem) (r : AV), Rel W0 m s w → VL W0 m vs avs → backSel s avs = some d → Fresh m s s' → Step s s' →
    sliceA r = true → (∀ (W : World) (u : Value), Rel W0 m s W → V W0 m u d → Calls P g #[u] W (fun en W' => ∃ v m', en = .returned v ∧ After W0 m s W m' s' W' ∧ V W0 m' v r)) →
    Calls P f vs w (fun en w' => ∃ v m', en = .returned v ∧ After W0 m s w m' s' w' ∧ V W0 m' v r)
/-- What is told apart is so. -/
def XOK (P : Program) (X : Nat → Option CFunc) : Prop :=
  ∀ f cf, X f = some cf → ∃ g, cf.prim = some g ∧ Back P f g ∧ ∃ fn, P.funcs[f]? = some fn ∧ fn.body.isNone = false ∧ (fn.name == "runtime.NumGoroutine") = false
theorem XOK.none : XOK P (fun _ => .none) := fun f cf h => by cases h
theorem comp_prim {f : Nat} {cf : CFunc} (h : comp P f = some cf) : cf.prim = .none := by
  unfold comp at h
  obtain ⟨fn, hfn, hcf⟩ := Option.bind_eq_some_iff.mp h
  simp only [cFunc, Option.bind_eq_bind] at hcf
  obtain ⟨b, hb, hcf⟩ := Option.bind_eq_some_iff.mp hcf
  obtain ⟨c, hc, hcf⟩ := Option.bind_eq_some_iff.mp hcf
  obtain ⟨rs, hrs, hcf⟩ := Option.bind_eq_some_iff.mp hcf
  split at hcf
  · cases hcf
  obtain rfl := Option.some.inj hcf
  rfl
theorem compX_plain {X : Nat → Option CFunc} (hX : XOK P X) {f : Nat} {cf : CFunc} (h : compX P X f = some cf) (hp : cf.prim = .none) : comp P f = some cf := by
  unfold compX at h
  split at h
  · rename_i cf' hx
    obtain rfl := Option.some.inj h
    obtain ⟨g, h1, _⟩ := hX f _ hx
    rw [hp] at h1; cases h1
  · exact h
theorem compX_prim {X : Nat → Option CFunc} (hX : XOK P X) {f g : Nat} (h : primF (compX P X) f = some g) : (∃ cf, X f = some cf) ∧ Back P f g ∧ ∃ fn, P.funcs[f]? = some fn ∧ fn.body.isNone = false ∧ (fn.name == "runtime.NumGoroutine") = false := by
  unfold primF at h
  obtain ⟨cf, h1, h2⟩ := Option.bind_eq_some_iff.mp h
  unfold compX at h1
  split at h1
  · rename_i cf' hx
    obtain rfl := Option.some.inj h1
    obtain ⟨g', h3, h4, h5⟩ := hX f _ hx
    rw [h2] at h3
    obtain rfl := Option.some.inj h3
    exact ⟨⟨_, hx⟩, h4, h5⟩
  · rw [comp_prim h1] at h2; cases h2

theorem callC_ok {X : Nat → Option CFunc} (hX : XOK P X) {k : Nat} (ih : ∀ (n : Nat) (c : Code) (cc : CCode), cCode P n c = some cc → Told P W0 n c (compX P X) k cc) : ∀ g avs s r s', callC (exec (compX P X) k) (compX P X) g avs s = some (r, s') → ∀ m w vs, Rel W0 m s w → Fresh m s s' → VL W0 m vs avs →
    Calls P g vs w (fun en w' => ∃ v m', en = .returned v ∧ After W0 m s w m' s' w' ∧ V W0 m' v r) := by
  intro g avs s r s' h m w vs hr hf hV
  unfold callC at h
  split at h
  case h_2 => cases h
  rename_i cf hcf
  split at h
  case isFalse => cases h
  rename_i hlen
  obtain ⟨hlen, hprim⟩ := hlen
  replace hcf := compX_plain hX hcf hprim
  unfold comp at hcf
  obtain ⟨fn, hfn, hcf⟩ := Option.bind_eq_some_iff.mp hcf
  simp only [cFunc, Option.bind_eq_bind] at hcf
  obtain ⟨b, hb, hcf⟩ := Option.bind_eq_some_iff.mp hcf
  obtain ⟨c, hc, hcf⟩ := Option.bind_eq_some_iff.mp hcf
  obtain ⟨rs, hrs, hcf⟩ := Option.bind_eq_some_iff.mp hcf
  split at hcf
  · cases hcf
  obtain rfl := Option.some.inj hcf
  simp only at hlen h
  have fin : ∀ (x : Ex) (e' : Env) (s1 : Mem), (x = .normal ∨ x = .ret) → exec (compX P X) k c (Env.start avs) s = some (x, e', s1) → (resultsA s1 e' rs).map (fun v => (v, s1)) = some (r, s') →
      Calls P g vs w (fun en w' => ∃ v m', en = .returned v ∧ After W0 m s w m' s' w' ∧ V W0 m' v r) := by
    intro x e' s1 hx he h2
    obtain ⟨v, h3, h4⟩ := Option.map_eq_some_iff.mp h2
    obtain ⟨rfl, rfl⟩ := Prod.mk.inj h4
    refine calls_of_wp hfn hb ?_
    refine ih fn.ntmps b c hc x _ _ _ _ he m w _ hr hf (start_ok hV hlen) _ ?_
    intro a' m' w' hA hE
    obtain ⟨u, q1, q2⟩ := results_ok hrs hA.rel hE h3
    rcases hx with rfl | rfl
    · exact ⟨hE.defers, u, q1, u, m', rfl, hA, q2⟩
    · exact ⟨hE.defers, u, q1, u, m', rfl, hA, q2⟩
  split at h
  · rename_i hx; exact fin .normal _ _ (.inl rfl) hx h
  · rename_i hx; exact fin .ret _ _ (.inr rfl) hx h
  · cases h

theorem callB_ok {X : Nat → Option CFunc} (hX : XOK P X) {k : Nat} (ih : ∀ (n : Nat) (c : Code) (cc : CCode), cCode P n c = some cc → Told P W0 n c (compX P X) k cc) : ∀ g avs s r s', callB (exec (compX P X) k) (compX P X) g avs s = some (r, s') → ∀ m w vs, Rel W0 m s w → Fresh m s s' → VL W0 m vs avs →
    Calls P g vs w (fun en w' => ∃ v m', en = .returned v ∧ After W0 m s w m' s' w' ∧ V W0 m' v r) := by
  intro g avs s r s' h m w vs hr hf hV
  unfold callB at h
  split at h
  · rename_i g2 hp
    split at h
    · rename_i d hd
      obtain ⟨_, hB, _⟩ := compX_prim hX hp
      split at h
      case h_2 => cases h
      rename_i p hcc
      split at h
      case isFalse => cases h
      rename_i hsl
      obtain rfl := Option.some.inj h
      replace h := hcc
      refine hB W0 m s w vs avs d s' r hr hV hd hf (callC_step (fun c e e' s s' x hw h => exec_step k c e e' s s' x hw h) hr.wf h) hsl ?_
      intro W u hrW hu
      exact callC_ok hX ih g2 [d] s r s' h m W #[u] hrW hf ⟨rfl, by
        intro i v c hv hc
        match i with
        | 0 => simp at hv hc; subst hv hc; exact hu
        | i + 1 => simp at hc⟩
    · cases h
  · exact callC_ok hX ih g avs s r s' h m w vs hr hf hV

theorem callC_fn {X : Nat → Option CFunc} (hX : XOK P X) {k : Nat} {g : Nat} {avs : List AV} {s : Mem} {p : AV × Mem} (h : callC (exec (compX P X) k) (compX P X) g avs s = some p) : ∃ fn, P.funcs[g]? = some fn ∧ fn.body.isNone = false ∧ (fn.name == "runtime.NumGoroutine") = false := by
  unfold callC at h
  split at h
  case h_2 => cases h
  rename_i cf hcf
  split at h
  case isFalse => cases h
  rename_i hl
  replace hcf := compX_plain hX hcf hl.2
  unfold comp at hcf
  obtain ⟨fn, hfn, hcf⟩ := Option.bind_eq_some_iff.mp hcf
  simp only [cFunc, Option.bind_eq_bind] at hcf
  obtain ⟨b, hb, hcf⟩ := Option.bind_eq_some_iff.mp hcf
  obtain ⟨c, hc, hcf⟩ := Option.bind_eq_some_iff.mp hcf
  obtain ⟨rs, hrs, hcf⟩ := Option.bind_eq_some_iff.mp hcf
  split at hcf
  · cases hcf
  rename_i hn
  exact ⟨fn, hfn, by rw [hb]; rfl, by simpa using hn⟩

theorem callB_fn {X : Nat → Option CFunc} (hX : XOK P X) {k : Nat} {g : Nat} {avs : List AV} {s : Mem} {p : AV × Mem} (h : callB (exec (compX P X) k) (compX P X) g avs s = some p) : ∃ fn, P.funcs[g]? = some fn ∧ fn.body.isNone = false ∧ (fn.name == "runtime.NumGoroutine") = false := by
  unfold callB at h
  split at h
  · rename_i g2 hp
    exact (compX_prim hX hp).2.2
  · exact callC_fn hX h

theorem V.plain {m m' : PM} {v : Value} {c : AV} (h : V W0 m v c) (hc : plainA c = true) : V W0 m' v c := by
  cases h <;> first | (simp [plainA] at hc; done) | skip
  · exact .bool _
  · exact .int _ _
  · exact .str _

theorem call_ok {X : Nat → Option CFunc} (hX : XOK P X) {k : Nat} (ih : ∀ (n : Nat) (c : Code) (cc : CCode), cCode P n c = some cc → Told P W0 n c (compX P X) k cc) : CallOK P W0 (callA (exec (compX P X) k) (compX P X)) := by
  refine ⟨?_, ?_, fun g avs s r s' hw h => callA_step k g avs s r s' hw h⟩
  · intro g avs s r s' h m w vs hr hf hV
    unfold callA at h
    split at h
    · rename_i hi
      have hnil : avs = [] := by
        have := (Bool.and_eq_true _ _ ▸ hi).2
        simpa using this
      split at h
      · rename_i v s1 hb
        split at h
        · rename_i hp
          obtain ⟨rfl, rfl⟩ := Prod.mk.inj (Option.some.inj h)
          subst hnil
          refine (callB_ok hX ih g [] .zero v s1 hb (fun _ => none) w vs (rel_none hr.below) (fun _ _ _ => rfl) ⟨hV.1, by intro i v c _ h; simp at h⟩).mono ?_
          rintro e w' ⟨u, m', rfl, hA, hu⟩
          have hfr : ∀ b, b < w.heap.size → w'.heap[b]? = w.heap[b]? := by
            intro b hb
            rcases hA.frame b hb with h | ⟨r, pl, h, _⟩
            · exact h
            · cases h
          refine ⟨u, m, rfl, ⟨⟨hA.rel.below, hr.wf, ?_, ?_, hr.inj⟩, fun _ _ => rfl, fun b hb => .inl (hfr b hb), fun r pl h1 h2 _ => by omega, hA.size⟩, hu.plain hp⟩
          · intro r pl row h1 h2
            exact (hr.row r pl row h1 h2).mono (fun _ _ h => h) (hfr _ (hr.blk r pl h1).2)
          · intro r pl h1
            have := hr.blk r pl h1
            exact ⟨this.1, Nat.lt_of_lt_of_le this.2 hA.size⟩
        · cases h
      · cases h
    · exact callB_ok hX ih g avs s r s' h m w vs hr hf hV
  · intro g avs s p h
    unfold callA at h
    split at h
    · split at h
      · rename_i hb; exact callB_fn hX hb
      · cases h
    · exact callB_fn hX h

theorem rounds_ok {X : Nat → Option CFunc} {b : Code} {cb : CCode} {K : Nat} (hb : ∀ j, j < K → Told P W0 n b (compX P X) j cb) : ∀ (k : Nat), k ≤ K → ∀ (x : Ex) (e e' : Env) (s s' : Mem), exec (compX P X) k (.loop cb) e s = some (x, e', s') → ∀ (m : PM) (w : World) (a : Act), Rel W0 m s w → Fresh m s s' → EnvOK W0 m n a e →
    ∀ (Q : Exit → Act → World → Prop), (∀ a' m' w', After W0 m s w m' s' w' → EnvOK W0 m' n a' e' → Q x.out a' w') → Code.rounds P b Q k a w := by
  intro k
  induction k with
  | zero => intro _ x e e' s s' h; simp [exec] at h
  | succ k ih =>
    intro hk x e e' s s' h m w a hr hf he Q hQ
    simp only [exec] at h
    rw [rounds_succ]
    split at h
    · rename_i e1 s1 hx
      have st1 := exec_step _ _ _ _ _ _ _ hr.wf hx
      have st2 := exec_step _ _ _ _ _ _ _ st1.wf h
      refine hb k (by omega) _ _ _ _ _ hx m w a hr (hf.left st2) he _ ?_
      intro a1 m1 w1 hA hE
      refine ih (by omega) _ _ _ _ _ h m1 w1 a1 hA.rel (hf.right st1 hA) hE Q ?_
      intro a2 m2 w2 hA2 hE2
      exact hQ a2 m2 w2 (After.trans st1 st2 hA hA2) hE2
    · rename_i hno
      refine hb k (by omega) _ _ _ _ _ h m w a hr hf he _ ?_
      intro a1 m1 w1 hA hE
      have := hQ a1 m1 w1 hA hE
      cases x with
      | normal => exact absurd h (hno _ _)
      | exit id => exact this
      | ret => exact this

/-- EVERY CODE. -/
theorem exec_ok {X : Nat → Option CFunc} (hX : XOK P X) : ∀ (k : Nat) (n : Nat) (c : Code) (cc : CCode), cCode P n c = some cc → Told P W0 n c (compX P X) k cc := by
  intro k
  induction k using Nat.strongRecOn with
  | _ k IH =>
  cases k with
  | zero => intro n c cc _ x e e' s s' h; simp [exec] at h
  | succ k =>
    have ih := IH k (Nat.lt_succ_self k)
    have hC := call_ok (W0 := W0) hX ih
    intro n c cc hc x e e' s s' h m w a hr hf he Q hQ
    cases c <;> simp only [cCode] at hc <;> try (cases hc; done)
    case skip =>
      obtain rfl := Option.some.inj hc
      simp only [exec] at h
      obtain ⟨rfl, rfl, rfl⟩ := (by simpa using h : _ ∧ _ ∧ _)
      exact wp_skip (hQ a m w (.refl hr) he)
    case region id ops draw =>
      obtain ⟨cs, hcs, hc⟩ := Option.bind_eq_some_iff.mp hc
      obtain rfl := Option.some.inj hc
      simp only [exec] at h
      obtain ⟨p, h1, h2⟩ := Option.map_eq_some_iff.mp h
      obtain ⟨p1, p2⟩ := p
      obtain ⟨rfl, h3⟩ := Prod.mk.inj h2
      obtain ⟨rfl, rfl⟩ := Prod.mk.inj h3
      cases draw with
      | false => exact region_sound hC hcs h1 hr hf he hQ
      | true => exact region_draw hC hcs h1 hr hf he hQ
    case seq c1 c2 =>
      obtain ⟨cc1, h1, hc⟩ := Option.bind_eq_some_iff.mp hc
      obtain ⟨cc2, h2, hc⟩ := Option.bind_eq_some_iff.mp hc
      obtain rfl := Option.some.inj hc
      simp only [exec] at h
      split at h
      · rename_i e1 s1 hx
        have st1 := exec_step _ _ _ _ _ _ _ hr.wf hx
        have st2 := exec_step _ _ _ _ _ _ _ st1.wf h
        refine wp_seq (ih n c1 cc1 h1 _ _ _ _ _ hx m w a hr (hf.left st2) he _ ?_)
        intro a1 m1 w1 hA hE
        refine ih n c2 cc2 h2 _ _ _ _ _ h m1 w1 a1 hA.rel (hf.right st1 hA) hE Q ?_
        intro a2 m2 w2 hA2 hE2
        exact hQ a2 m2 w2 (After.trans st1 st2 hA hA2) hE2
      · rename_i hno
        refine wp_seq (ih n c1 cc1 h1 _ _ _ _ _ h m w a hr hf he _ ?_)
        intro a1 m1 w1 hA hE
        have := hQ a1 m1 w1 hA hE
        cases x with
        | normal => exact absurd h (hno _ _)
        | exit id => exact this
        | ret => exact this
    case cond c c1 c2 =>
      obtain ⟨cx, hx, hc⟩ := Option.bind_eq_some_iff.mp hc
      obtain ⟨cc1, h1, hc⟩ := Option.bind_eq_some_iff.mp hc
      obtain ⟨cc2, h2, hc⟩ := Option.bind_eq_some_iff.mp hc
      obtain rfl := Option.some.inj hc
      simp only [exec] at h
      have hv := opd_V he hx
      split at h
      · rename_i hb
        rw [hb] at hv
        exact wp_cond_true hv.inv_bool (ih n c1 cc1 h1 _ _ _ _ _ h m w a hr hf he Q hQ)
      · rename_i hb
        rw [hb] at hv
        exact wp_cond_false hv.inv_bool (ih n c2 cc2 h2 _ _ _ _ _ h m w a hr hf he Q hQ)
      · cases h
    case block id b =>
      obtain ⟨cb, h1, hc⟩ := Option.bind_eq_some_iff.mp hc
      obtain rfl := Option.some.inj hc
      simp only [exec] at h
      split at h
      · rename_i j e1 s1 hx
        have key : s' = s1 ∧ e' = e1 ∧ x = (if j = id then .normal else .exit j) := by
          split at h
          · rename_i hj
            obtain ⟨rfl, rfl, rfl⟩ := (by simpa using h : _ ∧ _ ∧ _)
            exact ⟨rfl, rfl, by rw [if_pos hj]⟩
          · rename_i hj
            obtain ⟨rfl, rfl, rfl⟩ := (by simpa using h : _ ∧ _ ∧ _)
            exact ⟨rfl, rfl, by rw [if_neg hj]⟩
        obtain ⟨rfl, rfl, rfl⟩ := key
        refine wp_block (ih n b cb h1 _ _ _ _ _ hx m w a hr hf he _ ?_)
        intro a1 m1 w1 hA hE
        have := hQ a1 m1 w1 hA hE
        simp only [Ex.out, Exit.inBlock]
        split
        · rename_i hj; rw [if_pos hj] at this; exact this
        · rename_i hj; rw [if_neg hj] at this; exact this
      · rename_i hno
        refine wp_block (ih n b cb h1 _ _ _ _ _ h m w a hr hf he _ ?_)
        intro a1 m1 w1 hA hE
        have := hQ a1 m1 w1 hA hE
        cases x with
        | normal => exact this
        | exit j => exact absurd h (hno _ _ _)
        | ret => exact this
    case loop b =>
      obtain ⟨cb, h1, hc⟩ := Option.bind_eq_some_iff.mp hc
      obtain rfl := Option.some.inj hc
      exact wp_loop_rounds (k + 1) (rounds_ok (K := k + 1) (fun j hj => IH j hj n b cb h1) (k + 1) (Nat.le_refl _) x e e' s s' h m w a hr hf he Q hQ)
    case exit id =>
      obtain rfl := Option.some.inj hc
      simp only [exec] at h
      obtain ⟨rfl, rfl, rfl⟩ := (by simpa using h : _ ∧ _ ∧ _)
      exact wp_exit (hQ a m w (.refl hr) he)
    case ret =>
      obtain rfl := Option.some.inj hc
      simp only [exec] at h
      obtain ⟨rfl, rfl, rfl⟩ := (by simpa using h : _ ∧ _ ∧ _)
      exact wp_ret (hQ a m w (.refl hr) he)

end
end Go.VI
