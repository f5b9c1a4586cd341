/- Loops by what holds at each round; what a piece of code leaves alone. No statement of the seat is proved here. -/
import Derived.Test.YtdbbmeihhemflaaVWords2
namespace Go.VI
open Go

/-- Does code turn a temporary? -/
def hasT (t : Nat) : CCode → Bool
  | .skip => false
  | .region _ ops => ops.any fun o => match o.dst with | some d => Nat.beq d t | none => false
  | .seq a b => hasT t a || hasT t b
  | .cond _ a b => hasT t a || hasT t b
  | .block _ b => hasT t b
  | .loop b => hasT t b
  | .exit _ => false
  | .ret => false

theorem putO_keep {e : Env} {d : Option Nat} {v : AV} {t : Nat} (h : (match d with | some d => Nat.beq d t | none => false) = false) : (putO e d v).get t = e.get t := by
  cases d with
  | none => rfl
  | some d =>
    simp only [putO, Env.get_set]
    rw [if_neg]
    intro he
    subst he
    simp at h

theorem stepO_keep {call : CallF} {o : COper} {e e' : Env} {s s' : Mem} {t : Nat} (h : stepO call o e s = some (e', s')) (ht : (match o.dst with | some d => Nat.beq d t | none => false) = false) : e'.get t = e.get t := by
  unfold stepO at h
  split at h
  · split at h
    · obtain ⟨p, _, h2⟩ := Option.map_eq_some_iff.mp h
      obtain ⟨rfl, _⟩ := Prod.mk.inj h2
      exact putO_keep ht
    · obtain ⟨p, _, h2⟩ := Option.map_eq_some_iff.mp h
      obtain ⟨rfl, _⟩ := Prod.mk.inj h2
      exact putO_keep ht
  · obtain ⟨rfl, _⟩ := Prod.mk.inj (Option.some.inj h)
    exact putO_keep ht

theorem opsA_keep {call : CallF} {t : Nat} : ∀ (l : List COper) {e e' : Env} {s s' : Mem}, opsA call l e s = some (e', s') → (l.any fun o => match o.dst with | some d => Nat.beq d t | none => false) = false → e'.get t = e.get t := by
  intro l
  induction l with
  | nil => intro e e' s s' h _; obtain ⟨rfl, _⟩ := Prod.mk.inj (Option.some.inj h); rfl
  | cons o l ih =>
    intro e e' s s' h ht
    simp only [opsA] at h
    rw [List.any_cons, Bool.or_eq_false_iff] at ht
    split at h
    · rename_i p hp
      obtain ⟨e1, s1⟩ := p
      rw [ih h ht.2, stepO_keep hp ht.1]
    · cases h

theorem exec_keep {F : Nat → Option CFunc} {t : Nat} : ∀ (n : Nat) (c : CCode) {e e' : Env} {s s' : Mem} {x : Ex}, exec F n c e s = some (x, e', s') → hasT t c = false → e'.get t = e.get t := by
  intro n
  induction n with
  | zero => intro c e e' s s' x h; simp [exec] at h
  | succ n ih =>
    intro c e e' s s' x h ht
    cases c with
    | skip => simp only [exec] at h; obtain ⟨_, h⟩ := Prod.mk.inj (Option.some.inj h); obtain ⟨rfl, _⟩ := Prod.mk.inj h; rfl
    | region d ops =>
      simp only [exec] at h
      obtain ⟨p, h1, h2⟩ := Option.map_eq_some_iff.mp h
      obtain ⟨_, h2⟩ := Prod.mk.inj h2
      obtain ⟨rfl, _⟩ := Prod.mk.inj h2
      exact opsA_keep ops (e' := p.1) (s' := p.2) h1 ht
    | seq a b =>
      simp only [exec] at h
      simp only [hasT, Bool.or_eq_false_iff] at ht
      split at h
      · rename_i e1 s1 hx
        rw [ih _ h ht.2, ih _ hx ht.1]
      · exact ih _ h ht.1
    | cond y a b =>
      simp only [exec] at h
      simp only [hasT, Bool.or_eq_false_iff] at ht
      split at h
      · exact ih _ h ht.1
      · exact ih _ h ht.2
      · cases h
    | block id b =>
      simp only [exec] at h
      simp only [hasT] at ht
      split at h
      · rename_i j e1 s1 hx
        have := ih _ hx ht
        split at h
        · obtain ⟨_, h⟩ := Prod.mk.inj (Option.some.inj h); obtain ⟨rfl, _⟩ := Prod.mk.inj h; exact this
        · obtain ⟨_, h⟩ := Prod.mk.inj (Option.some.inj h); obtain ⟨rfl, _⟩ := Prod.mk.inj h; exact this
      · exact ih _ h ht
    | loop b =>
      simp only [exec] at h
      simp only [hasT] at ht
      split at h
      · rename_i e1 s1 hx
        rw [ih _ h (by simpa only [hasT] using ht), ih _ hx ht]
      · exact ih _ h ht
    | exit id => simp only [exec] at h; obtain ⟨_, h⟩ := Prod.mk.inj (Option.some.inj h); obtain ⟨rfl, _⟩ := Prod.mk.inj h; rfl
    | ret => simp only [exec] at h; obtain ⟨_, h⟩ := Prod.mk.inj (Option.some.inj h); obtain ⟨rfl, _⟩ := Prod.mk.inj h; rfl

section
variable {F : Nat → Option CFunc}

theorem W_keep {c : CCode} {e : Env} {s : Mem} {Q : Ex → Env → Mem → Prop} (h : W F c e s Q) : W F c e s (fun x e' s' => (∀ t, hasT t c = false → e'.get t = e.get t) ∧ Q x e' s') :=
  let ⟨n, x, e', s', h1, h2⟩ := h
  ⟨n, x, e', s', h1, fun _ ht => exec_keep n c h1 ht, h2⟩

/-- What one round leads to. -/
def NX (n i : Nat) (I : Nat → Env → Mem → Prop) (Q : Ex → Env → Mem → Prop) : Ex → Env → Mem → Prop
  | .normal, e, s => i < n ∧ I (i + 1) e s
  | x, e, s => Q x e s
theorem NX_normal (n i : Nat) (I : Nat → Env → Mem → Prop) (Q : Ex → Env → Mem → Prop) (e : Env) (s : Mem) : NX n i I Q .normal e s = (i < n ∧ I (i + 1) e s) := rfl
theorem NX_exit (n i id : Nat) (I : Nat → Env → Mem → Prop) (Q : Ex → Env → Mem → Prop) (e : Env) (s : Mem) : NX n i I Q (.exit id) e s = Q (.exit id) e s := rfl
theorem NX_ret (n i : Nat) (I : Nat → Env → Mem → Prop) (Q : Ex → Env → Mem → Prop) (e : Env) (s : Mem) : NX n i I Q .ret e s = Q .ret e s := rfl

theorem W_inv0 {b : CCode} {n : Nat} {I : Nat → Env → Mem → Prop} {Q : Ex → Env → Mem → Prop}
    (step : ∀ i e s, i ≤ n → I i e s → W F b e s (NX n i I Q)) : ∀ k i e s, i + k = n → I i e s → W F (.loop b) e s Q := by
  intro k
  induction k with
  | zero =>
    intro i e s hi h
    refine W_loop (W_mono (step i e s (by omega) h) ?_)
    intro x e' s' hx
    cases x with
    | normal => have := hx.1; omega
    | exit id => exact hx
    | ret => exact hx
  | succ k ih =>
    intro i e s hi h
    refine W_loop (W_mono (step i e s (by omega) h) ?_)
    intro x e' s' hx
    cases x with
    | normal => exact ih (i + 1) e' s' (by omega) hx.2
    | exit id => exact hx
    | ret => exact hx

/-- A LOOP: what holds at its rounds. What its body does not turn stays. -/
theorem W_inv {b b' : CCode} (n : Nat) (I : Nat → Env → Mem → Prop) {E : Env} {S : Mem} {Q : Ex → Env → Mem → Prop} (hb : b = b')
    (h0 : I 0 E S) (step : ∀ i e s, i ≤ n → (∀ t, hasT t b = false → e.get t = E.get t) → I i e s → W F b' e s (NX n i I Q)) : W F (.loop b) E S Q := by
  subst hb
  refine W_inv0 (n := n) (I := fun i e s => (∀ t, hasT t b = false → e.get t = E.get t) ∧ I i e s) ?_ n 0 E S (by omega) ⟨fun _ _ => rfl, h0⟩
  intro i e s hi ⟨hk, hI⟩
  refine W_mono (W_keep (step i e s hi hk hI)) ?_
  intro x e' s' ⟨hk', hx⟩
  cases x with
  | normal => exact ⟨hx.1, fun t ht => (hk' t ht).trans (hk t ht), hx.2⟩
  | exit id => exact hx
  | ret => exact hx
end
end Go.VI
