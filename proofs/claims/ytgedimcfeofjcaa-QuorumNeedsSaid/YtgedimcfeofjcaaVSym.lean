/- Walking the abstract machine. No statement of the seat is proved here. -/
import Derived.Test.YtgedimcfeofjcaaVRow
namespace Go.VI
open Go Go.RowKit

def LeF (F G : Nat → Option CFunc) : Prop := ∀ f cf, F f = some cf → G f = some cf

theorem stepOp_mono {c1 c2 : CallF} (h : ∀ g a s r, c1 g a s = some r → c2 g a s = some r) {o : COp} {e : Env} {s : Mem} {r : AV × Mem} (hr : stepOp c1 o e s = some r) : stepOp c2 o e s = some r := by
  by_cases hc : ∃ f xs, o = .call f xs
  · obtain ⟨f, xs, rfl⟩ := hc
    simp only [stepOp] at hr ⊢
    split at hr
    · exact h _ _ _ _ hr
    · cases hr
  · have hc' : ∀ f xs, o ≠ .call f xs := fun f xs h => hc ⟨f, xs, h⟩
    rw [noCall hc'] at hr ⊢
    exact hr

theorem stepO_mono {c1 c2 : CallF} (h : ∀ g a s r, c1 g a s = some r → c2 g a s = some r) {o : COper} {e : Env} {s : Mem} {r : Env × Mem} (hr : stepO c1 o e s = some r) : stepO c2 o e s = some r := by
  unfold stepO at hr ⊢
  split at hr
  · rename_i hw
    rw [if_pos hw]
    split at hr
    · rename_i hu
      rw [if_pos hu]
      obtain ⟨p, h1, h2⟩ := Option.map_eq_some_iff.mp hr
      rw [stepOp_mono h h1]; exact congrArg some h2
    · rename_i hu
      rw [if_neg hu]
      obtain ⟨p, h1, h2⟩ := Option.map_eq_some_iff.mp hr
      rw [stepOp_mono h h1]; exact congrArg some h2
  · rename_i hw
    rw [if_neg hw]; exact hr

theorem opsA_mono {c1 c2 : CallF} (h : ∀ g a s r, c1 g a s = some r → c2 g a s = some r) : ∀ (l : List COper) {e : Env} {s : Mem} {r : Env × Mem}, opsA c1 l e s = some r → opsA c2 l e s = some r := by
  intro l
  induction l with
  | nil => intro e s r hr; exact hr
  | cons o l ih =>
    intro e s r hr
    simp only [opsA] at hr ⊢
    split at hr
    · rename_i p hp
      rw [stepO_mono h hp]; exact ih hr
    · cases hr

theorem callA_mono {x1 x2 : CCode → Env → Mem → Option (Ex × Env × Mem)} {F G : Nat → Option CFunc} (hF : LeF F G) (h : ∀ c e s r, x1 c e s = some r → x2 c e s = some r) : ∀ g a s r, callA x1 F g a s = some r → callA x2 G g a s = some r := by
  intro g a s r hr
  unfold callA at hr ⊢
  split at hr
  · rename_i cf hcf
    rw [hF _ _ hcf]
    simp only
    split at hr
    · rename_i hl
      rw [if_pos hl]
      split at hr
      · rename_i hx; rw [h _ _ _ _ hx]; exact hr
      · rename_i hx; rw [h _ _ _ _ hx]; exact hr
      · cases hr
    · cases hr
  · cases hr

theorem exec_mono1 {F G : Nat → Option CFunc} (hF : LeF F G) : ∀ (n : Nat) (c : CCode) (e : Env) (s : Mem) (r : Ex × Env × Mem), exec F n c e s = some r → exec G (n + 1) c e s = some r := by
  intro n
  induction n with
  | zero => intro c e s r h; simp [exec] at h
  | succ n ih =>
    intro c e s r h
    cases c with
    | skip => simp only [exec] at h ⊢; exact h
    | region d ops =>
      simp only [exec] at h
      rw [exec]
      obtain ⟨p, h1, h2⟩ := Option.map_eq_some_iff.mp h
      rw [opsA_mono (callA_mono hF ih) ops h1]; exact congrArg some h2
    | seq a b =>
      simp only [exec] at h
      rw [exec]
      split at h
      · rename_i e' s' hx
        rw [ih _ _ _ _ hx]
        exact ih _ _ _ _ h
      · rename_i hno
        obtain ⟨x, e', s'⟩ := r
        rw [ih _ _ _ _ h]
        cases x with
        | normal => exact absurd h (hno _ _)
        | exit j => rfl
        | ret => rfl
    | cond x a b =>
      simp only [exec] at h
      rw [exec]
      split at h
      · exact ih _ _ _ _ h
      · exact ih _ _ _ _ h
      · cases h
    | block id b =>
      simp only [exec] at h
      rw [exec]
      split at h
      · rename_i j e' s' hx
        rw [ih _ _ _ _ hx]; exact h
      · rename_i hno
        obtain ⟨x, e', s'⟩ := r
        rw [ih _ _ _ _ h]
        cases x with
        | normal => rfl
        | exit j => exact absurd h (hno _ _ _)
        | ret => rfl
    | loop b =>
      simp only [exec] at h
      rw [exec]
      split at h
      · rename_i e' s' hx
        rw [ih _ _ _ _ hx]
        exact ih _ _ _ _ h
      · rename_i hno
        obtain ⟨x, e', s'⟩ := r
        rw [ih _ _ _ _ h]
        cases x with
        | normal => exact absurd h (hno _ _)
        | exit j => rfl
        | ret => rfl
    | exit id => simp only [exec] at h ⊢; exact h
    | ret => simp only [exec] at h ⊢; exact h

theorem exec_mono {F : Nat → Option CFunc} {n m : Nat} (h : n ≤ m) {c : CCode} {e : Env} {s : Mem} {r : Ex × Env × Mem} (hr : exec F n c e s = some r) : exec F m c e s = some r := by
  obtain ⟨d, rfl⟩ := Nat.le.dest h
  clear h
  induction d with
  | zero => exact hr
  | succ d ih => exact exec_mono1 (fun _ _ h => h) _ _ _ _ _ ih

theorem run_le {F G : Nat → Option CFunc} (hF : LeF F G) {n f : Nat} {a : List AV} {s : Mem} {r : AV × Mem} (h : run F n f a s = some r) : run G (n + 1) f a s = some r :=
  callA_mono hF (exec_mono1 hF n) f a s r h

theorem run_mono {F : Nat → Option CFunc} {n m f : Nat} (h : n ≤ m) {a : List AV} {s : Mem} {r : AV × Mem} (hr : run F n f a s = some r) : run F m f a s = some r :=
  callA_mono (fun _ _ h => h) (fun _ _ _ _ hx => exec_mono h hx) f a s r hr

/-! ## Weakest conditions -/
section
variable {F : Nat → Option CFunc}

def W (F : Nat → Option CFunc) (c : CCode) (e : Env) (s : Mem) (Q : Ex → Env → Mem → Prop) : Prop := ∃ n x e' s', exec F n c e s = some (x, e', s') ∧ Q x e' s'

def C (F : Nat → Option CFunc) (f : Nat) (a : List AV) (s : Mem) (K : AV → Mem → Prop) : Prop := ∃ n r s', run F n f a s = some (r, s') ∧ K r s'

def K2 (x : Option (AV × Mem)) (K : AV → Mem → Prop) : Prop := ∃ r s', x = some (r, s') ∧ K r s'

theorem K2_some (v : AV) (s : Mem) (K : AV → Mem → Prop) : K2 (some (v, s)) K ↔ K v s := by
  constructor
  · rintro ⟨r, s', h, hK⟩; obtain ⟨rfl, rfl⟩ := Prod.mk.inj (Option.some.inj h); exact hK
  · intro h; exact ⟨v, s, rfl, h⟩
theorem K2_none (K : AV → Mem → Prop) : K2 none K ↔ False := by
  constructor
  · rintro ⟨r, s', h, _⟩; cases h
  · exact False.elim
theorem K2_ite (c : Prop) [Decidable c] (x : Option (AV × Mem)) (K : AV → Mem → Prop) : K2 (if c then x else none) K ↔ c ∧ K2 x K := by
  by_cases h : c
  · simp [h]
  · simp [h, K2_none]

/-- One operation. -/
def Wp (F : Nat → Option CFunc) (o : COp) (e : Env) (s : Mem) (K : AV → Mem → Prop) : Prop :=
  match o with
  | .call f xs => match ev e f with
    | .fn g caps => C F g (xs.map (ev e) ++ caps) s K
    | _ => False
  | o => K2 (stepOp (fun _ _ _ => none) o e s) K

/-- The operations of a region. -/
def Ws (F : Nat → Option CFunc) : List COper → Env → Mem → (Env → Mem → Prop) → Prop
  | [], e, s, K => K e s
  | o :: r, e, s, K =>
    if wantedA o e = true then
      (if o.up = true then Wp F o.op e { s with floor := s.next } (fun v s' => Ws F r (putO e o.dst v) { s' with floor := s.floor } K)
       else Wp F o.op e s (fun v s' => Ws F r (putO e o.dst v) s' K))
    else Ws F r (putO e o.dst und) s K

theorem Wp_run {o : COp} {e : Env} {s : Mem} {K : AV → Mem → Prop} (h : Wp F o e s K) : ∃ n r s', stepOp (callA (exec F n) F) o e s = some (r, s') ∧ K r s' := by
  by_cases hc : ∃ f xs, o = .call f xs
  · obtain ⟨f, xs, rfl⟩ := hc
    simp only [Wp] at h
    split at h
    · rename_i g caps hg
      obtain ⟨n, r, s', h1, h2⟩ := h
      refine ⟨n, r, s', ?_, h2⟩
      simp only [stepOp, hg]; exact h1
    · exact h.elim
  · have hc' : ∀ f xs, o ≠ .call f xs := fun f xs h => hc ⟨f, xs, h⟩
    have : Wp F o e s K = K2 (stepOp (fun _ _ _ => none) o e s) K := by
      cases o <;> first | rfl | exact absurd rfl (hc' _ _)
    rw [this] at h
    obtain ⟨r, s', h1, h2⟩ := h
    exact ⟨0, r, s', by rw [noCall hc']; exact h1, h2⟩

theorem Ws_run : ∀ (l : List COper) {e : Env} {s : Mem} {K : Env → Mem → Prop}, Ws F l e s K → ∃ n e' s', opsA (callA (exec F n) F) l e s = some (e', s') ∧ K e' s' := by
  intro l
  induction l with
  | nil => intro e s K h; exact ⟨0, e, s, rfl, h⟩
  | cons o l ih =>
    intro e s K h
    simp only [Ws] at h
    have up_ : ∀ {n m : Nat}, n ≤ m → ∀ g a s r, callA (exec F n) F g a s = some r → callA (exec F m) F g a s = some r := fun hnm => callA_mono (fun _ _ h => h) (fun _ _ _ _ hx => exec_mono hnm hx)
    by_cases hw : wantedA o e = true
    · rw [if_pos hw] at h
      by_cases hu : o.up = true
      · rw [if_pos hu] at h
        obtain ⟨n, r, s1, h1, h2⟩ := Wp_run h
        obtain ⟨m, e', s', h3, h4⟩ := ih h2
        refine ⟨max n m, e', s', ?_, h4⟩
        have hs : stepO (callA (exec F (max n m)) F) o e s = some (putO e o.dst r, { s1 with floor := s.floor }) := by
          unfold stepO
          rw [if_pos hw, if_pos hu, stepOp_mono (up_ (Nat.le_max_left n m)) h1]; rfl
        simp only [opsA, hs]
        exact opsA_mono (up_ (Nat.le_max_right n m)) l h3
      · rw [if_neg hu] at h
        obtain ⟨n, r, s1, h1, h2⟩ := Wp_run h
        obtain ⟨m, e', s', h3, h4⟩ := ih h2
        refine ⟨max n m, e', s', ?_, h4⟩
        have hs : stepO (callA (exec F (max n m)) F) o e s = some (putO e o.dst r, s1) := by
          unfold stepO
          rw [if_pos hw, if_neg hu, stepOp_mono (up_ (Nat.le_max_left n m)) h1]; rfl
        simp only [opsA, hs]
        exact opsA_mono (up_ (Nat.le_max_right n m)) l h3
    · rw [if_neg hw] at h
      obtain ⟨m, e', s', h3, h4⟩ := ih h
      refine ⟨m, e', s', ?_, h4⟩
      have hs : stepO (callA (exec F m) F) o e s = some (putO e o.dst und, s) := by
        unfold stepO
        rw [if_neg hw]
      simp only [opsA, hs]
      exact h3

theorem W_mono {c : CCode} {e : Env} {s : Mem} {Q Q' : Ex → Env → Mem → Prop} (h : W F c e s Q) (hq : ∀ x e s, Q x e s → Q' x e s) : W F c e s Q' :=
  let ⟨n, x, e', s', h1, h2⟩ := h; ⟨n, x, e', s', h1, hq _ _ _ h2⟩
theorem C_mono {f : Nat} {a : List AV} {s : Mem} {K K' : AV → Mem → Prop} (h : C F f a s K) (hq : ∀ r s', K r s' → K' r s') : C F f a s K' :=
  let ⟨n, x, s', h1, h2⟩ := h; ⟨n, x, s', h1, hq _ _ h2⟩

theorem W_skip {e : Env} {s : Mem} {Q : Ex → Env → Mem → Prop} (h : Q .normal e s) : W F .skip e s Q := ⟨1, _, _, _, rfl, h⟩
theorem W_exit {id : Nat} {e : Env} {s : Mem} {Q : Ex → Env → Mem → Prop} (h : Q (.exit id) e s) : W F (.exit id) e s Q := ⟨1, _, _, _, rfl, h⟩
theorem W_ret {e : Env} {s : Mem} {Q : Ex → Env → Mem → Prop} (h : Q .ret e s) : W F .ret e s Q := ⟨1, _, _, _, rfl, h⟩

theorem W_region {d : Bool} {ops : List COper} {e : Env} {s : Mem} {Q : Ex → Env → Mem → Prop} (h : Ws F ops e s (Q .normal)) : W F (.region d ops) e s Q := by
  obtain ⟨n, e', s', h1, h2⟩ := Ws_run ops h
  exact ⟨n + 1, .normal, e', s', by simp [exec, h1], h2⟩

/-- What follows a piece of code. -/
def Seq (F : Nat → Option CFunc) (b : CCode) (Q : Ex → Env → Mem → Prop) : Ex → Env → Mem → Prop
  | .normal, e, s => W F b e s Q
  | x, e, s => Q x e s

theorem Seq_normal (b : CCode) (Q : Ex → Env → Mem → Prop) (e : Env) (s : Mem) : Seq F b Q .normal e s = W F b e s Q := rfl
theorem Seq_exit (b : CCode) (Q : Ex → Env → Mem → Prop) (e : Env) (s : Mem) (id : Nat) : Seq F b Q (.exit id) e s = Q (.exit id) e s := rfl
theorem Seq_ret (b : CCode) (Q : Ex → Env → Mem → Prop) (e : Env) (s : Mem) : Seq F b Q .ret e s = Q .ret e s := rfl

theorem W_seq {a b : CCode} {e : Env} {s : Mem} {Q : Ex → Env → Mem → Prop} (h : W F a e s (Seq F b Q)) : W F (.seq a b) e s Q := by
  obtain ⟨n, x, e', s', h1, h2⟩ := h
  cases x with
  | normal =>
    obtain ⟨m, y, e2, s2, h3, h4⟩ := h2
    refine ⟨max n m + 1, y, e2, s2, ?_, h4⟩
    simp only [exec, exec_mono (Nat.le_max_left n m) h1, exec_mono (Nat.le_max_right n m) h3]
  | exit id => exact ⟨n + 1, _, e', s', by simp only [exec, h1], h2⟩
  | ret => exact ⟨n + 1, _, e', s', by simp only [exec, h1], h2⟩

def asB (v : AV) (K : Bool → Prop) : Prop := match v with | .bool b => K b | _ => False

theorem W_cond {x : Opd} {a b : CCode} {e : Env} {s : Mem} {Q : Ex → Env → Mem → Prop} (h : asB (ev e x) fun t => if t = true then W F a e s Q else W F b e s Q) : W F (.cond x a b) e s Q := by
  unfold asB at h
  split at h
  · rename_i t ht
    cases t with
    | true =>
      rw [if_pos rfl] at h
      obtain ⟨n, y, e', s', h1, h2⟩ := h
      exact ⟨n + 1, y, e', s', by simp only [exec, ht, h1], h2⟩
    | false =>
      rw [if_neg (by simp)] at h
      obtain ⟨n, y, e', s', h1, h2⟩ := h
      exact ⟨n + 1, y, e', s', by simp only [exec, ht, h1], h2⟩
  · exact h.elim

def Blk (id : Nat) (Q : Ex → Env → Mem → Prop) : Ex → Env → Mem → Prop
  | .exit j, e, s => if j = id then Q .normal e s else Q (.exit j) e s
  | x, e, s => Q x e s

theorem Blk_normal (id : Nat) (Q : Ex → Env → Mem → Prop) (e : Env) (s : Mem) : Blk id Q .normal e s = Q .normal e s := rfl
theorem Blk_exit (id j : Nat) (Q : Ex → Env → Mem → Prop) (e : Env) (s : Mem) : Blk id Q (.exit j) e s = if j = id then Q .normal e s else Q (.exit j) e s := rfl
theorem Blk_ret (id : Nat) (Q : Ex → Env → Mem → Prop) (e : Env) (s : Mem) : Blk id Q .ret e s = Q .ret e s := rfl

theorem W_block {id : Nat} {b : CCode} {e : Env} {s : Mem} {Q : Ex → Env → Mem → Prop} (h : W F b e s (Blk id Q)) : W F (.block id b) e s Q := by
  obtain ⟨n, x, e', s', h1, h2⟩ := h
  cases x with
  | normal => exact ⟨n + 1, _, e', s', by simp only [exec, h1], h2⟩
  | exit j =>
    rw [Blk_exit] at h2
    by_cases hj : j = id
    · rw [if_pos hj] at h2
      exact ⟨n + 1, .normal, e', s', by simp only [exec, h1, if_pos hj], h2⟩
    · rw [if_neg hj] at h2
      exact ⟨n + 1, .exit j, e', s', by simp only [exec, h1, if_neg hj], h2⟩
  | ret => exact ⟨n + 1, _, e', s', by simp only [exec, h1], h2⟩

theorem W_loop {b : CCode} {e : Env} {s : Mem} {Q : Ex → Env → Mem → Prop} (h : W F b e s (Seq F (.loop b) Q)) : W F (.loop b) e s Q := by
  obtain ⟨n, x, e', s', h1, h2⟩ := h
  cases x with
  | normal =>
    obtain ⟨m, y, e2, s2, h3, h4⟩ := h2
    refine ⟨max n m + 1, y, e2, s2, ?_, h4⟩
    simp only [exec, exec_mono (Nat.le_max_left n m) h1, exec_mono (Nat.le_max_right n m) h3]
  | exit id => exact ⟨n + 1, _, e', s', by simp only [exec, h1], h2⟩
  | ret => exact ⟨n + 1, _, e', s', by simp only [exec, h1], h2⟩

def RK (rs : List CRes) (K : AV → Mem → Prop) : Ex → Env → Mem → Prop
  | .exit _, _, _ => False
  | _, e, s => K2 ((resultsA s e rs).map fun v => (v, s)) K

theorem RK_normal (rs : List CRes) (K : AV → Mem → Prop) (e : Env) (s : Mem) : RK rs K .normal e s = K2 ((resultsA s e rs).map fun v => (v, s)) K := rfl
theorem RK_ret (rs : List CRes) (K : AV → Mem → Prop) (e : Env) (s : Mem) : RK rs K .ret e s = K2 ((resultsA s e rs).map fun v => (v, s)) K := rfl

theorem C_enter {f : Nat} {cf : CFunc} {a : List AV} {s : Mem} {K : AV → Mem → Prop} (hf : F f = some cf) (ha : a.length ≤ cf.ntmps) (h : W F cf.body (Env.start a) s (RK cf.res K)) : C F f a s K := by
  obtain ⟨n, x, e', s', h1, h2⟩ := h
  cases x with
  | normal =>
    obtain ⟨r, s2, h3, h4⟩ := h2
    exact ⟨n, r, s2, by simp only [run, callA, hf, if_pos ha, h1]; exact h3, h4⟩
  | exit id => exact h2.elim
  | ret =>
    obtain ⟨r, s2, h3, h4⟩ := h2
    exact ⟨n, r, s2, by simp only [run, callA, hf, if_pos ha, h1]; exact h3, h4⟩

/-! ## For simp: a step at a time -/
def Cs (c : Bool) (A B : Prop) : Prop := if c = true then A else B
theorem Cs_intro {c : Bool} {A B : Prop} (h1 : c = true → A) (h0 : c = false → B) : Cs c A B := by
  cases c
  · exact h0 rfl
  · exact h1 rfl
theorem Cs_true (A B : Prop) : Cs true A B = A := by simp [Cs]
theorem Cs_false (A B : Prop) : Cs false A B = B := by simp [Cs]
theorem asB_bool (b : Bool) (K : Bool → Prop) : asB (.bool b) K = K b := rfl

theorem W_if {x : Opd} {a b : CCode} {e : Env} {s : Mem} {Q : Ex → Env → Mem → Prop} (h : asB (ev e x) fun t => Cs t (W F a e s Q) (W F b e s Q)) : W F (.cond x a b) e s Q := W_cond h

theorem Ws_nil (e : Env) (s : Mem) (K : Env → Mem → Prop) : Ws F [] e s K = K e s := rfl
theorem Ws_op (d : Option Nat) (o : COp) (r : List COper) (e : Env) (s : Mem) (K : Env → Mem → Prop) : Ws F (⟨d, o, none, false⟩ :: r) e s K = Wp F o e s (fun v s' => Ws F r (putO e d v) s' K) := by simp [Ws, wantedA]
theorem Ws_up (d : Option Nat) (o : COp) (r : List COper) (e : Env) (s : Mem) (K : Env → Mem → Prop) : Ws F (⟨d, o, none, true⟩ :: r) e s K = Wp F o e { s with floor := s.next } (fun v s' => Ws F r (putO e d v) { s' with floor := s.floor } K) := by simp [Ws, wantedA]
theorem Ws_if {d : Option Nat} {o : COp} {t : Nat} {b up : Bool} {r : List COper} {e : Env} {s : Mem} {K : Env → Mem → Prop} (h : asB (e.get t) fun c => Cs (c == b) (Ws F (⟨d, o, none, up⟩ :: r) e s K) (Ws F r (putO e d und) s K)) : Ws F (⟨d, o, some (t, b), up⟩ :: r) e s K := by
  unfold asB at h
  split at h
  · rename_i c hc
    unfold Cs at h
    cases hb : (c == b)
    · rw [hb, if_neg (by simp)] at h
      have hw : wantedA ⟨d, o, some (t, b), up⟩ e = false := by simp [wantedA, hc, hb]
      simp only [Ws, hw]; simpa using h
    · rw [hb, if_pos rfl] at h
      have hw : wantedA ⟨d, o, some (t, b), up⟩ e = true := by simp [wantedA, hc, hb]
      have hw2 : wantedA ⟨d, o, none, up⟩ e = true := rfl
      simp only [Ws, hw2] at h
      simp only [Ws, hw]
      exact h
  · exact h.elim

theorem Wp_call (f : Opd) (xs : List Opd) (e : Env) (s : Mem) (K : AV → Mem → Prop) : Wp F (.call f xs) e s K = match ev e f with
    | .fn g caps => C F g (xs.map (ev e) ++ caps) s K
    | _ => False := rfl
theorem K2_map {α : Type} (v : α) (g : α → AV × Mem) (K : AV → Mem → Prop) : K2 ((some v).map g) K ↔ K (g v).1 (g v).2 := K2_some _ _ _
def asI (v : AV) (K : IntKind → Int → Prop) : Prop := match v with | .int k n => K k n | _ => False
theorem asI_int (k : IntKind) (n : Int) (K : IntKind → Int → Prop) : asI (.int k n) K = K k n := rfl
theorem Wp_mv (x : Opd) (e : Env) (s : Mem) (K : AV → Mem → Prop) : Wp F (.mv x) e s K ↔ K (ev e x) s := K2_some _ _ _
theorem wrap_i64 {x : Int} (h : -9223372036854775808 ≤ x ∧ x ≤ 9223372036854775807) : IntKind.i64.wrap x = x := by
  simp [IntKind.wrap, IntKind.signed, IntKind.bits]
  split <;> omega
theorem wrap_u64 {x : Int} (h : 0 ≤ x ∧ x ≤ 18446744073709551615) : IntKind.u64.wrap x = x := by
  simp [IntKind.wrap, IntKind.signed, IntKind.bits]
  omega
theorem wf_i64 {n : Int} (h : (Lit.int .i64 n).wf = true) : -9223372036854775808 ≤ n ∧ n ≤ 9223372036854775807 := by
  simp [Lit.wf, IntKind.min, IntKind.max, IntKind.signed, IntKind.bits] at h
  omega
theorem wf_u64 {n : Int} (h : (Lit.int .u64 n).wf = true) : 0 ≤ n ∧ n ≤ 18446744073709551615 := by
  simp [Lit.wf, IntKind.min, IntKind.max, IntKind.signed, IntKind.bits] at h
  omega

theorem C_run {f : Nat} {a : List AV} {s : Mem} (h : C F f a s (fun r _ => r = .bool true)) {G : Nat → Option CFunc} (hl : LeF F G) : ∃ k s', run G k f a s = some (.bool true, s') := by
  obtain ⟨n, r, s', h1, rfl⟩ := h
  exact ⟨n + 1, s', run_le hl h1⟩

/-- By the machine's own run. -/
def yes : Option (AV × Mem) → Bool
  | some (.bool true, _) => true
  | _ => false

end
end Go.VI
