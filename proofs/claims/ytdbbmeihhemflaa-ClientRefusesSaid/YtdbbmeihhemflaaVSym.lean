/- Walking the abstract machine. No statement of the seat is proved here. -/
import Derived.Test.YtdbbmeihhemflaaVRow
namespace Go.VI
open Go Go.RowKit

def LeF (F G : Nat → Option CFunc) : Prop := ∀ f cf, F f = some cf → G f = some cf

theorem stepOp_mono {c1 c2 : CallF} (h : ∀ g a s r, c1 g a s = some r → c2 g a s = some r) {o : COp} {e : Env} {s : Mem} {r : AV × Mem} (hr : stepOp c1 o e s = some r) : stepOp c2 o e s = some r := by
  by_cases hc : ∃ f xs, o = .call f xs
  · obtain ⟨f, xs, rfl⟩ := hc
    simp only [stepOp] at hr ⊢
    split at hr
    · exact h _ _ _ _ hr
    · cases hr
  · have hc' : ∀ f xs, o ≠ .call f xs := fun f xs h => hc ⟨f, xs, h⟩
    rw [noCall hc'] at hr ⊢
    exact hr

theorem stepO_mono {c1 c2 : CallF} (h : ∀ g a s r, c1 g a s = some r → c2 g a s = some r) {o : COper} {e : Env} {s : Mem} {r : Env × Mem} (hr : stepO c1 o e s = some r) : stepO c2 o e s = some r := by
  unfold stepO at hr ⊢
  split at hr
  · rename_i hw
    rw [if_pos hw]
    split at hr
    · rename_i hu
      rw [if_pos hu]
      obtain ⟨p, h1, h2⟩ := Option.map_eq_some_iff.mp hr
      rw [stepOp_mono h h1]; exact congrArg some h2
    · rename_i hu
      rw [if_neg hu]
      obtain ⟨p, h1, h2⟩ := Option.map_eq_some_iff.mp hr
      rw [stepOp_mono h h1]; exact congrArg some h2
  · rename_i hw
    rw [if_neg hw]; exact hr

theorem opsA_mono {c1 c2 : CallF} (h : ∀ g a s r, c1 g a s = some r → c2 g a s = some r) : ∀ (l : List COper) {e : Env} {s : Mem} {r : Env × Mem}, opsA c1 l e s = some r → opsA c2 l e s = some r := by
  intro l
  induction l with
  | nil => intro e s r hr; exact hr
  | cons o l ih =>
    intro e s r hr
    simp only [opsA] at hr ⊢
    split at hr
    · rename_i p hp
      rw [stepO_mono h hp]; exact ih hr
    · cases hr

theorem callC_mono {x1 x2 : CCode → Env → Mem → Option (Ex × Env × Mem)} {F G : Nat → Option CFunc} (hF : LeF F G) (h : ∀ c e s r, x1 c e s = some r → x2 c e s = some r) : ∀ g a s r, callC x1 F g a s = some r → callC x2 G g a s = some r := by
  intro g a s r hr
  unfold callC at hr ⊢
  split at hr
  · rename_i cf hcf
    rw [hF _ _ hcf]
    simp only
    split at hr
    · rename_i hl
      rw [if_pos hl]
      split at hr
      · rename_i hx; rw [h _ _ _ _ hx]; exact hr
      · rename_i hx; rw [h _ _ _ _ hx]; exact hr
      · cases hr
    · cases hr
  · cases hr
theorem callC_def {x : CCode → Env → Mem → Option (Ex × Env × Mem)} {F : Nat → Option CFunc} {f : Nat} {a : List AV} {s : Mem} {r : AV × Mem} (h : callC x F f a s = some r) : ∃ cf, F f = some cf := by
  unfold callC at h
  split at h
  · exact ⟨_, by assumption⟩
  · cases h
theorem callB_def {x : CCode → Env → Mem → Option (Ex × Env × Mem)} {F : Nat → Option CFunc} {f : Nat} {a : List AV} {s : Mem} {r : AV × Mem} (h : callB x F f a s = some r) : ∃ cf, F f = some cf := by
  unfold callB at h
  split at h
  · rename_i g hp
    unfold primF at hp
    obtain ⟨cf, h1, _⟩ := Option.bind_eq_some_iff.mp hp
    exact ⟨cf, h1⟩
  · exact callC_def h
theorem callB_mono {x1 x2 : CCode → Env → Mem → Option (Ex × Env × Mem)} {F G : Nat → Option CFunc} (hF : LeF F G) (h : ∀ c e s r, x1 c e s = some r → x2 c e s = some r) : ∀ g a s r, callB x1 F g a s = some r → callB x2 G g a s = some r := by
  intro g a s r hr
  obtain ⟨cf, hcf⟩ := callB_def hr
  have hp : primF G g = primF F g := by simp only [primF, hcf, hF _ _ hcf]
  unfold callB at hr ⊢
  rw [hp]
  split at hr
  · rename_i g2 hp2
    try simp only [hp2]
    split at hr
    · rename_i d hd
      try simp only [hd]
      split at hr
      · rename_i p hp
        rw [callC_mono hF h _ _ _ _ hp]; exact hr
      · cases hr
    · cases hr
  · rename_i hp2
    try simp only [hp2]
    exact callC_mono hF h _ _ _ _ hr

theorem callA_mono {x1 x2 : CCode → Env → Mem → Option (Ex × Env × Mem)} {F G : Nat → Option CFunc} (hF : LeF F G) (h : ∀ c e s r, x1 c e s = some r → x2 c e s = some r) : ∀ g a s r, callA x1 F g a s = some r → callA x2 G g a s = some r := by
  intro g a s r hr
  have hcf : ∃ cf, F g = some cf := by
    unfold callA at hr
    split at hr
    · split at hr
      · rename_i hb; exact callB_def hb
      · cases hr
    · exact callB_def hr
  obtain ⟨cf, hcf⟩ := hcf
  have hi : isoF G g = isoF F g := by simp only [isoF, hcf, hF _ _ hcf]
  unfold callA at hr ⊢
  rw [hi]
  split at hr
  · rename_i hc
    rw [if_pos hc]
    split at hr
    · rename_i hb
      rw [callB_mono hF h _ _ _ _ hb]; exact hr
    · cases hr
  · rename_i hc
    rw [if_neg hc]
    exact callB_mono hF h _ _ _ _ hr

theorem exec_mono1 {F G : Nat → Option CFunc} (hF : LeF F G) : ∀ (n : Nat) (c : CCode) (e : Env) (s : Mem) (r : Ex × Env × Mem), exec F n c e s = some r → exec G (n + 1) c e s = some r := by
  intro n
  induction n with
  | zero => intro c e s r h; simp [exec] at h
  | succ n ih =>
    intro c e s r h
    cases c with
    | skip => simp only [exec] at h ⊢; exact h
    | region d ops =>
      simp only [exec] at h
      rw [exec]
      obtain ⟨p, h1, h2⟩ := Option.map_eq_some_iff.mp h
      rw [opsA_mono (callA_mono hF ih) ops h1]; exact congrArg some h2
    | seq a b =>
      simp only [exec] at h
      rw [exec]
      split at h
      · rename_i e' s' hx
        rw [ih _ _ _ _ hx]
        exact ih _ _ _ _ h
      · rename_i hno
        obtain ⟨x, e', s'⟩ := r
        rw [ih _ _ _ _ h]
        cases x with
        | normal => exact absurd h (hno _ _)
        | exit j => rfl
        | ret => rfl
    | cond x a b =>
      simp only [exec] at h
      rw [exec]
      split at h
      · exact ih _ _ _ _ h
      · exact ih _ _ _ _ h
      · cases h
    | block id b =>
      simp only [exec] at h
      rw [exec]
      split at h
      · rename_i j e' s' hx
        rw [ih _ _ _ _ hx]; exact h
      · rename_i hno
        obtain ⟨x, e', s'⟩ := r
        rw [ih _ _ _ _ h]
        cases x with
        | normal => rfl
        | exit j => exact absurd h (hno _ _ _)
        | ret => rfl
    | loop b =>
      simp only [exec] at h
      rw [exec]
      split at h
      · rename_i e' s' hx
        rw [ih _ _ _ _ hx]
        exact ih _ _ _ _ h
      · rename_i hno
        obtain ⟨x, e', s'⟩ := r
        rw [ih _ _ _ _ h]
        cases x with
        | normal => exact absurd h (hno _ _)
        | exit j => rfl
        | ret => rfl
    | exit id => simp only [exec] at h ⊢; exact h
    | ret => simp only [exec] at h ⊢; exact h

theorem exec_mono {F : Nat → Option CFunc} {n m : Nat} (h : n ≤ m) {c : CCode} {e : Env} {s : Mem} {r : Ex × Env × Mem} (hr : exec F n c e s = some r) : exec F m c e s = some r := by
  obtain ⟨d, rfl⟩ := Nat.le.dest h
  clear h
  induction d with
  | zero => exact hr
  | succ d ih => exact exec_mono1 (fun _ _ h => h) _ _ _ _ _ ih

theorem run_le {F G : Nat → Option CFunc} (hF : LeF F G) {n f : Nat} {a : List AV} {s : Mem} {r : AV × Mem} (h : run F n f a s = some r) : run G (n + 1) f a s = some r :=
  callA_mono hF (exec_mono1 hF n) f a s r h

theorem run_mono {F : Nat → Option CFunc} {n m f : Nat} (h : n ≤ m) {a : List AV} {s : Mem} {r : AV × Mem} (hr : run F n f a s = some r) : run F m f a s = some r :=
  callA_mono (fun _ _ h => h) (fun _ _ _ _ hx => exec_mono h hx) f a s r hr

/-- Memory with another floor. -/
def Mem.at (s : Mem) (f : Nat) : Mem := { s with floor := f }

/-! ## Weakest conditions -/
section
variable {F : Nat → Option CFunc}

def W (F : Nat → Option CFunc) (c : CCode) (e : Env) (s : Mem) (Q : Ex → Env → Mem → Prop) : Prop := ∃ n x e' s', exec F n c e s = some (x, e', s') ∧ Q x e' s'

def C (F : Nat → Option CFunc) (f : Nat) (a : List AV) (s : Mem) (K : AV → Mem → Prop) : Prop := ∃ n r s', run F n f a s = some (r, s') ∧ K r s'

def K2 (x : Option (AV × Mem)) (K : AV → Mem → Prop) : Prop := ∃ r s', x = some (r, s') ∧ K r s'

theorem K2_some (v : AV) (s : Mem) (K : AV → Mem → Prop) : K2 (some (v, s)) K ↔ K v s := by
  constructor
  · rintro ⟨r, s', h, hK⟩; obtain ⟨rfl, rfl⟩ := Prod.mk.inj (Option.some.inj h); exact hK
  · intro h; exact ⟨v, s, rfl, h⟩
theorem K2_none (K : AV → Mem → Prop) : K2 none K ↔ False := by
  constructor
  · rintro ⟨r, s', h, _⟩; cases h
  · exact False.elim
theorem K2_ite (c : Prop) [Decidable c] (x : Option (AV × Mem)) (K : AV → Mem → Prop) : K2 (if c then x else none) K ↔ c ∧ K2 x K := by
  by_cases h : c
  · simp [h]
  · simp [h, K2_none]

/-- One operation. -/
def Wp (F : Nat → Option CFunc) (o : COp) (e : Env) (s : Mem) (K : AV → Mem → Prop) : Prop :=
  match o with
  | .call f xs => match ev e f with
    | .fn g caps => C F g (xs.map (ev e) ++ caps) s K
    | _ => False
  | o => K2 (stepOp (fun _ _ _ => none) o e s) K

/-- The operations of a region. -/
def Ws (F : Nat → Option CFunc) : List COper → Env → Mem → (Env → Mem → Prop) → Prop
  | [], e, s, K => K e s
  | o :: r, e, s, K =>
    if wantedA o e = true then
      (if o.up = true then Wp F o.op e { s with floor := s.next } (fun v s' => Ws F r (putO e o.dst v) { s' with floor := s.floor } K)
       else Wp F o.op e (s.hide (hideRows e o.hide)) (fun v s' => Ws F r (putO e o.dst v) (s'.bring s (hideRows e o.hide)) K))
    else Ws F r (putO e o.dst und) s K

theorem Wp_run {o : COp} {e : Env} {s : Mem} {K : AV → Mem → Prop} (h : Wp F o e s K) : ∃ n r s', stepOp (callA (exec F n) F) o e s = some (r, s') ∧ K r s' := by
  by_cases hc : ∃ f xs, o = .call f xs
  · obtain ⟨f, xs, rfl⟩ := hc
    simp only [Wp] at h
    split at h
    · rename_i g caps hg
      obtain ⟨n, r, s', h1, h2⟩ := h
      refine ⟨n, r, s', ?_, h2⟩
      simp only [stepOp, hg]; exact h1
    · exact h.elim
  · have hc' : ∀ f xs, o ≠ .call f xs := fun f xs h => hc ⟨f, xs, h⟩
    have : Wp F o e s K = K2 (stepOp (fun _ _ _ => none) o e s) K := by
      cases o <;> first | rfl | exact absurd rfl (hc' _ _)
    rw [this] at h
    obtain ⟨r, s', h1, h2⟩ := h
    exact ⟨0, r, s', by rw [noCall hc']; exact h1, h2⟩

theorem Ws_run : ∀ (l : List COper) {e : Env} {s : Mem} {K : Env → Mem → Prop}, Ws F l e s K → ∃ n e' s', opsA (callA (exec F n) F) l e s = some (e', s') ∧ K e' s' := by
  intro l
  induction l with
  | nil => intro e s K h; exact ⟨0, e, s, rfl, h⟩
  | cons o l ih =>
    intro e s K h
    simp only [Ws] at h
    have up_ : ∀ {n m : Nat}, n ≤ m → ∀ g a s r, callA (exec F n) F g a s = some r → callA (exec F m) F g a s = some r := fun hnm => callA_mono (fun _ _ h => h) (fun _ _ _ _ hx => exec_mono hnm hx)
    by_cases hw : wantedA o e = true
    · rw [if_pos hw] at h
      by_cases hu : o.up = true
      · rw [if_pos hu] at h
        obtain ⟨n, r, s1, h1, h2⟩ := Wp_run h
        obtain ⟨m, e', s', h3, h4⟩ := ih h2
        refine ⟨max n m, e', s', ?_, h4⟩
        have hs : stepO (callA (exec F (max n m)) F) o e s = some (putO e o.dst r, { s1 with floor := s.floor }) := by
          unfold stepO
          rw [if_pos hw, if_pos hu, stepOp_mono (up_ (Nat.le_max_left n m)) h1]; rfl
        simp only [opsA, hs]
        exact opsA_mono (up_ (Nat.le_max_right n m)) l h3
      · rw [if_neg hu] at h
        obtain ⟨n, r, s1, h1, h2⟩ := Wp_run h
        obtain ⟨m, e', s', h3, h4⟩ := ih h2
        refine ⟨max n m, e', s', ?_, h4⟩
        have hs : stepO (callA (exec F (max n m)) F) o e s = some (putO e o.dst r, s1.bring s (hideRows e o.hide)) := by
          unfold stepO
          rw [if_pos hw, if_neg hu, stepOp_mono (up_ (Nat.le_max_left n m)) h1]; rfl
        simp only [opsA, hs]
        exact opsA_mono (up_ (Nat.le_max_right n m)) l h3
    · rw [if_neg hw] at h
      obtain ⟨m, e', s', h3, h4⟩ := ih h
      refine ⟨m, e', s', ?_, h4⟩
      have hs : stepO (callA (exec F m) F) o e s = some (putO e o.dst und, s) := by
        unfold stepO
        rw [if_neg hw]
      simp only [opsA, hs]
      exact h3

theorem W_mono {c : CCode} {e : Env} {s : Mem} {Q Q' : Ex → Env → Mem → Prop} (h : W F c e s Q) (hq : ∀ x e s, Q x e s → Q' x e s) : W F c e s Q' :=
  let ⟨n, x, e', s', h1, h2⟩ := h; ⟨n, x, e', s', h1, hq _ _ _ h2⟩
theorem C_mono {f : Nat} {a : List AV} {s : Mem} {K K' : AV → Mem → Prop} (h : C F f a s K) (hq : ∀ r s', K r s' → K' r s') : C F f a s K' :=
  let ⟨n, x, s', h1, h2⟩ := h; ⟨n, x, s', h1, hq _ _ h2⟩

theorem W_skip {e : Env} {s : Mem} {Q : Ex → Env → Mem → Prop} (h : Q .normal e s) : W F .skip e s Q := ⟨1, _, _, _, rfl, h⟩
theorem W_exit {id : Nat} {e : Env} {s : Mem} {Q : Ex → Env → Mem → Prop} (h : Q (.exit id) e s) : W F (.exit id) e s Q := ⟨1, _, _, _, rfl, h⟩
theorem W_ret {e : Env} {s : Mem} {Q : Ex → Env → Mem → Prop} (h : Q .ret e s) : W F .ret e s Q := ⟨1, _, _, _, rfl, h⟩

theorem W_region {d : Bool} {ops : List COper} {e : Env} {s : Mem} {Q : Ex → Env → Mem → Prop} (h : Ws F ops e s (Q .normal)) : W F (.region d ops) e s Q := by
  obtain ⟨n, e', s', h1, h2⟩ := Ws_run ops h
  exact ⟨n + 1, .normal, e', s', by simp [exec, h1], h2⟩

/-- What follows a piece of code. -/
def Seq (F : Nat → Option CFunc) (b : CCode) (Q : Ex → Env → Mem → Prop) : Ex → Env → Mem → Prop
  | .normal, e, s => W F b e s Q
  | x, e, s => Q x e s

theorem Seq_normal (b : CCode) (Q : Ex → Env → Mem → Prop) (e : Env) (s : Mem) : Seq F b Q .normal e s = W F b e s Q := rfl
theorem Seq_exit (b : CCode) (Q : Ex → Env → Mem → Prop) (e : Env) (s : Mem) (id : Nat) : Seq F b Q (.exit id) e s = Q (.exit id) e s := rfl
theorem Seq_ret (b : CCode) (Q : Ex → Env → Mem → Prop) (e : Env) (s : Mem) : Seq F b Q .ret e s = Q .ret e s := rfl

theorem W_seq {a b : CCode} {e : Env} {s : Mem} {Q : Ex → Env → Mem → Prop} (h : W F a e s (Seq F b Q)) : W F (.seq a b) e s Q := by
  obtain ⟨n, x, e', s', h1, h2⟩ := h
  cases x with
  | normal =>
    obtain ⟨m, y, e2, s2, h3, h4⟩ := h2
    refine ⟨max n m + 1, y, e2, s2, ?_, h4⟩
    simp only [exec, exec_mono (Nat.le_max_left n m) h1, exec_mono (Nat.le_max_right n m) h3]
  | exit id => exact ⟨n + 1, _, e', s', by simp only [exec, h1], h2⟩
  | ret => exact ⟨n + 1, _, e', s', by simp only [exec, h1], h2⟩

def asB (v : AV) (K : Bool → Prop) : Prop := match v with | .bool b => K b | _ => False

theorem W_cond {x : Opd} {a b : CCode} {e : Env} {s : Mem} {Q : Ex → Env → Mem → Prop} (h : asB (ev e x) fun t => if t = true then W F a e s Q else W F b e s Q) : W F (.cond x a b) e s Q := by
  unfold asB at h
  split at h
  · rename_i t ht
    cases t with
    | true =>
      rw [if_pos rfl] at h
      obtain ⟨n, y, e', s', h1, h2⟩ := h
      exact ⟨n + 1, y, e', s', by simp only [exec, ht, h1], h2⟩
    | false =>
      rw [if_neg (by simp)] at h
      obtain ⟨n, y, e', s', h1, h2⟩ := h
      exact ⟨n + 1, y, e', s', by simp only [exec, ht, h1], h2⟩
  · exact h.elim

def Blk (id : Nat) (Q : Ex → Env → Mem → Prop) : Ex → Env → Mem → Prop
  | .exit j, e, s => if j = id then Q .normal e s else Q (.exit j) e s
  | x, e, s => Q x e s

theorem Blk_normal (id : Nat) (Q : Ex → Env → Mem → Prop) (e : Env) (s : Mem) : Blk id Q .normal e s = Q .normal e s := rfl
theorem Blk_exit (id j : Nat) (Q : Ex → Env → Mem → Prop) (e : Env) (s : Mem) : Blk id Q (.exit j) e s = if j = id then Q .normal e s else Q (.exit j) e s := rfl
theorem Blk_ret (id : Nat) (Q : Ex → Env → Mem → Prop) (e : Env) (s : Mem) : Blk id Q .ret e s = Q .ret e s := rfl

theorem W_block {id : Nat} {b : CCode} {e : Env} {s : Mem} {Q : Ex → Env → Mem → Prop} (h : W F b e s (Blk id Q)) : W F (.block id b) e s Q := by
  obtain ⟨n, x, e', s', h1, h2⟩ := h
  cases x with
  | normal => exact ⟨n + 1, _, e', s', by simp only [exec, h1], h2⟩
  | exit j =>
    rw [Blk_exit] at h2
    by_cases hj : j = id
    · rw [if_pos hj] at h2
      exact ⟨n + 1, .normal, e', s', by simp only [exec, h1, if_pos hj], h2⟩
    · rw [if_neg hj] at h2
      exact ⟨n + 1, .exit j, e', s', by simp only [exec, h1, if_neg hj], h2⟩
  | ret => exact ⟨n + 1, _, e', s', by simp only [exec, h1], h2⟩

theorem W_loop {b : CCode} {e : Env} {s : Mem} {Q : Ex → Env → Mem → Prop} (h : W F b e s (Seq F (.loop b) Q)) : W F (.loop b) e s Q := by
  obtain ⟨n, x, e', s', h1, h2⟩ := h
  cases x with
  | normal =>
    obtain ⟨m, y, e2, s2, h3, h4⟩ := h2
    refine ⟨max n m + 1, y, e2, s2, ?_, h4⟩
    simp only [exec, exec_mono (Nat.le_max_left n m) h1, exec_mono (Nat.le_max_right n m) h3]
  | exit id => exact ⟨n + 1, _, e', s', by simp only [exec, h1], h2⟩
  | ret => exact ⟨n + 1, _, e', s', by simp only [exec, h1], h2⟩

def RK (rs : List CRes) (K : AV → Mem → Prop) : Ex → Env → Mem → Prop
  | .exit _, _, _ => False
  | _, e, s => K2 ((resultsA s e rs).map fun v => (v, s)) K

theorem RK_normal (rs : List CRes) (K : AV → Mem → Prop) (e : Env) (s : Mem) : RK rs K .normal e s = K2 ((resultsA s e rs).map fun v => (v, s)) K := rfl
theorem RK_ret (rs : List CRes) (K : AV → Mem → Prop) (e : Env) (s : Mem) : RK rs K .ret e s = K2 ((resultsA s e rs).map fun v => (v, s)) K := rfl

theorem C_enter {f : Nat} {cf : CFunc} {a : List AV} {s : Mem} {K : AV → Mem → Prop} (hf : F f = some cf) (ha : a.length ≤ cf.ntmps) (h : W F cf.body (Env.start a) s (RK cf.res K)) (hi : (cf.iso && a.isEmpty) = false := by rfl) (hp : cf.prim = none := by rfl) : C F f a s K := by
  have hi' : (isoF F f && a.isEmpty) = false := by simp only [isoF, hf]; exact hi
  have hp' : primF F f = none := by simp only [primF, hf]; exact hp
  obtain ⟨n, x, e', s', h1, h2⟩ := h
  cases x with
  | normal =>
    obtain ⟨r, s2, h3, h4⟩ := h2
    exact ⟨n, r, s2, by simp only [run, callA, hi', Bool.false_eq_true, if_false, callB, hp', callC, hf, if_pos (And.intro ha hp), h1]; exact h3, h4⟩
  | exit id => exact h2.elim
  | ret =>
    obtain ⟨r, s2, h3, h4⟩ := h2
    exact ⟨n, r, s2, by simp only [run, callA, hi', Bool.false_eq_true, if_false, callB, hp', callC, hf, if_pos (And.intro ha hp), h1]; exact h3, h4⟩

/-- A function that is told apart. -/
theorem C_back {f g : Nat} {cf cg : CFunc} {a : List AV} {d : AV} {s : Mem} {K : AV → Mem → Prop} (hf : F f = some cf) (hp : cf.prim = some g) (hi : cf.iso = false) (hd : backSel s a = some d) (hg : F g = some cg) (hgp : cg.prim = none) (hgi : cg.iso = false) (h : C F g [d] s (fun r s' => sliceA r = true ∧ K r s')) : C F f a s K := by
  obtain ⟨n, r, s', h1, h3, h2⟩ := h
  refine ⟨n, r, s', ?_, h2⟩
  have e1 : isoF F f = false := by simp only [isoF, hf]; exact hi
  have e2 : isoF F g = false := by simp only [isoF, hg]; exact hgi
  have e3 : primF F f = some g := by simp only [primF, hf]; exact hp
  have e4 : primF F g = none := by simp only [primF, hg]; exact hgp
  simp only [run, callA, e1, e2, Bool.false_and, Bool.false_eq_true, if_false, callB, e3, e4, hd] at h1 ⊢
  simp only [h1, h3, if_true]

/-- A call that runs by itself. -/
theorem run_iso {f n : Nat} {cf : CFunc} {v : AV} {s s0 s' : Mem} (hf : F f = some cf) (hi : cf.iso = true) (h : run F n f [] s0 = some (v, s')) : run F n f [] s = some (v, s) := by
  unfold run callA at h ⊢
  have hc : (isoF F f && ([] : List AV).isEmpty) = true := by simp only [isoF, hf, hi]; rfl
  rw [if_pos hc] at h ⊢
  split at h
  · split at h
    · rename_i hp
      obtain ⟨rfl, _⟩ := Prod.mk.inj (Option.some.inj h)
      simp only [hp, if_true]
    · cases h
  · cases h
theorem C_iso {f n : Nat} {cf : CFunc} {v : AV} {s s0 s' : Mem} {K : AV → Mem → Prop} (hf : F f = some cf) (hi : cf.iso = true) (h : run F n f [] s0 = some (v, s')) (hK : K v s) : C F f [] s K := ⟨n, v, s, run_iso hf hi h, hK⟩

/-! ## For simp: a step at a time -/
def Cs (c : Bool) (A B : Prop) : Prop := if c = true then A else B
theorem Cs_intro {c : Bool} {A B : Prop} (h1 : c = true → A) (h0 : c = false → B) : Cs c A B := by
  cases c
  · exact h0 rfl
  · exact h1 rfl
theorem Cs_true (A B : Prop) : Cs true A B = A := by simp [Cs]
theorem Cs_false (A B : Prop) : Cs false A B = B := by simp [Cs]
theorem asB_bool (b : Bool) (K : Bool → Prop) : asB (.bool b) K = K b := rfl

theorem W_if {x : Opd} {a b : CCode} {e : Env} {s : Mem} {Q : Ex → Env → Mem → Prop} (h : asB (ev e x) fun t => Cs t (W F a e s Q) (W F b e s Q)) : W F (.cond x a b) e s Q := W_cond h

theorem Ws_nil (e : Env) (s : Mem) (K : Env → Mem → Prop) : Ws F [] e s K = K e s := rfl
theorem Ws_op (d : Option Nat) (o : COp) (r : List COper) (e : Env) (s : Mem) (K : Env → Mem → Prop) : Ws F (⟨d, o, none, false, []⟩ :: r) e s K = Wp F o e s (fun v s' => Ws F r (putO e d v) s' K) := by simp [Ws, wantedA, hideRows, Mem.hide, Mem.bring]
theorem Ws_hide (d : Option Nat) (o : COp) (x : Opd) (xs : List Opd) (r : List COper) (e : Env) (s : Mem) (K : Env → Mem → Prop) : Ws F (⟨d, o, none, false, x :: xs⟩ :: r) e s K = Wp F o e (s.hide (hideRows e (x :: xs))) (fun v s' => Ws F r (putO e d v) (s'.bring s (hideRows e (x :: xs))) K) := by simp [Ws, wantedA]
/-- A hidden row ahead of others. -/
def hr1 : Option Nat → List Nat → List Nat
  | some r, l => r :: l
  | none, l => l
theorem hr_nil (e : Env) : hideRows e [] = [] := id rfl
theorem hr_cons (e : Env) (x : Opd) (xs : List Opd) : hideRows e (x :: xs) = hr1 (rowOf (ev e x)) (hideRows e xs) := by
  simp only [hideRows, hr1]
  cases rowOf (ev e x) <;> rfl
theorem hr1_some (r : Nat) (l : List Nat) : hr1 (some r) l = r :: l := id rfl
theorem hr1_none (l : List Nat) : hr1 none l = l := id rfl
theorem row_ptr (r i o : Nat) : rowOf (.ptr r i o) = some r := id rfl
theorem row_own (r i n z : Nat) : rowOf (.own r i n z) = some r := id rfl
theorem row_ref (cs : List AV) : rowOf (.ref cs) = none := id rfl
theorem row_tup (cs : List AV) : rowOf (.tup cs) = none := id rfl
theorem hide_nil (s : Mem) : s.hide [] = s := id rfl
theorem hide_cons (s : Mem) (r : Nat) (rs : List Nat) : s.hide (r :: rs) = (s.put r none).hide rs := id rfl
theorem bring_nil (s' s : Mem) : s'.bring s [] = s' := id rfl
theorem bring_cons (s' s : Mem) (r : Nat) (rs : List Nat) : s'.bring s (r :: rs) = (s'.bring s rs).put r (s.get r) := id rfl
theorem Ws_up (d : Option Nat) (o : COp) (h : List Opd) (r : List COper) (e : Env) (s : Mem) (K : Env → Mem → Prop) : Ws F (⟨d, o, none, true, h⟩ :: r) e s K = Wp F o e (s.at s.next) (fun v s' => Ws F r (putO e d v) (s'.at s.floor) K) := by simp [Ws, wantedA, Mem.at]
theorem mat_push (s : Mem) (x : Row) (f : Nat) : (s.push x).at f = (s.at f).push x := id rfl
theorem mat_put (s : Mem) (r : Nat) (x : Option Row) (f : Nat) : (s.put r x).at f = (s.at f).put r x := id rfl
theorem mat_at (s : Mem) (f g : Nat) : (s.at f).at g = s.at g := id rfl
theorem mat_self (s : Mem) : s.at s.floor = s := id rfl
theorem mat_get (s : Mem) (f r : Nat) : (s.at f).get r = s.get r := id rfl
theorem mat_next (s : Mem) (f : Nat) : (s.at f).next = s.next := id rfl
theorem mat_floor (s : Mem) (f : Nat) : (s.at f).floor = f := id rfl
theorem mat_load (s : Mem) (f : Nat) (agg : Bool) (sz : Nat) (v : AV) : loadA (s.at f) agg sz v = loadA s agg sz v := by cases v <;> rfl
theorem mat_read (s : Mem) (f : Nat) (v : AV) : readAll (s.at f) v = readAll s v := by cases v <;> rfl
/-- A guard: an unwanted operation's result is no bool. -/
def asG (v : AV) (b : Bool) (Y N : Prop) : Prop := match v with
  | .bool c => Cs c (if b = true then Y else N) (if b = true then N else Y)
  | _ => N
theorem asG_bool (c b : Bool) (Y N : Prop) : asG (.bool c) b Y N = Cs c (if b = true then Y else N) (if b = true then N else Y) := rfl
theorem asG_und (b : Bool) (Y N : Prop) : asG und b Y N = N := rfl
theorem Ws_if {d : Option Nat} {o : COp} {t : Nat} {b up : Bool} {hd : List Opd} {r : List COper} {e : Env} {s : Mem} {K : Env → Mem → Prop}
    (h : asG (e.get t) b (Ws F (⟨d, o, none, up, hd⟩ :: r) e s K) (Ws F r (putO e d und) s K)) : Ws F (⟨d, o, some (t, b), up, hd⟩ :: r) e s K := by
  unfold asG at h
  have hw2 : wantedA ⟨d, o, none, up, hd⟩ e = true := rfl
  split at h
  · rename_i c hc
    have hw : wantedA ⟨d, o, some (t, b), up, hd⟩ e = (c == b) := by simp [wantedA, hc]
    cases c <;> cases b
    all_goals simp only [Cs, if_true, Bool.false_eq_true, if_false] at h
    all_goals simp only [Ws, hw]
    all_goals first | simpa [Ws, hw2] using h | exact h
  · rename_i hc
    have hw : wantedA ⟨d, o, some (t, b), up, hd⟩ e = false := by
      simp only [wantedA]
    simp only [Ws, hw]
    simpa using h

theorem Wp_call (f : Opd) (xs : List Opd) (e : Env) (s : Mem) (K : AV → Mem → Prop) : Wp F (.call f xs) e s K = match ev e f with
    | .fn g caps => C F g (xs.map (ev e) ++ caps) s K
    | _ => False := rfl
theorem K2_map {α : Type} (v : α) (g : α → AV × Mem) (K : AV → Mem → Prop) : K2 ((some v).map g) K ↔ K (g v).1 (g v).2 := K2_some _ _ _

/-- A value, the memory as it was. -/
def P1 (x : Option AV) (s : Mem) (K : AV → Mem → Prop) : Prop := ∃ v, x = some v ∧ K v s
theorem P1_some (v : AV) (s : Mem) (K : AV → Mem → Prop) : P1 (some v) s K ↔ K v s := by
  constructor
  · rintro ⟨_, h, k⟩; obtain rfl := Option.some.inj h; exact k
  · intro h; exact ⟨v, rfl, h⟩
theorem P1_of {x : Option AV} {v : AV} {s : Mem} {K : AV → Mem → Prop} (h : x = some v) (k : K v s) : P1 x s K := ⟨v, h, k⟩
theorem P1_K2 (x : Option AV) (s : Mem) (K : AV → Mem → Prop) : K2 (x.map fun v => (v, s)) K ↔ P1 x s K := by
  cases x with
  | none => rw [Option.map_none, K2_none]; exact ⟨False.elim, fun ⟨_, h, _⟩ => by cases h⟩
  | some v => rw [Option.map_some, K2_some, P1_some]

def ibinA (op : BinOp) : AV → AV → Option AV
  | .int k a, .int j b => intOp op k a j b
  | _, _ => none
def sbinA (op : BinOp) : AV → AV → Option AV
  | .str a, .str b => strOp op a b
  | _, _ => none
def unA (op : UnOp) : AV → Option AV
  | .int k n => match op with
    | .neg => some (.int k (k.wrap (0 - n)))
    | .xor => some (.int k (k.wrap (BitVec.ofInt k.bits (if k.signed then -1 else k.max) ^^^ BitVec.ofInt k.bits n).toNat))
    | _ => none
  | .bool b => match op with
    | .not => some (.bool (!b))
    | _ => none
  | _ => none
def convA (k : IntKind) : AV → Option AV
  | .int _ n => some (.int k (k.wrap n))
  | _ => none
def strA (s : Mem) (v : AV) : Option AV := (readAll s v).bind fun es => (es.mapM byteOf).map .str
def sameA : AV → Option AV
  | .str b => some (.str b)
  | _ => none
def nilA : AV → Option AV
  | .ptr r i o => some (.ptr r i o)
  | .ref cs => some (.ref cs)
  | .fn f cs => some (.fn f cs)
  | _ => none
def addrA (off : Nat) : AV → Option AV
  | .ptr r i o => some (.ptr r i (o + off))
  | .ref cs => some (.ref (cs.drop off))
  | _ => none
def fieldA (agg : Bool) (off sz : Nat) : AV → Option AV
  | .agg cs => (slice1 cs off sz).bind (pickCells agg)
  | _ => none
def atA (sz : Nat) (x i : AV) : Option AV :=
  match i with
  | .int _ k => (toNat? k).bind fun j => match x with
    | .sl xs => xs[j]?.bind fun cs => if cs.length = sz then some (.ref cs) else none
    | .own r i n z => if j < n ∧ z = sz then some (.ptr r (i + j) 0) else none
    | _ => none
  | _ => none
def atTA (x i : AV) : Option AV :=
  match x, i with
  | .str b, .int _ k => (toNat? k).bind fun j => b[j]?.map fun c => .int .u8 c.toNat
  | _, _ => none
def extA (n : Nat) : AV → Option AV
  | .tup vs => vs[n]?
  | _ => none
def cutA (sz : Nat) (x : AV) (l h : Option Nat) : Option AV :=
  match x with
  | .nilS => if l.getD 0 = 0 ∧ h.getD 0 = 0 then some .nilS else none
  | .emp => if l.getD 0 = 0 ∧ h.getD 0 = 0 then some .emp else none
  | .sl xs => if l.getD 0 ≤ h.getD xs.length ∧ h.getD xs.length ≤ xs.length ∧ uni sz xs = true then some (.sl ((xs.take (h.getD xs.length)).drop (l.getD 0))) else none
  | .own r i n z => if l.getD 0 ≤ h.getD n ∧ h.getD n ≤ n ∧ z = sz then some (.own r (i + l.getD 0) (h.getD n - l.getD 0) z) else none
  | _ => none
def cutTA (x : AV) (l h : Option Nat) : Option AV :=
  match x with
  | .str b => if l.getD 0 ≤ h.getD b.length ∧ h.getD b.length ≤ b.length then some (.str ((b.take (h.getD b.length)).drop (l.getD 0))) else none
  | _ => none
/-- A bound of a slice expression. -/
def bdA (e : Env) (x : Option Opd) (K : Option Nat → Prop) : Prop :=
  match x with
  | none => K none
  | some x => match ev e x with
    | .int _ n => match toNat? n with
      | some j => K (some j)
      | none => False
    | _ => False
theorem bdA_bind (e : Env) (x : Option Opd) (G : Option Nat → Option (AV × Mem)) (K : AV → Mem → Prop) : K2 ((boundA e x).bind G) K ↔ bdA e x fun j => K2 (G j) K := by
  cases x with
  | none => rfl
  | some x =>
    simp only [boundA, bdA]
    cases ev e x <;> simp only [Option.bind_none, K2_none]
    rename_i k n
    cases toNat? n with
    | none => simp [K2_none]
    | some j => simp
theorem bdA_none (e : Env) (K : Option Nat → Prop) : bdA e none K = K none := rfl

section
variable (e : Env) (s : Mem) (K : AV → Mem → Prop)
theorem Wp_mv (x : Opd) : Wp F (.mv x) e s K ↔ K (ev e x) s := K2_some _ _ _
theorem Wp_pick (c a b : Opd) : Wp F (.pick c a b) e s K ↔ asB (ev e c) fun t => K (if t then ev e a else ev e b) s := by
  show K2 (match ev e c with | .bool t => some (if t then ev e a else ev e b, s) | _ => none) K ↔ _
  cases ev e c <;> simp [K2_some, K2_none, asB]
theorem Wp_new (ty : Nat) (cs : List AV) : Wp F (.new ty cs) e s K ↔ K (.ptr s.next 0 0) (s.push ⟨ty, cs.length, [cs]⟩) := K2_some _ _ _
theorem Wp_box (ty : Nat) (x : Opd) : Wp F (.box ty x) e s K ↔ (cells (ev e x)).all isCell = true ∧ K (.ptr s.next 0 0) (s.push ⟨ty, (cells (ev e x)).length, [cells (ev e x)]⟩) := by
  show K2 (if _ then _ else _) K ↔ _
  rw [K2_ite, K2_some]
theorem Wp_build (z : List AV) (ps : List (Nat × Nat × Opd)) : Wp F (.build z ps) e s K ↔ P1 ((fillParts e ps z).map .agg) s K := by
  rw [← P1_K2, Option.map_map]; rfl
theorem Wp_lit (ty sz : Nat) (z : List AV) (len : Nat) (ps : List (Nat × Opd)) : Wp F (.lit ty sz z len ps) e s K ↔ K2 ((fillLit sz e ps (List.replicate len z)).map fun es => (litV s.next len sz, s.push ⟨ty, sz, es⟩)) K := Iff.rfl
theorem litV_zero (r sz : Nat) : litV r 0 sz = .emp := id rfl
theorem litV_succ (r n sz : Nat) : litV r (n + 1) sz = .own r 0 (n + 1) sz := id rfl
theorem Wp_load (agg : Bool) (sz : Nat) (x : Opd) : Wp F (.load agg sz x) e s K ↔ P1 (loadA s agg sz (ev e x)) s K := P1_K2 _ _ _
theorem Wp_store (sz : Nat) (x y : Opd) : Wp F (.store sz x y) e s K ↔ K2 ((storeA s sz (ev e x) (ev e y)).map fun s' => (und, s')) K := Iff.rfl
theorem Wp_nilCheck (x : Opd) : Wp F (.nilCheck x) e s K ↔ P1 (nilA (ev e x)) s K := by
  rw [← P1_K2]; show K2 (match ev e x with | .ptr r i o => some (.ptr r i o, s) | .ref cs => some (.ref cs, s) | .fn f cs => some (.fn f cs, s) | _ => none) K ↔ _
  cases ev e x <;> rfl
theorem Wp_ibin (op : BinOp) (x y : Opd) : Wp F (.ibin op x y) e s K ↔ P1 (ibinA op (ev e x) (ev e y)) s K := by
  rw [← P1_K2]; show K2 (match ev e x, ev e y with | .int k a, .int j b => (intOp op k a j b).map fun v => (v, s) | _, _ => none) K ↔ _
  cases ev e x <;> cases ev e y <;> rfl
theorem Wp_sbin (op : BinOp) (x y : Opd) : Wp F (.sbin op x y) e s K ↔ P1 (sbinA op (ev e x) (ev e y)) s K := by
  rw [← P1_K2]; show K2 (match ev e x, ev e y with | .str a, .str b => (strOp op a b).map fun v => (v, s) | _, _ => none) K ↔ _
  cases ev e x <;> cases ev e y <;> rfl
theorem Wp_beq (neg : Bool) (k : EK) (x y : Opd) : Wp F (.beq neg k x y) e s K ↔ P1 ((eqA k (ev e x) (ev e y)).map fun b => .bool (if neg then !b else b)) s K := by
  rw [← P1_K2, Option.map_map]; rfl
theorem Wp_un (op : UnOp) (x : Opd) : Wp F (.un op x) e s K ↔ P1 (unA op (ev e x)) s K := by
  rw [← P1_K2]
  simp only [Wp, stepOp]
  cases op <;> cases ev e x <;> rfl
theorem Wp_conv (k : IntKind) (x : Opd) : Wp F (.conv k x) e s K ↔ P1 (convA k (ev e x)) s K := by
  rw [← P1_K2]; simp only [Wp, stepOp]
  cases ev e x <;> rfl
theorem mat_str (s : Mem) (f : Nat) (v : AV) : strA (s.at f) v = strA s v := by simp only [strA, mat_read]
theorem Wp_toStr (x : Opd) : Wp F (.toStr x) e s K ↔ P1 (strA s (ev e x)) s K := by
  rw [← P1_K2]; simp only [Wp, stepOp, Option.bind_eq_bind, strA]
  cases readAll s (ev e x) with
  | none => rfl
  | some es => simp only [Option.bind_some]; cases es.mapM byteOf <;> rfl
theorem Wp_same (x : Opd) : Wp F (.same x) e s K ↔ P1 (sameA (ev e x)) s K := by
  rw [← P1_K2]; simp only [Wp, stepOp]
  cases ev e x <;> rfl
theorem Wp_ifc (t : Nat) (x : Opd) : Wp F (.ifc t x) e s K ↔ K (.ifc t (ev e x)) s := K2_some _ _ _
theorem Wp_fn (f : Nat) (xs : List Opd) : Wp F (.fn f xs) e s K ↔ K (.fn f (xs.map (ev e))) s := K2_some _ _ _
theorem Wp_mkS (ty sz bytes : Nat) (z : List AV) (x : Opd) : Wp F (.mkS ty sz bytes z x) e s K ↔ K2 (stepOp (fun _ _ _ => none) (.mkS ty sz bytes z x) e s) K := Iff.rfl
theorem Wp_cutS (sz : Nat) (x : Opd) (l h : Option Opd) : Wp F (.cutS sz x l h) e s K ↔ bdA e l fun l => bdA e h fun h => P1 (cutA sz (ev e x) l h) s K := by
  simp only [Wp, stepOp, Option.bind_eq_bind]
  rw [bdA_bind]
  refine iff_of_eq (congrArg (bdA e l) (funext fun l => propext ?_))
  rw [bdA_bind]
  refine iff_of_eq (congrArg (bdA e h) (funext fun h => propext ?_))
  rw [← P1_K2]
  unfold cutA
  cases ev e x <;> simp only [Option.map_none]
  all_goals (split <;> rfl)
theorem Wp_cutT (x : Opd) (l h : Option Opd) : Wp F (.cutT x l h) e s K ↔ bdA e l fun l => bdA e h fun h => P1 (cutTA (ev e x) l h) s K := by
  simp only [Wp, stepOp, Option.bind_eq_bind]
  rw [bdA_bind]
  refine iff_of_eq (congrArg (bdA e l) (funext fun l => propext ?_))
  rw [bdA_bind]
  refine iff_of_eq (congrArg (bdA e h) (funext fun h => propext ?_))
  rw [← P1_K2]
  unfold cutTA
  cases ev e x <;> simp only [Option.map_none]
  all_goals (split <;> rfl)
theorem Wp_cut3 (x h k : Opd) : Wp F (.cut3 x h k) e s K ↔ P1 (cut3A (ev e x) (ev e h) (ev e k)) s K := P1_K2 _ _ _
theorem Wp_fieldAddr (off : Nat) (x : Opd) : Wp F (.fieldAddr off x) e s K ↔ P1 (addrA off (ev e x)) s K := by
  rw [← P1_K2]; simp only [Wp, stepOp]
  cases ev e x <;> rfl
theorem Wp_field (agg : Bool) (off sz : Nat) (x : Opd) : Wp F (.field agg off sz x) e s K ↔ P1 (fieldA agg off sz (ev e x)) s K := by
  rw [← P1_K2]; simp only [Wp, stepOp, Option.bind_eq_bind]
  cases ev e x <;> first | rfl | skip
  rename_i cs
  simp only [fieldA]
  cases slice1 cs off sz with
  | none => rfl
  | some l => simp only [Option.bind_some]; cases pickCells agg l <;> rfl
theorem Wp_at (sz : Nat) (x i : Opd) : Wp F (.at_ sz x i) e s K ↔ P1 (atA sz (ev e x) (ev e i)) s K := by
  rw [← P1_K2]; simp only [Wp, stepOp, Option.bind_eq_bind, atA]
  cases ev e i <;> first | rfl | skip
  rename_i k n
  simp only
  cases toNat? n with
  | none => rfl
  | some j =>
    simp only [Option.bind_some]
    cases ev e x <;> first | rfl | skip
    · rename_i xs
      simp only
      cases xs[j]? with
      | none => rfl
      | some c => simp only [Option.bind_some]; split <;> rfl
    · simp only; split <;> rfl
theorem Wp_atT (x i : Opd) : Wp F (.atT x i) e s K ↔ P1 (atTA (ev e x) (ev e i)) s K := by
  rw [← P1_K2]; simp only [Wp, stepOp, Option.bind_eq_bind, atTA]
  cases ev e x <;> cases ev e i <;> first | rfl | skip
  rename_i b k n
  simp only
  cases toNat? n with
  | none => rfl
  | some j =>
    simp only [Option.bind_some]
    cases b[j]? <;> rfl
theorem Wp_ixA (g : Bool) (sz n : Nat) (x i : Opd) : Wp F (.ixA g sz n x i) e s K ↔ P1 (ixV g sz n (ev e x) (ev e i)) s K := P1_K2 _ _ _
theorem Wp_atP (sz n : Nat) (x i : Opd) : Wp F (.atP sz n x i) e s K ↔ P1 (atV sz n (ev e x) (ev e i)) s K := P1_K2 _ _ _
theorem Wp_ext (x : Opd) (n : Nat) : Wp F (.ext x n) e s K ↔ P1 (extA n (ev e x)) s K := by
  rw [← P1_K2]; simp only [Wp, stepOp]
  cases ev e x <;> rfl
theorem Wp_len (b : Bool) (x : Opd) : Wp F (.len b x) e s K ↔ P1 ((lenA b (ev e x)).map fun (n : Nat) => AV.int .i64 (n : Int)) s K := by
  rw [← P1_K2, Option.map_map]; rfl
theorem Wp_app (ty sz bytes : Nat) (x y : Opd) : Wp F (.app ty sz bytes x y) e s K ↔ K2 (stepOp (fun _ _ _ => none) (.app ty sz bytes x y) e s) K := Iff.rfl
theorem Wp_mnmx (mx : Bool) (xs : List Opd) : Wp F (.mnmx mx xs) e s K ↔ K2 (stepOp (fun _ _ _ => none) (.mnmx mx xs) e s) K := Iff.rfl
end

theorem ibinA_int (op : BinOp) (k j : IntKind) (a b : Int) : ibinA op (.int k a) (.int j b) = intOp op k a j b := rfl
theorem sbinA_str (op : BinOp) (a b : List UInt8) : sbinA op (.str a) (.str b) = strOp op a b := rfl
theorem unA_not (b : Bool) : unA .not (.bool b) = some (.bool (!b)) := rfl
theorem unA_neg (k : IntKind) (n : Int) : unA .neg (.int k n) = some (.int k (k.wrap (0 - n))) := rfl
theorem convA_int (k j : IntKind) (n : Int) : convA k (.int j n) = some (.int k (k.wrap n)) := rfl
theorem sameA_str (b : List UInt8) : sameA (.str b) = some (.str b) := rfl
theorem nilA_ptr (r i o : Nat) : nilA (.ptr r i o) = some (.ptr r i o) := rfl
theorem nilA_ref (cs : List AV) : nilA (.ref cs) = some (.ref cs) := rfl
theorem nilA_fn (f : Nat) (cs : List AV) : nilA (.fn f cs) = some (.fn f cs) := rfl
theorem addrA_ptr (off r i o : Nat) : addrA off (.ptr r i o) = some (.ptr r i (o + off)) := rfl
theorem addrA_ref (off : Nat) (cs : List AV) : addrA off (.ref cs) = some (.ref (cs.drop off)) := rfl
theorem lenA_nil : lenA false .nilS = some 0 := rfl
theorem lenA_emp : lenA false .emp = some 0 := rfl
theorem lenA_sl (xs : List (List AV)) : lenA false (.sl xs) = some xs.length := rfl
theorem lenA_own (r i n z : Nat) : lenA false (.own r i n z) = some n := rfl
theorem lenA_str (b : List UInt8) : lenA true (.str b) = some b.length := rfl

theorem W_loop' {b b' : CCode} {e : Env} {s : Mem} {Q : Ex → Env → Mem → Prop} (hb : b = b') (h : W F b' e s (Seq F (.loop b) Q)) : W F (.loop b) e s Q := W_loop (hb ▸ h)

theorem wrap_i64 {x : Int} (h : -9223372036854775808 ≤ x ∧ x ≤ 9223372036854775807) : IntKind.i64.wrap x = x := by
  simp [IntKind.wrap, IntKind.signed, IntKind.bits]
  split <;> omega
theorem wrap_u64 {x : Int} (h : 0 ≤ x ∧ x ≤ 18446744073709551615) : IntKind.u64.wrap x = x := by
  simp [IntKind.wrap, IntKind.signed, IntKind.bits]
  omega
theorem wf_i64 {n : Int} (h : (Lit.int .i64 n).wf = true) : -9223372036854775808 ≤ n ∧ n ≤ 9223372036854775807 := by
  simp [Lit.wf, IntKind.min, IntKind.max, IntKind.signed, IntKind.bits] at h
  omega
theorem wf_u64 {n : Int} (h : (Lit.int .u64 n).wf = true) : 0 ≤ n ∧ n ≤ 18446744073709551615 := by
  simp [Lit.wf, IntKind.min, IntKind.max, IntKind.signed, IntKind.bits] at h
  omega

theorem C_run {f : Nat} {a : List AV} {s : Mem} (h : C F f a s (fun r _ => r = .bool true)) {G : Nat → Option CFunc} (hl : LeF F G) : ∃ k s', run G k f a s = some (.bool true, s') := by
  obtain ⟨n, r, s', h1, rfl⟩ := h
  exact ⟨n + 1, s', run_le hl h1⟩

/-- By the machine's own run. -/
def yes : Option (AV × Mem) → Bool
  | some (.bool true, _) => true
  | _ => false

end
end Go.VI
