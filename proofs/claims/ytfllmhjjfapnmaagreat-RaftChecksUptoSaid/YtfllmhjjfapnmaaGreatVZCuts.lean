/- Slices cut, appended to. No statement of the seat is proved here. -/
import Derived.Test.YtfllmhjjfapnmaaGreatVZVE
namespace Go.VI
open Go

def bdV (v : AV) (K : Option Nat → Prop) : Prop :=
  match v with
  | .int _ n => match toNat? n with
    | some j => K (some j)
    | none => False
  | _ => False
theorem bdA_some (e : Env) (x : Opd) (K : Option Nat → Prop) : bdA e (some x) K = bdV (ev e x) K := id rfl
theorem bdV_nat (k : IntKind) (n : Nat) (K : Option Nat → Prop) : bdV (.int k (n : Int)) K = K (some n) := by simp only [bdV, toNat_cast]

/-- A row's first elements. -/
def cutK (k sz : Nat) : AV → AV
  | .own r _ _ _ => .own r 0 k sz
  | v => v
theorem OwnL.cutK {s : Mem} {b ty sz k : Nat} {v : AV} {xs : List (List AV)} (h : OwnL s b v ty sz xs) (hk : k ≤ xs.length) : cutA sz v none (some k) = some (cutK k sz v) := by
  rcases h with ⟨rfl | rfl, rfl⟩ | ⟨r, rfl, _⟩
  · have : k = 0 := by simpa using hk
    subst this; rfl
  · have : k = 0 := by simpa using hk
    subst this; rfl
  · simp only [cutA, Option.getD_none, Option.getD_some, Nat.zero_add, Nat.sub_zero]
    rw [if_pos ⟨Nat.zero_le _, hk, trivial⟩]; rfl

/-- Appending to a row's first elements: what stood behind them is gone. -/
theorem app_cut {F : Nat → Option CFunc} {ty sz bytes b k : Nat} {ox oy : Opd} {e : Env} {s : Mem} {v : AV} {xs ys : List (List AV)} {K : AV → Mem → Prop} (hf : s.floor ≤ b) (hb : b ≤ s.next) (hx : OwnL s b v ty sz xs) (ex : ev e ox = cutK k sz v) (hk : k ≤ xs.length) (hy : readAll s (ev e oy) = some ys) (hu : uni sz ys = true)
    (hroom : roomOk (k + ys.length) bytes = true) (hK : ∀ v' s', OwnL s' b v' ty sz (xs.take k ++ ys) → KeepX v s s' → (∀ r i n z, v' = .own r i n z → s.next ≤ r) → K v' s') : Wp F (.app ty sz bytes ox oy) e s K := by
  rcases hx with ⟨h1, rfl⟩ | ⟨r, rfl, h2, h3, h4, h5⟩
  · have hk0 : k = 0 := by simpa using hk
    subst hk0
    have ex' : ev e ox = v := by rcases h1 with rfl | rfl <;> exact ex
    refine app_x (b := b) (xs := []) hf hb (by rw [ex']; exact .inl ⟨h1, rfl⟩) hy hu (by simpa using hroom) ?_
    intro v' s' g1 g2 _ g4
    rw [ex'] at g2
    exact hK v' s' (by simpa using g1) g2 g4
  · rw [Wp_app]
    simp only [stepOp, Option.bind_eq_bind, hy, Option.bind_some, if_pos hu, ex, cutK, h2]
    rw [if_pos ⟨trivial, hk, trivial, trivial, h3, hroom⟩, K2_some]
    have h6 : (s.put r none).floor ≤ b := hf
    have h7 : b ≤ (s.put r none).next := hb
    have hl : (xs.take k).length = k := by simp; omega
    have := OwnL.of_push (ty := ty) (sz := sz) (xs := xs.take k ++ ys) h6 h7
    rw [List.length_append, hl, Mem.next_put] at this
    refine hK _ _ this ⟨by rw [Mem.next_push, Mem.next_put]; omega, rfl, ?_⟩ (fun r i n z h => by obtain ⟨rfl, _⟩ := AV.own.inj h; exact Nat.le_refl _)
    intro q hq hne
    rw [Mem.get_push, Mem.next_put, if_neg (by omega), Mem.get_put, if_neg]
    intro he
    subst he
    exact hne _ _ _ rfl
end Go.VI
