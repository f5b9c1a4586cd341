/- Slices cut, appended to. No statement of the seat is proved here. -/
import Derived.Test.YtfllmhjjfapnmaaGreatVZVE
namespace Go.VI
open Go
def bdV (v : AV) (K : Option Nat → Prop) : Prop :=
  match v with
  | .int _ n => match toNat? n with
    | some j => K (some j)
    | none => False
  | _ => False
theorem bdA_some (e : Env) (x : Opd) (K : Option Nat → Prop) : bdA e (some x) K = bdV (ev e x) K := id rfl
theorem bdV_nat (k : IntKind) (n : Nat) (K : Option Nat → Prop) : bdV (.int k (n : Int)) K = K (some n) := by simp only [bdV, toNat_cast]
end Go.VI

