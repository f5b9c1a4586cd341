/- One that could have expired is linear, and not as long as it must last: run. No statement of the seat is proved here. -/
import Derived.Test.YtmjgakhnhjpclaaGreatVZXs
import Derived.Test.YtmjgakhnhjpclaaGreatVZVD
import Derived.Test.YtmjgakhnhjpclaaGreatVZVE
namespace Go.Proofs.YtmjgakhnhjpclaaGreat
open Go Go.VI
set_option maxRecDepth 1000000
theorem awake_run : yes (run tab 3000 9 [] Mem.zero) = true := by kernel_rfl
theorem awake25_c {s : Mem} (K : AV → Mem → Prop) (h : K (.bool true) s) : C tab 9 [] s K := by
  have hr := awake_run
  cases hx : run tab 3000 9 [] Mem.zero with
  | none => rw [hx] at hr; cases hr
  | some p =>
    obtain ⟨v, s'⟩ := p
    rw [hx] at hr
    cases v with
    | bool b =>
      cases b with
      | true => exact C_iso (cf := cf9) rfl rfl hx h
      | false => cases hr
    | _ => cases hr
end Go.Proofs.YtmjgakhnhjpclaaGreat

