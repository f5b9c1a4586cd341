/- Two keys are held by one token: run. No statement of the seat is proved here. -/
import Derived.Test.YthibbbfhkfebkaaGreatVZXs
import Derived.Test.YthibbbfhkfebkaaGreatVZVD
import Derived.Test.YthibbbfhkfebkaaGreatVZVE
namespace Go.Proofs.YthibbbfhkfebkaaGreat
open Go Go.VI
set_option maxRecDepth 1000000
theorem awake_run : yes (run tab 3000 9 [] Mem.zero) = true := by kernel_rfl
theorem awake19_c {s : Mem} (K : AV → Mem → Prop) (h : K (.bool true) s) : C tab 9 [] s K := by
  have hr := awake_run
  cases hx : run tab 3000 9 [] Mem.zero with
  | none => rw [hx] at hr; cases hr
  | some p =>
    obtain ⟨v, s'⟩ := p
    rw [hx] at hr
    cases v with
    | bool b =>
      cases b with
      | true => exact C_iso (cf := cf9) rfl rfl hx h
      | false => cases hr
    | _ => cases hr
end Go.Proofs.YthibbbfhkfebkaaGreat

