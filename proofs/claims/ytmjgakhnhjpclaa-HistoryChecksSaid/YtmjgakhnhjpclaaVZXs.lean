/- What is told apart is so. No statement of the seat is proved here. -/
import Derived.Test.YtmjgakhnhjpclaaVZTab
import Derived.Test.YtmjgakhnhjpclaaVZVF
import Derived.Test.YtmjgakhnhjpclaaVZVC
import Derived.Test.YtmjgakhnhjpclaaVZVE
namespace Go.Proofs.Ytmjgakhnhjpclaa
open Go Go.VI Go.RowKit Go.Shelf
set_option maxRecDepth 100000
def ren97 : Ren := ⟨fun x => if x = 22 then 97 else if x = 29 then 101 else if x = 30 then 102 else x, fun x => if x = 0 then 0 else if x = 3 then 3 else if x = 4 then 4 else if x = 9 then 56 else if x = 24 then 28 else x, fun x => x⟩
theorem lay97 : InsLays Try.prog ren97 2 24 (((Try.prog.info? 56).bind (·.zero)).getD undef) where
  mixed := by kernel_rfl
  f22 := ⟨(Try.prog.funcs[(97 : Nat)]?).elim "" (·.name), (Try.prog.funcs[(97 : Nat)]?).elim #[] (·.targs), by kernel_rfl⟩
  ov := fun args w => run_callFunc_extern Try.func101 (by kernel_rfl) (by kernel_rfl) (by kernel_rfl) (e := Extern.SlicesOverlaps.overlaps #[28, 28] #[4]) (by kernel_rfl) args w
  t0 := by kernel_rfl
  a0 := Try.isAgg0
  z0 := Try.sizeOf0
  v0 := Try.zeroValue0
  t3 := by kernel_rfl
  a3 := Try.isAgg3
  z3 := Try.sizeOf3
  v3 := Try.zeroValue3
  t4 := by kernel_rfl
  a4 := Try.isAgg4
  z4 := Try.sizeOf4
  v4 := Try.zeroValue4
  z9 := Try.sizeOf56
  t24 := by kernel_rfl
  a24 := Try.isAgg28
  z24 := Try.sizeOf28
  v24 := Try.zeroValue28
  i9 := by kernel_rfl
  hk := by decide
  hz := by kernel_rfl
  nb := by
    intro h
    have e : (match Try.prog.underlying 56 with | some (.int .u8) => true | _ => false) = false := by kernel_rfl
    have h' : Try.prog.underlying 56 = some (.int .u8) := h
    rw [h'] at e
    cases e
def ren103 : Ren := ⟨fun x => if x = 213 then 103 else if x = 265 then 105 else x, fun x => if x = 3 then 3 else if x = 9 then 9 else x, fun x => x⟩
theorem lay103 : Go.Proofs.Lays.n213 Try.prog ren103 where
  mixed := by kernel_rfl
  f213 := by kernel_rfl
  f265 := by kernel_rfl
  t3 := by kernel_rfl
  a3 := Try.isAgg3
  z3 := Try.sizeOf3
  v3 := Try.zeroValue3
  t9 := by kernel_rfl
  a9 := Try.isAgg9
  z9 := Try.sizeOf9
  v9 := Try.zeroValue9
theorem xs_ok : XOK Try.prog xs := by
  intro f cf h
  unfold xs at h
  split at h
  · obtain rfl := Option.some.inj h
    exact ⟨.ins 56 2 24, rfl, ins_ok lay97, _, Try.func97, by kernel_rfl, by kernel_rfl⟩
  · obtain rfl := Option.some.inj h
    exact ⟨.cmp, rfl, cmp_ok lay103, _, Try.func103, by kernel_rfl, by kernel_rfl⟩
  · cases h
end Go.Proofs.Ytmjgakhnhjpclaa

