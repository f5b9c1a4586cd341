/- What is told apart is so. No statement of the seat is proved here. -/
import Derived.Test.YtmjgakhnhjpclaaGreatVZTab
import Derived.Test.YtmjgakhnhjpclaaGreatVZVF
import Derived.Test.YtmjgakhnhjpclaaGreatVZVC
import Derived.Test.YtmjgakhnhjpclaaGreatVZVE
namespace Go.Proofs.YtmjgakhnhjpclaaGreat
open Go Go.VI Go.RowKit Go.Shelf
set_option maxRecDepth 100000
def ren96 : Ren := ⟨fun x => if x = 22 then 96 else if x = 29 then 100 else if x = 30 then 101 else x, fun x => if x = 0 then 0 else if x = 3 then 3 else if x = 4 then 4 else if x = 9 then 84 else if x = 24 then 74 else x, fun x => x⟩
theorem lay96 : InsLays Tryz.prog ren96 2 24 (((Tryz.prog.info? 84).bind (·.zero)).getD undef) where
  mixed := by kernel_rfl
  f22 := ⟨(Tryz.prog.funcs[(96 : Nat)]?).elim "" (·.name), (Tryz.prog.funcs[(96 : Nat)]?).elim #[] (·.targs), by kernel_rfl⟩
  ov := fun args w => run_callFunc_extern Tryz.func100 (by kernel_rfl) (by kernel_rfl) (by kernel_rfl) (e := Extern.SlicesOverlaps.overlaps #[74, 74] #[4]) (by kernel_rfl) args w
  t0 := by kernel_rfl
  a0 := Tryz.isAgg0
  z0 := Tryz.sizeOf0
  v0 := Tryz.zeroValue0
  t3 := by kernel_rfl
  a3 := Tryz.isAgg3
  z3 := Tryz.sizeOf3
  v3 := Tryz.zeroValue3
  t4 := by kernel_rfl
  a4 := Tryz.isAgg4
  z4 := Tryz.sizeOf4
  v4 := Tryz.zeroValue4
  z9 := Tryz.sizeOf84
  t24 := by kernel_rfl
  a24 := Tryz.isAgg74
  z24 := Tryz.sizeOf74
  v24 := Tryz.zeroValue74
  i9 := by kernel_rfl
  hk := by decide
  hz := by kernel_rfl
  nb := by
    intro h
    have e : (match Tryz.prog.underlying 84 with | some (.int .u8) => true | _ => false) = false := by kernel_rfl
    have h' : Tryz.prog.underlying 84 = some (.int .u8) := h
    rw [h'] at e
    cases e
def ren102 : Ren := ⟨fun x => if x = 213 then 102 else if x = 265 then 104 else x, fun x => if x = 3 then 3 else if x = 9 then 9 else x, fun x => x⟩
theorem lay102 : Go.Proofs.Lays.n213 Tryz.prog ren102 where
  mixed := by kernel_rfl
  f213 := by kernel_rfl
  f265 := by kernel_rfl
  t3 := by kernel_rfl
  a3 := Tryz.isAgg3
  z3 := Tryz.sizeOf3
  v3 := Tryz.zeroValue3
  t9 := by kernel_rfl
  a9 := Tryz.isAgg9
  z9 := Tryz.sizeOf9
  v9 := Tryz.zeroValue9
theorem xs_ok : XOK Tryz.prog xs := by
  intro f cf h
  unfold xs at h
  split at h
  · obtain rfl := Option.some.inj h
    exact ⟨.ins 84 2 24, rfl, ins_ok lay96, _, Tryz.func96, by kernel_rfl, by kernel_rfl⟩
  · obtain rfl := Option.some.inj h
    exact ⟨.cmp, rfl, cmp_ok lay102, _, Tryz.func102, by kernel_rfl, by kernel_rfl⟩
  · cases h
end Go.Proofs.YtmjgakhnhjpclaaGreat

