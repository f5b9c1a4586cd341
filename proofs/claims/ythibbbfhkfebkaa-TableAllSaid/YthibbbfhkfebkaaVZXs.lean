/- What is told apart is so. No statement of the seat is proved here. -/
import Derived.Test.YthibbbfhkfebkaaVZTab
import Derived.Test.YthibbbfhkfebkaaVZVF
import Derived.Test.YthibbbfhkfebkaaVZVC
import Derived.Test.YthibbbfhkfebkaaVZVE
namespace Go.Proofs.Ythibbbfhkfebkaa
open Go Go.VI Go.RowKit Go.Shelf
set_option maxRecDepth 100000
def ren20 : Ren := ⟨fun x => if x = 22 then 20 else if x = 29 then 46 else if x = 30 then 47 else x, fun x => if x = 0 then 0 else if x = 3 then 3 else if x = 4 then 4 else if x = 9 then 46 else if x = 24 then 25 else x, fun x => x⟩
theorem lay20 : InsLays Try.prog ren20 6 56 (((Try.prog.info? 46).bind (·.zero)).getD undef) where
  mixed := by kernel_rfl
  f22 := ⟨(Try.prog.funcs[(20 : Nat)]?).elim "" (·.name), (Try.prog.funcs[(20 : Nat)]?).elim #[] (·.targs), by kernel_rfl⟩
  ov := fun args w => run_callFunc_extern Try.func46 (by kernel_rfl) (by kernel_rfl) (by kernel_rfl) (e := Extern.SlicesOverlaps.overlaps #[25, 25] #[4]) (by kernel_rfl) args w
  t0 := by kernel_rfl
  a0 := Try.isAgg0
  z0 := Try.sizeOf0
  v0 := Try.zeroValue0
  t3 := by kernel_rfl
  a3 := Try.isAgg3
  z3 := Try.sizeOf3
  v3 := Try.zeroValue3
  t4 := by kernel_rfl
  a4 := Try.isAgg4
  z4 := Try.sizeOf4
  v4 := Try.zeroValue4
  z9 := Try.sizeOf46
  t24 := by kernel_rfl
  a24 := Try.isAgg25
  z24 := Try.sizeOf25
  v24 := Try.zeroValue25
  i9 := by kernel_rfl
  hk := by decide
  hz := by kernel_rfl
  nb := by
    intro h
    have e : (match Try.prog.underlying 46 with | some (.int .u8) => true | _ => false) = false := by kernel_rfl
    have h' : Try.prog.underlying 46 = some (.int .u8) := h
    rw [h'] at e
    cases e
def ren82 : Ren := ⟨fun x => if x = 22 then 82 else if x = 29 then 86 else if x = 30 then 87 else x, fun x => if x = 0 then 0 else if x = 3 then 3 else if x = 4 then 4 else if x = 9 then 70 else if x = 24 then 23 else x, fun x => x⟩
theorem lay82 : InsLays Try.prog ren82 3 32 (((Try.prog.info? 70).bind (·.zero)).getD undef) where
  mixed := by kernel_rfl
  f22 := ⟨(Try.prog.funcs[(82 : Nat)]?).elim "" (·.name), (Try.prog.funcs[(82 : Nat)]?).elim #[] (·.targs), by kernel_rfl⟩
  ov := fun args w => run_callFunc_extern Try.func86 (by kernel_rfl) (by kernel_rfl) (by kernel_rfl) (e := Extern.SlicesOverlaps.overlaps #[23, 23] #[4]) (by kernel_rfl) args w
  t0 := by kernel_rfl
  a0 := Try.isAgg0
  z0 := Try.sizeOf0
  v0 := Try.zeroValue0
  t3 := by kernel_rfl
  a3 := Try.isAgg3
  z3 := Try.sizeOf3
  v3 := Try.zeroValue3
  t4 := by kernel_rfl
  a4 := Try.isAgg4
  z4 := Try.sizeOf4
  v4 := Try.zeroValue4
  z9 := Try.sizeOf70
  t24 := by kernel_rfl
  a24 := Try.isAgg23
  z24 := Try.sizeOf23
  v24 := Try.zeroValue23
  i9 := by kernel_rfl
  hk := by decide
  hz := by kernel_rfl
  nb := by
    intro h
    have e : (match Try.prog.underlying 70 with | some (.int .u8) => true | _ => false) = false := by kernel_rfl
    have h' : Try.prog.underlying 70 = some (.int .u8) := h
    rw [h'] at e
    cases e
def ren85 : Ren := ⟨fun x => if x = 22 then 85 else if x = 29 then 88 else if x = 30 then 89 else x, fun x => if x = 0 then 0 else if x = 3 then 3 else if x = 4 then 4 else if x = 9 then 86 else if x = 24 then 24 else x, fun x => x⟩
theorem lay85 : InsLays Try.prog ren85 2 24 (((Try.prog.info? 86).bind (·.zero)).getD undef) where
  mixed := by kernel_rfl
  f22 := ⟨(Try.prog.funcs[(85 : Nat)]?).elim "" (·.name), (Try.prog.funcs[(85 : Nat)]?).elim #[] (·.targs), by kernel_rfl⟩
  ov := fun args w => run_callFunc_extern Try.func88 (by kernel_rfl) (by kernel_rfl) (by kernel_rfl) (e := Extern.SlicesOverlaps.overlaps #[24, 24] #[4]) (by kernel_rfl) args w
  t0 := by kernel_rfl
  a0 := Try.isAgg0
  z0 := Try.sizeOf0
  v0 := Try.zeroValue0
  t3 := by kernel_rfl
  a3 := Try.isAgg3
  z3 := Try.sizeOf3
  v3 := Try.zeroValue3
  t4 := by kernel_rfl
  a4 := Try.isAgg4
  z4 := Try.sizeOf4
  v4 := Try.zeroValue4
  z9 := Try.sizeOf86
  t24 := by kernel_rfl
  a24 := Try.isAgg24
  z24 := Try.sizeOf24
  v24 := Try.zeroValue24
  i9 := by kernel_rfl
  hk := by decide
  hz := by kernel_rfl
  nb := by
    intro h
    have e : (match Try.prog.underlying 86 with | some (.int .u8) => true | _ => false) = false := by kernel_rfl
    have h' : Try.prog.underlying 86 = some (.int .u8) := h
    rw [h'] at e
    cases e
def ren68 : Ren := ⟨fun x => if x = 213 then 68 else if x = 265 then 78 else x, fun x => if x = 3 then 3 else if x = 9 then 9 else x, fun x => x⟩
theorem lay68 : Go.Proofs.Lays.n213 Try.prog ren68 where
  mixed := by kernel_rfl
  f213 := by kernel_rfl
  f265 := by kernel_rfl
  t3 := by kernel_rfl
  a3 := Try.isAgg3
  z3 := Try.sizeOf3
  v3 := Try.zeroValue3
  t9 := by kernel_rfl
  a9 := Try.isAgg9
  z9 := Try.sizeOf9
  v9 := Try.zeroValue9
theorem xs_ok : XOK Try.prog xs := by
  intro f cf h
  unfold xs at h
  split at h
  · obtain rfl := Option.some.inj h
    exact ⟨.ins 46 6 56, rfl, ins_ok lay20, _, Try.func20, by kernel_rfl, by kernel_rfl⟩
  · obtain rfl := Option.some.inj h
    exact ⟨.ins 70 3 32, rfl, ins_ok lay82, _, Try.func82, by kernel_rfl, by kernel_rfl⟩
  · obtain rfl := Option.some.inj h
    exact ⟨.ins 86 2 24, rfl, ins_ok lay85, _, Try.func85, by kernel_rfl, by kernel_rfl⟩
  · obtain rfl := Option.some.inj h
    exact ⟨.cmp, rfl, cmp_ok lay68, _, Try.func68, by kernel_rfl, by kernel_rfl⟩
  · cases h
end Go.Proofs.Ythibbbfhkfebkaa

