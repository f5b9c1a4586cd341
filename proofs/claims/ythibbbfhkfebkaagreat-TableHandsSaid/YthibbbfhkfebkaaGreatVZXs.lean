/- What is told apart is so. No statement of the seat is proved here. -/
import Derived.Test.YthibbbfhkfebkaaGreatVZTab
import Derived.Test.YthibbbfhkfebkaaGreatVZVF
import Derived.Test.YthibbbfhkfebkaaGreatVZVC
import Derived.Test.YthibbbfhkfebkaaGreatVZVE
namespace Go.Proofs.YthibbbfhkfebkaaGreat
open Go Go.VI Go.RowKit Go.Shelf
set_option maxRecDepth 100000
def ren37 : Ren := ⟨fun x => if x = 22 then 37 else if x = 29 then 98 else if x = 30 then 99 else x, fun x => if x = 0 then 0 else if x = 3 then 3 else if x = 4 then 4 else if x = 9 then 70 else if x = 24 then 25 else x, fun x => x⟩
theorem lay37 : InsLays Tryz.prog ren37 6 56 (((Tryz.prog.info? 70).bind (·.zero)).getD undef) where
  mixed := by kernel_rfl
  f22 := ⟨(Tryz.prog.funcs[(37 : Nat)]?).elim "" (·.name), (Tryz.prog.funcs[(37 : Nat)]?).elim #[] (·.targs), by kernel_rfl⟩
  ov := fun args w => run_callFunc_extern Tryz.func98 (by kernel_rfl) (by kernel_rfl) (by kernel_rfl) (e := Extern.SlicesOverlaps.overlaps #[25, 25] #[4]) (by kernel_rfl) args w
  t0 := by kernel_rfl
  a0 := Tryz.isAgg0
  z0 := Tryz.sizeOf0
  v0 := Tryz.zeroValue0
  t3 := by kernel_rfl
  a3 := Tryz.isAgg3
  z3 := Tryz.sizeOf3
  v3 := Tryz.zeroValue3
  t4 := by kernel_rfl
  a4 := Tryz.isAgg4
  z4 := Tryz.sizeOf4
  v4 := Tryz.zeroValue4
  z9 := Tryz.sizeOf70
  t24 := by kernel_rfl
  a24 := Tryz.isAgg25
  z24 := Tryz.sizeOf25
  v24 := Tryz.zeroValue25
  i9 := by kernel_rfl
  hk := by decide
  hz := by kernel_rfl
  nb := by
    intro h
    have e : (match Tryz.prog.underlying 70 with | some (.int .u8) => true | _ => false) = false := by kernel_rfl
    have h' : Tryz.prog.underlying 70 = some (.int .u8) := h
    rw [h'] at e
    cases e
def ren142 : Ren := ⟨fun x => if x = 22 then 142 else if x = 29 then 148 else if x = 30 then 149 else x, fun x => if x = 0 then 0 else if x = 3 then 3 else if x = 4 then 4 else if x = 9 then 58 else if x = 24 then 23 else x, fun x => x⟩
theorem lay142 : InsLays Tryz.prog ren142 3 32 (((Tryz.prog.info? 58).bind (·.zero)).getD undef) where
  mixed := by kernel_rfl
  f22 := ⟨(Tryz.prog.funcs[(142 : Nat)]?).elim "" (·.name), (Tryz.prog.funcs[(142 : Nat)]?).elim #[] (·.targs), by kernel_rfl⟩
  ov := fun args w => run_callFunc_extern Tryz.func148 (by kernel_rfl) (by kernel_rfl) (by kernel_rfl) (e := Extern.SlicesOverlaps.overlaps #[23, 23] #[4]) (by kernel_rfl) args w
  t0 := by kernel_rfl
  a0 := Tryz.isAgg0
  z0 := Tryz.sizeOf0
  v0 := Tryz.zeroValue0
  t3 := by kernel_rfl
  a3 := Tryz.isAgg3
  z3 := Tryz.sizeOf3
  v3 := Tryz.zeroValue3
  t4 := by kernel_rfl
  a4 := Tryz.isAgg4
  z4 := Tryz.sizeOf4
  v4 := Tryz.zeroValue4
  z9 := Tryz.sizeOf58
  t24 := by kernel_rfl
  a24 := Tryz.isAgg23
  z24 := Tryz.sizeOf23
  v24 := Tryz.zeroValue23
  i9 := by kernel_rfl
  hk := by decide
  hz := by kernel_rfl
  nb := by
    intro h
    have e : (match Tryz.prog.underlying 58 with | some (.int .u8) => true | _ => false) = false := by kernel_rfl
    have h' : Tryz.prog.underlying 58 = some (.int .u8) := h
    rw [h'] at e
    cases e
def ren145 : Ren := ⟨fun x => if x = 22 then 145 else if x = 29 then 150 else if x = 30 then 151 else x, fun x => if x = 0 then 0 else if x = 3 then 3 else if x = 4 then 4 else if x = 9 then 68 else if x = 24 then 24 else x, fun x => x⟩
theorem lay145 : InsLays Tryz.prog ren145 2 24 (((Tryz.prog.info? 68).bind (·.zero)).getD undef) where
  mixed := by kernel_rfl
  f22 := ⟨(Tryz.prog.funcs[(145 : Nat)]?).elim "" (·.name), (Tryz.prog.funcs[(145 : Nat)]?).elim #[] (·.targs), by kernel_rfl⟩
  ov := fun args w => run_callFunc_extern Tryz.func150 (by kernel_rfl) (by kernel_rfl) (by kernel_rfl) (e := Extern.SlicesOverlaps.overlaps #[24, 24] #[4]) (by kernel_rfl) args w
  t0 := by kernel_rfl
  a0 := Tryz.isAgg0
  z0 := Tryz.sizeOf0
  v0 := Tryz.zeroValue0
  t3 := by kernel_rfl
  a3 := Tryz.isAgg3
  z3 := Tryz.sizeOf3
  v3 := Tryz.zeroValue3
  t4 := by kernel_rfl
  a4 := Tryz.isAgg4
  z4 := Tryz.sizeOf4
  v4 := Tryz.zeroValue4
  z9 := Tryz.sizeOf68
  t24 := by kernel_rfl
  a24 := Tryz.isAgg24
  z24 := Tryz.sizeOf24
  v24 := Tryz.zeroValue24
  i9 := by kernel_rfl
  hk := by decide
  hz := by kernel_rfl
  nb := by
    intro h
    have e : (match Tryz.prog.underlying 68 with | some (.int .u8) => true | _ => false) = false := by kernel_rfl
    have h' : Tryz.prog.underlying 68 = some (.int .u8) := h
    rw [h'] at e
    cases e
def ren134 : Ren := ⟨fun x => if x = 213 then 134 else if x = 265 then 146 else x, fun x => if x = 3 then 3 else if x = 9 then 9 else x, fun x => x⟩
theorem lay134 : Go.Proofs.Lays.n213 Tryz.prog ren134 where
  mixed := by kernel_rfl
  f213 := by kernel_rfl
  f265 := by kernel_rfl
  t3 := by kernel_rfl
  a3 := Tryz.isAgg3
  z3 := Tryz.sizeOf3
  v3 := Tryz.zeroValue3
  t9 := by kernel_rfl
  a9 := Tryz.isAgg9
  z9 := Tryz.sizeOf9
  v9 := Tryz.zeroValue9
theorem xs_ok : XOK Tryz.prog xs := by
  intro f cf h
  unfold xs at h
  split at h
  · obtain rfl := Option.some.inj h
    exact ⟨.ins 70 6 56, rfl, ins_ok lay37, _, Tryz.func37, by kernel_rfl, by kernel_rfl⟩
  · obtain rfl := Option.some.inj h
    exact ⟨.ins 58 3 32, rfl, ins_ok lay142, _, Tryz.func142, by kernel_rfl, by kernel_rfl⟩
  · obtain rfl := Option.some.inj h
    exact ⟨.ins 68 2 24, rfl, ins_ok lay145, _, Tryz.func145, by kernel_rfl, by kernel_rfl⟩
  · obtain rfl := Option.some.inj h
    exact ⟨.cmp, rfl, cmp_ok lay134, _, Tryz.func134, by kernel_rfl, by kernel_rfl⟩
  · cases h
end Go.Proofs.YthibbbfhkfebkaaGreat

