/- An operation and its abstract twin. No statement of the seat is proved here. -/
import Derived.Test.YthibbbfhkfebkaaGreatVZVB
import Derived.LoopN
import Derived.Orders
namespace Go.VI
open Go Go.RowKit
abbrev CallF := Nat → List AV → Mem → Option (AV × Mem)
structure CallOK (P : Program) (W0 : World) (call : CallF) : Prop where
  ok : ∀ g avs s r s', call g avs s = some (r, s') → ∀ m w vs, Rel P W0 m s w → Fresh m s s' → VL W0 m vs avs →
    Calls P g vs w (fun en w' => ∃ v m', en = .returned v ∧ After P W0 m s w m' s' w' ∧ V W0 m' v r)
  fn : ∀ g avs s p, call g avs s = some p → ∃ fn, P.funcs[g]? = some fn ∧ fn.body.isNone = false ∧ (fn.name == "runtime.NumGoroutine") = false
  step : ∀ g avs s r s', WfM s → call g avs s = some (r, s') → Step s s'
theorem storeA_step {s s' : Mem} {sz : Nat} {x y : AV} (h : WfM s) (hh : storeA s sz x y = some s') : Step s s' := by
  unfold storeA at hh
  split at hh
  · simp only [Option.bind_eq_bind] at hh
    obtain ⟨row, hrow, hh⟩ := Option.bind_eq_some_iff.mp hh
    obtain ⟨cs, hcs, hh⟩ := Option.bind_eq_some_iff.mp hh
    split at hh
    · rename_i hc
      obtain rfl := Option.some.inj hh
      exact Step.put h (h.lt hrow) hc.2.2.1 _ (fun hn => by rw [hrow] at hn; cases hn)
    · cases hh
  · cases hh
theorem appA_step {s s' : Mem} {ty sz by_ : Nat} {x r : AV} {ys : List (List AV)} (h : WfM s) (hh : appA s ty sz by_ x ys = some (r, s')) : Step s s' := by
  unfold appA at hh
  split at hh
  · split at hh
    · split at hh
      · obtain ⟨_, rfl⟩ := Prod.mk.inj (Option.some.inj hh); exact Step.refl h
      · split at hh <;> first | (cases hh; done) | (obtain ⟨_, rfl⟩ := Prod.mk.inj (Option.some.inj hh); exact Step.push h _)
    · split at hh
      · obtain ⟨_, rfl⟩ := Prod.mk.inj (Option.some.inj hh); exact Step.refl h
      · split at hh <;> first | (cases hh; done) | (obtain ⟨_, rfl⟩ := Prod.mk.inj (Option.some.inj hh); exact Step.push h _)
    · simp only [Option.bind_eq_bind] at hh
      obtain ⟨row, hrow, hh⟩ := Option.bind_eq_some_iff.mp hh
      split at hh
      · rename_i hc
        obtain ⟨_, rfl⟩ := Prod.mk.inj (Option.some.inj hh)
        have h1 := Step.put h (h.lt hrow) hc.2.2.2.2.1 none (fun _ => rfl)
        exact h1.trans (Step.push h1.wf _)
      · cases hh
    · cases hh
  · cases hh
theorem clrA_step {s s' : Mem} {sz : Nat} {z : List AV} {x : AV} (h : WfM s) (hs : clrA s sz z x = some s') : Step s s' := by
  unfold clrA at hs
  split at hs <;> try (obtain rfl := Option.some.inj hs; exact Step.refl h)
  · split at hs
    · obtain rfl := Option.some.inj hs; exact Step.refl h
    · simp only [Option.bind_eq_bind] at hs
      obtain ⟨row, hrow, hs⟩ := Option.bind_eq_some_iff.mp hs
      split at hs
      · rename_i hc
        obtain rfl := Option.some.inj hs
        exact Step.put h (h.lt hrow) hc.2.2.2.2 _ (fun hn => by rw [hrow] at hn; cases hn)
      · cases hs
  · cases hs
theorem stepOp_step {call : CallF} (hcall : ∀ g avs s r s', WfM s → call g avs s = some (r, s') → Step s s') {c : COp} {e : Env} {s s' : Mem} {r : AV} (h : WfM s) (hh : stepOp call c e s = some (r, s')) : Step s s' := by
  have same : ∀ {x : Option (AV × Mem)} {f : AV → Option (AV × Mem)}, True := fun {_ _} => trivial
  clear same
  cases c <;> simp only [stepOp] at hh
  case mv => obtain ⟨_, rfl⟩ := Prod.mk.inj (Option.some.inj hh); exact Step.refl h
  case pick => split at hh <;> first | (cases hh; done) | (obtain ⟨_, rfl⟩ := Prod.mk.inj (Option.some.inj hh); exact Step.refl h)
  case new => obtain ⟨_, rfl⟩ := Prod.mk.inj (Option.some.inj hh); exact Step.push h _
  case box => split at hh <;> first | (cases hh; done) | (obtain ⟨_, rfl⟩ := Prod.mk.inj (Option.some.inj hh); exact Step.push h _)
  case build => obtain ⟨_, _, hh⟩ := Option.map_eq_some_iff.mp hh; obtain ⟨_, rfl⟩ := Prod.mk.inj hh; exact Step.refl h
  case lit => obtain ⟨_, _, hh⟩ := Option.map_eq_some_iff.mp hh; obtain ⟨_, rfl⟩ := Prod.mk.inj hh; exact Step.push h _
  case load => obtain ⟨_, _, hh⟩ := Option.map_eq_some_iff.mp hh; obtain ⟨_, rfl⟩ := Prod.mk.inj hh; exact Step.refl h
  case store => obtain ⟨_, hs, hh⟩ := Option.map_eq_some_iff.mp hh; obtain ⟨_, rfl⟩ := Prod.mk.inj hh; exact storeA_step h hs
  case nilCheck => split at hh <;> first | (cases hh; done) | (obtain ⟨_, rfl⟩ := Prod.mk.inj (Option.some.inj hh); exact Step.refl h)
  case ibin => split at hh <;> first | (cases hh; done) | (obtain ⟨_, _, hh⟩ := Option.map_eq_some_iff.mp hh; obtain ⟨_, rfl⟩ := Prod.mk.inj hh; exact Step.refl h)
  case sbin => split at hh <;> first | (cases hh; done) | (obtain ⟨_, _, hh⟩ := Option.map_eq_some_iff.mp hh; obtain ⟨_, rfl⟩ := Prod.mk.inj hh; exact Step.refl h)
  case beq => obtain ⟨_, _, hh⟩ := Option.map_eq_some_iff.mp hh; obtain ⟨_, rfl⟩ := Prod.mk.inj hh; exact Step.refl h
  case un => split at hh <;> first | (cases hh; done) | (obtain ⟨_, rfl⟩ := Prod.mk.inj (Option.some.inj hh); exact Step.refl h)
  case conv => split at hh <;> first | (cases hh; done) | (obtain ⟨_, rfl⟩ := Prod.mk.inj (Option.some.inj hh); exact Step.refl h)
  case toBytes =>
    split at hh
    · split at hh <;> first | (cases hh; done) | (obtain ⟨_, rfl⟩ := Prod.mk.inj (Option.some.inj hh); exact Step.push h _)
    · cases hh
  case toStr =>
    simp only [Option.bind_eq_bind] at hh
    obtain ⟨_, _, hh⟩ := Option.bind_eq_some_iff.mp hh
    obtain ⟨_, _, hh⟩ := Option.bind_eq_some_iff.mp hh
    obtain ⟨_, rfl⟩ := Prod.mk.inj (Option.some.inj hh); exact Step.refl h
  case same => split at hh <;> first | (cases hh; done) | (obtain ⟨_, rfl⟩ := Prod.mk.inj (Option.some.inj hh); exact Step.refl h)
  case ifc => obtain ⟨_, rfl⟩ := Prod.mk.inj (Option.some.inj hh); exact Step.refl h
  case fn => obtain ⟨_, rfl⟩ := Prod.mk.inj (Option.some.inj hh); exact Step.refl h
  case mkS =>
    split at hh
    · split at hh
      · split at hh
        · obtain ⟨_, rfl⟩ := Prod.mk.inj (Option.some.inj hh); exact Step.push h _
        · cases hh
      · cases hh
    · cases hh
  case cutS =>
    simp only [Option.bind_eq_bind] at hh
    obtain ⟨_, _, hh⟩ := Option.bind_eq_some_iff.mp hh
    obtain ⟨_, _, hh⟩ := Option.bind_eq_some_iff.mp hh
    split at hh
    · split at hh <;> first | (cases hh; done) | (obtain ⟨_, rfl⟩ := Prod.mk.inj (Option.some.inj hh); exact Step.refl h)
    · split at hh <;> first | (cases hh; done) | (obtain ⟨_, rfl⟩ := Prod.mk.inj (Option.some.inj hh); exact Step.refl h)
    · split at hh <;> first | (cases hh; done) | (obtain ⟨_, rfl⟩ := Prod.mk.inj (Option.some.inj hh); exact Step.refl h)
    · split at hh <;> first | (cases hh; done) | (obtain ⟨_, rfl⟩ := Prod.mk.inj (Option.some.inj hh); exact Step.refl h)
    · cases hh
  case cutT =>
    simp only [Option.bind_eq_bind] at hh
    obtain ⟨_, _, hh⟩ := Option.bind_eq_some_iff.mp hh
    obtain ⟨_, _, hh⟩ := Option.bind_eq_some_iff.mp hh
    split at hh
    · split at hh <;> first | (cases hh; done) | (obtain ⟨_, rfl⟩ := Prod.mk.inj (Option.some.inj hh); exact Step.refl h)
    · cases hh
  case ixA => obtain ⟨_, _, hh⟩ := Option.map_eq_some_iff.mp hh; obtain ⟨_, rfl⟩ := Prod.mk.inj hh; exact Step.refl h
  case atP => obtain ⟨_, _, hh⟩ := Option.map_eq_some_iff.mp hh; obtain ⟨_, rfl⟩ := Prod.mk.inj hh; exact Step.refl h
  case cut3 => obtain ⟨_, _, hh⟩ := Option.map_eq_some_iff.mp hh; obtain ⟨_, rfl⟩ := Prod.mk.inj hh; exact Step.refl h
  case fieldAddr => split at hh <;> first | (cases hh; done) | (obtain ⟨_, rfl⟩ := Prod.mk.inj (Option.some.inj hh); exact Step.refl h)
  case field =>
    split at hh
    · simp only [Option.bind_eq_bind] at hh
      obtain ⟨_, _, hh⟩ := Option.bind_eq_some_iff.mp hh
      obtain ⟨_, _, hh⟩ := Option.bind_eq_some_iff.mp hh
      obtain ⟨_, rfl⟩ := Prod.mk.inj (Option.some.inj hh); exact Step.refl h
    · cases hh
  case at_ =>
    split at hh
    · simp only [Option.bind_eq_bind] at hh
      obtain ⟨_, _, hh⟩ := Option.bind_eq_some_iff.mp hh
      split at hh
      · obtain ⟨_, _, hh⟩ := Option.bind_eq_some_iff.mp hh
        split at hh <;> first | (cases hh; done) | (obtain ⟨_, rfl⟩ := Prod.mk.inj (Option.some.inj hh); exact Step.refl h)
      · split at hh <;> first | (cases hh; done) | (obtain ⟨_, rfl⟩ := Prod.mk.inj (Option.some.inj hh); exact Step.refl h)
      · cases hh
    · cases hh
  case atT =>
    split at hh
    · simp only [Option.bind_eq_bind] at hh
      obtain ⟨_, _, hh⟩ := Option.bind_eq_some_iff.mp hh
      obtain ⟨_, _, hh⟩ := Option.bind_eq_some_iff.mp hh
      obtain ⟨_, rfl⟩ := Prod.mk.inj (Option.some.inj hh); exact Step.refl h
    · cases hh
  case ext => split at hh <;> first | (cases hh; done) | (obtain ⟨_, _, hh⟩ := Option.map_eq_some_iff.mp hh; obtain ⟨_, rfl⟩ := Prod.mk.inj hh; exact Step.refl h)
  case call => split at hh <;> first | (cases hh; done) | exact hcall _ _ _ _ _ h hh
  case len => obtain ⟨_, _, hh⟩ := Option.map_eq_some_iff.mp hh; obtain ⟨_, rfl⟩ := Prod.mk.inj hh; exact Step.refl h
  case app =>
    simp only [Option.bind_eq_bind] at hh
    obtain ⟨_, _, hh⟩ := Option.bind_eq_some_iff.mp hh
    exact appA_step h hh
  case mkMap => obtain ⟨_, rfl⟩ := Prod.mk.inj (Option.some.inj hh); exact Step.push h _
  case mapPut =>
    obtain ⟨_, hs, hh⟩ := Option.map_eq_some_iff.mp hh
    obtain ⟨_, rfl⟩ := Prod.mk.inj hh
    unfold mapPutA at hs
    split at hs
    · simp only [Option.bind_eq_bind] at hs
      obtain ⟨row, hrow, hs⟩ := Option.bind_eq_some_iff.mp hs
      split at hs
      · rename_i hc
        split at hs <;> first | (cases hs; done) | (obtain rfl := Option.some.inj hs; exact Step.put h (h.lt hrow) hc.2 _ (fun hn => by rw [hrow] at hn; cases hn))
      · cases hs
    · cases hs
  case mapGet => obtain ⟨_, _, hh⟩ := Option.map_eq_some_iff.mp hh; obtain ⟨_, rfl⟩ := Prod.mk.inj hh; exact Step.refl h
  case lenM => obtain ⟨_, _, hh⟩ := Option.map_eq_some_iff.mp hh; obtain ⟨_, rfl⟩ := Prod.mk.inj hh; exact Step.refl h
  case cap => obtain ⟨_, _, hh⟩ := Option.map_eq_some_iff.mp hh; obtain ⟨_, rfl⟩ := Prod.mk.inj hh; exact Step.refl h
  case clr =>
    obtain ⟨_, hs, hh⟩ := Option.map_eq_some_iff.mp hh
    obtain ⟨_, rfl⟩ := Prod.mk.inj hh
    exact clrA_step h hs
  case appZ =>
    split at hh
    · split at hh
      · split at hh
        · obtain ⟨_, rfl⟩ := Prod.mk.inj (Option.some.inj hh); exact Step.push h _
        · cases hh
      · cases hh
    · cases hh
  case appT =>
    split at hh
    · exact appA_step h hh
    · cases hh
  case mnmx => split at hh <;> first | (cases hh; done) | (obtain ⟨_, _, hh⟩ := Option.map_eq_some_iff.mp hh; obtain ⟨_, rfl⟩ := Prod.mk.inj hh; exact Step.refl h)
theorem noCall {call : CallF} {c : COp} {e : Env} {s : Mem} (hc : ∀ f xs, c ≠ .call f xs) : stepOp call c e s = stepOp (fun _ _ _ => none) c e s := by
  cases c <;> first | rfl | (exfalso; exact hc _ _ rfl)
theorem VL.append {W0 : World} {m : PM} {vs us : Array Value} {cs ds : List AV} (h : VL W0 m vs cs) (k : VL W0 m us ds) : VL W0 m (vs ++ us) (cs ++ ds) := by
  refine ⟨by simp [h.1, k.1], ?_⟩
  intro i v c hv hc
  by_cases hi : i < vs.size
  · rw [Array.getElem?_append_left hi] at hv
    rw [List.getElem?_append_left (by rw [← h.1]; exact hi)] at hc
    exact h.2 i v c hv hc
  · rw [Array.getElem?_append_right (by omega)] at hv
    rw [List.getElem?_append_right (by rw [← h.1]; omega), ← h.1] at hc
    exact k.2 _ v c hv hc
section
variable {P : Program} {W0 : World} {m m' : PM} {s s' : Mem} {w w' : World} {n : Nat} {a : Act} {e : Env} {o : Oper} {r : AV} {call : CallF}
theorem op_call {f : Operand} {args : Array Operand} {ts : Array TypeId} {cf : Opd} {cargs : List Opd} {g : Nat} {caps : List AV} (hC : CallOK P W0 call) (hop : o.op = .call { callee := .value f, args := args, argTypes := ts }) (hf : cOpd f = some cf) (hx : args.toList.mapM cOpd = some cargs)
    (hr : Rel P W0 m s w) (he : EnvOK W0 m n a e) (hfr : Fresh m s s') (h1 : ev e cf = .fn g caps) (h : call g (cargs.map (ev e) ++ caps) s = some (r, s')) : Done P W0 m s w s' r o a := by
  have hv := opd_V he hf
  rw [h1] at hv
  obtain ⟨vc, hfv, hcaps⟩ := hv.inv_fn
  have hargs := VL_map hx he
  have hall := hargs.append hcaps
  obtain ⟨fn, f1, f2, f3⟩ := hC.fn _ _ _ _ h
  have hrun : (execOp a.eval o).run P w = .ok (.enter g (args.map a.eval ++ vc)) w := by
    have hname : ¬ (fn.name = "runtime.NumGoroutine") := by simpa using f3
    have hbody : ¬ fn.body = none := by intro hb; rw [hb] at f2; simp at f2
    simp [execOp, hop, resolve, hfv, Deferred.ofValue, invoke, callFunc, f1, hname, hbody]
  intro next Q hK
  unfold Oper.wp
  rw [hrun, Oper.upon_enter]
  refine (hC.ok _ _ _ _ _ h m w _ hr hfr hall).mono ?_
  rintro en w' ⟨v, m', rfl, hA, hV⟩
  exact hK v m' w' hA hV
theorem op_beq {op : BinOp} {neg : Bool} {t ty : TypeId} {x y : Operand} {cx cy : Opd} {k : EK} {q : Bool} (ho : o.op = .binOp op t x y ty) (hop : (op = .eql ∧ neg = false) ∨ (op = .neq ∧ neg = true)) (hk : eqKind P t x y = some k) (hx : cOpd x = some cx) (hy : cOpd y = some cy) (hr : Rel P W0 m s w) (he : EnvOK W0 m n a e)
    (h : eqA k (ev e cx) (ev e cy) = some q) : Done P W0 m s w s (.bool (if neg then !q else q)) o a := by
  obtain ⟨h1, h2, h3⟩ := eqA_ok (P := P) (w := w) hk (opd_V he hx) (opd_V he hy) h op
  refine .pure (v := .bool (if neg then !q else q)) ?_ hr (.bool _)
  have key : (binOp op t (a.eval x) (a.eval y)).run P w = .ok (.bool (if neg then !q else q)) w := by
    rcases hop with ⟨rfl, rfl⟩ | ⟨rfl, rfl⟩
    · rcases h3 with ⟨_, _, e1, e2⟩ | ⟨_, _, _, _, _, _, e1, e2⟩ | ⟨_, _, e1, e2⟩ | ⟨e1 | ⟨_, _, _, e1⟩, e2 | ⟨_, _, _, e2⟩⟩ | ⟨e1 | ⟨_, _, e1⟩, e2 | ⟨_, _, e2⟩⟩ | ⟨_, _, e1, e2⟩ <;>
        (rw [e1, e2] at h1 ⊢; simp [binOp, h1])
    · rcases h3 with ⟨_, _, e1, e2⟩ | ⟨_, _, _, _, _, _, e1, e2⟩ | ⟨_, _, e1, e2⟩ | ⟨e1 | ⟨_, _, _, e1⟩, e2 | ⟨_, _, _, e2⟩⟩ | ⟨e1 | ⟨_, _, e1⟩, e2 | ⟨_, _, e2⟩⟩ | ⟨_, _, e1, e2⟩ <;>
        (rw [e1, e2] at h1 ⊢; simp [binOp, h1])
  simp only [execOp, ho, Sem.run_bind, h2, Result.andThen_ok, key, Sem.run_pure]
theorem op_sound (hC : CallOK P W0 call) {co : COp} (hc : cOp P o.op = some co) (hs : stepOp call co e s = some (r, s')) (hr : Rel P W0 m s w) (hf : Fresh m s s') (he : EnvOK W0 m n a e) : Done P W0 m s w s' r o a := by
  have hstep := stepOp_step hC.step hr.wf hs
  cases hop : o.op <;> rw [hop] at hc <;> simp only [cOp] at hc <;> try (cases hc; done)
  case move x =>
    obtain ⟨cx, hx, hc⟩ := Option.bind_eq_some_iff.mp hc
    obtain rfl := Option.some.inj hc
    simp only [stepOp] at hs
    obtain ⟨rfl, rfl⟩ := Prod.mk.inj (Option.some.inj hs)
    exact op_mv (.inl hop) hx hr he
  case assign x =>
    obtain ⟨cx, hx, hc⟩ := Option.bind_eq_some_iff.mp hc
    obtain rfl := Option.some.inj hc
    simp only [stepOp] at hs
    obtain ⟨rfl, rfl⟩ := Prod.mk.inj (Option.some.inj hs)
    exact op_mv (.inr hop) hx hr he
  case pick c x y =>
    obtain ⟨cc, hcc, hc⟩ := Option.bind_eq_some_iff.mp hc
    obtain ⟨cx, hx, hc⟩ := Option.bind_eq_some_iff.mp hc
    obtain ⟨cy, hy, hc⟩ := Option.bind_eq_some_iff.mp hc
    obtain rfl := Option.some.inj hc
    simp only [stepOp] at hs
    split at hs
    · rename_i b hb
      obtain ⟨rfl, rfl⟩ := Prod.mk.inj (Option.some.inj hs)
      exact op_pick hop hcc hx hy hr he hb
    · cases hs
  case alloc t =>
    obtain ⟨z, hz, hc⟩ := Option.bind_eq_some_iff.mp hc
    obtain rfl := Option.some.inj hc
    simp only [stepOp] at hs
    obtain ⟨rfl, rfl⟩ := Prod.mk.inj (Option.some.inj hs)
    exact op_new hop hz hr (hf _ (Nat.le_refl _) (by rw [Mem.next_push]; omega))
  case box t x =>
    obtain ⟨cx, hx, hc⟩ := Option.bind_eq_some_iff.mp hc
    obtain rfl := Option.some.inj hc
    simp only [stepOp] at hs
    split at hs
    · rename_i hcell
      obtain ⟨rfl, rfl⟩ := Prod.mk.inj (Option.some.inj hs)
      exact op_box hop hx hr he (hf _ (Nat.le_refl _) (by rw [Mem.next_push]; omega)) hcell
    · cases hs
  case build t ps =>
    split at hc
    · rename_i fs hu
      obtain ⟨z, hz, hc⟩ := Option.bind_eq_some_iff.mp hc
      obtain ⟨cps, hps, hc⟩ := Option.bind_eq_some_iff.mp hc
      split at hc
      case isFalse => cases hc
      rename_i hall
      obtain rfl := Option.some.inj hc
      simp only [stepOp] at hs
      obtain ⟨cs, h1, h2⟩ := Option.map_eq_some_iff.mp hs
      obtain ⟨rfl, rfl⟩ := Prod.mk.inj h2
      refine op_build hop hu hz hps ?_ hr he h1
      intro i f hfi
      have := Array.all_eq_true.mp hall i (Array.getElem?_eq_some_iff.mp hfi).1
      rw [(Array.getElem?_eq_some_iff.mp hfi).2] at this
      exact Option.isSome_iff_exists.mp this
    · cases hc
  case buildSlice t len ps =>
    split at hc
    · rename_i el hu
      obtain ⟨sz, hsz, hc⟩ := Option.bind_eq_some_iff.mp hc
      obtain ⟨z, hz, hc⟩ := Option.bind_eq_some_iff.mp hc
      obtain ⟨cps, hps, hc⟩ := Option.bind_eq_some_iff.mp hc
      split at hc
      case isFalse => cases hc
      rename_i hle
      obtain rfl := Option.some.inj hc
      simp only [stepOp] at hs
      obtain ⟨els, h1, h2⟩ := Option.map_eq_some_iff.mp hs
      obtain ⟨rfl, rfl⟩ := Prod.mk.inj h2
      exact op_lit hop hu hsz hz hps hle.1 hle.2 hr he (hf _ (Nat.le_refl _) (by rw [Mem.next_push]; omega)) h1
    · cases hc
  case load t x =>
    obtain ⟨agg, hag, hc⟩ := Option.bind_eq_some_iff.mp hc
    obtain ⟨sz, hsz, hc⟩ := Option.bind_eq_some_iff.mp hc
    obtain ⟨cx, hx, hc⟩ := Option.bind_eq_some_iff.mp hc
    obtain rfl := Option.some.inj hc
    simp only [stepOp] at hs
    obtain ⟨v, h1, h2⟩ := Option.map_eq_some_iff.mp hs
    obtain ⟨rfl, rfl⟩ := Prod.mk.inj h2
    exact op_load hop hag hsz hx hr he h1
  case store t x y =>
    obtain ⟨sz, hsz, hc⟩ := Option.bind_eq_some_iff.mp hc
    obtain ⟨cx, hx, hc⟩ := Option.bind_eq_some_iff.mp hc
    obtain ⟨cy, hy, hc⟩ := Option.bind_eq_some_iff.mp hc
    obtain rfl := Option.some.inj hc
    simp only [stepOp] at hs
    obtain ⟨v, h1, h2⟩ := Option.map_eq_some_iff.mp hs
    obtain ⟨rfl, rfl⟩ := Prod.mk.inj h2
    exact op_store hop hsz hx hy hr he h1
  case nilCheck x =>
    obtain ⟨cx, hx, hc⟩ := Option.bind_eq_some_iff.mp hc
    obtain rfl := Option.some.inj hc
    simp only [stepOp] at hs
    split at hs
    · rename_i q i j hq
      obtain ⟨rfl, rfl⟩ := Prod.mk.inj (Option.some.inj hs)
      rw [← hq]; exact op_nilCheck hop hx hr he (.inl ⟨_, _, _, hq⟩)
    · rename_i cs hq
      obtain ⟨rfl, rfl⟩ := Prod.mk.inj (Option.some.inj hs)
      rw [← hq]; exact op_nilCheck hop hx hr he (.inr (.inl ⟨_, hq⟩))
    · rename_i f cs hq
      obtain ⟨rfl, rfl⟩ := Prod.mk.inj (Option.some.inj hs)
      rw [← hq]; exact op_nilCheck hop hx hr he (.inr (.inr ⟨_, _, hq⟩))
    · cases hs
  case binOp op t x y ty =>
    split at hc
    · rename_i k hu
      obtain ⟨cx, hx, hc⟩ := Option.bind_eq_some_iff.mp hc
      obtain ⟨cy, hy, hc⟩ := Option.bind_eq_some_iff.mp hc
      obtain rfl := Option.some.inj hc
      simp only [stepOp] at hs
      split at hs
      · rename_i h1 h2
        obtain ⟨v, h3, h4⟩ := Option.map_eq_some_iff.mp hs
        obtain ⟨rfl, rfl⟩ := Prod.mk.inj h4
        exact op_ibin hop hx hy hr he h1 h2 h3
      · cases hs
    · rename_i hu
      obtain ⟨cx, hx, hc⟩ := Option.bind_eq_some_iff.mp hc
      obtain ⟨cy, hy, hc⟩ := Option.bind_eq_some_iff.mp hc
      obtain rfl := Option.some.inj hc
      simp only [stepOp] at hs
      split at hs
      · rename_i h1 h2
        obtain ⟨v, h3, h4⟩ := Option.map_eq_some_iff.mp hs
        obtain ⟨rfl, rfl⟩ := Prod.mk.inj h4
        exact op_sbin hop hx hy hr he h1 h2 h3
      · cases hs
    · split at hc
      · obtain ⟨k, hk, hc⟩ := Option.bind_eq_some_iff.mp hc
        obtain ⟨cx, hx, hc⟩ := Option.bind_eq_some_iff.mp hc
        obtain ⟨cy, hy, hc⟩ := Option.bind_eq_some_iff.mp hc
        obtain rfl := Option.some.inj hc
        simp only [stepOp] at hs
        obtain ⟨q, h3, h4⟩ := Option.map_eq_some_iff.mp hs
        obtain ⟨rfl, rfl⟩ := Prod.mk.inj h4
        exact op_beq hop (.inl ⟨rfl, rfl⟩) hk hx hy hr he h3
      · obtain ⟨k, hk, hc⟩ := Option.bind_eq_some_iff.mp hc
        obtain ⟨cx, hx, hc⟩ := Option.bind_eq_some_iff.mp hc
        obtain ⟨cy, hy, hc⟩ := Option.bind_eq_some_iff.mp hc
        obtain rfl := Option.some.inj hc
        simp only [stepOp] at hs
        obtain ⟨q, h3, h4⟩ := Option.map_eq_some_iff.mp hs
        obtain ⟨rfl, rfl⟩ := Prod.mk.inj h4
        exact op_beq hop (.inr ⟨rfl, rfl⟩) hk hx hy hr he h3
      · cases hc
  case unOp op t x =>
    obtain ⟨cx, hx, hc⟩ := Option.bind_eq_some_iff.mp hc
    obtain rfl := Option.some.inj hc
    rw [noCall (by intro f xs h; cases h)] at hs
    obtain ⟨rfl, h⟩ := op_un (P := P) hop hx hr he hs
    exact h
  case convert t u x =>
    split at hc
    · rename_i k1 k2 hd hu
      obtain ⟨cx, hx, hc⟩ := Option.bind_eq_some_iff.mp hc
      obtain rfl := Option.some.inj hc
      simp only [stepOp] at hs
      split at hs
      · rename_i h1
        obtain ⟨rfl, rfl⟩ := Prod.mk.inj (Option.some.inj hs)
        exact op_conv hop hd hu hx hr he h1
      · cases hs
    · rename_i hd hu
      obtain ⟨cx, hx, hc⟩ := Option.bind_eq_some_iff.mp hc
      obtain rfl := Option.some.inj hc
      simp only [stepOp] at hs
      split at hs
      · rename_i b h1
        obtain ⟨rfl, rfl⟩ := Prod.mk.inj (Option.some.inj hs)
        exact op_same hop hd hu hx hr he h1
      · cases hs
    · rename_i el hd hu
      split at hc
      · rename_i hel
        obtain ⟨cx, hx, hc⟩ := Option.bind_eq_some_iff.mp hc
        obtain rfl := Option.some.inj hc
        simp only [stepOp, Option.bind_eq_bind] at hs
        obtain ⟨es, h1, hs⟩ := Option.bind_eq_some_iff.mp hs
        obtain ⟨bs, h2, hs⟩ := Option.bind_eq_some_iff.mp hs
        obtain ⟨rfl, rfl⟩ := Prod.mk.inj (Option.some.inj hs)
        exact op_toStr hop hd hel hu hx hr he h1 h2
      · cases hc
    · rename_i el hd hu
      split at hc
      · rename_i hel
        obtain ⟨cx, hx, hc⟩ := Option.bind_eq_some_iff.mp hc
        obtain rfl := Option.some.inj hc
        simp only [stepOp] at hs
        split at hs
        · rename_i b h1
          split at hs
          · rename_i hle
            obtain ⟨rfl, rfl⟩ := Prod.mk.inj (Option.some.inj hs)
            exact op_toBytes hop hd hu hel hx hr he (hf _ (Nat.le_refl _) (by rw [Mem.next_push]; omega)) h1 (Nat.le_of_ble_eq_true hle)
          · cases hs
        · cases hs
      · cases hc
    · cases hc
  case makeInterface t x =>
    split at hc
    · cases hc
    · cases hc
    · rename_i d hni hd
      obtain ⟨cx, hx, hc⟩ := Option.bind_eq_some_iff.mp hc
      obtain rfl := Option.some.inj hc
      simp only [stepOp] at hs
      obtain ⟨rfl, rfl⟩ := Prod.mk.inj (Option.some.inj hs)
      exact op_ifc hop hd (fun ms h => hni ms (by rw [← h])) hx hr he
  case makeFunc fn first caps =>
    cases fn <;> simp only at hc <;> try (cases hc; done)
    split at hc
    case isFalse => cases hc
    rename_i h0
    obtain ⟨cxs, hx, hc⟩ := Option.bind_eq_some_iff.mp hc
    obtain rfl := Option.some.inj hc
    simp only [stepOp] at hs
    obtain ⟨rfl, rfl⟩ := Prod.mk.inj (Option.some.inj hs)
    exact op_fn hop h0 hx hr he
  case makeSlice t x y =>
    split at hc
    · rename_i el hu
      obtain ⟨sz, hsz, hc⟩ := Option.bind_eq_some_iff.mp hc
      obtain ⟨by_, hby, hc⟩ := Option.bind_eq_some_iff.mp hc
      obtain ⟨z, hz, hc⟩ := Option.bind_eq_some_iff.mp hc
      split at hc
      case isFalse => cases hc
      rename_i hh
      obtain ⟨cx, hx, hc⟩ := Option.bind_eq_some_iff.mp hc
      obtain rfl := Option.some.inj hc
      simp only [stepOp] at hs
      split at hs
      · rename_i k hk
        split at hs
        · rename_i j hj
          split at hs
          · rename_i hroom
            obtain ⟨rfl, rfl⟩ := Prod.mk.inj (Option.some.inj hs)
            have hj0 : 0 ≤ k ∧ k.toNat = j := by
              unfold toNat? at hj
              split at hj
              · exact ⟨by assumption, Option.some.inj hj⟩
              · cases hj
            obtain ⟨hj0, rfl⟩ := hj0
            exact op_mkS hop hu hsz hby hz hh.1 hh.2 hx hr he (hf _ (Nat.le_refl _) (by rw [Mem.next_push]; omega)) hk hj0 hroom.1
          · cases hs
        · cases hs
      · cases hs
    · cases hc
  case slice t x lo hi mx =>
    cases mx with
    | some z =>
      cases lo with
      | some _ => simp at hc
      | none =>
        cases hi with
        | none => simp at hc
        | some y =>
          simp only at hc
          split at hc
          · rename_i el hu
            obtain ⟨sz, hsz, hc⟩ := Option.bind_eq_some_iff.mp hc
            obtain ⟨cx, hx, hc⟩ := Option.bind_eq_some_iff.mp hc
            obtain ⟨cy, hy, hc⟩ := Option.bind_eq_some_iff.mp hc
            obtain ⟨cz, hz, hc⟩ := Option.bind_eq_some_iff.mp hc
            obtain rfl := Option.some.inj hc
            simp only [stepOp] at hs
            obtain ⟨v, hv, hs⟩ := Option.map_eq_some_iff.mp hs
            obtain ⟨rfl, rfl⟩ := Prod.mk.inj hs
            exact op_cut3 (P := P) hop hu hsz hx hy hz hr he hv
          · cases hc
    | none =>
    simp only at hc
    split at hc
    · rename_i hu
      obtain ⟨cx, hx, hc⟩ := Option.bind_eq_some_iff.mp hc
      obtain ⟨clo, hlo, hc⟩ := Option.bind_eq_some_iff.mp hc
      obtain ⟨chi, hhi, hc⟩ := Option.bind_eq_some_iff.mp hc
      obtain rfl := Option.some.inj hc
      rw [noCall (by intro f xs h; cases h)] at hs
      obtain ⟨rfl, h⟩ := op_cutT (P := P) hop hu hx hlo hhi hr he hs
      exact h
    · rename_i el hu
      obtain ⟨sz, hsz, hc⟩ := Option.bind_eq_some_iff.mp hc
      obtain ⟨cx, hx, hc⟩ := Option.bind_eq_some_iff.mp hc
      obtain ⟨clo, hlo, hc⟩ := Option.bind_eq_some_iff.mp hc
      obtain ⟨chi, hhi, hc⟩ := Option.bind_eq_some_iff.mp hc
      obtain rfl := Option.some.inj hc
      rw [noCall (by intro f xs h; cases h)] at hs
      obtain ⟨rfl, h⟩ := op_cutS (P := P) hop hu hsz hx hlo hhi hr he hs
      exact h
    · cases hc
  case fieldAddr t x k =>
    split at hc
    · rename_i fs hu
      obtain ⟨f, hk, hc⟩ := Option.bind_eq_some_iff.mp hc
      obtain ⟨sz, hsz, hc⟩ := Option.bind_eq_some_iff.mp hc
      split at hc
      · cases hc
      rename_i h0
      obtain ⟨cx, hx, hc⟩ := Option.bind_eq_some_iff.mp hc
      obtain rfl := Option.some.inj hc
      simp only [stepOp] at hs
      split at hs
      · rename_i q i j hq
        obtain ⟨rfl, rfl⟩ := Prod.mk.inj (Option.some.inj hs)
        exact op_fieldAddr hop hu hk hsz h0 hx hr he (.inl ⟨_, _, _, hq, rfl⟩)
      · rename_i cs hq
        obtain ⟨rfl, rfl⟩ := Prod.mk.inj (Option.some.inj hs)
        exact op_fieldAddr hop hu hk hsz h0 hx hr he (.inr ⟨_, hq, rfl⟩)
      · cases hs
    · cases hc
  case field t x k =>
    split at hc
    · rename_i fs hu
      obtain ⟨f, hk, hc⟩ := Option.bind_eq_some_iff.mp hc
      obtain ⟨agg, hag, hc⟩ := Option.bind_eq_some_iff.mp hc
      obtain ⟨sz, hsz, hc⟩ := Option.bind_eq_some_iff.mp hc
      obtain ⟨cx, hx, hc⟩ := Option.bind_eq_some_iff.mp hc
      obtain rfl := Option.some.inj hc
      simp only [stepOp] at hs
      split at hs
      · rename_i cs hq
        simp only [Option.bind_eq_bind] at hs
        obtain ⟨p, hp, hs⟩ := Option.bind_eq_some_iff.mp hs
        obtain ⟨v, hv, hs⟩ := Option.bind_eq_some_iff.mp hs
        obtain ⟨rfl, rfl⟩ := Prod.mk.inj (Option.some.inj hs)
        exact op_field hop hu hk hag hsz hx hr he hq hp hv
      · cases hs
    · cases hc
  case indexAddr t x i =>
    split at hc
    · rename_i el hu
      obtain ⟨sz, hsz, hc⟩ := Option.bind_eq_some_iff.mp hc
      obtain ⟨cx, hx, hc⟩ := Option.bind_eq_some_iff.mp hc
      obtain ⟨ci, hi, hc⟩ := Option.bind_eq_some_iff.mp hc
      obtain rfl := Option.some.inj hc
      rw [noCall (by intro f xs h; cases h)] at hs
      obtain ⟨rfl, h⟩ := op_at (P := P) hop hu hsz hx hi hr he hs
      exact h
    · rename_i k el hu
      obtain ⟨sz, hsz, hc⟩ := Option.bind_eq_some_iff.mp hc
      obtain ⟨cx, hx, hc⟩ := Option.bind_eq_some_iff.mp hc
      obtain ⟨ci, hi, hc⟩ := Option.bind_eq_some_iff.mp hc
      obtain rfl := Option.some.inj hc
      simp only [stepOp] at hs
      obtain ⟨v, hv, hs⟩ := Option.map_eq_some_iff.mp hs
      obtain ⟨rfl, rfl⟩ := Prod.mk.inj hs
      exact op_atP (P := P) hop hu hsz hx hi hr he hv
    · cases hc
  case index t x i =>
    split at hc
    · rename_i hu
      obtain ⟨cx, hx, hc⟩ := Option.bind_eq_some_iff.mp hc
      obtain ⟨ci, hi, hc⟩ := Option.bind_eq_some_iff.mp hc
      obtain rfl := Option.some.inj hc
      rw [noCall (by intro f xs h; cases h)] at hs
      obtain ⟨rfl, h⟩ := op_atT (P := P) hop hu hx hi hr he hs
      exact h
    · rename_i k el hu
      obtain ⟨ag, hag, hc⟩ := Option.bind_eq_some_iff.mp hc
      obtain ⟨sz, hsz, hc⟩ := Option.bind_eq_some_iff.mp hc
      obtain ⟨cx, hx, hc⟩ := Option.bind_eq_some_iff.mp hc
      obtain ⟨ci, hi, hc⟩ := Option.bind_eq_some_iff.mp hc
      obtain rfl := Option.some.inj hc
      simp only [stepOp] at hs
      obtain ⟨v, hv, hs⟩ := Option.map_eq_some_iff.mp hs
      obtain ⟨rfl, rfl⟩ := Prod.mk.inj hs
      exact op_ixA (P := P) hop hu hag hsz hx hi hr he hv
    · cases hc
  case makeMap t rs =>
    split at hc
    · rename_i k el hu
      obtain rfl := Option.some.inj hc
      simp only [stepOp] at hs
      obtain ⟨rfl, rfl⟩ := Prod.mk.inj (Option.some.inj hs)
      exact op_mkMap hop (.inl rfl) ⟨_, _, hu⟩ hr (hf _ (Nat.le_refl _) (by rw [Mem.next_push]; omega))
    · rename_i k z kt el hu
      obtain rfl := Option.some.inj hc
      simp only [stepOp] at hs
      obtain ⟨rfl, rfl⟩ := Prod.mk.inj (Option.some.inj hs)
      exact op_mkMap hop (.inr ⟨_, _, rfl⟩) ⟨_, _, hu⟩ hr (hf _ (Nat.le_refl _) (by rw [Mem.next_push]; omega))
    · cases hc
  case mapUpdate t x y z =>
    split at hc
    · rename_i kt et hu
      obtain ⟨ks, hl, hc⟩ := Option.bind_eq_some_iff.mp hc
      obtain ⟨ag, hag, hc⟩ := Option.bind_eq_some_iff.mp hc
      obtain ⟨cx, hx, hc⟩ := Option.bind_eq_some_iff.mp hc
      obtain ⟨cy, hy, hc⟩ := Option.bind_eq_some_iff.mp hc
      obtain ⟨cz, hz, hc⟩ := Option.bind_eq_some_iff.mp hc
      obtain rfl := Option.some.inj hc
      simp only [stepOp] at hs
      obtain ⟨v, h1, h2⟩ := Option.map_eq_some_iff.mp hs
      obtain ⟨rfl, rfl⟩ := Prod.mk.inj h2
      exact op_mapPut (.inl hop) hu hl hag hx hy hz hr he h1
    · cases hc
  case insert t x y z =>
    split at hc
    · rename_i kt et hu
      obtain ⟨ks, hl, hc⟩ := Option.bind_eq_some_iff.mp hc
      obtain ⟨ag, hag, hc⟩ := Option.bind_eq_some_iff.mp hc
      obtain ⟨cx, hx, hc⟩ := Option.bind_eq_some_iff.mp hc
      obtain ⟨cy, hy, hc⟩ := Option.bind_eq_some_iff.mp hc
      obtain ⟨cz, hz, hc⟩ := Option.bind_eq_some_iff.mp hc
      obtain rfl := Option.some.inj hc
      simp only [stepOp] at hs
      obtain ⟨v, h1, h2⟩ := Option.map_eq_some_iff.mp hs
      obtain ⟨rfl, rfl⟩ := Prod.mk.inj h2
      exact op_mapPut (.inr hop) hu hl hag hx hy hz hr he h1
    · cases hc
  case lookup t x y ok =>
    split at hc
    · rename_i kt et hu
      obtain ⟨ks, hl, hc⟩ := Option.bind_eq_some_iff.mp hc
      obtain ⟨ag, hag, hc⟩ := Option.bind_eq_some_iff.mp hc
      obtain ⟨z, hz, hc⟩ := Option.bind_eq_some_iff.mp hc
      obtain ⟨cx, hx, hc⟩ := Option.bind_eq_some_iff.mp hc
      obtain ⟨cy, hy, hc⟩ := Option.bind_eq_some_iff.mp hc
      obtain rfl := Option.some.inj hc
      simp only [stepOp] at hs
      obtain ⟨p, h1, h2⟩ := Option.map_eq_some_iff.mp hs
      obtain ⟨rfl, rfl⟩ := Prod.mk.inj h2
      exact op_mapGet hop hu hl hag hz hx hy hr he h1
    · cases hc
  case panic x =>
    obtain rfl := Option.some.inj hc
    simp [stepOp, ev, und] at hs
  case extract x k =>
    obtain ⟨cx, hx, hc⟩ := Option.bind_eq_some_iff.mp hc
    obtain rfl := Option.some.inj hc
    simp only [stepOp] at hs
    split at hs
    · rename_i vs hq
      obtain ⟨v, h1, h2⟩ := Option.map_eq_some_iff.mp hs
      obtain ⟨rfl, rfl⟩ := Prod.mk.inj h2
      exact op_ext hop hx hr he hq h1
    · cases hs
  case call c =>
    obtain ⟨callee, args, ts⟩ := c
    cases callee with
    | value f =>
      simp only at hc
      obtain ⟨cf, hf', hc⟩ := Option.bind_eq_some_iff.mp hc
      obtain ⟨cargs, hx, hc⟩ := Option.bind_eq_some_iff.mp hc
      obtain rfl := Option.some.inj hc
      simp only [stepOp] at hs
      split at hs
      · rename_i g caps hg
        exact op_call hC hop hf' hx hr he hf hg hs
      · cases hs
    | invoke rv nm => simp only at hc; cases hc
    | builtin b =>
      cases b <;> simp only at hc <;> try (cases hc; done)
      case len =>
        split at hc
        · rename_i x t hxs hts
          obtain rfl : args = #[x] := by rw [← Array.toArray_toList (xs := args), hxs]
          obtain rfl : ts = #[t] := by rw [← Array.toArray_toList (xs := ts), hts]
          split at hc
          · rename_i hu
            obtain ⟨cx, hx, hc⟩ := Option.bind_eq_some_iff.mp hc
            obtain rfl := Option.some.inj hc
            simp only [stepOp] at hs
            obtain ⟨v, h1, h2⟩ := Option.map_eq_some_iff.mp hs
            obtain ⟨rfl, rfl⟩ := Prod.mk.inj h2
            exact op_lenT hop hu hx hr he h1
          · rename_i el hu
            obtain ⟨cx, hx, hc⟩ := Option.bind_eq_some_iff.mp hc
            obtain rfl := Option.some.inj hc
            simp only [stepOp] at hs
            obtain ⟨v, h1, h2⟩ := Option.map_eq_some_iff.mp hs
            obtain ⟨rfl, rfl⟩ := Prod.mk.inj h2
            exact op_lenS hop hu hx hr he h1
          · rename_i kt et hu
            obtain ⟨cx, hx, hc⟩ := Option.bind_eq_some_iff.mp hc
            obtain rfl := Option.some.inj hc
            simp only [stepOp] at hs
            obtain ⟨v, h1, h2⟩ := Option.map_eq_some_iff.mp hs
            obtain ⟨rfl, rfl⟩ := Prod.mk.inj h2
            exact op_lenM hop hu hx hr he h1
          · cases hc
        · cases hc
      case cap =>
        split at hc
        · rename_i x t hxs hts
          obtain rfl : args = #[x] := by rw [← Array.toArray_toList (xs := args), hxs]
          obtain rfl : ts = #[t] := by rw [← Array.toArray_toList (xs := ts), hts]
          split at hc
          · rename_i el hu
            obtain ⟨cx, hx, hc⟩ := Option.bind_eq_some_iff.mp hc
            obtain rfl := Option.some.inj hc
            simp only [stepOp] at hs
            obtain ⟨v, h1, h2⟩ := Option.map_eq_some_iff.mp hs
            obtain ⟨rfl, rfl⟩ := Prod.mk.inj h2
            exact op_capS hop hu hx hr he h1
          · cases hc
        · cases hc
      case clear =>
        split at hc
        · rename_i x t hxs hts
          obtain rfl : args = #[x] := by rw [← Array.toArray_toList (xs := args), hxs]
          obtain rfl : ts = #[t] := by rw [← Array.toArray_toList (xs := ts), hts]
          split at hc
          · rename_i el hu
            obtain ⟨sz, hsz, hc⟩ := Option.bind_eq_some_iff.mp hc
            obtain ⟨z, hz, hc⟩ := Option.bind_eq_some_iff.mp hc
            obtain ⟨cx, hx, hc⟩ := Option.bind_eq_some_iff.mp hc
            obtain rfl := Option.some.inj hc
            simp only [stepOp] at hs
            obtain ⟨v, h1, h2⟩ := Option.map_eq_some_iff.mp hs
            obtain ⟨rfl, rfl⟩ := Prod.mk.inj h2
            exact op_clr hop hu hsz hz hx hr he h1
          · cases hc
        · cases hc
      case append =>
        split at hc
        · rename_i x y t u hxs hts
          obtain rfl : args = #[x, y] := by rw [← Array.toArray_toList (xs := args), hxs]
          obtain rfl : ts = #[t, u] := by rw [← Array.toArray_toList (xs := ts), hts]
          split at hc
          · rename_i el hu
            obtain ⟨sz, hsz, hc⟩ := Option.bind_eq_some_iff.mp hc
            obtain ⟨by_, hby, hc⟩ := Option.bind_eq_some_iff.mp hc
            obtain ⟨z, hz, hc⟩ := Option.bind_eq_some_iff.mp hc
            split at hc
            · rename_i hh
              obtain ⟨h0, htu⟩ := hh
              obtain ⟨cx, hx, hc⟩ := Option.bind_eq_some_iff.mp hc
              obtain ⟨cy, hy, hc⟩ := Option.bind_eq_some_iff.mp hc
              obtain rfl := Option.some.inj hc
              rw [noCall (by intro f xs h; cases h)] at hs
              subst htu
              exact op_app hop hu hsz hby hz h0 hx hy hr he hf hs
            · split at hc
              · skip
                obtain ⟨cx, hx, hc⟩ := Option.bind_eq_some_iff.mp hc
                obtain ⟨cy, hy, hc⟩ := Option.bind_eq_some_iff.mp hc
                obtain rfl := Option.some.inj hc
                rw [noCall (by intro f xs h; cases h)] at hs
                exact op_appT hop hu (by assumption) hsz hby hz hx hy hr he hf hs
              · split at hc
                · rename_i h0
                  obtain ⟨cx, hx, hc⟩ := Option.bind_eq_some_iff.mp hc
                  obtain ⟨cy, hy, hc⟩ := Option.bind_eq_some_iff.mp hc
                  obtain rfl := Option.some.inj hc
                  simp only [stepOp] at hs
                  split at hs
                  · rename_i k hcx hk
                    split at hs
                    · rename_i j hj
                      split at hs
                      · rename_i hroom
                        obtain ⟨rfl, rfl⟩ := Prod.mk.inj (Option.some.inj hs)
                        have hj0 : 0 ≤ k ∧ k.toNat = j := by
                          unfold toNat? at hj
                          split at hj
                          · exact ⟨by assumption, Option.some.inj hj⟩
                          · cases hj
                        obtain ⟨hj0, rfl⟩ := hj0
                        exact op_appZ hop hu (by assumption) hsz hby hz h0 hx hy hr he (hf _ (Nat.le_refl _) (by rw [Mem.next_push]; omega)) hcx hk hroom.1 hroom.2.1
                      · cases hs
                    · cases hs
                  · cases hs
                · cases hc
              · cases hc
          · cases hc
        · cases hc
      case max =>
        obtain ⟨cxs, hx, hc⟩ := Option.bind_eq_some_iff.mp hc
        obtain rfl := Option.some.inj hc
        simp only [stepOp] at hs
        split at hs
        · rename_i c cs hcs
          obtain ⟨v, h1, h2⟩ := Option.map_eq_some_iff.mp hs
          obtain ⟨rfl, rfl⟩ := Prod.mk.inj h2
          exact op_mnmx (mx := true) hop hx hr he hcs h1
        · cases hs
      case min =>
        obtain ⟨cxs, hx, hc⟩ := Option.bind_eq_some_iff.mp hc
        obtain rfl := Option.some.inj hc
        simp only [stepOp] at hs
        split at hs
        · rename_i c cs hcs
          obtain ⟨v, h1, h2⟩ := Option.map_eq_some_iff.mp hs
          obtain ⟨rfl, rfl⟩ := Prod.mk.inj h2
          exact op_mnmx (mx := false) hop hx hr he hcs h1
        · cases hs
end
end Go.VI
/- Regions whose order is fixed, and what the others need. No statement of the seat is proved here. -/
namespace Go.VI
open Go Go.RowKit
variable {P : Program}
theorem mem_flatMap_of {α : Type} {f : α → List Nat} {l : List α} {x : α} {t : Nat} (hx : x ∈ l) (ht : t ∈ f x) : t ∈ l.flatMap f := List.mem_flatMap.mpr ⟨x, hx, ht⟩
theorem ev_congr {e e' : Env} {x : Opd} (h : ∀ t ∈ otmp x, e.get t = e'.get t) : ev e x = ev e' x := by
  cases x with
  | t n => exact h n (by simp [otmp])
  | c v => rfl
theorem boundA_congr {e e' : Env} {x : Option Opd} (h : ∀ t ∈ otmp? x, e.get t = e'.get t) : boundA e x = boundA e' x := by
  cases x with
  | none => rfl
  | some x => simp only [boundA]; rw [ev_congr h]
theorem map_congr {e e' : Env} {xs : List Opd} (h : ∀ t ∈ xs.flatMap otmp, e.get t = e'.get t) : xs.map (ev e) = xs.map (ev e') :=
  List.map_congr_left fun _ hx => ev_congr fun t ht => h t (mem_flatMap_of hx ht)
theorem fillParts_congr {e e' : Env} : ∀ (ps : List (Nat × Nat × Opd)) (cs : List AV), (∀ t ∈ ps.flatMap (fun p => otmp p.2.2), e.get t = e'.get t) → fillParts e ps cs = fillParts e' ps cs := by
  intro ps
  induction ps with
  | nil => intro cs _; rfl
  | cons p ps ih =>
    intro cs h
    obtain ⟨o, sz, x⟩ := p
    simp only [fillParts]
    rw [ev_congr (x := x) fun t ht => h t (by simp [ht])]
    split
    · exact ih _ fun t ht => h t (by rw [List.flatMap_cons]; exact List.mem_append_right _ ht)
    · rfl
theorem fillLit_congr {e e' : Env} {sz : Nat} : ∀ (ps : List (Nat × Opd)) (cs : List (List AV)), (∀ t ∈ ps.flatMap (fun p => otmp p.2), e.get t = e'.get t) → fillLit sz e ps cs = fillLit sz e' ps cs := by
  intro ps
  induction ps with
  | nil => intro cs _; rfl
  | cons p ps ih =>
    intro cs h
    obtain ⟨i, x⟩ := p
    simp only [fillLit]
    rw [ev_congr (x := x) fun t ht => h t (by simp [ht])]
    split
    · exact ih _ fun t ht => h t (by rw [List.flatMap_cons]; exact List.mem_append_right _ ht)
    · rfl
theorem stepOp_congr {call : CallF} {e e' : Env} {c : COp} {s : Mem} (h : ∀ t ∈ ctmps c, e.get t = e'.get t) : stepOp call c e s = stepOp call c e' s := by
  cases c <;> simp only [ctmps] at h <;> simp only [stepOp]
  case pick c a b => rw [ev_congr (x := c) fun t ht => h t (by simp [ht]), ev_congr (x := a) fun t ht => h t (by simp [ht]), ev_congr (x := b) fun t ht => h t (by simp [ht])]
  case build z ps => rw [fillParts_congr ps z h]
  case lit ty sz z len ps => rw [fillLit_congr ps _ h]
  case store sz a x => rw [ev_congr (x := a) fun t ht => h t (by simp [ht]), ev_congr (x := x) fun t ht => h t (by simp [ht])]
  case ibin op a x => rw [ev_congr (x := a) fun t ht => h t (by simp [ht]), ev_congr (x := x) fun t ht => h t (by simp [ht])]
  case beq ng k a x => rw [ev_congr (x := a) fun t ht => h t (by simp [ht]), ev_congr (x := x) fun t ht => h t (by simp [ht])]
  case sbin op a x => rw [ev_congr (x := a) fun t ht => h t (by simp [ht]), ev_congr (x := x) fun t ht => h t (by simp [ht])]
  case at_ sz a x => rw [ev_congr (x := a) fun t ht => h t (by simp [ht]), ev_congr (x := x) fun t ht => h t (by simp [ht])]
  case atT a x => rw [ev_congr (x := a) fun t ht => h t (by simp [ht]), ev_congr (x := x) fun t ht => h t (by simp [ht])]
  case ixA g sz n a x => rw [ev_congr (x := a) fun t ht => h t (by simp [ht]), ev_congr (x := x) fun t ht => h t (by simp [ht])]
  case atP sz n a x => rw [ev_congr (x := a) fun t ht => h t (by simp [ht]), ev_congr (x := x) fun t ht => h t (by simp [ht])]
  case app ty sz b a x => rw [ev_congr (x := a) fun t ht => h t (by simp [ht]), ev_congr (x := x) fun t ht => h t (by simp [ht])]
  case mapPut ks g a x y => rw [ev_congr (x := a) fun t ht => h t (by simp [ht]), ev_congr (x := x) fun t ht => h t (by simp [ht]), ev_congr (x := y) fun t ht => h t (by simp [ht])]
  case mapGet ks g z ok a x => rw [ev_congr (x := a) fun t ht => h t (by simp [ht]), ev_congr (x := x) fun t ht => h t (by simp [ht])]
  case appZ ty sz b z a x => rw [ev_congr (x := a) fun t ht => h t (by simp [ht]), ev_congr (x := x) fun t ht => h t (by simp [ht])]
  case appT ty b a x => rw [ev_congr (x := a) fun t ht => h t (by simp [ht]), ev_congr (x := x) fun t ht => h t (by simp [ht])]
  case fn f xs => rw [map_congr h]
  case mnmx mx xs => rw [map_congr h]
  case cutS sz x l k => rw [ev_congr (x := x) fun t ht => h t (by simp [ht]), boundA_congr (x := l) fun t ht => h t (by simp [ht]), boundA_congr (x := k) fun t ht => h t (by simp [ht])]
  case cutT x l k => rw [ev_congr (x := x) fun t ht => h t (by simp [ht]), boundA_congr (x := l) fun t ht => h t (by simp [ht]), boundA_congr (x := k) fun t ht => h t (by simp [ht])]
  case cut3 x l k => rw [ev_congr (x := x) fun t ht => h t (by simp [ht]), ev_congr (x := l) fun t ht => h t (by simp [ht]), ev_congr (x := k) fun t ht => h t (by simp [ht])]
  case call f xs => rw [ev_congr (x := f) fun t ht => h t (by simp [ht]), map_congr (xs := xs) fun t ht => h t (by rw [List.mem_append]; exact .inr ht)]
  all_goals first | rw [ev_congr h] | rfl
theorem wantedA_congr {e e' : Env} {c : COper} (h : ∀ t ∈ creads c, e.get t = e'.get t) : wantedA c e = wantedA c e' := by
  unfold wantedA
  cases hg : c.guard with
  | none => rfl
  | some g =>
    obtain ⟨t, b⟩ := g
    simp only
    rw [h t (by simp [creads, hg])]
theorem get_hide : ∀ (rs : List Nat) (s : Mem) (r : Nat), (s.hide rs).get r = if r ∈ rs then none else s.get r := by
  intro rs
  induction rs with
  | nil => intro s r; simp [Mem.hide]
  | cons q rs ih =>
    intro s r
    simp only [Mem.hide, ih, Mem.get_put, List.mem_cons]
    by_cases h1 : r ∈ rs
    · simp [h1]
    · by_cases h2 : r = q
      · simp [h2]
      · simp [h1, h2]
theorem next_hide : ∀ (rs : List Nat) (s : Mem), (s.hide rs).next = s.next := by
  intro rs
  induction rs with
  | nil => intro s; rfl
  | cons q rs ih => intro s; rw [Mem.hide, ih]; rfl
theorem floor_hide : ∀ (rs : List Nat) (s : Mem), (s.hide rs).floor = s.floor := by
  intro rs
  induction rs with
  | nil => intro s; rfl
  | cons q rs ih => intro s; rw [Mem.hide, ih]; rfl
theorem get_bring : ∀ (rs : List Nat) (s' s : Mem) (r : Nat), (s'.bring s rs).get r = if r ∈ rs then s.get r else s'.get r := by
  intro rs
  induction rs with
  | nil => intro s' s r; simp [Mem.bring]
  | cons q rs ih =>
    intro s' s r
    simp only [Mem.bring, Mem.get_put, ih, List.mem_cons]
    by_cases h2 : r = q
    · simp [h2]
    · simp [h2]
theorem next_bring : ∀ (rs : List Nat) (s' s : Mem), (s'.bring s rs).next = s'.next := by
  intro rs
  induction rs with
  | nil => intro s' s; rfl
  | cons q rs ih => intro s' s; rw [Mem.bring, Mem.next_put, ih]
theorem floor_bring : ∀ (rs : List Nat) (s' s : Mem), (s'.bring s rs).floor = s'.floor := by
  intro rs
  induction rs with
  | nil => intro s' s; rfl
  | cons q rs ih => intro s' s; rw [Mem.bring, Mem.floor_put, ih]
theorem WfM.hide {s : Mem} (h : WfM s) (rs : List Nat) : WfM (s.hide rs) := by
  refine ⟨by rw [next_hide, floor_hide]; exact h.floor, fun r hr => ?_⟩
  rw [next_hide] at hr
  rw [get_hide, h.none r hr]; simp
theorem Step.unhide {s s1 : Mem} {rs : List Nat} (h : WfM s) (hs : Step (s.hide rs) s1) : Step s (s1.bring s rs) := by
  have hn := hs.next
  have hf := hs.floor
  rw [next_hide] at hn
  rw [floor_hide] at hf
  refine ⟨by rw [next_bring]; exact hn, by rw [floor_bring]; exact hf, ?_, ⟨by rw [next_bring, floor_bring]; exact hs.wf.floor, ?_⟩, ?_⟩
  · intro r hr
    rw [get_bring]
    split
    · rfl
    · rename_i hm
      rw [hs.low r (by rw [floor_hide]; exact hr), get_hide, if_neg hm]
  · intro r hr
    rw [next_bring] at hr
    rw [get_bring]
    split
    · exact h.none r (Nat.le_trans hn hr)
    · exact hs.wf.none r hr
  · intro r hr hg
    rw [get_bring]
    split
    · exact hg
    · rename_i hm
      exact hs.dead r (by rw [next_hide]; exact hr) (by rw [get_hide, if_neg hm]; exact hg)
theorem Rel.hide {W0 : World} {m : PM} {s : Mem} {w : World} (h : Rel P W0 m s w) (rs : List Nat) : Rel P W0 m (s.hide rs) w := by
  have lv : ∀ r row, (s.hide rs).get r = some row → s.get r = some row := by
    intro r row hr
    rw [get_hide] at hr
    split at hr
    · cases hr
    · exact hr
  exact ⟨h.below, h.wf.hide rs, fun r pl row h1 h2 => h.row r pl row h1 (lv r row h2), h.blk, fun r r' pl pl' row row' h1 h2 h3 h4 h5 => h.inj r r' pl pl' row row' h1 h2 (lv _ _ h3) (lv _ _ h4) h5⟩
theorem live_hide {s : Mem} {rs : List Nat} {r : Nat} (h : ((s.hide rs).get r).isSome = true) : r ∉ rs ∧ (s.get r).isSome = true := by
  rw [get_hide] at h
  split at h
  · cases h
  · rename_i hm; exact ⟨hm, h⟩
theorem After.unhide {W0 : World} {m m' : PM} {s s1 : Mem} {rs : List Nat} {w w' : World} (hr : Rel P W0 m s w) (hs : Step (s.hide rs) s1) (hf : Fresh m (s.hide rs) s1) (hA : After P W0 m (s.hide rs) w m' s1 w') : After P W0 m s w m' (s1.bring s rs) w' := by
  have hst := Step.unhide hr.wf hs
  have hsub := hA.sub hf
  have hn : (s.hide rs).next = s.next := next_hide rs s
  have hfl : (s.hide rs).floor = s.floor := floor_hide rs s
  have some_ : ∀ {o : Option Row}, o.isSome = true → ∃ x, o = some x := fun {o} h => Option.isSome_iff_exists.mp h
  have apart : ∀ r pl row r' pl' row', r ∈ rs → m r = some pl → s.get r = some row → r' ∉ rs → m' r' = some pl' → s1.get r' = some row' → pl.blk = pl'.blk → False := by
    intro r pl row r' pl' row' h1 h2 h3 h4 h5 h6 h7
    have hb := (hr.blk r pl h2).2
    by_cases hlt : r' < s.next
    · have hl := (live_hide (hs.live (by rw [hn]; exact hlt) (by rw [h6]; rfl))).2
      obtain ⟨x, hx⟩ := some_ hl
      rw [hA.same r' (.inl (by rw [hn]; exact hlt))] at h5
      have := hr.inj r r' pl pl' row x h2 h5 h3 hx h7
      subst this
      exact h4 h1
    · have hlt2 := hs.wf.lt h6
      rcases hA.fresh r' pl' (by rw [hn]; omega) hlt2 h5 with h | ⟨r0, pl0, q1, q2, _, _, q5⟩
      · omega
      · obtain ⟨l1, l2⟩ := live_hide q5
        obtain ⟨x, hx⟩ := some_ l2
        have := hr.inj r r0 pl pl0 row x h2 q1 h3 hx (h7.trans q2.symm)
        subst this
        exact l1 h1
  have old : ∀ r pl row, r ∈ rs → m' r = some pl → s.get r = some row → m r = some pl := by
    intro r pl row _ h2 h3
    rw [hA.same r (.inl (by rw [hn]; exact hr.wf.lt h3))] at h2
    exact h2
  refine ⟨⟨hA.rel.below, hst.wf, ?_, hA.rel.blk, ?_⟩, ?_, ?_, ?_, hA.size⟩
  · intro r pl row h1 h2
    rw [get_bring] at h2
    split at h2
    · rename_i hm
      have h1' := old r pl row hm h1 h2
      refine (hr.row r pl row h1' h2).mono hsub ?_
      rcases hA.frame pl.blk (hr.blk r pl h1').2 with h | ⟨r0, pl0, q1, q2, _, _, q5⟩
      · exact h
      · exfalso
        obtain ⟨l1, l2⟩ := live_hide q5
        obtain ⟨x, hx⟩ := some_ l2
        have := hr.inj r r0 pl pl0 row x h1' q1 h2 hx q2.symm
        subst this
        exact l1 hm
    · exact hA.rel.row r pl row h1 h2
  · intro r r' pl pl' row row' h1 h2 h3 h4 h5
    rw [get_bring] at h3 h4
    split at h3 <;> split at h4
    · rename_i m1 m2
      exact hr.inj r r' pl pl' row row' (old r pl row m1 h1 h3) (old r' pl' row' m2 h2 h4) h3 h4 h5
    · rename_i m1 m2
      exact (apart r pl row r' pl' row' m1 (old r pl row m1 h1 h3) h3 m2 h2 h4 h5).elim
    · rename_i m1 m2
      exact (apart r' pl' row' r pl row m2 (old r' pl' row' m2 h2 h4) h4 m1 h1 h3 h5.symm).elim
    · exact hA.rel.inj r r' pl pl' row row' h1 h2 h3 h4 h5
  · intro r h
    rw [next_bring] at h
    exact hA.same r (by rw [hn]; exact h)
  · intro b hb
    rcases hA.frame b hb with h | ⟨r, pl, q1, q2, q3, q4, q5⟩
    · exact .inl h
    · exact .inr ⟨r, pl, q1, q2, hfl ▸ q3, hn ▸ q4, (live_hide q5).2⟩
  · intro r pl h1 h2 h3
    rw [next_bring] at h2
    rcases hA.fresh r pl (by rw [hn]; exact h1) h2 h3 with h | ⟨r0, pl0, q1, q2, q3, q4, q5⟩
    · exact .inl h
    · exact .inr ⟨r0, pl0, q1, q2, hfl ▸ q3, hn ▸ q4, (live_hide q5).2⟩
theorem mem_hideRows {e : Env} {x : Opd} {r : Nat} : ∀ {xs : List Opd}, x ∈ xs → rowOf (ev e x) = some r → r ∈ hideRows e xs := by
  intro xs
  induction xs with
  | nil => intro h; simp at h
  | cons y xs ih =>
    intro h hr
    simp only [hideRows]
    rcases List.mem_cons.mp h with rfl | h
    · rw [hr]; exact List.mem_cons_self ..
    · cases rowOf (ev e y) with
      | none => exact ih h hr
      | some q => exact List.mem_cons_of_mem _ (ih h hr)
def valR (call : CallF) (o : COper) (rs : List Nat) (e : Env) (s : Mem) : Option (AV × Mem) :=
  if wantedA o e then
    if o.up then (stepOp call o.op e { s with floor := s.next }).map fun p => (p.1, { p.2 with floor := s.floor })
    else (stepOp call o.op e (s.hide rs)).map fun p => (p.1, p.2.bring s rs)
  else some (und, s)
def valO (call : CallF) (o : COper) (e : Env) (s : Mem) : Option (AV × Mem) := valR call o (hideRows e o.hide) e s
theorem stepO_val (call : CallF) (o : COper) (e : Env) (s : Mem) : stepO call o e s = (valO call o e s).map fun p => (putO e o.dst p.1, p.2) := by
  unfold stepO valO valR
  split
  · split
    · cases stepOp call o.op e { s with floor := s.next } <;> rfl
    · cases stepOp call o.op e (s.hide (hideRows e o.hide)) <;> rfl
  · rfl
theorem valR_congr {call : CallF} {o : COper} {rs : List Nat} {e e' : Env} {s : Mem} (h : ∀ t ∈ creads o, e.get t = e'.get t) : valR call o rs e s = valR call o rs e' s := by
  unfold valR
  rw [wantedA_congr h, stepOp_congr (c := o.op) fun t ht => h t (by simp [creads, ht]), stepOp_congr (c := o.op) fun t ht => h t (by simp [creads, ht])]
theorem WfM.floored {s : Mem} (h : WfM s) {f : Nat} (hf : f ≤ s.next) : WfM { s with floor := f } := ⟨hf, h.none⟩
theorem valO_step {call : CallF} (hcall : ∀ g avs s r s', WfM s → call g avs s = some (r, s') → Step s s') {o : COper} {e : Env} {s s' : Mem} {r : AV} (h : WfM s) (hh : valO call o e s = some (r, s')) :
    Step s s' ∧ (o.up = true → ∀ q, q < s.next → s'.get q = s.get q) ∧ (o.up = false → ∀ q ∈ hideRows e o.hide, s'.get q = s.get q) := by
  unfold valO valR at hh
  split at hh
  · split at hh
    · obtain ⟨⟨v, s1⟩, h1, h2⟩ := Option.map_eq_some_iff.mp hh
      obtain ⟨rfl, rfl⟩ := Prod.mk.inj h2
      have hst := stepOp_step hcall (h.floored (Nat.le_refl _)) h1
      rename_i hup
      refine ⟨⟨hst.next, rfl, ?_, ?_, hst.dead⟩, ?_, fun hd => by rw [hup] at hd; cases hd⟩
      · intro q hq
        exact hst.low q (Nat.lt_of_lt_of_le hq h.floor)
      · exact ⟨Nat.le_trans h.floor hst.next, hst.wf.none⟩
      · intro _ q hq
        exact hst.low q hq
    · rename_i hup
      obtain ⟨⟨v, s1⟩, h1, h2⟩ := Option.map_eq_some_iff.mp hh
      obtain ⟨rfl, rfl⟩ := Prod.mk.inj h2
      refine ⟨Step.unhide h (stepOp_step hcall (h.hide _) h1), fun h => absurd h hup, fun _ q hq => ?_⟩
      rw [get_bring, if_pos hq]
  · obtain ⟨rfl, rfl⟩ := Prod.mk.inj (Option.some.inj hh)
    exact ⟨Step.refl h, fun _ _ _ => rfl, fun _ _ _ => rfl⟩
theorem stepO_step {call : CallF} (hcall : ∀ g avs s r s', WfM s → call g avs s = some (r, s') → Step s s') {o : COper} {e e' : Env} {s s' : Mem} (h : WfM s) (hh : stepO call o e s = some (e', s')) : Step s s' := by
  rw [stepO_val] at hh
  obtain ⟨⟨v, s1⟩, h1, h2⟩ := Option.map_eq_some_iff.mp hh
  obtain ⟨_, rfl⟩ := Prod.mk.inj h2
  exact (valO_step hcall h h1).1
theorem opsA_step {call : CallF} (hcall : ∀ g avs s r s', WfM s → call g avs s = some (r, s') → Step s s') : ∀ (l : List COper) {e e' : Env} {s s' : Mem}, WfM s → opsA call l e s = some (e', s') → Step s s' := by
  intro l
  induction l with
  | nil => intro e e' s s' h hh; simp only [opsA] at hh; obtain ⟨_, rfl⟩ := Prod.mk.inj (Option.some.inj hh); exact Step.refl h
  | cons o l ih =>
    intro e e' s s' h hh
    simp only [opsA] at hh
    split at hh
    · rename_i p hp
      have h1 := stepO_step hcall h hp
      exact h1.trans (ih h1.wf hh)
    · cases hh
theorem Rel.floored {W0 : World} {m : PM} {s : Mem} {w : World} (h : Rel P W0 m s w) {f : Nat} (hf : f ≤ s.next) : Rel P W0 m { s with floor := f } w :=
  ⟨h.below, h.wf.floored hf, h.row, h.blk, h.inj⟩
section
variable {W0 : World} {m m' : PM} {s s' : Mem} {w w' : World} {n : Nat} {a : Act} {e e' : Env} {r : AV} {call : CallF} {ops : Array Oper}
theorem wanted_eq {o : Oper} {co : COper} {u : Bool × List Opd} (hc : cOper P n ops u o = some co) (he : EnvOK W0 m n a e) : Region.wanted o (yielded ops a.tmps) = wantedA co e := by
  simp only [cOper, Option.bind_eq_bind] at hc
  obtain ⟨c, h1, hc⟩ := Option.bind_eq_some_iff.mp hc
  obtain ⟨g, h2, hc⟩ := Option.bind_eq_some_iff.mp hc
  split at hc
  · obtain rfl := Option.some.inj hc
    unfold Region.wanted wantedA
    cases hg : o.guard with
    | none => rw [hg] at h2; simp only [cGuard] at h2; obtain rfl := Option.some.inj h2; rfl
    | some jb =>
      obtain ⟨j, b⟩ := jb
      rw [hg] at h2
      simp only [cGuard] at h2
      split at h2
      · rename_i t ht
        obtain rfl := Option.some.inj h2
        simp only [yielded, ht, Option.bind_some]
        have hv := he.get t
        rw [Array.getD_eq_getD_getElem?] at hv
        generalize e.get t = av at hv
        cases hx : a.tmps[t]? with
        | none =>
          rw [hx] at hv
          simp only [Option.getD_none, undef] at hv
          cases hv
          simp
        | some x =>
          rw [hx] at hv
          simp only [Option.getD_some] at hv
          cases hv <;> first | (rename_i c; cases c <;> cases b <;> rfl) | simp
      · cases h2
  · cases hc
theorem cOper_parts {o : Oper} {co : COper} {u : Bool × List Opd} (hc : cOper P n ops u o = some co) : cOp P o.op = some co.op ∧ co.dst = o.dst ∧ (co.up = u.1 ∧ co.hide = u.2) ∧ dstOk n o.dst = true := by
  simp only [cOper, Option.bind_eq_bind] at hc
  obtain ⟨c, h1, hc⟩ := Option.bind_eq_some_iff.mp hc
  obtain ⟨g, h2, hc⟩ := Option.bind_eq_some_iff.mp hc
  split at hc
  · rename_i hd
    obtain rfl := Option.some.inj hc
    exact ⟨h1, rfl, ⟨rfl, rfl⟩, (Bool.and_eq_true _ _ ▸ hd).1⟩
  · cases hc
theorem cOper_inert {o : Oper} {co : COper} {u : Bool × List Opd} (hc : cOper P n ops u o = some co) (hup : co.up = true) (hi : inertO o.op = true) : inertC co.op = true := by
  simp only [cOper, Option.bind_eq_bind] at hc
  obtain ⟨c, h1, hc⟩ := Option.bind_eq_some_iff.mp hc
  obtain ⟨g, h2, hc⟩ := Option.bind_eq_some_iff.mp hc
  split at hc
  · rename_i hd
    obtain rfl := Option.some.inj hc
    have h3 : (!inertO o.op || inertC c || !u.1) = true := (Bool.and_eq_true _ _ ▸ hd).2
    have hu : u.1 = true := hup
    rw [hi, hu] at h3
    simpa using h3
  · cases hc
theorem oper_ok (hC : CallOK P W0 call) {o : Oper} {co : COper} {u : Bool × List Opd} {i : Nat} (ho : ops[i]? = some o) (hc : cOper P n ops u o = some co) {rs : List Nat} (hs : valR call co rs e s = some (r, s')) (hr : Rel P W0 m s w) (hf : Fresh m s s') (he : EnvOK W0 m n a e)
    {K : Act → World → Prop} {Q : Exit → Act → World → Prop}
    (hK : ∀ v m' w', After P W0 m s w m' s' w' → (co.up = true → ∀ b, b < w.heap.size → w'.heap[b]? = w.heap[b]?) → (co.up = true → ∀ q pl, s.next ≤ q → q < s'.next → m' q = some pl → w.heap.size ≤ pl.blk) → V W0 m' v r → K (a.put o.dst v) w') : wpOp P ops Q i K a w := by
  obtain ⟨p1, p2, p3, p4⟩ := cOper_parts hc
  unfold wpOp
  rw [ho]
  simp only
  rw [wanted_eq hc he]
  unfold valR at hs
  split at hs
  · rename_i hw
    rw [if_pos hw]
    refine .inl ?_
    split at hs
    · obtain ⟨⟨v, s1⟩, h1, h2⟩ := Option.map_eq_some_iff.mp hs
      obtain ⟨rfl, rfl⟩ := Prod.mk.inj h2
      have hst := stepOp_step hC.step (hr.wf.floored (Nat.le_refl _)) h1
      refine op_sound hC p1 h1 (hr.floored (Nat.le_refl _)) hf he K Q ?_
      intro v m' w' hA hV
      refine hK v m' w' ⟨hA.rel.floored (Nat.le_trans hr.wf.floor hst.next), hA.same, ?_, ?_, hA.size⟩ ?_ ?_ hV
      · intro b hb
        rcases hA.frame b hb with h | ⟨q, pl, _, _, h3, h4, _⟩
        · exact .inl h
        · exact absurd h4 (Nat.not_lt.mpr h3)
      · intro q pl h3 h4 h5
        rcases hA.fresh q pl h3 h4 h5 with h | ⟨q0, pl0, _, _, h6, h7, _⟩
        · exact .inl h
        · exact absurd h7 (Nat.not_lt.mpr h6)
      · intro _ b hb
        rcases hA.frame b hb with h | ⟨q, pl, _, _, h3, h4, _⟩
        · exact h
        · exact absurd h4 (Nat.not_lt.mpr h3)
      · intro _ q pl h3 h4 h5
        rcases hA.fresh q pl h3 h4 h5 with h | ⟨q0, pl0, _, _, h6, h7, _⟩
        · exact h
        · exact absurd h7 (Nat.not_lt.mpr h6)
    · rename_i hup
      obtain ⟨⟨v, s1⟩, h1, h2⟩ := Option.map_eq_some_iff.mp hs
      obtain ⟨rfl, rfl⟩ := Prod.mk.inj h2
      have hst := stepOp_step hC.step (hr.wf.hide _) h1
      have hf1 : Fresh m (s.hide rs) s1 := by
        intro q h3 h4
        rw [next_hide] at h3
        exact hf q h3 (by rw [next_bring]; exact h4)
      refine op_sound hC p1 h1 (hr.hide _) hf1 he K Q ?_
      intro v m' w' hA hV
      exact hK v m' w' (After.unhide hr hst hf1 hA) (fun h => absurd h hup) (fun h => absurd h hup) hV
  · rename_i hw
    rw [if_neg hw]
    obtain ⟨rfl, rfl⟩ := Prod.mk.inj (Option.some.inj hs)
    exact hK undef m w (.refl hr) (fun _ _ _ => rfl) (fun _ q pl h1 h2 _ => by omega) (V.und W0 m)
theorem cRegion_parts {draw : Bool} {cs : List COper} (h : cRegion P n ops draw = some cs) : cs.length = ops.size ∧ (∀ (i : Nat) (o : Oper) (co : COper), ops[i]? = some o → cs[i]? = some co → ∃ u, (ups P n ops draw)[i]? = some u ∧ cOper P n ops u o = some co) ∧
    (draw = true → P.follows .mixedOrders = true ∧ edgesOk ops = true ∧ readsOk (Region.before ops) cs = true) := by
  simp only [cRegion, Option.bind_eq_bind] at h
  obtain ⟨l, h1, h2⟩ := Option.bind_eq_some_iff.mp h
  have hups : (ups P n ops draw).length = ops.size := by
    unfold ups
    split <;> simp
  obtain ⟨g1, g2⟩ := mapM_some h1
  split at h2
  · cases h2
  · rename_i hd
    obtain rfl := Option.some.inj h2
    refine ⟨by rw [← g1]; simp [hups], ?_, ?_⟩
    · intro i o co ho hco
      have hi : i < ops.size := (Array.getElem?_eq_some_iff.mp ho).1
      have hz : (ops.toList.zip (ups P n ops draw))[i]? = some (o, (ups P n ops draw)[i]'(by omega)) := by
        rw [List.getElem?_zip_eq_some]
        exact ⟨by rw [Array.getElem?_toList]; exact ho, by simp⟩
      exact ⟨_, by simp, g2 i _ co hz hco⟩
    · intro hdr
      subst hdr
      simp only [Bool.true_and, Bool.not_eq_true', Bool.not_eq_false, Bool.and_eq_true] at hd
      exact ⟨hd.1.1, hd.1.2, hd.2⟩
theorem ops_sound (hC : CallOK P W0 call) {draw : Bool} {cs : List COper} (hcs : cs.length = ops.size) (hall : ∀ (i : Nat) (o : Oper) (co : COper), ops[i]? = some o → cs[i]? = some co → ∃ u, (ups P n ops draw)[i]? = some u ∧ cOper P n ops u o = some co) {Q : Exit → Act → World → Prop} :
    ∀ (d i : Nat) (m : PM) (s : Mem) (w : World) (a : Act) (e : Env), i + d = ops.size → opsA call (cs.drop i) e s = some (e', s') → Rel P W0 m s w → Fresh m s s' → EnvOK W0 m n a e →
      (∀ a' m' w', After P W0 m s w m' s' w' → EnvOK W0 m' n a' e' → Q .normal a' w') → wpOps P ops Q (List.range' i d) a w := by
  intro d
  induction d with
  | zero =>
    intro i m s w a e hi hs hr hf he hQ
    rw [List.drop_eq_nil_of_le (by omega)] at hs
    simp only [opsA] at hs
    obtain ⟨rfl, rfl⟩ := Prod.mk.inj (Option.some.inj hs)
    simp only [List.range'_zero, wpOps]
    exact hQ a m w (.refl hr) he
  | succ d ih =>
    intro i m s w a e hi hs hr hf he hQ
    have hlt : i < ops.size := by omega
    have ho : ops[i]? = some ops[i] := by simp
    have hco : cs[i]? = some cs[i] := List.getElem?_eq_getElem (by omega)
    obtain ⟨u, hu, hc⟩ := hall i _ _ ho hco
    rw [List.drop_eq_getElem_cons (by omega)] at hs
    simp only [opsA] at hs
    split at hs
    · rename_i p hp
      obtain ⟨e1, s1⟩ := p
      rw [stepO_val] at hp
      obtain ⟨⟨v, s1'⟩, hv, hp2⟩ := Option.map_eq_some_iff.mp hp
      obtain ⟨rfl, rfl⟩ := Prod.mk.inj hp2
      simp only at hs
      have st1 := (valO_step hC.step hr.wf hv).1
      have st2 := opsA_step hC.step _ st1.wf hs
      rw [List.range'_succ, wpOps_cons]
      refine oper_ok hC ho hc hv hr (hf.left st2) he ?_
      intro v m1 w1 hA _ _ hV
      obtain ⟨p1, p2, p3, p4⟩ := cOper_parts hc
      have hf1 := hf.right st1 hA
      refine ih (i + 1) m1 s1' w1 _ _ (by omega) hs hA.rel hf1 ?_ ?_
      · rw [p2]; exact (he.mono (hA.sub (hf.left st2))).put p4 hV
      · intro a' m' w' hA' he'
        exact hQ a' m' w' (After.trans st1 st2 hA hA') he'
    · cases hs
theorem region_sound (hC : CallOK P W0 call) {cs : List COper} {id : Nat} (hcr : cRegion P n ops false = some cs) (hs : opsA call cs e s = some (e', s')) (hr : Rel P W0 m s w) (hf : Fresh m s s') (he : EnvOK W0 m n a e) {Q : Exit → Act → World → Prop}
    (hQ : ∀ a' m' w', After P W0 m s w m' s' w' → EnvOK W0 m' n a' e' → Q .normal a' w') : (Code.region id ops false).wp P Q a w := by
  obtain ⟨h1, h2, _⟩ := cRegion_parts hcr
  refine wp_region ?_
  rw [List.range_eq_range']
  exact ops_sound hC h1 h2 ops.size 0 m s w a e (by omega) (by simpa using hs) hr hf he hQ
end
end Go.VI
/- Regions whose order is drawn. No statement of the seat is proved here. -/
namespace Go.VI
open Go Go.RowKit
def bmask (acc : Array Nat) (o : Oper) : Nat := o.after.foldl (fun s e => if Region.binds .any e then s ||| 2 ^ e.on ||| acc.getD e.on 0 else s) 0
theorem before_eq (ops : Array Oper) : Region.before ops = ops.toList.foldl (fun acc o => acc.push (bmask acc o)) #[] := by
  rw [Region.before, ← Array.foldl_toList]; rfl
theorem foldl_push_size (g : Array Nat → Oper → Nat) : ∀ (l : List Oper) (acc : Array Nat), (l.foldl (fun acc o => acc.push (g acc o)) acc).size = acc.size + l.length := by
  intro l
  induction l with
  | nil => intro acc; rfl
  | cons o l ih => intro acc; rw [List.foldl_cons, ih]; simp; omega
theorem foldl_push_old (g : Array Nat → Oper → Nat) : ∀ (l : List Oper) (acc : Array Nat) (k : Nat), k < acc.size → (l.foldl (fun acc o => acc.push (g acc o)) acc)[k]? = acc[k]? := by
  intro l
  induction l with
  | nil => intro acc k _; rfl
  | cons o l ih =>
    intro acc k hk
    rw [List.foldl_cons, ih _ _ (by simp; omega), Array.getElem?_push_lt hk]
    simp
theorem bmask_bit {acc : Array Nat} {o : Oper} {j : Nat} (h : (bmask acc o).testBit j = true) : ∃ e ∈ o.after.toList, Region.binds .any e = true ∧ (j = e.on ∨ (acc.getD e.on 0).testBit j = true) := by
  unfold bmask at h
  rw [← Array.foldl_toList] at h
  have key : ∀ (l : List Edge) (s : Nat), (l.foldl (fun s e => if Region.binds .any e then s ||| 2 ^ e.on ||| acc.getD e.on 0 else s) s).testBit j = true →
      s.testBit j = true ∨ ∃ e ∈ l, Region.binds .any e = true ∧ (j = e.on ∨ (acc.getD e.on 0).testBit j = true) := by
    intro l
    induction l with
    | nil => intro s h; exact .inl h
    | cons e l ih =>
      intro s h
      rw [List.foldl_cons] at h
      rcases ih _ h with h | ⟨e', he', h1, h2⟩
      · split at h
        · rename_i hb
          rw [Nat.testBit_or, Nat.testBit_or, Bool.or_eq_true, Bool.or_eq_true] at h
          rcases h with (h | h) | h
          · exact .inl h
          · refine .inr ⟨e, by simp, hb, .inl ?_⟩
            rw [Nat.testBit_two_pow] at h
            simpa [eq_comm] using h
          · exact .inr ⟨e, by simp, hb, .inr h⟩
        · exact .inl h
      · exact .inr ⟨e', List.mem_cons_of_mem _ he', h1, h2⟩
  rcases key _ _ h with h | h
  · simp at h
  · exact h
theorem before_bit {ops : Array Oper} {i j : Nat} {o : Oper} (ho : ops[i]? = some o) (h : ((Region.before ops).getD i 0).testBit j = true) :
    ∃ e ∈ o.after.toList, Region.binds .any e = true ∧ (j = e.on ∨ (e.on < i ∧ ((Region.before ops).getD e.on 0).testBit j = true)) := by
  have hi : i < ops.toList.length := by have := (Array.getElem?_eq_some_iff.mp ho).1; simpa using this
  rw [before_eq] at h ⊢
  have hsplit : ops.toList = ops.toList.take i ++ o :: ops.toList.drop (i + 1) := by
    have : ops.toList[i] = o := by
      have h1 := (Array.getElem?_eq_some_iff.mp ho).2
      simpa using h1
    rw [← this, ← List.drop_eq_getElem_cons hi, List.take_append_drop]
  let pre := (ops.toList.take i).foldl (fun acc o => acc.push (bmask acc o)) #[]
  have hpre : pre.size = i := by
    show ((ops.toList.take i).foldl (fun acc o => acc.push (bmask acc o)) #[]).size = i
    rw [foldl_push_size, List.length_take, Nat.min_eq_left (Nat.le_of_lt hi)]; simp
  have hall : ∀ k, k < i + 1 → (ops.toList.foldl (fun acc o => acc.push (bmask acc o)) #[])[k]? = (pre.push (bmask pre o))[k]? := by
    intro k hk
    conv => lhs; rw [hsplit, List.foldl_append, List.foldl_cons]
    rw [foldl_push_old _ _ _ _ (by simp; show k < pre.size + 1; omega)]
  rw [Array.getD_eq_getD_getElem?, hall i (by omega)] at h
  have h' : (bmask pre o).testBit j = true := by
    rw [← hpre] at h
    simpa using h
  obtain ⟨e, he, h1, h2⟩ := bmask_bit h'
  refine ⟨e, he, h1, ?_⟩
  rcases h2 with h2 | h2
  · exact .inl h2
  · right
    by_cases hlt : e.on < i
    · refine ⟨hlt, ?_⟩
      rw [Array.getD_eq_getD_getElem?, hall _ (by omega), Array.getElem?_push_lt (by omega)]
      rw [Array.getD_eq_getD_getElem?] at h2
      have : pre[e.on]? = some pre[e.on] := by simp
      rw [this] at h2
      simpa using h2
    · exfalso
      rw [Array.getD_eq_getD_getElem?, Array.getElem?_eq_none (by omega)] at h2
      simp at h2
section
variable {P : Program} {W0 : World} {n : Nat} {call : CallF} {ops : Array Oper} {cs : List COper}
def Closed (ops : Array Oper) (L : Array Bool) : Prop := ∀ (i : Nat) (o : Oper), ops[i]? = some o → L[i]? = some true → ∀ e ∈ o.after.toList, Region.binds .any e = true → L[e.on]? = some true
theorem closed_bef {L : Array Bool} (hE : edgesOk ops = true) (hc : Closed ops L) : ∀ (i : Nat) (o : Oper), ops[i]? = some o → (∀ e ∈ o.after.toList, Region.binds .any e = true → L[e.on]? = some true) → ∀ j, ((Region.before ops).getD i 0).testBit j = true → L[j]? = some true ∧ j < i := by
  intro i
  induction i using Nat.strongRecOn with
  | _ i ih =>
    intro o ho hw j hj
    obtain ⟨e, he, h1, h2⟩ := before_bit ho hj
    have hlt : e.on < i := by
      have := List.all_eq_true.mp hE (o, i) (by
        rw [List.mem_iff_getElem?]
        refine ⟨i, ?_⟩
        rw [List.getElem?_zipIdx, Array.getElem?_toList, ho]; simp)
      have := List.all_eq_true.mp this e he
      simpa [h1, Nat.blt_eq] using this
    rcases h2 with rfl | ⟨_, h2⟩
    · exact ⟨hw e he h1, hlt⟩
    · have hon : e.on < ops.size := by have := (Array.getElem?_eq_some_iff.mp ho).1; omega
      have ho' : ops[e.on]? = some ops[e.on] := by simp
      obtain ⟨g1, g2⟩ := ih e.on hlt _ ho' (hc _ _ ho' (hw e he h1)) j h2
      exact ⟨g1, by omega⟩
structure Traj (call : CallF) (cs : List COper) (E : Nat → Env) (S : Nat → Mem) (R : Nat → AV) : Prop where
  step : ∀ (i : Nat) (co : COper), cs[i]? = some co → valO call co (E i) (S i) = some (R i, S (i + 1)) ∧ E (i + 1) = putO (E i) co.dst (R i)
theorem traj_of : ∀ (l : List COper) (e e' : Env) (s s' : Mem), opsA call l e s = some (e', s') → ∃ E S R, Traj call l E S R ∧ E 0 = e ∧ S 0 = s ∧ E l.length = e' ∧ S l.length = s' := by
  intro l
  induction l with
  | nil =>
    intro e e' s s' h
    simp only [opsA] at h
    obtain ⟨rfl, rfl⟩ := Prod.mk.inj (Option.some.inj h)
    exact ⟨fun _ => e, fun _ => s, fun _ => und, ⟨by intro i co h; simp at h⟩, rfl, rfl, rfl, rfl⟩
  | cons o l ih =>
    intro e e' s s' h
    simp only [opsA] at h
    split at h
    · rename_i p hp
      rw [stepO_val] at hp
      obtain ⟨⟨v, s1⟩, hv, hp2⟩ := Option.map_eq_some_iff.mp hp
      subst hp2
      obtain ⟨E, S, R, hT, h1, h2, h3, h4⟩ := ih _ _ _ _ h
      refine ⟨fun i => if i = 0 then e else E (i - 1), fun i => if i = 0 then s else S (i - 1), fun i => if i = 0 then v else R (i - 1), ⟨?_⟩, rfl, rfl, by simpa using h3, by simpa using h4⟩
      intro i co hi
      match i, hi with
      | 0, hi =>
        simp at hi
        subst hi
        simp only [if_true, Nat.zero_add, Nat.one_ne_zero, if_false, Nat.sub_self]
        rw [h1, h2]
        exact ⟨hv, rfl⟩
      | i + 1, hi =>
        simp at hi
        have := hT.step i co hi
        simpa using this
    · cases h
theorem traj_step (hcall : ∀ g avs s r s', WfM s → call g avs s = some (r, s') → Step s s') {E : Nat → Env} {S : Nat → Mem} {R : Nat → AV} (hT : Traj call cs E S R) : ∀ (d i : Nat), i + d ≤ cs.length → WfM (S i) → Step (S i) (S (i + d)) := by
  intro d
  induction d with
  | zero => intro i _ h; exact Step.refl h
  | succ d ih =>
    intro i hi h
    have hco : cs[i]? = some cs[i] := List.getElem?_eq_getElem (by omega)
    have h1 := (valO_step hcall h (hT.step i _ hco).1).1
    have h2 := ih (i + 1) (by omega) h1.wf
    have := h1.trans h2
    rwa [show i + 1 + d = i + (d + 1) by omega] at this
theorem traj_wf (hcall : ∀ g avs s r s', WfM s → call g avs s = some (r, s') → Step s s') {E : Nat → Env} {S : Nat → Mem} {R : Nat → AV} (hT : Traj call cs E S R) (h0 : WfM (S 0)) (i : Nat) (hi : i ≤ cs.length) : WfM (S i) := by
  have := (traj_step hcall hT i 0 (by omega) h0).wf
  rwa [Nat.zero_add] at this
theorem traj_to (hcall : ∀ g avs s r s', WfM s → call g avs s = some (r, s') → Step s s') {E : Nat → Env} {S : Nat → Mem} {R : Nat → AV} (hT : Traj call cs E S R) (h0 : WfM (S 0)) {i j : Nat} (hij : i ≤ j) (hj : j ≤ cs.length) : Step (S i) (S j) := by
  have := traj_step hcall hT (j - i) i (by omega) (traj_wf hcall hT h0 i (by omega))
  rwa [show i + (j - i) = j by omega] at this
theorem traj_up (hcall : ∀ g avs s r s', WfM s → call g avs s = some (r, s') → Step s s') {E : Nat → Env} {S : Nat → Mem} {R : Nat → AV} (hT : Traj call cs E S R) (h0 : WfM (S 0)) : ∀ (d i : Nat), i + d ≤ cs.length → (∀ j co, i ≤ j → j < i + d → cs[j]? = some co → co.up = true) → ∀ q, q < (S i).next → (S (i + d)).get q = (S i).get q := by
  intro d
  induction d with
  | zero => intro i _ _ q _; rfl
  | succ d ih =>
    intro i hi hup q hq
    have hco : cs[i]? = some cs[i] := List.getElem?_eq_getElem (by omega)
    have h1 := valO_step hcall (traj_wf hcall hT h0 i (by omega)) (hT.step i _ hco).1
    have h2 := ih (i + 1) (by omega) (fun j co h1 h2 h3 => hup j co (by omega) (by omega) h3) q (Nat.lt_of_lt_of_le hq h1.1.next)
    rw [show i + (d + 1) = i + 1 + d by omega, h2]
    exact h1.2.1 (hup i _ (Nat.le_refl _) (by omega) hco) q hq
theorem traj_keep (hcall : ∀ g avs s r s', WfM s → call g avs s = some (r, s') → Step s s') {E : Nat → Env} {S : Nat → Mem} {R : Nat → AV} (hT : Traj call cs E S R) (h0 : WfM (S 0)) (q : Nat) : ∀ (d i : Nat), i + d ≤ cs.length → q < (S i).next → (∀ j co, i ≤ j → j < i + d → cs[j]? = some co → co.up = true ∨ q ∈ hideRows (E j) co.hide) → (S (i + d)).get q = (S i).get q := by
  intro d
  induction d with
  | zero => intro i _ _ _; rfl
  | succ d ih =>
    intro i hi hq hup
    have hco : cs[i]? = some cs[i] := List.getElem?_eq_getElem (by omega)
    have h1 := valO_step hcall (traj_wf hcall hT h0 i (by omega)) (hT.step i _ hco).1
    have h2 := ih (i + 1) (by omega) (Nat.lt_of_lt_of_le hq h1.1.next) (fun j co h1 h2 h3 => hup j co (by omega) (by omega) h3)
    rw [show i + (d + 1) = i + 1 + d by omega, h2]
    cases hu : cs[i].up with
    | true => exact h1.2.1 hu q hq
    | false =>
      rcases hup i _ (Nat.le_refl _) (by omega) hco with h | h
      · rw [hu] at h; cases h
      · exact h1.2.2 hu q h
def envL (cs : List COper) (R : Nat → AV) (L : Array Bool) (e : Env) : Nat → Env
  | 0 => e
  | i + 1 => if L.getD i false = true then putO (envL cs R L e i) ((cs[i]?).bind (·.dst)) (R i) else envL cs R L e i
def Once (cs : List COper) : Prop := ∀ (i j : Nat) (p q : COper) (d : Nat), cs[i]? = some p → cs[j]? = some q → p.dst = some d → q.dst = some d → i = j
theorem putO_get (e : Env) (d : Option Nat) (v : AV) (t : Nat) : (putO e d v).get t = if d = some t then v else e.get t := by
  cases d with
  | none => simp [putO]
  | some d =>
    simp only [putO, Env.get_set, Option.some.injEq]
    by_cases h : t = d
    · subst h; simp
    · have : ¬ d = t := fun e => h e.symm
      simp [h, this]
theorem envL_get (hO : Once cs) {R : Nat → AV} {L : Array Bool} {e : Env} (t : Nat) : ∀ (k : Nat), k ≤ cs.length →
    (∀ (i : Nat) (p : COper), i < k → cs[i]? = some p → p.dst = some t → L.getD i false = true → (envL cs R L e k).get t = R i) ∧
    ((∀ (i : Nat) (p : COper), i < k → cs[i]? = some p → p.dst = some t → L.getD i false = false) → (envL cs R L e k).get t = e.get t) := by
  intro k
  induction k with
  | zero => intro _; exact ⟨fun i p h => by omega, fun _ => rfl⟩
  | succ k ih =>
    intro hk
    obtain ⟨ih1, ih2⟩ := ih (by omega)
    have hco : cs[k]? = some cs[k] := List.getElem?_eq_getElem (by omega)
    refine ⟨?_, ?_⟩
    · intro i p hi hp hd hl
      simp only [envL]
      by_cases hik : i = k
      · subst hik
        rw [if_pos hl, putO_get, hp]
        simp [hd]
      · have := ih1 i p (by omega) hp hd hl
        split
        · rw [putO_get, hco]
          simp only [Option.bind_some]
          rw [if_neg]
          · exact this
          · intro hdk
            exact hik (hO i k p cs[k] t hp hco hd hdk)
        · exact this
    · intro hno
      simp only [envL]
      have := ih2 fun i p hi => hno i p (by omega)
      split
      · rename_i hl
        rw [putO_get, hco]
        simp only [Option.bind_some]
        rw [if_neg]
        · exact this
        · intro hdk
          have := hno k _ (by omega) hco hdk
          rw [this] at hl
          cases hl
      · exact this
theorem traj_env (hO : Once cs) {E : Nat → Env} {S : Nat → Mem} {R : Nat → AV} (hT : Traj call cs E S R) (t : Nat) : ∀ (k : Nat), k ≤ cs.length →
    (∀ (i : Nat) (p : COper), i < k → cs[i]? = some p → p.dst = some t → (E k).get t = R i) ∧
    ((∀ (i : Nat) (p : COper), i < k → cs[i]? = some p → p.dst ≠ some t) → (E k).get t = (E 0).get t) := by
  intro k
  induction k with
  | zero => intro _; exact ⟨fun i p h => by omega, fun _ => rfl⟩
  | succ k ih =>
    intro hk
    obtain ⟨ih1, ih2⟩ := ih (by omega)
    have hco : cs[k]? = some cs[k] := List.getElem?_eq_getElem (by omega)
    rw [(hT.step k _ hco).2]
    refine ⟨?_, ?_⟩
    · intro i p hi hp hd
      rw [putO_get]
      by_cases hik : i = k
      · subst hik
        rw [hp] at hco
        obtain rfl := Option.some.inj hco
        rw [if_pos hd]
      · rw [if_neg]
        · exact ih1 i p (by omega) hp hd
        · intro hdk
          exact hik (hO i k p cs[k] t hp hco hd hdk)
    · intro hno
      rw [putO_get, if_neg (hno k _ (by omega) hco)]
      exact ih2 fun i p hi => hno i p (by omega)
theorem reads_parts (h : readsOk (Region.before ops) cs = true) : Once cs ∧ ∀ (i j : Nat) (p q : COper) (t : Nat), cs[i]? = some p → cs[j]? = some q → t ∈ creads p → q.dst = some t → ((Region.before ops).getD i 0).testBit j = true ∨ (i < j ∧ ((Region.before ops).getD j 0).testBit i = true) := by
  have mem : ∀ (i : Nat) (p : COper), cs[i]? = some p → (p, i) ∈ cs.zipIdx := by
    intro i p hp
    rw [List.mem_iff_getElem?]
    exact ⟨i, by rw [List.getElem?_zipIdx, hp]; simp⟩
  refine ⟨?_, ?_⟩
  · intro i j p q d hp hq hdp hdq
    have h1 := List.all_eq_true.mp h _ (mem i p hp)
    simp only [Bool.and_eq_true] at h1
    have h2 := h1.2
    rw [hdp] at h2
    have h3 := List.all_eq_true.mp h2 _ (mem j q hq)
    simp [hdq] at h3
    exact h3.symm
  · intro i j p q t hp hq ht hdq
    have h1 := List.all_eq_true.mp h _ (mem i p hp)
    simp only [Bool.and_eq_true] at h1
    have h2 := List.all_eq_true.mp h1.1 t ht
    have h3 := List.all_eq_true.mp h2 _ (mem j q hq)
    simp only [hdq, beq_self_eq_true, if_true, Bool.or_eq_true, Bool.and_eq_true, Nat.blt_eq] at h3
    exact h3
theorem reads_same (hO : Once cs) (hR : ∀ (i j : Nat) (p q : COper) (t : Nat), cs[i]? = some p → cs[j]? = some q → t ∈ creads p → q.dst = some t → ((Region.before ops).getD i 0).testBit j = true ∨ (i < j ∧ ((Region.before ops).getD j 0).testBit i = true))
    {E : Nat → Env} {S : Nat → Mem} {R : Nat → AV} (hT : Traj call cs E S R) {L : Array Bool} {i : Nat} {p : COper} (hp : cs[i]? = some p) (hi : i < cs.length)
    (hb : ∀ j, ((Region.before ops).getD i 0).testBit j = true → L[j]? = some true ∧ j < i) (ha : ∀ j, ((Region.before ops).getD j 0).testBit i = true → j < cs.length → L.getD j false = false) : ∀ t ∈ creads p, (E i).get t = (envL cs R L (E 0) cs.length).get t := by
  intro t ht
  by_cases hex : ∃ (j : Nat) (q : COper), cs[j]? = some q ∧ q.dst = some t
  · obtain ⟨j, q, hq, hd⟩ := hex
    rcases hR i j p q t hp hq ht hd with hbef | ⟨hij, hbef⟩
    case inr =>
      have hj := (List.getElem?_eq_some_iff.mp hq).1
      rw [(traj_env hO hT t i (by omega)).2 (fun j' q' hj' hq' hd' => by have := hO j' j q' q t hq' hq hd' hd; omega)]
      rw [(envL_get hO t cs.length (Nat.le_refl _)).2 (fun j' q' _ hq' hd' => by have := hO j' j q' q t hq' hq hd' hd; subst this; exact ha j' hbef hj)]
    obtain ⟨h1, h2⟩ := hb j hbef
    rw [(traj_env hO hT t i (by omega)).1 j q h2 hq hd]
    rw [(envL_get hO t cs.length (Nat.le_refl _)).1 j q (List.getElem?_eq_some_iff.mp hq).1 hq hd (by rw [Array.getD_eq_getD_getElem?, h1]; rfl)]
  · rw [(traj_env hO hT t i (by omega)).2 (fun j q _ hq hd => hex ⟨j, q, hq, hd⟩)]
    rw [(envL_get hO t cs.length (Nat.le_refl _)).2 (fun j q _ hq hd => absurd ⟨j, q, hq, hd⟩ hex)]
end
end Go.VI
/- Regions whose order is drawn: whatever is drawn, the text's run tells it. No statement of the seat is proved here. -/
namespace Go.VI
open Go Go.RowKit
section
variable {P : Program} {W0 : World} {n : Nat} {call : CallF} {ops : Array Oper} {cs : List COper} {E : Nat → Env} {S : Nat → Mem} {R : Nat → AV} {m0 : PM} {w0 : World}
structure DInv (W0 : World) (n : Nat) (ops : Array Oper) (cs : List COper) (E : Nat → Env) (S : Nat → Mem) (R : Nat → AV) (m0 : PM) (w0 : World) (L : Array Bool) (a : Act) (w : World) : Prop where
  size : L.size = ops.size
  closed : Closed ops L
  ex : ∃ (m : PM) (k : Nat), k ≤ ops.size ∧ (k = ops.size ∨ L[k]? = some false) ∧
    (∀ (i : Nat) (co : COper), i < k → cs[i]? = some co → co.up = false → L[i]? = some true) ∧
    (∀ i, k ≤ i → i < ops.size → inertAt ops i = false → L[i]? = some false) ∧ (∀ (co : COper), cs[k]? = some co → co.up = false) ∧
    Rel P W0 m (S k) w ∧ (∀ i, i < ops.size → L[i]? = some false → Fresh m (S i) (S (i + 1))) ∧
    EnvOK W0 m n a (envL cs R L (E 0) cs.length) ∧
    (∀ r, (r < (S 0).next ∨ (S ops.size).next ≤ r) → m r = m0 r) ∧
    (∀ b, b < w0.heap.size → w.heap[b]? = w0.heap[b]? ∨ ∃ r pl, m0 r = some pl ∧ pl.blk = b ∧ (S 0).floor ≤ r ∧ r < (S 0).next ∧ ((S 0).get r).isSome = true) ∧
    (∀ r pl, (S 0).next ≤ r → r < (S ops.size).next → m r = some pl → w0.heap.size ≤ pl.blk ∨ ∃ r0 pl0, m0 r0 = some pl0 ∧ pl0.blk = pl.blk ∧ (S 0).floor ≤ r0 ∧ r0 < (S 0).next ∧ ((S 0).get r0).isSome = true) ∧
    w0.heap.size ≤ w.heap.size
theorem L_set {L : Array Bool} {i j : Nat} (hi : i < L.size) : (L.setIfInBounds i true)[j]? = if i = j then some true else L[j]? := by
  rw [Array.getElem?_setIfInBounds]
  split
  · rename_i h; subst h; simp
  · rfl
theorem envL_set (hO : Once cs) {L : Array Bool} {i : Nat} {p : COper} {e : Env} (hL : L.size = cs.length) (hp : cs[i]? = some p) (_hi : L[i]? = some false) (t : Nat) :
    (envL cs R (L.setIfInBounds i true) e cs.length).get t = (putO (envL cs R L e cs.length) p.dst (R i)).get t := by
  have hlt : i < cs.length := (List.getElem?_eq_some_iff.mp hp).1
  have hg : ∀ j, (L.setIfInBounds i true).getD j false = if i = j then true else L.getD j false := by
    intro j
    rw [Array.getD_eq_getD_getElem?, Array.getD_eq_getD_getElem?, L_set (by omega)]
    split <;> rfl
  obtain ⟨a1, a2⟩ := envL_get hO (R := R) (L := L.setIfInBounds i true) (e := e) t cs.length (Nat.le_refl _)
  obtain ⟨b1, b2⟩ := envL_get hO (R := R) (L := L) (e := e) t cs.length (Nat.le_refl _)
  rw [putO_get]
  by_cases hd : p.dst = some t
  · rw [if_pos hd]
    exact a1 i p hlt hp hd (by rw [hg]; simp)
  · rw [if_neg hd]
    by_cases hex : ∃ (j : Nat) (q : COper), cs[j]? = some q ∧ q.dst = some t ∧ L.getD j false = true
    · obtain ⟨j, q, h1, h2, h3⟩ := hex
      have hj := (List.getElem?_eq_some_iff.mp h1).1
      rw [a1 j q hj h1 h2 (by rw [hg]; split <;> first | rfl | exact h3), b1 j q hj h1 h2 h3]
    · rw [a2, b2]
      · intro j q _ h1 h2
        cases h : L.getD j false with
        | false => rfl
        | true => exact absurd ⟨j, q, h1, h2, h⟩ hex
      · intro j q _ h1 h2
        rw [hg]
        split
        · rename_i hij
          subst hij
          rw [hp] at h1
          obtain rfl := Option.some.inj h1
          exact absurd h2 hd
        · cases h : L.getD j false with
          | false => rfl
          | true => exact absurd ⟨j, q, h1, h2, h⟩ hex
theorem EnvOK.get_congr {W0 : World} {m : PM} {n : Nat} {a : Act} {e e' : Env} (h : EnvOK W0 m n a e) (hg : ∀ t, e'.get t = e.get t) : EnvOK W0 m n a e' :=
  ⟨h.size, h.defers, fun t => by rw [hg]; exact h.get t⟩
theorem inertC_step {call : CallF} {c : COp} {e : Env} {s s' : Mem} {r : AV} (hi : inertC c = true) (h : stepOp call c e s = some (r, s')) : s' = s ∧ ∀ s2, stepOp call c e s2 = some (r, s2) := by
  have fin : ∀ (x : Option AV), (x.map fun v => (v, s)) = some (r, s') → s' = s ∧ ∀ s2 : Mem, (x.map fun v => (v, s2)) = some (r, s2) := by
    intro x h
    obtain ⟨v, rfl, h2⟩ := Option.map_eq_some_iff.mp h
    obtain ⟨rfl, rfl⟩ := Prod.mk.inj h2
    exact ⟨rfl, fun _ => rfl⟩
  have one : ∀ (v : AV), some (v, s) = some (r, s') → s' = s ∧ ∀ s2 : Mem, some (v, s2) = some (r, s2) := by
    intro v h
    obtain ⟨rfl, rfl⟩ := Prod.mk.inj (Option.some.inj h)
    exact ⟨rfl, fun _ => rfl⟩
  cases c <;> first | (simp [inertC] at hi; done) | skip
  all_goals clear hi
  case mv => exact one _ h
  case ifc => exact one _ h
  case fn => exact one _ h
  case beq => simp only [stepOp] at h ⊢; cases hq : eqA _ _ _ <;> simp only [hq] at h ⊢ <;> first | (cases h; done) | exact one _ h
  case len => simp only [stepOp] at h ⊢; cases hq : lenA _ _ <;> simp only [hq] at h ⊢ <;> first | (cases h; done) | exact one _ h
  case cap => simp only [stepOp] at h ⊢; cases hq : capA _ <;> simp only [hq] at h ⊢ <;> first | (cases h; done) | exact one _ h
  case build => simp only [stepOp] at h ⊢; cases hq : fillParts _ _ _ <;> simp only [hq] at h ⊢ <;> first | (cases h; done) | exact one _ h
  case pick => simp only [stepOp] at h ⊢; split at h <;> first | (cases h; done) | exact one _ h
  case nilCheck => simp only [stepOp] at h ⊢; split at h <;> first | (cases h; done) | exact one _ h
  case fieldAddr => simp only [stepOp] at h ⊢; split at h <;> first | (cases h; done) | exact one _ h
  case ibin => simp only [stepOp] at h ⊢; split at h <;> first | (cases h; done) | exact fin _ h
  case sbin => simp only [stepOp] at h ⊢; split at h <;> first | (cases h; done) | exact fin _ h
  case un => simp only [stepOp] at h ⊢; split at h <;> first | (cases h; done) | exact one _ h
  case ext => simp only [stepOp] at h ⊢; split at h <;> first | (cases h; done) | exact fin _ h
  case mnmx => simp only [stepOp] at h ⊢; split at h <;> first | (cases h; done) | exact fin _ h
  case cutS =>
    simp only [stepOp, Option.bind_eq_bind] at h ⊢
    obtain ⟨l, hl, h⟩ := Option.bind_eq_some_iff.mp h
    obtain ⟨k, hk, h⟩ := Option.bind_eq_some_iff.mp h
    simp only [hl, hk, Option.bind_some]
    split at h
    · split at h
      · rename_i hc; simp only [if_pos hc]; exact one _ h
      · cases h
    · split at h
      · rename_i hc; simp only [if_pos hc]; exact one _ h
      · cases h
    · split at h
      · rename_i hc; simp only [if_pos hc]; exact one _ h
      · cases h
    · split at h
      · rename_i hc; simp only [if_pos hc]; exact one _ h
      · cases h
    · cases h
  case cutT =>
    simp only [stepOp, Option.bind_eq_bind] at h ⊢
    obtain ⟨l, hl, h⟩ := Option.bind_eq_some_iff.mp h
    obtain ⟨k, hk, h⟩ := Option.bind_eq_some_iff.mp h
    simp only [hl, hk, Option.bind_some]
    split at h
    · split at h
      · rename_i hc; simp only [if_pos hc]; exact one _ h
      · cases h
    · cases h
  case cut3 => simp only [stepOp] at h ⊢; exact fin _ h
  case ixA => simp only [stepOp] at h ⊢; exact fin _ h
  case atP => simp only [stepOp] at h ⊢; exact fin _ h
  case field =>
    simp only [stepOp, Option.bind_eq_bind] at h ⊢
    split at h
    · obtain ⟨l, hl, h⟩ := Option.bind_eq_some_iff.mp h
      obtain ⟨k, hk, h⟩ := Option.bind_eq_some_iff.mp h
      simp only [hl, hk, Option.bind_some]
      exact one _ h
    · cases h
  case at_ =>
    simp only [stepOp, Option.bind_eq_bind] at h ⊢
    split at h
    · obtain ⟨l, hl, h⟩ := Option.bind_eq_some_iff.mp h
      simp only [hl, Option.bind_some]
      split at h
      · obtain ⟨k, hk, h⟩ := Option.bind_eq_some_iff.mp h
        simp only [hk, Option.bind_some]
        split at h
        · rename_i hc; simp only [if_pos hc]; exact one _ h
        · cases h
      · split at h
        · rename_i hc; simp only [if_pos hc]; exact one _ h
        · cases h
      · cases h
    · cases h
  case atT =>
    simp only [stepOp, Option.bind_eq_bind] at h ⊢
    split at h
    · obtain ⟨l, hl, h⟩ := Option.bind_eq_some_iff.mp h
      obtain ⟨k, hk, h⟩ := Option.bind_eq_some_iff.mp h
      simp only [hl, hk, Option.bind_some]
      exact one _ h
    · cases h
def Late (P : Program) (n : Nat) (ops : Array Oper) (j : Nat) (co : COper) : Prop := ∃ x, lateOk P n ops j = some x ∧ x ∈ co.hide
theorem total_of_up (hall : ∀ (i : Nat) (o : Oper) (co : COper), ops[i]? = some o → cs[i]? = some co → ∃ u, (ups P n ops true)[i]? = some u ∧ cOper P n ops u o = some co) {i : Nat} {o : Oper} {co : COper} (ho : ops[i]? = some o) (hc : cs[i]? = some co) (hu : co.up = false) :
    inertAt ops i = false ∧ (∀ j, j < i → inertAt ops j = false → ((Region.before ops).getD i 0).testBit j = true ∨ Late P n ops j co) ∧ ∀ j, i < j → j < ops.size → inertAt ops j = false → ((Region.before ops).getD j 0).testBit i = true := by
  obtain ⟨u, h1, h2⟩ := hall i o co ho hc
  obtain ⟨_, _, ⟨p3, p5⟩, _⟩ := cOper_parts h2
  rw [p3] at hu
  have hi : i < ops.size := (Array.getElem?_eq_some_iff.mp ho).1
  simp only [ups, if_true] at h1
  rw [List.getElem?_map, List.getElem?_range hi, Option.map_some] at h1
  have h1 := Option.some.inj h1
  split at h1
  · subst h1; cases hu
  rename_i hni
  have hni : inertAt ops i = false := by simpa using hni
  split at h1
  · rename_i ht
    unfold total at ht
    have ht := List.all_eq_true.mp ht
    refine ⟨hni, fun j hj hj3 => .inl ?_, fun j hj hj2 hj3 => ?_⟩
    · have := ht j (by simp; omega)
      simpa [hj, hj3] using this
    · have := ht j (by simpa using hj2)
      have hn : ¬ j < i := by omega
      simpa [hn, hj, hj3] using this
  · rw [ho] at h1
    simp only at h1
    split at h1
    · split at h1
      · rename_i l hl
        subst h1
        unfold totalL at hl
        split at hl
        · rename_i ha
          have ha := List.all_eq_true.mp ha
          refine ⟨hni, fun j hj hj3 => ?_, fun j hj hj2 hj3 => ?_⟩
          · cases hb : ((Region.before ops).getD i 0).testBit j with
            | true => exact .inl rfl
            | false =>
              right
              have hm : j ∈ lates ops (Region.before ops) i := by
                simp only [lates, List.mem_filter, List.mem_range, hj3, hb]
                exact ⟨hj, rfl⟩
              obtain ⟨k, hk⟩ := List.mem_iff_getElem?.mp hm
              obtain ⟨g1, g2⟩ := mapM_some hl
              have hlt : k < l.length := by
                have := (List.getElem?_eq_some_iff.mp hk).1
                omega
              have := g2 k j _ hk (List.getElem?_eq_getElem hlt)
              exact ⟨_, this, by rw [p5]; exact List.getElem_mem hlt⟩
          · have := ha j (by simpa using hj2)
            have hn : ¬ j ≤ i := by omega
            simpa [hn, hj3, Nat.ble_eq] using this
        · cases hl
      · subst h1; cases hu
    · subst h1; cases hu
theorem up_of_inert (hall : ∀ (i : Nat) (o : Oper) (co : COper), ops[i]? = some o → cs[i]? = some co → ∃ u, (ups P n ops true)[i]? = some u ∧ cOper P n ops u o = some co) {i : Nat} {o : Oper} {co : COper} (ho : ops[i]? = some o) (hc : cs[i]? = some co) (hi : inertAt ops i = true) : co.up = true := by
  obtain ⟨u, h1, h2⟩ := hall i o co ho hc
  obtain ⟨_, _, ⟨p3, _⟩, _⟩ := cOper_parts h2
  have hlt : i < ops.size := (Array.getElem?_eq_some_iff.mp ho).1
  simp only [ups, if_true] at h1
  rw [List.getElem?_map, List.getElem?_range hlt, Option.map_some, if_pos hi] at h1
  rw [p3, ← Option.some.inj h1]
theorem inert_step {n : Nat} {u : Bool × List Opd} {o : Oper} {co : COper} {rs : List Nat} {e : Env} {s s' : Mem} {r : AV} (hup : co.up = true) (hc : cOper P n ops u o = some co) (hi : inertO o.op = true) (h : valR call co rs e s = some (r, s')) : s' = s ∧ ∀ s2, valR call co rs e s2 = some (r, s2) := by
  have hk := cOper_inert hc hup hi
  have key : ∀ (s s' : Mem) (r : AV), stepOp call co.op e s = some (r, s') → s' = s ∧ ∀ s2, stepOp call co.op e s2 = some (r, s2) := by
    intro s s' r h
    exact inertC_step hk h
  unfold valR at h ⊢
  split at h
  · rename_i hw
    simp only [hw, if_true]
    try simp only at h
    obtain ⟨⟨r1, s1⟩, h1, h2⟩ := Option.map_eq_some_iff.mp h
    obtain ⟨rfl, rfl⟩ := Prod.mk.inj h2
    obtain ⟨k1, k2⟩ := key _ _ _ h1
    refine ⟨by rw [k1], fun s2 => ?_⟩
    simp only [hup, if_true, k2, Option.map_some]
  · rename_i hw
    obtain ⟨rfl, rfl⟩ := Prod.mk.inj (Option.some.inj h)
    exact ⟨rfl, fun s2 => by simp [hw]⟩
theorem float_step {co : COper} {rs hs : List Nat} {e : Env} {s s' : Mem} {r : AV} (hup : co.up = true) (hfl : floatC co.op = true) (hld : ∀ agg sz a q, co.op = .load agg sz a → wantedA co e = true → rowOf (ev e a) = some q → q ∉ hs) (hlt : ∀ q ∈ hs, q < s.next) (h : valR call co rs e s = some (r, s')) :
    ∃ s2, valR call co rs e (s.hide hs) = some (r, s2) ∧ s2.next = s'.next ∧ s2.floor = s'.floor ∧ (∀ q, s2.get q = if q ∈ hs then none else s'.get q) ∧
      ((∃ agg sz a, co.op = .load agg sz a) ∨ (wantedA co e = false) ∨ (s'.next = s.next + 1 ∧ rowOf r = some s.next)) ∧ ((∃ agg sz a, co.op = .load agg sz a) ∨ wantedA co e = false → s' = s) := by
  have hn : (s.hide hs).next = s.next := next_hide hs s
  have hf : (s.hide hs).floor = s.floor := floor_hide hs s
  have push : ∀ x : Row, ∀ q, ((s.hide hs).push x).get q = if q ∈ hs then none else (s.push x).get q := by
    intro x q
    rw [Mem.get_push, Mem.get_push, hn, get_hide]
    by_cases h1 : q = s.next
    · rw [if_pos h1, if_pos h1]
      by_cases h2 : q ∈ hs
      · have := hlt q h2; omega
      · rw [if_neg h2]
    · rw [if_neg h1, if_neg h1]
  unfold valR at h ⊢
  by_cases hw : wantedA co e = true
  · rw [if_pos hw, if_pos hup] at h ⊢
    obtain ⟨⟨v, s1⟩, h1, h2⟩ := Option.map_eq_some_iff.mp h
    obtain ⟨rfl, rfl⟩ := Prod.mk.inj h2
    clear h h2
    have made : ∀ (x : Row) (val : Nat → AV), (∀ M : Mem, stepOp call co.op e M = some (val M.next, M.push x)) → (∀ n, rowOf (val n) = some n) → (¬ ∃ agg sz a, co.op = .load agg sz a) →
        ∃ s2, Option.map (fun p => (p.1, ({ p.2 with floor := (s.hide hs).floor } : Mem))) (stepOp call co.op e { s.hide hs with floor := (s.hide hs).next }) = some (v, s2) ∧ s2.next = ({ s1 with floor := s.floor } : Mem).next ∧ s2.floor = s.floor ∧ (∀ q, s2.get q = if q ∈ hs then none else ({ s1 with floor := s.floor } : Mem).get q) ∧
          ((∃ agg sz a, co.op = .load agg sz a) ∨ (wantedA co e = false) ∨ (({ s1 with floor := s.floor } : Mem).next = s.next + 1 ∧ rowOf v = some s.next)) ∧ ((∃ agg sz a, co.op = .load agg sz a) ∨ wantedA co e = false → ({ s1 with floor := s.floor } : Mem) = s) := by
      intro x val hM hv hno
      rw [hM] at h1
      obtain ⟨rfl, rfl⟩ := Prod.mk.inj (Option.some.inj h1)
      refine ⟨{ (s.hide hs).push x with floor := (s.hide hs).floor }, ?_, ?_, hf, push x, .inr (.inr ⟨rfl, hv _⟩), ?_⟩
      · rw [hM]
        show some (val (s.hide hs).next, _) = _
        rw [hn]; rfl
      · show (s.hide hs).next + 1 = s.next + 1; rw [hn]
      · rintro (h | h)
        · exact absurd h hno
        · rw [hw] at h; cases h
    cases hop : co.op <;> rw [hop] at hfl <;> simp only [floatC] at hfl <;> first | (cases hfl; done) | skip
    case new ty cs =>
      rw [hop] at made h1
      exact made ⟨ty, cs.length, [cs]⟩ (fun n => .ptr n 0 0) (fun M => rfl) (fun n => rfl) (by rintro ⟨_, _, _, h⟩; cases h)
    case box ty x =>
      rw [hop] at made h1
      have hc : (cells (ev e x)).all isCell = true := by
        simp only [stepOp] at h1
        split at h1
        · assumption
        · cases h1
      exact made ⟨ty, (cells (ev e x)).length, [cells (ev e x)]⟩ (fun n => .ptr n 0 0) (fun M => by simp only [stepOp]; rw [if_pos hc]) (fun n => rfl) (by rintro ⟨_, _, _, h⟩; cases h)
    case lit ty sz zero len parts =>
      rw [hop] at made h1
      have hlen : len ≠ 0 := by
        intro h; subst h; simp at hfl
      cases hfi : fillLit sz e parts (List.replicate len zero) with
      | none => simp only [stepOp, hfi, Option.map_none] at h1; cases h1
      | some es =>
        exact made ⟨ty, sz, es⟩ (fun n => litV n len sz) (fun M => by simp only [stepOp, hfi, Option.map_some]) (fun n => by simp only [litV]; cases len with | zero => exact absurd rfl hlen | succ k => rfl) (by rintro ⟨_, _, _, h⟩; cases h)
    case load agg sz a =>
      rw [hop] at h1
      simp only [stepOp] at h1 ⊢
      obtain ⟨x, h3, h4⟩ := Option.map_eq_some_iff.mp h1
      obtain ⟨rfl, rfl⟩ := Prod.mk.inj h4
      have hl : loadA { s.hide hs with floor := (s.hide hs).next } agg sz (ev e a) = some x := by
        rw [← h3]
        cases hv : ev e a <;> first | rfl | skip
        rename_i q i o
        have hq := hld agg sz a q hop hw (by rw [hv]; rfl)
        have hg : ({ s.hide hs with floor := (s.hide hs).next } : Mem).get q = ({ s with floor := s.next } : Mem).get q := by
          show (s.hide hs).get q = s.get q
          rw [get_hide, if_neg hq]
        simp only [loadA, hg]
      exact ⟨s.hide hs, by rw [hl]; rfl, hn, hf, fun q => get_hide hs s q, .inl ⟨_, _, _, rfl⟩, fun _ => rfl⟩
  · rw [if_neg hw] at h ⊢
    obtain ⟨rfl, rfl⟩ := Prod.mk.inj (Option.some.inj h)
    exact ⟨_, rfl, hn, hf, fun q => get_hide hs s q, .inr (.inl (by simpa using hw)), fun _ => rfl⟩
theorem next_bar : ∀ (d k : Nat), k + d = ops.size → ∃ k', k ≤ k' ∧ k' ≤ ops.size ∧ (∀ j co, k ≤ j → j < k' → cs[j]? = some co → co.up = true) ∧ (k' = ops.size ∨ ∃ co, cs[k']? = some co ∧ co.up = false) := by
  intro d
  induction d with
  | zero => intro k hk; exact ⟨k, Nat.le_refl _, by omega, fun j co h1 h2 => by omega, .inl (by omega)⟩
  | succ d ih =>
    intro k hk
    cases hc : cs[k]? with
    | none =>
      obtain ⟨k', h1, h2, h3, h4⟩ := ih (k + 1) (by omega)
      refine ⟨k', by omega, h2, ?_, h4⟩
      intro j co h5 h6 h7
      by_cases hjk : j = k
      · subst hjk; rw [hc] at h7; cases h7
      · exact h3 j co (by omega) h6 h7
    | some co =>
      cases hu : co.up with
      | false => exact ⟨k, Nat.le_refl _, by omega, fun j co h1 h2 => by omega, .inr ⟨co, hc, hu⟩⟩
      | true =>
        obtain ⟨k', h1, h2, h3, h4⟩ := ih (k + 1) (by omega)
        refine ⟨k', by omega, h2, ?_, h4⟩
        intro j co' h5 h6 h7
        by_cases hjk : j = k
        · subst hjk; rw [hc] at h7; obtain rfl := Option.some.inj h7; exact hu
        · exact h3 j co' (by omega) h6 h7
theorem draw_step (hC : CallOK P W0 call) (hcs : cs.length = ops.size) (hall : ∀ (i : Nat) (o : Oper) (co : COper), ops[i]? = some o → cs[i]? = some co → ∃ u, (ups P n ops true)[i]? = some u ∧ cOper P n ops u o = some co)
    (hE : edgesOk ops = true) (hR : readsOk (Region.before ops) cs = true) (hT : Traj call cs E S R) (h0 : WfM (S 0)) {L : Array Bool} {a : Act} {w : World} {Q : Exit → Act → World → Prop}
    (hD : DInv (P := P) W0 n ops cs E S R m0 w0 L a w) {i : Nat} {o : Oper} (ho : ops[i]? = some o) (hi : L[i]? = some false) (hw : ∀ e ∈ o.after.toList, Region.binds .any e = true → L[e.on]? = some true) :
    wpOp P ops Q i (fun a' w' => DInv (P := P) W0 n ops cs E S R m0 w0 (L.setIfInBounds i true) a' w') a w := by
  obtain ⟨hsz, hcl, m, k, hk, hkL, hbar, hgt, hkup, hrel, hfr, henv, hsame, hframe, hfresh, hsize⟩ := hD
  obtain ⟨hO, hrd⟩ := reads_parts hR
  have hin : i < ops.size := (Array.getElem?_eq_some_iff.mp ho).1
  have hco : cs[i]? = some cs[i] := List.getElem?_eq_getElem (by omega)
  obtain ⟨u, hu, hc⟩ := hall i o _ ho hco
  have hbef := closed_bef hE hcl i o ho hw
  have haft : ∀ j, ((Region.before ops).getD j 0).testBit i = true → j < cs.length → L.getD j false = false := by
    intro j hb hj
    cases hl : L[j]? with
    | none => rw [Array.getD_eq_getD_getElem?, hl]; rfl
    | some b =>
      cases b with
      | false => rw [Array.getD_eq_getD_getElem?, hl]; rfl
      | true =>
        have hoj : ops[j]? = some (ops[j]'(by omega)) := by simp
        have := (closed_bef hE hcl j _ hoj (fun e he hbd => hcl j _ hoj hl e he hbd) i hb).1
        rw [hi] at this; cases this
  have hval := (hT.step i _ hco).1
  have hstep := (valO_step hC.step (traj_wf hC.step hT h0 i (by omega)) hval)
  replace hval : valR call cs[i] (hideRows (E i) cs[i].hide) (envL cs R L (E 0) cs.length) (S i) = some (R i, S (i + 1)) := by
    rw [← valR_congr (reads_same hO hrd hT hco (by omega) hbef haft)]; exact hval
  have hnext0 := (traj_to hC.step hT h0 (Nat.zero_le i) (by omega)).next
  have hnextn := (traj_to hC.step hT h0 (show i + 1 ≤ ops.size by omega) (by omega)).next
  have hfloor := (traj_to hC.step hT h0 (Nat.zero_le i) (by omega)).floor
  have hin1 := hstep.1.next
  have hLi : i < L.size := by omega
  have hset := fun j => L_set (L := L) (i := i) (j := j) hLi
  have hclosed' : Closed ops (L.setIfInBounds i true) := by
    intro j o' hj hl e he hb
    rw [hset]
    split
    · rfl
    · rename_i hne
      rw [hset] at hl
      split at hl
      · rename_i hij
        subst hij
        rw [ho] at hj
        obtain rfl := Option.some.inj hj
        exact hw e he hb
      · exact hcl j o' hj hl e he hb
  have hLenv : ∀ t, (envL cs R (L.setIfInBounds i true) (E 0) cs.length).get t = (putO (envL cs R L (E 0) cs.length) cs[i].dst (R i)).get t := envL_set hO (by omega) hco hi
  obtain ⟨p1, p2, p3, p4⟩ := cOper_parts hc
  cases hiner : inertAt ops i with
  | true =>
    have hio : inertO o.op = true := by simpa [inertAt, ho] using hiner
    obtain ⟨hSS, hany⟩ := inert_step (up_of_inert hall ho hco hiner) hc hio hval
    have hvk := hany (S k)
    refine oper_ok hC ho hc hvk hrel (fun r q1 q2 => absurd q2 (by omega)) henv ?_
    intro v m' w' hA hupf hupb hV
    have hmm : ∀ r, m' r = m r := fun r => hA.same r (by omega)
    have hsub : ∀ r pl, m r = some pl → m' r = some pl := fun r pl h => by rw [hmm]; exact h
    have hfloork := (traj_to hC.step hT h0 (Nat.zero_le k) (by omega)).floor
    have hnextk := (traj_to hC.step hT h0 (show k ≤ ops.size by omega) (by omega)).next
    refine ⟨by simp [hsz], hclosed', m', k, hk, ?_, ?_, ?_, hkup, hA.rel, ?_, ?_, ?_, ?_, ?_, Nat.le_trans hsize hA.size⟩
    · rcases hkL with h | h
      · exact .inl h
      · by_cases hkn : k = ops.size
        · exact .inl hkn
        · right
          rw [hset, if_neg, h]
          rintro rfl
          have hkc : cs[i]? = some cs[i] := hco
          have ht := (total_of_up hall ho hkc (hkup _ hkc)).1
          rw [hiner] at ht; cases ht
    · intro j co h1 h2 h3
      rw [hset]
      split
      · rfl
      · exact hbar j co h1 h2 h3
    · intro j h1 h2 h3
      rw [hset, if_neg]
      · exact hgt j h1 h2 h3
      · rintro rfl; rw [hiner] at h3; cases h3
    · intro j hj hjL
      rw [hset] at hjL
      split at hjL
      · cases hjL
      intro r h1 h2
      rw [hmm]; exact hfr j hj hjL r h1 h2
    · have := (henv.mono hsub).put (d := o.dst) p4 hV
      rw [← p2] at this
      have h2 := this.get_congr hLenv
      rw [p2] at h2
      exact h2
    · intro r hr
      rw [hmm]; exact hsame r hr
    · intro b hb
      rcases hA.frame b (Nat.lt_of_lt_of_le hb hsize) with h | ⟨r, pl, h1, h2, h3, h4, h5⟩
      · rw [h]; exact hframe b hb
      · right
        by_cases hr : r < (S 0).next
        · exact ⟨r, pl, by rw [← hsame r (.inl hr)]; exact h1, h2, hfloork ▸ h3, hr, (traj_to hC.step hT h0 (Nat.zero_le k) (by omega)).live hr h5⟩
        · rcases hfresh r pl (by omega) (by omega) h1 with h | ⟨r0, pl0, q1, q2, q3, q4⟩
          · omega
          · exact ⟨r0, pl0, q1, q2.trans h2, q3, q4⟩
    · intro r pl h1 h2 h3
      rw [hmm] at h3
      exact hfresh r pl h1 h2 h3
  | false =>
  have hnotk : ¬ k < i := by
    intro hlt
    have hko : ops[k]? = some ops[k] := by simp
    have hkc : cs[k]? = some cs[k] := List.getElem?_eq_getElem (by omega)
    have ht := (total_of_up hall hko hkc (hkup _ hkc)).2.2 i hlt hin hiner
    have := (hbef k ht).1
    rcases hkL with h | h
    · omega
    · rw [h] at this; cases this
  have relAt : i ≤ k → (∀ j co, i ≤ j → j < k → cs[j]? = some co → co.up = true) → Rel P W0 m (S i) w := by
    intro hik hups
    have hup := traj_up hC.step hT h0 (k - i) i (by omega) (fun j co h1 h2 h3 => hups j co h1 (by omega) h3)
    rw [show i + (k - i) = k by omega] at hup
    have hwf := traj_wf hC.step hT h0 i (by omega)
    have tr : ∀ r row, (S i).get r = some row → (S k).get r = some row := by
      intro r row h
      rw [hup r (hwf.lt h)]; exact h
    exact ⟨hrel.below, hwf, fun r pl row h1 h2 => hrel.row r pl row h1 (tr r row h2), hrel.blk, fun r r' pl pl' row row' h1 h2 h3 h4 h5 => hrel.inj r r' pl pl' row row' h1 h2 (tr _ _ h3) (tr _ _ h4) h5⟩
  have hik : i ≤ k := by omega
  have late : ∀ j co, i ≤ j → j < k → cs[j]? = some co → co.up = true ∨ Late P n ops i co := by
    intro j co h1 h2 h3
    cases hu4 : co.up with
    | true => exact .inl rfl
    | false =>
      right
      have hjL := hbar j co h2 h3 hu4
      have hne : i ≠ j := by
        rintro rfl
        rw [hi] at hjL; cases hjL
      have hjo : ops[j]? = some ops[j] := by have := (List.getElem?_eq_some_iff.mp h3).1; simp
      rcases (total_of_up hall hjo h3 hu4).2.1 i (by omega) hiner with ht | ht
      · exfalso
        have := (closed_bef hE hcl j _ hjo (hcl j _ hjo hjL) i ht).1
        rw [hi] at this; cases this
      · exact ht
  by_cases hallup : ∀ j co, i ≤ j → j < k → cs[j]? = some co → co.up = true
  case neg =>
    have hex : ∃ j co, i ≤ j ∧ j < k ∧ cs[j]? = some co ∧ co.up = false := by
      apply Classical.byContradiction
      intro hno
      apply hallup
      intro j co h1 h2 h3
      cases hu : co.up with
      | true => rfl
      | false => exact absurd ⟨j, co, h1, h2, h3, hu⟩ hno
    obtain ⟨j0, co0, hj1, hj2, hj3, hj4⟩ := hex
    have hlt : i < k := by omega
    have hup : cs[i].up = true := by
      cases hu : cs[i].up with
      | true => rfl
      | false => have := hbar i _ hlt hco hu; rw [hi] at this; cases this
    obtain ⟨x, hx, _⟩ := (late j0 co0 hj1 hj2 hj3).resolve_left (by rw [hj4]; simp)
    have hlate : ∀ j co, i ≤ j → j < k → cs[j]? = some co → co.up = true ∨ x ∈ co.hide := by
      intro j co h1 h2 h3
      rcases late j co h1 h2 h3 with h | ⟨y, hy, hm⟩
      · exact .inl h
      · rw [hx] at hy; obtain rfl := Option.some.inj hy; exact .inr hm
    obtain ⟨hflo, hopd, hste⟩ : floatC cs[i].op = true ∧ floatOpd cs[i] = some x ∧ steady ops i cs[i].op = true := by
      have hl := hx
      unfold lateOk at hl
      rw [ho] at hl
      simp only at hl
      split at hl
      · rename_i c2 hc2
        obtain ⟨q1, q2, _, _⟩ := cOper_parts hc2
        rw [p1] at q1
        have e1 : cs[i].op = c2.op := Option.some.inj q1
        have e2 : cs[i].dst = c2.dst := p2.trans q2.symm
        split at hl
        · rename_i hf2
          split at hl
          · rename_i y hy
            split at hl
            · rename_i hs2
              obtain rfl := Option.some.inj hl
              rw [e1]
              refine ⟨hf2, ?_, hs2⟩
              unfold floatOpd at hy ⊢
              rw [e1, e2]; exact hy
            · cases hl
          · cases hl
        · cases hl
      · cases hl
    have hwfi := traj_wf hC.step hT h0 i (by omega)
    have hwk := traj_wf hC.step hT h0 k (by omega)
    have hnik := (traj_to hC.step hT h0 (show i ≤ k by omega) (by omega)).next
    have hni1k := (traj_to hC.step hT h0 (show i + 1 ≤ k by omega) (by omega)).next
    have loads : ∀ agg sz a q, cs[i].op = .load agg sz a → rowOf (ev (E i) a) = some q → q < (S i).next → (S k).get q = (S i).get q := by
      intro agg sz a q h1 h2 h3
      have hxa : x = a := by
        unfold floatOpd at hopd; rw [h1] at hopd; exact (Option.some.inj hopd).symm
      have := traj_keep hC.step hT h0 q (k - i) i (by omega) h3 (by
        intro j co g1 g2 g3
        rcases hlate j co g1 (by omega) g3 with h | h
        · exact .inl h
        · right
          refine mem_hideRows h ?_
          rw [hxa]
          have : ev (E j) a = ev (E i) a := by
            refine ev_congr fun t ht => ?_
            cases a with
            | c v => simp [otmp] at ht
            | t t2 =>
              simp only [otmp, List.mem_singleton] at ht
              subst ht
              rw [h1] at hste
              simp only [steady] at hste
              have hno : ∀ k2 co2, i ≤ k2 → cs[k2]? = some co2 → co2.dst ≠ some t := by
                intro k2 co2 g4 g5 g6
                have hk2 : k2 < ops.size := by have := (List.getElem?_eq_some_iff.mp g5).1; omega
                have g7 := List.all_eq_true.mp hste k2 (by simpa using hk2)
                have hok : ops[k2]? = some ops[k2] := by simp
                obtain ⟨u2, _, g8⟩ := hall k2 _ _ hok g5
                have g9 := (cOper_parts g8).2.1
                rw [hok] at g7
                simp only [← g9, g6] at g7
                have hnb : Nat.blt k2 i = false := by
                  cases hb : Nat.blt k2 i with
                  | false => rfl
                  | true => rw [Nat.blt_eq] at hb; omega
                rw [hnb] at g7
                simp at g7
              have := (traj_env hO hT t j (by omega))
              by_cases hw2 : ∃ k2 p2, k2 < i ∧ cs[k2]? = some p2 ∧ p2.dst = some t
              · obtain ⟨k2, p2, w1, w2, w3⟩ := hw2
                rw [(traj_env hO hT t j (by omega)).1 k2 p2 (by omega) w2 w3, (traj_env hO hT t i (by omega)).1 k2 p2 w1 w2 w3]
              · rw [(traj_env hO hT t j (by omega)).2 (fun k2 p2 w1 w2 w3 => by
                    by_cases hk2 : k2 < i
                    · exact hw2 ⟨k2, p2, hk2, w2, w3⟩
                    · exact hno k2 p2 (by omega) w2 w3),
                  (traj_env hO hT t i (by omega)).2 (fun k2 p2 w1 w2 w3 => hw2 ⟨k2, p2, w1, w2, w3⟩)]
          rw [this]; exact h2)
      rw [show i + (k - i) = k by omega] at this
      exact this
    have makes : ∀ q, (¬ ∃ agg sz a, cs[i].op = .load agg sz a) → rowOf (R i) = some q → q < (S (i + 1)).next → (S k).get q = (S (i + 1)).get q := by
      intro q h1 h2 h3
      have hxd : ∃ d, cs[i].dst = some d ∧ x = .t d := by
        unfold floatOpd at hopd
        split at hopd
        · rename_i agg sz a hl; exact absurd ⟨agg, sz, a, hl⟩ h1
        · obtain ⟨d, q1, q2⟩ := Option.map_eq_some_iff.mp hopd
          exact ⟨d, q1, q2.symm⟩
      obtain ⟨d, hd, rfl⟩ := hxd
      have := traj_keep hC.step hT h0 q (k - (i + 1)) (i + 1) (by omega) h3 (by
        intro j co g1 g2 g3
        rcases hlate j co (by omega) (by omega) g3 with h | h
        · exact .inl h
        · right
          refine mem_hideRows h ?_
          show rowOf ((E j).get d) = some q
          rw [(traj_env hO hT d j (by omega)).1 i _ (by omega) hco hd]; exact h2)
      rw [show i + 1 + (k - (i + 1)) = k by omega] at this
      exact this
    obtain ⟨hs, hhs⟩ : ∃ hs : List Nat, ∀ q, q ∈ hs ↔ q < (S i).next ∧ (S k).get q ≠ (S i).get q := by
      refine ⟨(List.range (S i).next).filter fun q => @decide ((S k).get q ≠ (S i).get q) (Classical.propDecidable _), fun q => ?_⟩
      simp only [List.mem_filter, List.mem_range, decide_eq_true_eq]
    have hrelT : Rel P W0 m ((S i).hide hs) w := by
      have lv : ∀ r row, ((S i).hide hs).get r = some row → (S k).get r = some row := by
        intro r row h
        rw [get_hide] at h
        split at h
        · cases h
        · rename_i hm
          have hr := hwfi.lt h
          rw [hhs] at hm
          have : (S k).get r = (S i).get r := Classical.byContradiction fun hc => hm ⟨hr, hc⟩
          rw [this]; exact h
      exact ⟨hrel.below, hwfi.hide hs, fun r pl row h1 h2 => hrel.row r pl row h1 (lv r row h2), hrel.blk, fun r r' pl pl' row row' h1 h2 h3 h4 h5 => hrel.inj r r' pl pl' row row' h1 h2 (lv _ _ h3) (lv _ _ h4) h5⟩
    have hreads := reads_same hO hrd hT hco (by omega) hbef haft
    obtain ⟨s2, hs2, hn2, hf2, hg2, hkind, hsm⟩ := float_step (hs := hs) hup hflo (by
      intro agg sz a q h1 _ h2 hm
      obtain ⟨g1, g2⟩ := (hhs q).mp hm
      have : ev (envL cs R L (E 0) cs.length) a = ev (E i) a := (ev_congr fun t ht => hreads t (by simp only [creads, h1, ctmps, List.mem_append]; exact .inl ht)).symm
      rw [this] at h2
      exact g2 (loads agg sz a q h1 h2 g1)) (fun q hq => ((hhs q).mp hq).1) hval
    have hTn : ((S i).hide hs).next = (S i).next := next_hide hs _
    have hTf : ((S i).hide hs).floor = (S i).floor := floor_hide hs _
    refine oper_ok hC ho hc hs2 hrelT (fun q g1 g2 => hfr i hin hi q (by omega) (by omega)) henv ?_
    intro v m' w' hA hupf hupb hV
    have fsame : ∀ r, (r < (S i).next ∨ (S (i + 1)).next ≤ r) → m' r = m r := fun r hr => hA.same r (by rw [hTn, hn2]; exact hr)
    have hsub : ∀ r pl, m r = some pl → m' r = some pl := by
      intro r pl hr
      by_cases h1 : (S i).next ≤ r ∧ r < (S (i + 1)).next
      · have := hfr i hin hi r h1.1 h1.2; rw [this] at hr; cases hr
      · rw [fsame r (by omega)]; exact hr
    have newrow : ∀ r pl row, m' r = some pl → (S k).get r = some row → (S i).next ≤ r → r < (S (i + 1)).next → r = (S i).next ∧ s2.get r = some row := by
      intro r pl row h1 h2 h3 h4
      rcases hkind with h | h | ⟨h, hro⟩
      · have := hsm (.inl h); rw [this] at h4; omega
      · have := hsm (.inr h); rw [this] at h4; omega
      · have hr : r = (S i).next := by omega
        refine ⟨hr, ?_⟩
        have hnl : ¬ ∃ agg sz a, cs[i].op = .load agg sz a := by
          intro hl
          have := hsm (.inl hl); rw [this] at h; omega
        rw [hg2, if_neg (by rw [hhs]; omega), ← makes r hnl (by rw [hr]; exact hro) h4]
        exact h2
    have oldrow : ∀ r pl, m' r = some pl → ¬ ((S i).next ≤ r ∧ r < (S (i + 1)).next) → m r = some pl := by
      intro r pl h1 h2
      rw [← fsame r (by omega)]; exact h1
    have hrel' : Rel P W0 m' (S k) w' := by
      refine ⟨hA.rel.below, hwk, ?_, hA.rel.blk, ?_⟩
      · intro r pl row h1 h2
        by_cases h3 : (S i).next ≤ r ∧ r < (S (i + 1)).next
        · exact hA.rel.row r pl row h1 (newrow r pl row h1 h2 h3.1 h3.2).2
        · have h4 := oldrow r pl h1 h3
          exact (hrel.row r pl row h4 h2).mono hsub (hupf hup _ (hrel.blk r pl h4).2)
      · intro r r' pl pl' row row' h1 h2 h3 h4 h5
        by_cases a1 : (S i).next ≤ r ∧ r < (S (i + 1)).next <;> by_cases a2 : (S i).next ≤ r' ∧ r' < (S (i + 1)).next
        · rw [(newrow r pl row h1 h3 a1.1 a1.2).1, (newrow r' pl' row' h2 h4 a2.1 a2.2).1]
        · exfalso
          have b1 := hupb hup r pl (by omega) (by omega) h1
          have b2 := (hrel.blk r' pl' (oldrow r' pl' h2 a2)).2
          omega
        · exfalso
          have b1 := hupb hup r' pl' (by omega) (by omega) h2
          have b2 := (hrel.blk r pl (oldrow r pl h1 a1)).2
          omega
        · exact hrel.inj r r' pl pl' row row' (oldrow r pl h1 a1) (oldrow r' pl' h2 a2) h3 h4 h5
    refine ⟨by simp [hsz], hclosed', m', k, hk, ?_, ?_, ?_, hkup, hrel', ?_, ?_, ?_, ?_, ?_, Nat.le_trans hsize hA.size⟩
    · rcases hkL with h | h
      · exact .inl h
      · right; rw [hset, if_neg (by omega)]; exact h
    · intro j co h1 h2 h3
      rw [hset]
      split
      · rfl
      · exact hbar j co h1 h2 h3
    · intro j h1 h2 h3
      rw [hset, if_neg (by omega)]
      exact hgt j h1 h2 h3
    · intro j hj hjL
      rw [hset] at hjL
      split at hjL
      · cases hjL
      rename_i hne
      intro r h1 h2
      have hr : r < (S i).next ∨ (S (i + 1)).next ≤ r := by
        by_cases hji : j < i
        · left
          have := (traj_to hC.step hT h0 (show j + 1 ≤ i by omega) (by omega)).next
          omega
        · right
          have := (traj_to hC.step hT h0 (show i + 1 ≤ j by omega) (by omega)).next
          omega
      rw [fsame r hr]
      exact hfr j hj hjL r h1 h2
    · have := (henv.mono hsub).put (d := o.dst) p4 hV
      rw [← p2] at this
      have h2 := this.get_congr hLenv
      rw [p2] at h2
      exact h2
    · intro r hr
      rw [fsame r (by omega)]
      exact hsame r hr
    · intro b hb
      rw [hupf hup b (by omega)]
      exact hframe b hb
    · intro r pl h1 h2 h3
      by_cases hr : (S i).next ≤ r ∧ r < (S (i + 1)).next
      · left
        have := hupb hup r pl (by omega) (by omega) h3
        omega
      · rw [fsame r (by omega)] at h3
        exact hfresh r pl h1 h2 h3
  case pos =>
  have allup := hallup
  have hreli := relAt hik allup
  refine oper_ok hC ho hc hval hreli (hfr i hin hi) henv ?_
  intro v m' w' hA hupf hupb hV
  have hsub := hA.sub (hfr i hin hi)
  obtain ⟨k', hk1, hk2, hk3, hk4⟩ := next_bar (ops := ops) (cs := cs) (ops.size - (if i = k then k + 1 else k)) (if i = k then k + 1 else k) (by split <;> omega)
  have hkeq : i < k → k' = k := by
    intro hlt
    rw [if_neg (by omega)] at hk1 hk3
    by_cases hkk : k' = k
    · exact hkk
    · exfalso
      have hkn : k < ops.size := by omega
      have hkc : cs[k]? = some cs[k] := List.getElem?_eq_getElem (by omega)
      have h1 := hk3 k _ (Nat.le_refl _) (by omega) hkc
      rw [hkup _ hkc] at h1; cases h1
  have upS : ∀ j co, i + 1 ≤ j → j < k' → cs[j]? = some co → co.up = true := by
    intro j co h1 h2 h3
    by_cases hlt : i < k
    · rw [hkeq hlt] at h2; exact allup j co (by omega) h2 h3
    · have : i = k := by omega
      rw [if_pos this] at hk3
      exact hk3 j co (by omega) h2 h3
  have hik' : i + 1 ≤ k' := by
    by_cases hlt : i < k
    · rw [hkeq hlt]; omega
    · have : i = k := by omega
      rw [if_pos this] at hk1; omega
  have hupk := traj_up hC.step hT h0 (k' - (i + 1)) (i + 1) (by omega) (fun j co h1 h2 h3 => upS j co h1 (by omega) h3)
  rw [show i + 1 + (k' - (i + 1)) = k' by omega] at hupk
  have hwf' := traj_wf hC.step hT h0 k' (by omega)
  have hwf1 := traj_wf hC.step hT h0 (i + 1) (by omega)
  have hnk := (traj_to hC.step hT h0 hik' (by omega)).next
  have cases_ : ∀ r pl row, m' r = some pl → (S k').get r = some row → (r < (S (i + 1)).next ∧ (S (i + 1)).get r = some row) ∨ (i < k ∧ (S (i + 1)).next ≤ r ∧ m r = some pl ∧ (S k).get r = some row) := by
    intro r pl row h1 h2
    by_cases hr : r < (S (i + 1)).next
    · left
      refine ⟨hr, ?_⟩
      rw [← hupk r hr]; exact h2
    · right
      have hm : m r = some pl := by rw [← hA.same r (.inr (by omega))]; exact h1
      by_cases hlt : i < k
      · exact ⟨hlt, by omega, hm, by rw [hkeq hlt] at h2; exact h2⟩
      · exfalso
        have hieq : i = k := by omega
        have hrk : r < (S k').next := hwf'.lt h2
        have : ∃ j, i + 1 ≤ j ∧ j < k' ∧ (S j).next ≤ r ∧ r < (S (j + 1)).next := by
          have : ∀ d, i + 1 + d ≤ k' → r < (S (i + 1 + d)).next → ∃ j, i + 1 ≤ j ∧ j < i + 1 + d ∧ (S j).next ≤ r ∧ r < (S (j + 1)).next := by
            intro d
            induction d with
            | zero => intro _ h; exact absurd h (by rw [Nat.add_zero]; omega)
            | succ d ih =>
              intro hd h
              by_cases hlt2 : r < (S (i + 1 + d)).next
              · obtain ⟨j, q1, q2, q3, q4⟩ := ih (by omega) hlt2
                exact ⟨j, q1, by omega, q3, q4⟩
              · exact ⟨i + 1 + d, by omega, by omega, by omega, by rw [show i + 1 + d + 1 = i + 1 + (d + 1) by omega]; exact h⟩
          obtain ⟨j, q1, q2, q3, q4⟩ := this (k' - (i + 1)) (by omega) (by rw [show i + 1 + (k' - (i + 1)) = k' by omega]; exact hrk)
          exact ⟨j, q1, by omega, q3, q4⟩
        obtain ⟨j, q1, q2, q3, q4⟩ := this
        cases hjn : inertAt ops j with
        | true =>
          have hjo : ops[j]? = some ops[j] := by simp
          have hjc : cs[j]? = some cs[j] := List.getElem?_eq_getElem (by omega)
          obtain ⟨u', hu', hc'⟩ := hall j _ _ hjo hjc
          have := (inert_step (up_of_inert hall hjo hjc hjn) hc' (by simpa [inertAt, hjo] using hjn) (hT.step j _ hjc).1).1
          rw [this] at q4; omega
        | false =>
        have hjL := hgt j (by omega) (by omega) hjn
        have := hfr j (by omega) hjL r q3 q4
        rw [this] at hm; cases hm
  have hAi := hA.rel
  have hrel' : Rel P W0 m' (S k') w' := by
    refine ⟨hAi.below, hwf', ?_, hAi.blk, ?_⟩
    · intro r pl row h1 h2
      rcases cases_ r pl row h1 h2 with ⟨_, h3⟩ | ⟨hlt, h3, h4, h5⟩
      · exact hAi.row r pl row h1 h3
      · have hup : cs[i].up = true := allup i _ (Nat.le_refl _) hlt hco
        exact (hrel.row r pl row h4 h5).mono hsub (hupf hup _ (hrel.blk r pl h4).2)
    · intro r r' pl pl' row row' h1 h2 h3 h4 h5
      have oldnew : ∀ q pl1 q2 pl2 row2, i < k → m' q = some pl1 → q < (S (i + 1)).next → (S i).next ≤ q → m q2 = some pl2 → (S k).get q2 = some row2 → pl1.blk ≠ pl2.blk := by
        intro q pl1 q2 pl2 row2 hlt g1 g2 g3 g4 g5
        have hup : cs[i].up = true := allup i _ (Nat.le_refl _) hlt hco
        have := hupb hup q pl1 g3 g2 g1
        have := (hrel.blk q2 pl2 g4).2
        omega
      have lowOld : ∀ q pl1 row1, i < k → m' q = some pl1 → q < (S (i + 1)).next → (S (i + 1)).get q = some row1 → ¬ (S i).next ≤ q → m q = some pl1 ∧ (S k).get q = some row1 := by
        intro q pl1 row1 hlt g1 g2 g3 g4
        have hup : cs[i].up = true := allup i _ (Nat.le_refl _) hlt hco
        refine ⟨by rw [← hA.same q (.inl (by omega))]; exact g1, ?_⟩
        rw [← hkeq hlt, hupk q g2]; exact g3
      rcases cases_ r pl row h1 h3 with ⟨a1, a2⟩ | ⟨hlt, a1, a2, a3⟩
      · rcases cases_ r' pl' row' h2 h4 with ⟨b1, b2⟩ | ⟨hlt, b1, b2, b3⟩
        · exact hAi.inj r r' pl pl' row row' h1 h2 a2 b2 h5
        · by_cases hq : (S i).next ≤ r
          · exact absurd h5 (oldnew r pl r' pl' row' hlt h1 a1 hq b2 b3)
          · obtain ⟨c1, c2⟩ := lowOld r pl row hlt h1 a1 a2 hq
            exact hrel.inj r r' pl pl' row row' c1 b2 c2 b3 h5
      · rcases cases_ r' pl' row' h2 h4 with ⟨b1, b2⟩ | ⟨_, b1, b2, b3⟩
        · by_cases hq : (S i).next ≤ r'
          · exact absurd h5.symm (oldnew r' pl' r pl row hlt h2 b1 hq a2 a3)
          · obtain ⟨c1, c2⟩ := lowOld r' pl' row' hlt h2 b1 b2 hq
            exact hrel.inj r r' pl pl' row row' a2 c1 a3 c2 h5
        · exact hrel.inj r r' pl pl' row row' a2 b2 a3 b3 h5
  refine ⟨by simp [hsz], hclosed', m', k', hk2, ?_, ?_, ?_, ?_, hrel', ?_, ?_, ?_, ?_, ?_, Nat.le_trans hsize hA.size⟩
  · by_cases hlt : i < k
    · rw [hkeq hlt]
      rcases hkL with h | h
      · exact .inl h
      · right; rw [hset, if_neg (by omega)]; exact h
    · by_cases hkn : k' = ops.size
      · exact .inl hkn
      · right
        rw [hset, if_neg (by omega)]
        refine hgt k' (by omega) (by omega) ?_
        rcases hk4 with h | ⟨co', h1, h2⟩
        · omega
        · have hko : ops[k']? = some ops[k'] := by have := (List.getElem?_eq_some_iff.mp h1).1; simp
          exact (total_of_up hall hko h1 h2).1
  · intro j co h1 h2 h3
    rw [hset]
    split
    · rfl
    · rename_i hne
      by_cases hlt : i < k
      · rw [hkeq hlt] at h1; exact hbar j co h1 h2 h3
      · have hieq : i = k := by omega
        by_cases hjk : j < k
        · exact hbar j co hjk h2 h3
        · have := upS j co (by omega) h1 h2
          rw [this] at h3; cases h3
  · intro j h1 h2 h3
    rw [hset, if_neg (by omega)]
    exact hgt j (by omega) h2 h3
  · intro co hcc
    rcases hk4 with h | ⟨co', h1, h2⟩
    · rw [h, ← hcs, List.getElem?_eq_none (Nat.le_refl _)] at hcc; cases hcc
    · rw [h1] at hcc; obtain rfl := Option.some.inj hcc; exact h2
  · intro j hj hjL
    rw [hset] at hjL
    split at hjL
    · cases hjL
    rename_i hne
    intro r h1 h2
    have hr : r < (S i).next ∨ (S (i + 1)).next ≤ r := by
      by_cases hji : j < i
      · left
        have := (traj_to hC.step hT h0 (show j + 1 ≤ i by omega) (by omega)).next
        omega
      · right
        have := (traj_to hC.step hT h0 (show i + 1 ≤ j by omega) (by omega)).next
        omega
    rw [hA.same r hr]
    exact hfr j hj hjL r h1 h2
  · have := (henv.mono hsub).put (d := o.dst) p4 hV
    rw [← p2] at this
    have h2 := this.get_congr hLenv
    rw [p2] at h2
    exact h2
  · intro r hr
    rw [hA.same r (by omega)]
    exact hsame r hr
  · intro b hb
    rcases hA.frame b (Nat.lt_of_lt_of_le hb hsize) with h | ⟨r, pl, h1, h2, h3, h4, h5⟩
    · rw [h]; exact hframe b hb
    · right
      by_cases hr : r < (S 0).next
      · exact ⟨r, pl, by rw [← hsame r (.inl hr)]; exact h1, h2, hfloor ▸ h3, hr, (traj_to hC.step hT h0 (Nat.zero_le i) (by omega)).live hr h5⟩
      · rcases hfresh r pl (by omega) (by omega) h1 with h | ⟨r0, pl0, q1, q2, q3, q4⟩
        · omega
        · exact ⟨r0, pl0, q1, q2.trans h2, q3, q4⟩
  · intro r pl h1 h2 h3
    by_cases hr : (S i).next ≤ r ∧ r < (S (i + 1)).next
    · rcases hA.fresh r pl hr.1 hr.2 h3 with h | ⟨r0, pl0, q1, q2, q3, q4, q5⟩
      · exact .inl (Nat.le_trans hsize h)
      · by_cases hr0 : r0 < (S 0).next
        · exact .inr ⟨r0, pl0, by rw [← hsame r0 (.inl hr0)]; exact q1, q2, hfloor ▸ q3, hr0, (traj_to hC.step hT h0 (Nat.zero_le i) (by omega)).live hr0 q5⟩
        · rcases hfresh r0 pl0 (by omega) (by omega) q1 with h | ⟨r1, pl1, g1, g2, g3, g4⟩
          · exact .inl (q2 ▸ h)
          · exact .inr ⟨r1, pl1, g1, g2.trans q2, g3, g4⟩
    · rw [hA.same r (by omega)] at h3
      exact hfresh r pl h1 h2 h3
theorem mem_ready {L : Array Bool} {i : Nat} (h : i ∈ Region.ready .any ops L) (hsz : L.size = ops.size) : ∃ o, ops[i]? = some o ∧ L[i]? = some false ∧ ∀ e ∈ o.after.toList, Region.binds .any e = true → L[e.on]? = some true := by
  unfold Region.ready at h
  rw [List.mem_filter] at h
  obtain ⟨h1, h2⟩ := h
  have hi : i < ops.size := by simpa using h1
  have ho : ops[i]? = some ops[i] := by simp
  rw [ho] at h2
  simp only [Bool.and_eq_true, Option.map_some, Option.getD_some] at h2
  refine ⟨_, ho, ?_, ?_⟩
  · have hl : L[i]? = some L[i] := by simp
    have := h2.1
    rw [Array.getD_eq_getD_getElem?, hl] at this
    rw [hl]
    simpa using this
  · intro e he hb
    have := Array.all_eq_true'.mp h2.2 e (by simpa using he)
    simp only [hb, Bool.not_true, Bool.false_or] at this
    rw [Array.getD_eq_getD_getElem?] at this
    cases hx : L[e.on]? with
    | none => rw [hx] at this; simp at this
    | some x => rw [hx] at this; simp at this; rw [this]
theorem ready_of {L : Array Bool} {i : Nat} {o : Oper} (ho : ops[i]? = some o) (hi : L[i]? = some false) (hw : ∀ e ∈ o.after.toList, Region.binds .any e = true → L[e.on]? = some true) : i ∈ Region.ready .any ops L := by
  unfold Region.ready
  rw [List.mem_filter]
  refine ⟨by simpa using (Array.getElem?_eq_some_iff.mp ho).1, ?_⟩
  rw [ho]
  simp only [Bool.and_eq_true, Option.map_some, Option.getD_some]
  refine ⟨by rw [Array.getD_eq_getD_getElem?, hi]; rfl, ?_⟩
  apply Array.all_eq_true'.mpr
  intro e he
  cases hb : Region.binds .any e with
  | false => rfl
  | true =>
    have := hw e (by simpa using he) hb
    rw [Array.getD_eq_getD_getElem?, this]; rfl
theorem all_listed {L : Array Bool} (hE : edgesOk ops = true) (hsz : L.size = ops.size) (h : Region.ready .any ops L = []) : ∀ i, i < ops.size → L[i]? = some true := by
  intro i
  induction i using Nat.strongRecOn with
  | _ i ih =>
    intro hi
    have hl : L[i]? = some L[i] := by simp
    cases hv : L[i] with
    | true => rw [hl, hv]
    | false =>
      exfalso
      have ho : ops[i]? = some ops[i] := by simp
      have hmem : i ∈ Region.ready .any ops L := by
        refine ready_of ho (by rw [hl, hv]) ?_
        intro e he hb
        have h1 := List.all_eq_true.mp hE (ops[i], i) (by
          rw [List.mem_iff_getElem?]
          exact ⟨i, by rw [List.getElem?_zipIdx, Array.getElem?_toList, ho]; simp⟩)
        have h2 := List.all_eq_true.mp h1 e he
        have hlt : e.on < i := by simpa [hb, Nat.blt_eq] using h2
        exact ih e.on hlt (by omega)
      rw [h] at hmem
      simp at hmem
theorem draw_any (hC : CallOK P W0 call) (hcs : cs.length = ops.size) (hall : ∀ (i : Nat) (o : Oper) (co : COper), ops[i]? = some o → cs[i]? = some co → ∃ u, (ups P n ops true)[i]? = some u ∧ cOper P n ops u o = some co)
    (hE : edgesOk ops = true) (hR : readsOk (Region.before ops) cs = true) (hT : Traj call cs E S R) (h0 : WfM (S 0)) {Q : Exit → Act → World → Prop}
    (hQ : ∀ a' m' w', After P W0 m0 (S 0) w0 m' (S ops.size) w' → EnvOK W0 m' n a' (E ops.size) → Q .normal a' w') :
    ∀ (fuel : Nat) (L : Array Bool) (a : Act) (w : World), DInv (P := P) W0 n ops cs E S R m0 w0 L a w → L.toList.count false ≤ fuel → wpAny P .any ops Q fuel L a w := by
  have fin : ∀ (L : Array Bool) (a : Act) (w : World), DInv (P := P) W0 n ops cs E S R m0 w0 L a w → Region.ready .any ops L = [] → Q .normal a w := by
    intro L a w hD hr
    have hl := all_listed hE hD.size hr
    obtain ⟨hsz, hcl, m, k, hk, hkL, hbar, hgt, hkup, hrel, hfr, henv, hsame, hframe, hfresh, hsize⟩ := hD
    have hkn : k = ops.size := by
      rcases hkL with h | h
      · exact h
      · by_cases hlt : k < ops.size
        · rw [hl k hlt] at h; cases h
        · omega
    subst hkn
    refine hQ a m w ⟨hrel, hsame, hframe, hfresh, hsize⟩ ?_
    obtain ⟨hO, _⟩ := reads_parts hR
    refine henv.get_congr ?_
    intro t
    by_cases hex : ∃ (j : Nat) (q : COper), cs[j]? = some q ∧ q.dst = some t
    · obtain ⟨j, q, h1, h2⟩ := hex
      have hj := (List.getElem?_eq_some_iff.mp h1).1
      rw [(traj_env hO hT t ops.size (by omega)).1 j q (by omega) h1 h2, (envL_get hO t cs.length (Nat.le_refl _)).1 j q hj h1 h2 (by rw [Array.getD_eq_getD_getElem?, hl j (by omega)]; rfl)]
    · rw [(traj_env hO hT t ops.size (by omega)).2 (fun j q _ h1 h2 => hex ⟨j, q, h1, h2⟩), (envL_get hO t cs.length (Nat.le_refl _)).2 (fun j q _ h1 h2 => absurd ⟨j, q, h1, h2⟩ hex)]
  intro fuel
  induction fuel with
  | zero =>
    intro L a w hD hc
    have hnil : Region.ready .any ops L = [] := by
      apply List.eq_nil_iff_forall_not_mem.mpr
      intro i hi
      obtain ⟨o, h1, h2, _⟩ := mem_ready hi hD.size
      have : false ∈ L.toList := by
        rw [List.mem_iff_getElem?]
        exact ⟨i, by rw [Array.getElem?_toList]; exact h2⟩
      have := List.count_pos_iff.mpr this
      omega
    exact ⟨hnil, fin L a w hD hnil⟩
  | succ fuel ih =>
    intro L a w hD hc
    refine ⟨fin L a w hD, ?_⟩
    intro i hi
    obtain ⟨o, h1, h2, h3⟩ := mem_ready hi hD.size
    refine wpOp_mono ?_ (draw_step hC hcs hall hE hR hT h0 hD h1 h2 h3)
    intro a' w' hD'
    refine ih _ _ _ hD' ?_
    have hil : i < L.size := (Array.getElem?_eq_some_iff.mp h2).1
    have hval : L.toList[i]'(by simpa using hil) = false := by
      have := (Array.getElem?_eq_some_iff.mp h2).2
      simpa using this
    rw [Array.toList_setIfInBounds, List.count_set (by simpa using hil), hval]
    simp
    have : false ∈ L.toList := by
      rw [List.mem_iff_getElem?]
      exact ⟨i, by rw [Array.getElem?_toList]; exact h2⟩
    have := List.count_pos_iff.mpr this
    simp at hc ⊢
    omega
theorem region_draw (hC : CallOK P W0 call) {m : PM} {s s' : Mem} {w : World} {a : Act} {e e' : Env} {id : Nat} (hcr : cRegion P n ops true = some cs) (hs : opsA call cs e s = some (e', s')) (hr : Rel P W0 m s w) (hf : Fresh m s s') (he : EnvOK W0 m n a e) {Q : Exit → Act → World → Prop}
    (hQ : ∀ a' m' w', After P W0 m s w m' s' w' → EnvOK W0 m' n a' e' → Q .normal a' w') : (Code.region id ops true).wp P Q a w := by
  obtain ⟨h1, h2, h3⟩ := cRegion_parts hcr
  obtain ⟨h3, h4, h5⟩ := h3 rfl
  obtain ⟨E, S, R, hT, e1, e2, e3, e4⟩ := traj_of cs e e' s s' hs
  subst e1 e2 e3 e4
  rw [h1] at hQ hf
  refine wp_region_any h3 ?_
  obtain ⟨k, hk1, hk2, hk3, hk4⟩ := next_bar (ops := ops) (cs := cs) ops.size 0 (by omega)
  have hup := traj_up hC.step hT hr.wf k 0 (by omega) (fun j co q1 q2 q3 => hk3 j co q1 (by omega) q3)
  rw [Nat.zero_add] at hup
  have hwk := traj_wf hC.step hT hr.wf k (by omega)
  have hLi : ∀ (i : Nat), i < ops.size → (Array.replicate ops.size false)[i]? = some false := by intro i hi; simp [hi]
  have hrep : ∀ (i : Nat), (Array.replicate ops.size false)[i]? ≠ some true := by
    intro i h
    rw [Array.getElem?_replicate] at h
    split at h <;> cases h
  have hb0 : Below w.heap.size w { w with drawn := w.drawn + 1 } := (Below.refl _ w).drew
  have none_ : ∀ r, (S 0).next ≤ r → r < (S ops.size).next → m r = none := fun r q1 q2 => hf r q1 q2
  have tr : ∀ r pl row, m r = some pl → (S k).get r = some row → (S 0).get r = some row := by
    intro r pl row q1 q2
    by_cases hr0 : r < (S 0).next
    · rw [← hup r hr0]; exact q2
    · exfalso
      have h6 := hwk.lt q2
      have h7 := (traj_to hC.step hT hr.wf hk2 (by omega)).next
      rw [none_ r (by omega) (by omega)] at q1; cases q1
  refine draw_any (m0 := m) (w0 := w) hC h1 h2 h4 h5 hT hr.wf hQ ops.size _ a _ ⟨by simp, ?_, m, k, hk2, ?_, ?_, ?_, ?_, ?_, ?_, ?_, fun _ _ => rfl, ?_, ?_, Nat.le_refl _⟩ (by simp)
  · intro i o ho hl; exact absurd hl (hrep i)
  · rcases hk4 with h | ⟨co, q1, q2⟩
    · exact .inl h
    · have := (List.getElem?_eq_some_iff.mp q1).1
      exact .inr (hLi k (by omega))
  · intro i co q1 q2 q3
    have := hk3 i co (Nat.zero_le _) q1 q2
    rw [this] at q3; cases q3
  · intro i _ hi _; exact hLi i hi
  · intro co hcc
    rcases hk4 with h | ⟨co', q1, q2⟩
    · rw [h, ← h1, List.getElem?_eq_none (Nat.le_refl _)] at hcc; cases hcc
    · rw [q1] at hcc; obtain rfl := Option.some.inj hcc; exact q2
  · refine ⟨hr.below.trans (hb0.mono hr.below.size), hwk, ?_, hr.blk, ?_⟩
    · intro r pl row q1 q2
      exact (hr.row r pl row q1 (tr r pl row q1 q2)).mono (fun _ _ h => h) rfl
    · intro r r' pl pl' row row' q1 q2 q3 q4 q5
      exact hr.inj r r' pl pl' row row' q1 q2 (tr _ _ _ q1 q3) (tr _ _ _ q2 q4) q5
  · intro i hi _ r q1 q2
    have h6 := (traj_to hC.step hT hr.wf (Nat.zero_le i) (by omega)).next
    have h7 := (traj_to hC.step hT hr.wf (show i + 1 ≤ ops.size by omega) (by omega)).next
    exact none_ r (by omega) (by omega)
  · refine he.get_congr ?_
    intro t
    refine (envL_get (reads_parts h5).1 t cs.length (Nat.le_refl _)).2 ?_
    intro i p _ _ _
    rw [Array.getD_eq_getD_getElem?, Array.getElem?_replicate]
    split <;> rfl
  · intro b _; exact .inl rfl
  · intro r pl q1 q2 q3
    rw [none_ r q1 q2] at q3; cases q3
end
end Go.VI
/- THE ABSTRACT RUN TELLS THE MACHINE'S. No statement of the seat is proved here. -/
namespace Go.VI
open Go Go.RowKit
section
variable {P : Program} {W0 : World} {n : Nat}
def Ex.out : Ex → Exit
  | .normal => .normal
  | .exit id => .exit id
  | .ret => .ret
theorem callC_step {ex : CCode → Env → Mem → Option (Ex × Env × Mem)} {F : Nat → Option CFunc} (ih : ∀ (c : CCode) (e e' : Env) (s s' : Mem) (x : Ex), WfM s → ex c e s = some (x, e', s') → Step s s') {g : Nat} {avs : List AV} {s s' : Mem} {r : AV} (hw : WfM s) (h : callC ex F g avs s = some (r, s')) : Step s s' := by
  unfold callC at h
  split at h
  · split at h
    · split at h
      · rename_i hx
        obtain ⟨v, h1, h2⟩ := Option.map_eq_some_iff.mp h
        obtain ⟨_, rfl⟩ := Prod.mk.inj h2
        exact ih _ _ _ _ _ _ hw hx
      · rename_i hx
        obtain ⟨v, h1, h2⟩ := Option.map_eq_some_iff.mp h
        obtain ⟨_, rfl⟩ := Prod.mk.inj h2
        exact ih _ _ _ _ _ _ hw hx
      · cases h
    · cases h
  · cases h
theorem insA_step {ty sz by_ : Nat} {avs : List AV} {s s' : Mem} {r : AV} (hw : WfM s) (h : insA ty sz by_ avs s = some (r, s')) : Step s s' := by
  unfold insA at h
  split at h
  case h_2 => cases h
  simp only [Option.bind_eq_bind] at h
  obtain ⟨k, _, h⟩ := Option.bind_eq_some_iff.mp h
  obtain ⟨rq, _, h⟩ := Option.bind_eq_some_iff.mp h
  split at h
  case isFalse => cases h
  split at h
  · split at h <;> first | (cases h; done) | (obtain ⟨_, rfl⟩ := Prod.mk.inj (Option.some.inj h); exact Step.push hw _)
  · split at h <;> first | (cases h; done) | (obtain ⟨_, rfl⟩ := Prod.mk.inj (Option.some.inj h); exact Step.push hw _)
  · obtain ⟨row, hrow, h⟩ := Option.bind_eq_some_iff.mp h
    split at h
    · rename_i hc
      obtain ⟨_, rfl⟩ := Prod.mk.inj (Option.some.inj h)
      have h1 := Step.put hw (hw.lt hrow) hc.2.2.2.2.2.1 none (fun _ => rfl)
      exact h1.trans (Step.push h1.wf _)
    · cases h
  · cases h
theorem primA_step {p : Pk} {avs : List AV} {s s' : Mem} {r : AV} (hw : WfM s) (h : primA p avs s = some (r, s')) : Step s s' := by
  unfold primA at h
  split at h
  · exact insA_step hw h
  · obtain ⟨_, rfl⟩ := Prod.mk.inj (Option.some.inj h); exact Step.refl hw
  · cases h
theorem callB_step {ex : CCode → Env → Mem → Option (Ex × Env × Mem)} {F : Nat → Option CFunc} (ih : ∀ (c : CCode) (e e' : Env) (s s' : Mem) (x : Ex), WfM s → ex c e s = some (x, e', s') → Step s s') {g : Nat} {avs : List AV} {s s' : Mem} {r : AV} (hw : WfM s) (h : callB ex F g avs s = some (r, s')) : Step s s' := by
  unfold callB at h
  split at h
  · split at h
    · split at h
      · rename_i p hp
        split at h
        · obtain rfl := Option.some.inj h
          exact callC_step ih hw hp
        · cases h
      · cases h
    · cases h
  · exact primA_step hw h
  · exact callC_step ih hw h
theorem exec_step {F : Nat → Option CFunc} : ∀ (k : Nat) (c : CCode) (e e' : Env) (s s' : Mem) (x : Ex), WfM s → exec F k c e s = some (x, e', s') → Step s s' := by
  intro k
  induction k with
  | zero => intro c e e' s s' x _ h; simp [exec] at h
  | succ k ih =>
    have hcall : ∀ g avs s r s', WfM s → callA (exec F k) F g avs s = some (r, s') → Step s s' := by
      intro g avs s r s' hw h
      unfold callA at h
      split at h
      · split at h
        · split at h
          · obtain ⟨_, rfl⟩ := Prod.mk.inj (Option.some.inj h); exact Step.refl hw
          · cases h
        · cases h
      exact callB_step (fun c e e' s s' x hw h => ih c e e' s s' x hw h) hw h
    intro c e e' s s' x hw h
    cases c <;> simp only [exec] at h
    case skip => obtain ⟨_, _, rfl⟩ := (by simpa using h : _ ∧ _ ∧ _); exact Step.refl hw
    case region d ops =>
      obtain ⟨p, h1, h2⟩ := Option.map_eq_some_iff.mp h
      obtain ⟨_, h3⟩ := Prod.mk.inj h2
      obtain ⟨_, rfl⟩ := Prod.mk.inj h3
      exact opsA_step hcall ops hw (e' := p.1) h1
    case seq a b =>
      split at h
      · rename_i e1 s1 h1
        have g1 := ih _ _ _ _ _ _ hw h1
        exact g1.trans (ih _ _ _ _ _ _ g1.wf h)
      · exact ih _ _ _ _ _ _ hw h
    case cond c a b =>
      split at h
      · exact ih _ _ _ _ _ _ hw h
      · exact ih _ _ _ _ _ _ hw h
      · cases h
    case block id b =>
      split at h
      · rename_i j e1 s1 h1
        have g1 := ih _ _ _ _ _ _ hw h1
        split at h <;> (obtain ⟨_, _, rfl⟩ := (by simpa using h : _ ∧ _ ∧ _); exact g1)
      · exact ih _ _ _ _ _ _ hw h
    case loop b =>
      split at h
      · rename_i e1 s1 h1
        have g1 := ih _ _ _ _ _ _ hw h1
        exact g1.trans (ih _ _ _ _ _ _ g1.wf h)
      · exact ih _ _ _ _ _ _ hw h
    case exit id => obtain ⟨_, _, rfl⟩ := (by simpa using h : _ ∧ _ ∧ _); exact Step.refl hw
    case ret => obtain ⟨_, _, rfl⟩ := (by simpa using h : _ ∧ _ ∧ _); exact Step.refl hw
theorem callA_step {F : Nat → Option CFunc} (k : Nat) (g : Nat) (avs : List AV) (s : Mem) (r : AV) (s' : Mem) (hw : WfM s) (h : callA (exec F k) F g avs s = some (r, s')) : Step s s' := by
  unfold callA at h
  split at h
  · split at h
    · split at h
      · obtain ⟨_, rfl⟩ := Prod.mk.inj (Option.some.inj h); exact Step.refl hw
      · cases h
    · cases h
  exact callB_step (fun c e e' s s' x hw h => exec_step k c e e' s s' x hw h) hw h
def resV (tmps : Array Value) : ResultVar → Sem Value
  | .tmp t => pure (tmps.getD t undef)
  | .cell a t => do loadVar t (← asAddr (tmps.getD a undef))
theorem results_eq (fn : Func) (tmps : Array Value) : results fn tmps = (do let vs ← fn.results.mapM (resV tmps); pure (if h : vs.size = 1 then vs[0] else .tuple vs)) := rfl
theorem results_ok {fn : Func} {rs : List CRes} {m : PM} {s : Mem} {w : World} {a : Act} {e : Env} {r : AV} (hrs : fn.results.toList.mapM (cRes P) = some rs) (hr : Rel P W0 m s w) (he : EnvOK W0 m n a e) (h : resultsA s e rs = some r) :
    ∃ v, (results fn a.tmps).run P w = .ok v w ∧ V W0 m v r := by
  have key : ∀ (l : List ResultVar) (rs : List CRes) (vs : List AV), l.mapM (cRes P) = some rs → rs.mapM (resA s e) = some vs →
      ∃ us : List Value, (l.mapM (resV a.tmps)).run P w = .ok us w ∧ us.length = vs.length ∧ ∀ (i : Nat) (v : Value) (c : AV), us[i]? = some v → vs[i]? = some c → V W0 m v c := by
    intro l
    induction l with
    | nil =>
      intro rs vs h1 h2
      simp at h1
      subst h1
      simp at h2
      subst h2
      exact ⟨[], by simp, rfl, by simp⟩
    | cons x l ih =>
      intro rs vs h1 h2
      simp only [List.mapM_cons, Option.pure_def, Option.bind_eq_bind] at h1
      obtain ⟨cr, hcr, h1⟩ := Option.bind_eq_some_iff.mp h1
      obtain ⟨crs, hcrs, h1⟩ := Option.bind_eq_some_iff.mp h1
      obtain rfl := Option.some.inj h1
      simp only [List.mapM_cons, Option.pure_def, Option.bind_eq_bind] at h2
      obtain ⟨v, hv, h2⟩ := Option.bind_eq_some_iff.mp h2
      obtain ⟨vs', hvs, h2⟩ := Option.bind_eq_some_iff.mp h2
      obtain rfl := Option.some.inj h2
      obtain ⟨us, g1, g2, g3⟩ := ih crs vs' hcrs hvs
      have one : ∃ u, (resV a.tmps x).run P w = .ok u w ∧ V W0 m u v := by
        cases x with
        | tmp t =>
          simp only [cRes] at hcr
          obtain rfl := Option.some.inj hcr
          simp only [resA] at hv
          obtain rfl := Option.some.inj hv
          exact ⟨_, by simp only [resV, Sem.run_pure], he.get t⟩
        | cell y t =>
          simp only [cRes] at hcr
          obtain ⟨agg, hag, hcr⟩ := Option.bind_eq_some_iff.mp hcr
          obtain ⟨sz, hsz, hcr⟩ := Option.bind_eq_some_iff.mp hcr
          obtain rfl := Option.some.inj hcr
          simp only [resA] at hv
          obtain ⟨ad, u, q1, q2, q3⟩ := loadA_ok (P := P) hag hsz hr (he.get y) hv
          refine ⟨u, ?_, q3⟩
          simp only [resV, q1, asAddr, Sem.run_bind, Sem.run_pure, Result.andThen_ok, q2]
      obtain ⟨u, q1, q2⟩ := one
      refine ⟨u :: us, ?_, by simp [g2], ?_⟩
      · rw [List.mapM_cons]
        simp only [Sem.run_bind, q1, Result.andThen_ok, g1, Sem.run_pure]
      · intro i v' c hi hc
        match i with
        | 0 => simp at hi hc; subst hi hc; exact q2
        | i + 1 => simp at hi hc; exact g3 i v' c hi hc
  unfold resultsA at h
  cases hvs : rs.mapM (resA s e) with
  | none => rw [hvs] at h; cases h
  | some vs =>
    rw [hvs] at h
    obtain ⟨us, g1, g2, g3⟩ := key _ _ _ hrs hvs
    have hrun : (results fn a.tmps).run P w = .ok (if h : us.toArray.size = 1 then us.toArray[0] else .tuple us.toArray) w := by
      rw [results_eq, Array.mapM_eq_mapM_toList]
      simp only [Sem.run_bind, Sem.run_map, g1, Result.andThen_ok, Sem.run_pure]
    refine ⟨_, hrun, ?_⟩
    match vs, g2, g3, h with
    | [v], g2, g3, h =>
      simp only at h
      obtain rfl := Option.some.inj h
      match us, g2, g3 with
      | [u], _, g3 => simpa using g3 0 u v rfl rfl
    | [], g2, g3, h =>
      simp only at h
      obtain rfl := Option.some.inj h
      match us, g2 with
      | [], _ => exact .tup _ _ rfl (by intro i v c h; simp at h)
    | v :: v' :: vs, g2, g3, h =>
      simp only at h
      obtain rfl := Option.some.inj h
      have hne : ¬ us.toArray.size = 1 := by rw [List.size_toArray, g2]; simp
      rw [dif_neg hne]
      refine .tup _ _ (by rw [List.size_toArray]; exact g2) ?_
      intro i x c hx hc
      exact g3 i x c (by simpa using hx) hc
theorem ofList_get : ∀ (vs : List AV) (i : Nat) (e : Env) (t : Nat), (Env.ofList i vs e).get t = if i ≤ t ∧ t < i + vs.length then (vs[t - i]?).getD und else e.get t := by
  intro vs
  induction vs with
  | nil => intro i e t; simp only [Env.ofList, List.length_nil]; rw [if_neg (by omega)]
  | cons v vs ih =>
    intro i e t
    simp only [Env.ofList, ih, Env.get_set, List.length_cons]
    by_cases h1 : t = i
    · subst h1
      rw [if_neg (by omega), if_pos rfl, if_pos (by omega)]
      simp
    · by_cases h2 : i + 1 ≤ t ∧ t < i + 1 + vs.length
      · rw [if_pos h2, if_pos (by omega)]
        have : t - i = (t - (i + 1)) + 1 := by omega
        rw [this, List.getElem?_cons_succ]
      · rw [if_neg h2, if_neg h1, if_neg (by omega)]
theorem start_ok {m : PM} {vs : Array Value} {avs : List AV} (h : VL W0 m vs avs) (hn : avs.length ≤ n) : EnvOK W0 m n { tmps := vs ++ Array.replicate (n - vs.size) undef, defers := [] } (Env.start avs) := by
  have hs := h.1
  refine ⟨by simp; omega, rfl, ?_⟩
  intro t
  simp only [Env.start, ofList_get, Nat.zero_add, Nat.sub_zero, Nat.zero_le, true_and]
  rw [Array.getD_eq_getD_getElem?]
  by_cases ht : t < avs.length
  · rw [if_pos ht, Array.getElem?_append_left (by omega)]
    have h1 : vs[t]? = some vs[t] := by simp
    have h2 : avs[t]? = some avs[t] := List.getElem?_eq_getElem ht
    rw [h1, h2]
    exact h.2 t _ _ h1 h2
  · rw [if_neg ht, Array.getElem?_append_right (by omega)]
    have : (Env.mk Tr.nil).get t = und := by simp [Env.get, Tr.get_nil]
    rw [this]
    cases hx : (Array.replicate (n - vs.size) undef)[t - vs.size]? with
    | none => exact V.und W0 m
    | some x =>
      rw [Array.getElem?_replicate] at hx
      split at hx
      · obtain rfl := Option.some.inj hx; exact V.und W0 m
      · cases hx
def Told (P : Program) (W0 : World) (n : Nat) (c : Code) (F : Nat → Option CFunc) (k : Nat) (cc : CCode) : Prop :=
  ∀ (x : Ex) (e e' : Env) (s s' : Mem), exec F k cc e s = some (x, e', s') → ∀ (m : PM) (w : World) (a : Act), Rel P W0 m s w → Fresh m s s' → EnvOK W0 m n a e →
    ∀ (Q : Exit → Act → World → Prop), (∀ a' m' w', After P W0 m s w m' s' w' → EnvOK W0 m' n a' e' → Q x.out a' w') → c.wp P Q a w
theorem rel_none {w : World} (h : Below W0.heap.size W0 w) : Rel P W0 (fun _ => none) Mem.zero w := by
  refine ⟨h, ⟨Nat.le_refl _, fun r _ => by simp [Mem.get, Mem.zero, Tr.get_nil]⟩, ?_, ?_, ?_⟩
  · intro r pl row h; cases h
  · intro r pl h; cases h
  · intro r r' pl pl' row row' h; cases h
def Back (P : Program) (f g : Nat) : Prop :=
  ∀ (W0 : World) (m : PM) (s : Mem) (w : World) (vs : Array Value) (avs : List AV) (d : AV) (s' : Mem) (r : AV), Rel P W0 m s w → VL W0 m vs avs → backSel s avs = some d → Fresh m s s' → Step s s' →
    sliceA r = true → (∀ (W : World) (u : Value), Rel P W0 m s W → V W0 m u d → Calls P g #[u] W (fun en W' => ∃ v m', en = .returned v ∧ After P W0 m s W m' s' W' ∧ V W0 m' v r)) →
    Calls P f vs w (fun en w' => ∃ v m', en = .returned v ∧ After P W0 m s w m' s' w' ∧ V W0 m' v r)
def PrimOK (P : Program) (f : Nat) (p : Pk) : Prop :=
  ∀ (W0 : World) (m : PM) (s : Mem) (w : World) (vs : Array Value) (avs : List AV) (s' : Mem) (r : AV), Rel P W0 m s w → VL W0 m vs avs → primA p avs s = some (r, s') → Fresh m s s' →
    Calls P f vs w (fun en w' => ∃ v m', en = .returned v ∧ After P W0 m s w m' s' w' ∧ V W0 m' v r)
def PkOK (P : Program) (f : Nat) : Pk → Prop
  | .back g => Back P f g
  | p => PrimOK P f p
def XOK (P : Program) (X : Nat → Option CFunc) : Prop :=
  ∀ f cf, X f = some cf → ∃ g, cf.prim = some g ∧ PkOK P f g ∧ ∃ fn, P.funcs[f]? = some fn ∧ fn.body.isNone = false ∧ (fn.name == "runtime.NumGoroutine") = false
theorem XOK.none : XOK P (fun _ => .none) := fun f cf h => by cases h
theorem comp_prim {f : Nat} {cf : CFunc} (h : comp P f = some cf) : cf.prim = .none := by
  unfold comp at h
  obtain ⟨fn, hfn, hcf⟩ := Option.bind_eq_some_iff.mp h
  simp only [cFunc, Option.bind_eq_bind] at hcf
  obtain ⟨b, hb, hcf⟩ := Option.bind_eq_some_iff.mp hcf
  obtain ⟨c, hc, hcf⟩ := Option.bind_eq_some_iff.mp hcf
  obtain ⟨rs, hrs, hcf⟩ := Option.bind_eq_some_iff.mp hcf
  split at hcf
  · cases hcf
  obtain rfl := Option.some.inj hcf
  rfl
theorem compX_plain {X : Nat → Option CFunc} (hX : XOK P X) {f : Nat} {cf : CFunc} (h : compX P X f = some cf) (hp : cf.prim = .none) : comp P f = some cf := by
  unfold compX at h
  split at h
  · rename_i cf' hx
    obtain rfl := Option.some.inj h
    obtain ⟨g, h1, _⟩ := hX f _ hx
    rw [hp] at h1; cases h1
  · exact h
theorem compX_prim {X : Nat → Option CFunc} (hX : XOK P X) {f : Nat} {g : Pk} (h : primF (compX P X) f = some g) : (∃ cf, X f = some cf) ∧ PkOK P f g ∧ ∃ fn, P.funcs[f]? = some fn ∧ fn.body.isNone = false ∧ (fn.name == "runtime.NumGoroutine") = false := by
  unfold primF at h
  obtain ⟨cf, h1, h2⟩ := Option.bind_eq_some_iff.mp h
  unfold compX at h1
  split at h1
  · rename_i cf' hx
    obtain rfl := Option.some.inj h1
    obtain ⟨g', h3, h4, h5⟩ := hX f _ hx
    rw [h2] at h3
    obtain rfl := Option.some.inj h3
    exact ⟨⟨_, hx⟩, h4, h5⟩
  · rw [comp_prim h1] at h2; cases h2
theorem callC_ok {X : Nat → Option CFunc} (hX : XOK P X) {k : Nat} (ih : ∀ (n : Nat) (c : Code) (cc : CCode), cCode P n c = some cc → Told P W0 n c (compX P X) k cc) : ∀ g avs s r s', callC (exec (compX P X) k) (compX P X) g avs s = some (r, s') → ∀ m w vs, Rel P W0 m s w → Fresh m s s' → VL W0 m vs avs →
    Calls P g vs w (fun en w' => ∃ v m', en = .returned v ∧ After P W0 m s w m' s' w' ∧ V W0 m' v r) := by
  intro g avs s r s' h m w vs hr hf hV
  unfold callC at h
  split at h
  case h_2 => cases h
  rename_i cf hcf
  split at h
  case isFalse => cases h
  rename_i hlen
  obtain ⟨hlen, hprim⟩ := hlen
  replace hcf := compX_plain hX hcf hprim
  unfold comp at hcf
  obtain ⟨fn, hfn, hcf⟩ := Option.bind_eq_some_iff.mp hcf
  simp only [cFunc, Option.bind_eq_bind] at hcf
  obtain ⟨b, hb, hcf⟩ := Option.bind_eq_some_iff.mp hcf
  obtain ⟨c, hc, hcf⟩ := Option.bind_eq_some_iff.mp hcf
  obtain ⟨rs, hrs, hcf⟩ := Option.bind_eq_some_iff.mp hcf
  split at hcf
  · cases hcf
  obtain rfl := Option.some.inj hcf
  simp only at hlen h
  have fin : ∀ (x : Ex) (e' : Env) (s1 : Mem), (x = .normal ∨ x = .ret) → exec (compX P X) k c (Env.start avs) s = some (x, e', s1) → (resultsA s1 e' rs).map (fun v => (v, s1)) = some (r, s') →
      Calls P g vs w (fun en w' => ∃ v m', en = .returned v ∧ After P W0 m s w m' s' w' ∧ V W0 m' v r) := by
    intro x e' s1 hx he h2
    obtain ⟨v, h3, h4⟩ := Option.map_eq_some_iff.mp h2
    obtain ⟨rfl, rfl⟩ := Prod.mk.inj h4
    refine calls_of_wp hfn hb ?_
    refine ih fn.ntmps b c hc x _ _ _ _ he m w _ hr hf (start_ok hV hlen) _ ?_
    intro a' m' w' hA hE
    obtain ⟨u, q1, q2⟩ := results_ok hrs hA.rel hE h3
    rcases hx with rfl | rfl
    · exact ⟨hE.defers, u, q1, u, m', rfl, hA, q2⟩
    · exact ⟨hE.defers, u, q1, u, m', rfl, hA, q2⟩
  split at h
  · rename_i hx; exact fin .normal _ _ (.inl rfl) hx h
  · rename_i hx; exact fin .ret _ _ (.inr rfl) hx h
  · cases h
theorem callB_ok {X : Nat → Option CFunc} (hX : XOK P X) {k : Nat} (ih : ∀ (n : Nat) (c : Code) (cc : CCode), cCode P n c = some cc → Told P W0 n c (compX P X) k cc) : ∀ g avs s r s', callB (exec (compX P X) k) (compX P X) g avs s = some (r, s') → ∀ m w vs, Rel P W0 m s w → Fresh m s s' → VL W0 m vs avs →
    Calls P g vs w (fun en w' => ∃ v m', en = .returned v ∧ After P W0 m s w m' s' w' ∧ V W0 m' v r) := by
  intro g avs s r s' h m w vs hr hf hV
  unfold callB at h
  split at h
  · rename_i g2 hp
    split at h
    · rename_i d hd
      obtain ⟨_, hB, _⟩ := compX_prim hX hp
      split at h
      case h_2 => cases h
      rename_i p hcc
      split at h
      case isFalse => cases h
      rename_i hsl
      obtain rfl := Option.some.inj h
      replace h := hcc
      refine hB W0 m s w vs avs d s' r hr hV hd hf (callC_step (fun c e e' s s' x hw h => exec_step k c e e' s s' x hw h) hr.wf h) hsl ?_
      intro W u hrW hu
      exact callC_ok hX ih g2 [d] s r s' h m W #[u] hrW hf ⟨rfl, by
        intro i v c hv hc
        match i with
        | 0 => simp at hv hc; subst hv hc; exact hu
        | i + 1 => simp at hc⟩
    · cases h
  · rename_i p hne hp
    obtain ⟨_, hB, _⟩ := compX_prim hX hp
    cases p with
    | back g => exact absurd rfl (hne g)
    | ins ty sz by_ => exact hB W0 m s w vs avs s' r hr hV h hf
    | cmp => exact hB W0 m s w vs avs s' r hr hV h hf
  · exact callC_ok hX ih g avs s r s' h m w vs hr hf hV
theorem callC_fn {X : Nat → Option CFunc} (hX : XOK P X) {k : Nat} {g : Nat} {avs : List AV} {s : Mem} {p : AV × Mem} (h : callC (exec (compX P X) k) (compX P X) g avs s = some p) : ∃ fn, P.funcs[g]? = some fn ∧ fn.body.isNone = false ∧ (fn.name == "runtime.NumGoroutine") = false := by
  unfold callC at h
  split at h
  case h_2 => cases h
  rename_i cf hcf
  split at h
  case isFalse => cases h
  rename_i hl
  replace hcf := compX_plain hX hcf hl.2
  unfold comp at hcf
  obtain ⟨fn, hfn, hcf⟩ := Option.bind_eq_some_iff.mp hcf
  simp only [cFunc, Option.bind_eq_bind] at hcf
  obtain ⟨b, hb, hcf⟩ := Option.bind_eq_some_iff.mp hcf
  obtain ⟨c, hc, hcf⟩ := Option.bind_eq_some_iff.mp hcf
  obtain ⟨rs, hrs, hcf⟩ := Option.bind_eq_some_iff.mp hcf
  split at hcf
  · cases hcf
  rename_i hn
  exact ⟨fn, hfn, by rw [hb]; rfl, by simpa using hn⟩
theorem callB_fn {X : Nat → Option CFunc} (hX : XOK P X) {k : Nat} {g : Nat} {avs : List AV} {s : Mem} {p : AV × Mem} (h : callB (exec (compX P X) k) (compX P X) g avs s = some p) : ∃ fn, P.funcs[g]? = some fn ∧ fn.body.isNone = false ∧ (fn.name == "runtime.NumGoroutine") = false := by
  unfold callB at h
  split at h
  · rename_i g2 hp
    exact (compX_prim hX hp).2.2
  · rename_i g2 hp
    exact (compX_prim hX hp).2.2
  · exact callC_fn hX h
theorem V.plain {m m' : PM} {v : Value} {c : AV} (h : V W0 m v c) (hc : plainA c = true) : V W0 m' v c := by
  cases h <;> first | (simp [plainA] at hc; done) | skip
  · exact .bool _
  · exact .int _ _
  · exact .str _
theorem call_ok {X : Nat → Option CFunc} (hX : XOK P X) {k : Nat} (ih : ∀ (n : Nat) (c : Code) (cc : CCode), cCode P n c = some cc → Told P W0 n c (compX P X) k cc) : CallOK P W0 (callA (exec (compX P X) k) (compX P X)) := by
  refine ⟨?_, ?_, fun g avs s r s' hw h => callA_step k g avs s r s' hw h⟩
  · intro g avs s r s' h m w vs hr hf hV
    unfold callA at h
    split at h
    · rename_i hi
      have hnil : avs = [] := by
        have := (Bool.and_eq_true _ _ ▸ hi).2
        simpa using this
      split at h
      · rename_i v s1 hb
        split at h
        · rename_i hp
          obtain ⟨rfl, rfl⟩ := Prod.mk.inj (Option.some.inj h)
          subst hnil
          refine (callB_ok hX ih g [] .zero v s1 hb (fun _ => none) w vs (rel_none hr.below) (fun _ _ _ => rfl) ⟨hV.1, by intro i v c _ h; simp at h⟩).mono ?_
          rintro e w' ⟨u, m', rfl, hA, hu⟩
          have hfr : ∀ b, b < w.heap.size → w'.heap[b]? = w.heap[b]? := by
            intro b hb
            rcases hA.frame b hb with h | ⟨r, pl, h, _⟩
            · exact h
            · cases h
          refine ⟨u, m, rfl, ⟨⟨hA.rel.below, hr.wf, ?_, ?_, hr.inj⟩, fun _ _ => rfl, fun b hb => .inl (hfr b hb), fun r pl h1 h2 _ => by omega, hA.size⟩, hu.plain hp⟩
          · intro r pl row h1 h2
            exact (hr.row r pl row h1 h2).mono (fun _ _ h => h) (hfr _ (hr.blk r pl h1).2)
          · intro r pl h1
            have := hr.blk r pl h1
            exact ⟨this.1, Nat.lt_of_lt_of_le this.2 hA.size⟩
        · cases h
      · cases h
    · exact callB_ok hX ih g avs s r s' h m w vs hr hf hV
  · intro g avs s p h
    unfold callA at h
    split at h
    · split at h
      · rename_i hb; exact callB_fn hX hb
      · cases h
    · exact callB_fn hX h
theorem rounds_ok {X : Nat → Option CFunc} {b : Code} {cb : CCode} {K : Nat} (hb : ∀ j, j < K → Told P W0 n b (compX P X) j cb) : ∀ (k : Nat), k ≤ K → ∀ (x : Ex) (e e' : Env) (s s' : Mem), exec (compX P X) k (.loop cb) e s = some (x, e', s') → ∀ (m : PM) (w : World) (a : Act), Rel P W0 m s w → Fresh m s s' → EnvOK W0 m n a e →
    ∀ (Q : Exit → Act → World → Prop), (∀ a' m' w', After P W0 m s w m' s' w' → EnvOK W0 m' n a' e' → Q x.out a' w') → Code.rounds P b Q k a w := by
  intro k
  induction k with
  | zero => intro _ x e e' s s' h; simp [exec] at h
  | succ k ih =>
    intro hk x e e' s s' h m w a hr hf he Q hQ
    simp only [exec] at h
    rw [rounds_succ]
    split at h
    · rename_i e1 s1 hx
      have st1 := exec_step _ _ _ _ _ _ _ hr.wf hx
      have st2 := exec_step _ _ _ _ _ _ _ st1.wf h
      refine hb k (by omega) _ _ _ _ _ hx m w a hr (hf.left st2) he _ ?_
      intro a1 m1 w1 hA hE
      refine ih (by omega) _ _ _ _ _ h m1 w1 a1 hA.rel (hf.right st1 hA) hE Q ?_
      intro a2 m2 w2 hA2 hE2
      exact hQ a2 m2 w2 (After.trans st1 st2 hA hA2) hE2
    · rename_i hno
      refine hb k (by omega) _ _ _ _ _ h m w a hr hf he _ ?_
      intro a1 m1 w1 hA hE
      have := hQ a1 m1 w1 hA hE
      cases x with
      | normal => exact absurd h (hno _ _)
      | exit id => exact this
      | ret => exact this
theorem exec_ok {X : Nat → Option CFunc} (hX : XOK P X) : ∀ (k : Nat) (n : Nat) (c : Code) (cc : CCode), cCode P n c = some cc → Told P W0 n c (compX P X) k cc := by
  intro k
  induction k using Nat.strongRecOn with
  | _ k IH =>
  cases k with
  | zero => intro n c cc _ x e e' s s' h; simp [exec] at h
  | succ k =>
    have ih := IH k (Nat.lt_succ_self k)
    have hC := call_ok (W0 := W0) hX ih
    intro n c cc hc x e e' s s' h m w a hr hf he Q hQ
    cases c <;> simp only [cCode] at hc <;> try (cases hc; done)
    case skip =>
      obtain rfl := Option.some.inj hc
      simp only [exec] at h
      obtain ⟨rfl, rfl, rfl⟩ := (by simpa using h : _ ∧ _ ∧ _)
      exact wp_skip (hQ a m w (.refl hr) he)
    case region id ops draw =>
      obtain ⟨cs, hcs, hc⟩ := Option.bind_eq_some_iff.mp hc
      obtain rfl := Option.some.inj hc
      simp only [exec] at h
      obtain ⟨p, h1, h2⟩ := Option.map_eq_some_iff.mp h
      obtain ⟨p1, p2⟩ := p
      obtain ⟨rfl, h3⟩ := Prod.mk.inj h2
      obtain ⟨rfl, rfl⟩ := Prod.mk.inj h3
      cases draw with
      | false => exact region_sound hC hcs h1 hr hf he hQ
      | true => exact region_draw hC hcs h1 hr hf he hQ
    case seq c1 c2 =>
      obtain ⟨cc1, h1, hc⟩ := Option.bind_eq_some_iff.mp hc
      obtain ⟨cc2, h2, hc⟩ := Option.bind_eq_some_iff.mp hc
      obtain rfl := Option.some.inj hc
      simp only [exec] at h
      split at h
      · rename_i e1 s1 hx
        have st1 := exec_step _ _ _ _ _ _ _ hr.wf hx
        have st2 := exec_step _ _ _ _ _ _ _ st1.wf h
        refine wp_seq (ih n c1 cc1 h1 _ _ _ _ _ hx m w a hr (hf.left st2) he _ ?_)
        intro a1 m1 w1 hA hE
        refine ih n c2 cc2 h2 _ _ _ _ _ h m1 w1 a1 hA.rel (hf.right st1 hA) hE Q ?_
        intro a2 m2 w2 hA2 hE2
        exact hQ a2 m2 w2 (After.trans st1 st2 hA hA2) hE2
      · rename_i hno
        refine wp_seq (ih n c1 cc1 h1 _ _ _ _ _ h m w a hr hf he _ ?_)
        intro a1 m1 w1 hA hE
        have := hQ a1 m1 w1 hA hE
        cases x with
        | normal => exact absurd h (hno _ _)
        | exit id => exact this
        | ret => exact this
    case cond c c1 c2 =>
      obtain ⟨cx, hx, hc⟩ := Option.bind_eq_some_iff.mp hc
      obtain ⟨cc1, h1, hc⟩ := Option.bind_eq_some_iff.mp hc
      obtain ⟨cc2, h2, hc⟩ := Option.bind_eq_some_iff.mp hc
      obtain rfl := Option.some.inj hc
      simp only [exec] at h
      have hv := opd_V he hx
      split at h
      · rename_i hb
        rw [hb] at hv
        exact wp_cond_true hv.inv_bool (ih n c1 cc1 h1 _ _ _ _ _ h m w a hr hf he Q hQ)
      · rename_i hb
        rw [hb] at hv
        exact wp_cond_false hv.inv_bool (ih n c2 cc2 h2 _ _ _ _ _ h m w a hr hf he Q hQ)
      · cases h
    case block id b =>
      obtain ⟨cb, h1, hc⟩ := Option.bind_eq_some_iff.mp hc
      obtain rfl := Option.some.inj hc
      simp only [exec] at h
      split at h
      · rename_i j e1 s1 hx
        have key : s' = s1 ∧ e' = e1 ∧ x = (if j = id then .normal else .exit j) := by
          split at h
          · rename_i hj
            obtain ⟨rfl, rfl, rfl⟩ := (by simpa using h : _ ∧ _ ∧ _)
            exact ⟨rfl, rfl, by rw [if_pos hj]⟩
          · rename_i hj
            obtain ⟨rfl, rfl, rfl⟩ := (by simpa using h : _ ∧ _ ∧ _)
            exact ⟨rfl, rfl, by rw [if_neg hj]⟩
        obtain ⟨rfl, rfl, rfl⟩ := key
        refine wp_block (ih n b cb h1 _ _ _ _ _ hx m w a hr hf he _ ?_)
        intro a1 m1 w1 hA hE
        have := hQ a1 m1 w1 hA hE
        simp only [Ex.out, Exit.inBlock]
        split
        · rename_i hj; rw [if_pos hj] at this; exact this
        · rename_i hj; rw [if_neg hj] at this; exact this
      · rename_i hno
        refine wp_block (ih n b cb h1 _ _ _ _ _ h m w a hr hf he _ ?_)
        intro a1 m1 w1 hA hE
        have := hQ a1 m1 w1 hA hE
        cases x with
        | normal => exact this
        | exit j => exact absurd h (hno _ _ _)
        | ret => exact this
    case loop b =>
      obtain ⟨cb, h1, hc⟩ := Option.bind_eq_some_iff.mp hc
      obtain rfl := Option.some.inj hc
      exact wp_loop_rounds (k + 1) (rounds_ok (K := k + 1) (fun j hj => IH j hj n b cb h1) (k + 1) (Nat.le_refl _) x e e' s s' h m w a hr hf he Q hQ)
    case exit id =>
      obtain rfl := Option.some.inj hc
      simp only [exec] at h
      obtain ⟨rfl, rfl, rfl⟩ := (by simpa using h : _ ∧ _ ∧ _)
      exact wp_exit (hQ a m w (.refl hr) he)
    case ret =>
      obtain rfl := Option.some.inj hc
      simp only [exec] at h
      obtain ⟨rfl, rfl, rfl⟩ := (by simpa using h : _ ∧ _ ∧ _)
      exact wp_ret (hQ a m w (.refl hr) he)
end
end Go.VI

