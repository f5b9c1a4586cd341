/- An operation and its abstract twin. No statement of the seat is proved here. -/
import Derived.Test.YtdbbmeihhemflaaVOps6
namespace Go.VI
open Go Go.RowKit

abbrev CallF := Nat → List AV → Mem → Option (AV × Mem)

structure CallOK (P : Program) (W0 : World) (call : CallF) : Prop where
  ok : ∀ g avs s r s', call g avs s = some (r, s') → ∀ m w vs, Rel W0 m s w → Fresh m s s' → VL W0 m vs avs →
    Calls P g vs w (fun en w' => ∃ v m', en = .returned v ∧ After W0 m s w m' s' w' ∧ V W0 m' v r)
  fn : ∀ g avs s p, call g avs s = some p → ∃ fn, P.funcs[g]? = some fn ∧ fn.body.isNone = false ∧ (fn.name == "runtime.NumGoroutine") = false
  step : ∀ g avs s r s', WfM s → call g avs s = some (r, s') → Step s s'

theorem storeA_step {s s' : Mem} {sz : Nat} {x y : AV} (h : WfM s) (hh : storeA s sz x y = some s') : Step s s' := by
  unfold storeA at hh
  split at hh
  · simp only [Option.bind_eq_bind] at hh
    obtain ⟨row, hrow, hh⟩ := Option.bind_eq_some_iff.mp hh
    obtain ⟨cs, hcs, hh⟩ := Option.bind_eq_some_iff.mp hh
    split at hh
    · rename_i hc
      obtain rfl := Option.some.inj hh
      exact Step.put h (h.lt hrow) hc.2.2.1 _ (fun hn => by rw [hrow] at hn; cases hn)
    · cases hh
  · cases hh

theorem stepOp_step {call : CallF} (hcall : ∀ g avs s r s', WfM s → call g avs s = some (r, s') → Step s s') {c : COp} {e : Env} {s s' : Mem} {r : AV} (h : WfM s) (hh : stepOp call c e s = some (r, s')) : Step s s' := by
  have same : ∀ {x : Option (AV × Mem)} {f : AV → Option (AV × Mem)}, True := fun {_ _} => trivial
  clear same
  cases c <;> simp only [stepOp] at hh
  case mv => obtain ⟨_, rfl⟩ := Prod.mk.inj (Option.some.inj hh); exact Step.refl h
  case pick => split at hh <;> first | (cases hh; done) | (obtain ⟨_, rfl⟩ := Prod.mk.inj (Option.some.inj hh); exact Step.refl h)
  case new => obtain ⟨_, rfl⟩ := Prod.mk.inj (Option.some.inj hh); exact Step.push h _
  case box => split at hh <;> first | (cases hh; done) | (obtain ⟨_, rfl⟩ := Prod.mk.inj (Option.some.inj hh); exact Step.push h _)
  case build => obtain ⟨_, _, hh⟩ := Option.map_eq_some_iff.mp hh; obtain ⟨_, rfl⟩ := Prod.mk.inj hh; exact Step.refl h
  case lit => obtain ⟨_, _, hh⟩ := Option.map_eq_some_iff.mp hh; obtain ⟨_, rfl⟩ := Prod.mk.inj hh; exact Step.push h _
  case load => obtain ⟨_, _, hh⟩ := Option.map_eq_some_iff.mp hh; obtain ⟨_, rfl⟩ := Prod.mk.inj hh; exact Step.refl h
  case store => obtain ⟨_, hs, hh⟩ := Option.map_eq_some_iff.mp hh; obtain ⟨_, rfl⟩ := Prod.mk.inj hh; exact storeA_step h hs
  case nilCheck => split at hh <;> first | (cases hh; done) | (obtain ⟨_, rfl⟩ := Prod.mk.inj (Option.some.inj hh); exact Step.refl h)
  case ibin => split at hh <;> first | (cases hh; done) | (obtain ⟨_, _, hh⟩ := Option.map_eq_some_iff.mp hh; obtain ⟨_, rfl⟩ := Prod.mk.inj hh; exact Step.refl h)
  case sbin => split at hh <;> first | (cases hh; done) | (obtain ⟨_, _, hh⟩ := Option.map_eq_some_iff.mp hh; obtain ⟨_, rfl⟩ := Prod.mk.inj hh; exact Step.refl h)
  case beq => obtain ⟨_, _, hh⟩ := Option.map_eq_some_iff.mp hh; obtain ⟨_, rfl⟩ := Prod.mk.inj hh; exact Step.refl h
  case un => split at hh <;> first | (cases hh; done) | (obtain ⟨_, rfl⟩ := Prod.mk.inj (Option.some.inj hh); exact Step.refl h)
  case conv => split at hh <;> first | (cases hh; done) | (obtain ⟨_, rfl⟩ := Prod.mk.inj (Option.some.inj hh); exact Step.refl h)
  case toBytes =>
    split at hh
    · split at hh <;> first | (cases hh; done) | (obtain ⟨_, rfl⟩ := Prod.mk.inj (Option.some.inj hh); exact Step.push h _)
    · cases hh
  case toStr =>
    simp only [Option.bind_eq_bind] at hh
    obtain ⟨_, _, hh⟩ := Option.bind_eq_some_iff.mp hh
    obtain ⟨_, _, hh⟩ := Option.bind_eq_some_iff.mp hh
    obtain ⟨_, rfl⟩ := Prod.mk.inj (Option.some.inj hh); exact Step.refl h
  case same => split at hh <;> first | (cases hh; done) | (obtain ⟨_, rfl⟩ := Prod.mk.inj (Option.some.inj hh); exact Step.refl h)
  case ifc => obtain ⟨_, rfl⟩ := Prod.mk.inj (Option.some.inj hh); exact Step.refl h
  case fn => obtain ⟨_, rfl⟩ := Prod.mk.inj (Option.some.inj hh); exact Step.refl h
  case mkS =>
    split at hh
    · split at hh
      · split at hh
        · obtain ⟨_, rfl⟩ := Prod.mk.inj (Option.some.inj hh); exact Step.push h _
        · cases hh
      · cases hh
    · cases hh
  case cutS =>
    simp only [Option.bind_eq_bind] at hh
    obtain ⟨_, _, hh⟩ := Option.bind_eq_some_iff.mp hh
    obtain ⟨_, _, hh⟩ := Option.bind_eq_some_iff.mp hh
    split at hh
    · split at hh <;> first | (cases hh; done) | (obtain ⟨_, rfl⟩ := Prod.mk.inj (Option.some.inj hh); exact Step.refl h)
    · split at hh <;> first | (cases hh; done) | (obtain ⟨_, rfl⟩ := Prod.mk.inj (Option.some.inj hh); exact Step.refl h)
    · split at hh <;> first | (cases hh; done) | (obtain ⟨_, rfl⟩ := Prod.mk.inj (Option.some.inj hh); exact Step.refl h)
    · split at hh <;> first | (cases hh; done) | (obtain ⟨_, rfl⟩ := Prod.mk.inj (Option.some.inj hh); exact Step.refl h)
    · cases hh
  case cutT =>
    simp only [Option.bind_eq_bind] at hh
    obtain ⟨_, _, hh⟩ := Option.bind_eq_some_iff.mp hh
    obtain ⟨_, _, hh⟩ := Option.bind_eq_some_iff.mp hh
    split at hh
    · split at hh <;> first | (cases hh; done) | (obtain ⟨_, rfl⟩ := Prod.mk.inj (Option.some.inj hh); exact Step.refl h)
    · cases hh
  case ixA => obtain ⟨_, _, hh⟩ := Option.map_eq_some_iff.mp hh; obtain ⟨_, rfl⟩ := Prod.mk.inj hh; exact Step.refl h
  case atP => obtain ⟨_, _, hh⟩ := Option.map_eq_some_iff.mp hh; obtain ⟨_, rfl⟩ := Prod.mk.inj hh; exact Step.refl h
  case cut3 => obtain ⟨_, _, hh⟩ := Option.map_eq_some_iff.mp hh; obtain ⟨_, rfl⟩ := Prod.mk.inj hh; exact Step.refl h
  case fieldAddr => split at hh <;> first | (cases hh; done) | (obtain ⟨_, rfl⟩ := Prod.mk.inj (Option.some.inj hh); exact Step.refl h)
  case field =>
    split at hh
    · simp only [Option.bind_eq_bind] at hh
      obtain ⟨_, _, hh⟩ := Option.bind_eq_some_iff.mp hh
      obtain ⟨_, _, hh⟩ := Option.bind_eq_some_iff.mp hh
      obtain ⟨_, rfl⟩ := Prod.mk.inj (Option.some.inj hh); exact Step.refl h
    · cases hh
  case at_ =>
    split at hh
    · simp only [Option.bind_eq_bind] at hh
      obtain ⟨_, _, hh⟩ := Option.bind_eq_some_iff.mp hh
      split at hh
      · obtain ⟨_, _, hh⟩ := Option.bind_eq_some_iff.mp hh
        split at hh <;> first | (cases hh; done) | (obtain ⟨_, rfl⟩ := Prod.mk.inj (Option.some.inj hh); exact Step.refl h)
      · split at hh <;> first | (cases hh; done) | (obtain ⟨_, rfl⟩ := Prod.mk.inj (Option.some.inj hh); exact Step.refl h)
      · cases hh
    · cases hh
  case atT =>
    split at hh
    · simp only [Option.bind_eq_bind] at hh
      obtain ⟨_, _, hh⟩ := Option.bind_eq_some_iff.mp hh
      obtain ⟨_, _, hh⟩ := Option.bind_eq_some_iff.mp hh
      obtain ⟨_, rfl⟩ := Prod.mk.inj (Option.some.inj hh); exact Step.refl h
    · cases hh
  case ext => split at hh <;> first | (cases hh; done) | (obtain ⟨_, _, hh⟩ := Option.map_eq_some_iff.mp hh; obtain ⟨_, rfl⟩ := Prod.mk.inj hh; exact Step.refl h)
  case call => split at hh <;> first | (cases hh; done) | exact hcall _ _ _ _ _ h hh
  case len => obtain ⟨_, _, hh⟩ := Option.map_eq_some_iff.mp hh; obtain ⟨_, rfl⟩ := Prod.mk.inj hh; exact Step.refl h
  case app =>
    simp only [Option.bind_eq_bind] at hh
    obtain ⟨_, _, hh⟩ := Option.bind_eq_some_iff.mp hh
    split at hh
    · split at hh
      · split at hh
        · obtain ⟨_, rfl⟩ := Prod.mk.inj (Option.some.inj hh); exact Step.refl h
        · split at hh <;> first | (cases hh; done) | (obtain ⟨_, rfl⟩ := Prod.mk.inj (Option.some.inj hh); exact Step.push h _)
      · split at hh
        · obtain ⟨_, rfl⟩ := Prod.mk.inj (Option.some.inj hh); exact Step.refl h
        · split at hh <;> first | (cases hh; done) | (obtain ⟨_, rfl⟩ := Prod.mk.inj (Option.some.inj hh); exact Step.push h _)
      · obtain ⟨row, hrow, hh⟩ := Option.bind_eq_some_iff.mp hh
        split at hh
        · rename_i hc
          obtain ⟨_, rfl⟩ := Prod.mk.inj (Option.some.inj hh)
          have h1 := Step.put h (h.lt hrow) hc.2.2.2.2.1 none (fun _ => rfl)
          exact h1.trans (Step.push h1.wf _)
        · cases hh
      · cases hh
    · cases hh
  case mnmx => split at hh <;> first | (cases hh; done) | (obtain ⟨_, _, hh⟩ := Option.map_eq_some_iff.mp hh; obtain ⟨_, rfl⟩ := Prod.mk.inj hh; exact Step.refl h)

/-- What no call is needed for. -/
theorem noCall {call : CallF} {c : COp} {e : Env} {s : Mem} (hc : ∀ f xs, c ≠ .call f xs) : stepOp call c e s = stepOp (fun _ _ _ => none) c e s := by
  cases c <;> first | rfl | (exfalso; exact hc _ _ rfl)

theorem VL.append {W0 : World} {m : PM} {vs us : Array Value} {cs ds : List AV} (h : VL W0 m vs cs) (k : VL W0 m us ds) : VL W0 m (vs ++ us) (cs ++ ds) := by
  refine ⟨by simp [h.1, k.1], ?_⟩
  intro i v c hv hc
  by_cases hi : i < vs.size
  · rw [Array.getElem?_append_left hi] at hv
    rw [List.getElem?_append_left (by rw [← h.1]; exact hi)] at hc
    exact h.2 i v c hv hc
  · rw [Array.getElem?_append_right (by omega)] at hv
    rw [List.getElem?_append_right (by rw [← h.1]; omega), ← h.1] at hc
    exact k.2 _ v c hv hc

section
variable {P : Program} {W0 : World} {m m' : PM} {s s' : Mem} {w w' : World} {n : Nat} {a : Act} {e : Env} {o : Oper} {r : AV} {call : CallF}

theorem op_call {f : Operand} {args : Array Operand} {ts : Array TypeId} {cf : Opd} {cargs : List Opd} {g : Nat} {caps : List AV} (hC : CallOK P W0 call) (hop : o.op = .call { callee := .value f, args := args, argTypes := ts }) (hf : cOpd f = some cf) (hx : args.toList.mapM cOpd = some cargs)
    (hr : Rel W0 m s w) (he : EnvOK W0 m n a e) (hfr : Fresh m s s') (h1 : ev e cf = .fn g caps) (h : call g (cargs.map (ev e) ++ caps) s = some (r, s')) : Done P W0 m s w s' r o a := by
  have hv := opd_V he hf
  rw [h1] at hv
  obtain ⟨vc, hfv, hcaps⟩ := hv.inv_fn
  have hargs := VL_map hx he
  have hall := hargs.append hcaps
  obtain ⟨fn, f1, f2, f3⟩ := hC.fn _ _ _ _ h
  have hrun : (execOp a.eval o).run P w = .ok (.enter g (args.map a.eval ++ vc)) w := by
    have hname : ¬ (fn.name = "runtime.NumGoroutine") := by simpa using f3
    have hbody : ¬ fn.body = none := by intro hb; rw [hb] at f2; simp at f2
    simp [execOp, hop, resolve, hfv, Deferred.ofValue, invoke, callFunc, f1, hname, hbody]
  intro next Q hK
  unfold Oper.wp
  rw [hrun, Oper.upon_enter]
  refine (hC.ok _ _ _ _ _ h m w _ hr hfr hall).mono ?_
  rintro en w' ⟨v, m', rfl, hA, hV⟩
  exact hK v m' w' hA hV

theorem op_beq {op : BinOp} {neg : Bool} {t ty : TypeId} {x y : Operand} {cx cy : Opd} {k : EK} {q : Bool} (ho : o.op = .binOp op t x y ty) (hop : (op = .eql ∧ neg = false) ∨ (op = .neq ∧ neg = true)) (hk : eqKind P t x y = some k) (hx : cOpd x = some cx) (hy : cOpd y = some cy) (hr : Rel W0 m s w) (he : EnvOK W0 m n a e)
    (h : eqA k (ev e cx) (ev e cy) = some q) : Done P W0 m s w s (.bool (if neg then !q else q)) o a := by
  obtain ⟨h1, h2, h3⟩ := eqA_ok (P := P) (w := w) hk (opd_V he hx) (opd_V he hy) h op
  refine .pure (v := .bool (if neg then !q else q)) ?_ hr (.bool _)
  have key : (binOp op t (a.eval x) (a.eval y)).run P w = .ok (.bool (if neg then !q else q)) w := by
    rcases hop with ⟨rfl, rfl⟩ | ⟨rfl, rfl⟩
    · rcases h3 with ⟨_, _, e1, e2⟩ | ⟨_, _, _, _, _, _, e1, e2⟩ | ⟨_, _, e1, e2⟩ | ⟨e1 | ⟨_, _, _, e1⟩, e2 | ⟨_, _, _, e2⟩⟩ | ⟨e1 | ⟨_, _, e1⟩, e2 | ⟨_, _, e2⟩⟩ | ⟨_, _, e1, e2⟩ <;>
        (rw [e1, e2] at h1 ⊢; simp [binOp, h1])
    · rcases h3 with ⟨_, _, e1, e2⟩ | ⟨_, _, _, _, _, _, e1, e2⟩ | ⟨_, _, e1, e2⟩ | ⟨e1 | ⟨_, _, _, e1⟩, e2 | ⟨_, _, _, e2⟩⟩ | ⟨e1 | ⟨_, _, e1⟩, e2 | ⟨_, _, e2⟩⟩ | ⟨_, _, e1, e2⟩ <;>
        (rw [e1, e2] at h1 ⊢; simp [binOp, h1])
  simp only [execOp, ho, Sem.run_bind, h2, Result.andThen_ok, key, Sem.run_pure]

/-- EVERY OPERATION. -/
theorem op_sound (hC : CallOK P W0 call) {co : COp} (hc : cOp P o.op = some co) (hs : stepOp call co e s = some (r, s')) (hr : Rel W0 m s w) (hf : Fresh m s s') (he : EnvOK W0 m n a e) : Done P W0 m s w s' r o a := by
  have hstep := stepOp_step hC.step hr.wf hs
  cases hop : o.op <;> rw [hop] at hc <;> simp only [cOp] at hc <;> try (cases hc; done)
  case move x =>
    obtain ⟨cx, hx, hc⟩ := Option.bind_eq_some_iff.mp hc
    obtain rfl := Option.some.inj hc
    simp only [stepOp] at hs
    obtain ⟨rfl, rfl⟩ := Prod.mk.inj (Option.some.inj hs)
    exact op_mv (.inl hop) hx hr he
  case assign x =>
    obtain ⟨cx, hx, hc⟩ := Option.bind_eq_some_iff.mp hc
    obtain rfl := Option.some.inj hc
    simp only [stepOp] at hs
    obtain ⟨rfl, rfl⟩ := Prod.mk.inj (Option.some.inj hs)
    exact op_mv (.inr hop) hx hr he
  case pick c x y =>
    obtain ⟨cc, hcc, hc⟩ := Option.bind_eq_some_iff.mp hc
    obtain ⟨cx, hx, hc⟩ := Option.bind_eq_some_iff.mp hc
    obtain ⟨cy, hy, hc⟩ := Option.bind_eq_some_iff.mp hc
    obtain rfl := Option.some.inj hc
    simp only [stepOp] at hs
    split at hs
    · rename_i b hb
      obtain ⟨rfl, rfl⟩ := Prod.mk.inj (Option.some.inj hs)
      exact op_pick hop hcc hx hy hr he hb
    · cases hs
  case alloc t =>
    obtain ⟨z, hz, hc⟩ := Option.bind_eq_some_iff.mp hc
    obtain rfl := Option.some.inj hc
    simp only [stepOp] at hs
    obtain ⟨rfl, rfl⟩ := Prod.mk.inj (Option.some.inj hs)
    exact op_new hop hz hr (hf _ (Nat.le_refl _) (by rw [Mem.next_push]; omega))
  case box t x =>
    obtain ⟨cx, hx, hc⟩ := Option.bind_eq_some_iff.mp hc
    obtain rfl := Option.some.inj hc
    simp only [stepOp] at hs
    split at hs
    · rename_i hcell
      obtain ⟨rfl, rfl⟩ := Prod.mk.inj (Option.some.inj hs)
      exact op_box hop hx hr he (hf _ (Nat.le_refl _) (by rw [Mem.next_push]; omega)) hcell
    · cases hs
  case build t ps =>
    split at hc
    · rename_i fs hu
      obtain ⟨z, hz, hc⟩ := Option.bind_eq_some_iff.mp hc
      obtain ⟨cps, hps, hc⟩ := Option.bind_eq_some_iff.mp hc
      split at hc
      case isFalse => cases hc
      rename_i hall
      obtain rfl := Option.some.inj hc
      simp only [stepOp] at hs
      obtain ⟨cs, h1, h2⟩ := Option.map_eq_some_iff.mp hs
      obtain ⟨rfl, rfl⟩ := Prod.mk.inj h2
      refine op_build hop hu hz hps ?_ hr he h1
      intro i f hfi
      have := Array.all_eq_true.mp hall i (Array.getElem?_eq_some_iff.mp hfi).1
      rw [(Array.getElem?_eq_some_iff.mp hfi).2] at this
      exact Option.isSome_iff_exists.mp this
    · cases hc
  case buildSlice t len ps =>
    split at hc
    · rename_i el hu
      obtain ⟨sz, hsz, hc⟩ := Option.bind_eq_some_iff.mp hc
      obtain ⟨z, hz, hc⟩ := Option.bind_eq_some_iff.mp hc
      obtain ⟨cps, hps, hc⟩ := Option.bind_eq_some_iff.mp hc
      split at hc
      case isFalse => cases hc
      rename_i hle
      obtain rfl := Option.some.inj hc
      simp only [stepOp] at hs
      obtain ⟨els, h1, h2⟩ := Option.map_eq_some_iff.mp hs
      obtain ⟨rfl, rfl⟩ := Prod.mk.inj h2
      exact op_lit hop hu hsz hz hps hle.1 hle.2 hr he (hf _ (Nat.le_refl _) (by rw [Mem.next_push]; omega)) h1
    · cases hc
  case load t x =>
    obtain ⟨agg, hag, hc⟩ := Option.bind_eq_some_iff.mp hc
    obtain ⟨sz, hsz, hc⟩ := Option.bind_eq_some_iff.mp hc
    obtain ⟨cx, hx, hc⟩ := Option.bind_eq_some_iff.mp hc
    obtain rfl := Option.some.inj hc
    simp only [stepOp] at hs
    obtain ⟨v, h1, h2⟩ := Option.map_eq_some_iff.mp hs
    obtain ⟨rfl, rfl⟩ := Prod.mk.inj h2
    exact op_load hop hag hsz hx hr he h1
  case store t x y =>
    obtain ⟨sz, hsz, hc⟩ := Option.bind_eq_some_iff.mp hc
    obtain ⟨cx, hx, hc⟩ := Option.bind_eq_some_iff.mp hc
    obtain ⟨cy, hy, hc⟩ := Option.bind_eq_some_iff.mp hc
    obtain rfl := Option.some.inj hc
    simp only [stepOp] at hs
    obtain ⟨v, h1, h2⟩ := Option.map_eq_some_iff.mp hs
    obtain ⟨rfl, rfl⟩ := Prod.mk.inj h2
    exact op_store hop hsz hx hy hr he h1
  case nilCheck x =>
    obtain ⟨cx, hx, hc⟩ := Option.bind_eq_some_iff.mp hc
    obtain rfl := Option.some.inj hc
    simp only [stepOp] at hs
    split at hs
    · rename_i q i j hq
      obtain ⟨rfl, rfl⟩ := Prod.mk.inj (Option.some.inj hs)
      rw [← hq]; exact op_nilCheck hop hx hr he (.inl ⟨_, _, _, hq⟩)
    · rename_i cs hq
      obtain ⟨rfl, rfl⟩ := Prod.mk.inj (Option.some.inj hs)
      rw [← hq]; exact op_nilCheck hop hx hr he (.inr (.inl ⟨_, hq⟩))
    · rename_i f cs hq
      obtain ⟨rfl, rfl⟩ := Prod.mk.inj (Option.some.inj hs)
      rw [← hq]; exact op_nilCheck hop hx hr he (.inr (.inr ⟨_, _, hq⟩))
    · cases hs
  case binOp op t x y ty =>
    split at hc
    · rename_i k hu
      obtain ⟨cx, hx, hc⟩ := Option.bind_eq_some_iff.mp hc
      obtain ⟨cy, hy, hc⟩ := Option.bind_eq_some_iff.mp hc
      obtain rfl := Option.some.inj hc
      simp only [stepOp] at hs
      split at hs
      · rename_i h1 h2
        obtain ⟨v, h3, h4⟩ := Option.map_eq_some_iff.mp hs
        obtain ⟨rfl, rfl⟩ := Prod.mk.inj h4
        exact op_ibin hop hx hy hr he h1 h2 h3
      · cases hs
    · rename_i hu
      obtain ⟨cx, hx, hc⟩ := Option.bind_eq_some_iff.mp hc
      obtain ⟨cy, hy, hc⟩ := Option.bind_eq_some_iff.mp hc
      obtain rfl := Option.some.inj hc
      simp only [stepOp] at hs
      split at hs
      · rename_i h1 h2
        obtain ⟨v, h3, h4⟩ := Option.map_eq_some_iff.mp hs
        obtain ⟨rfl, rfl⟩ := Prod.mk.inj h4
        exact op_sbin hop hx hy hr he h1 h2 h3
      · cases hs
    · split at hc
      · obtain ⟨k, hk, hc⟩ := Option.bind_eq_some_iff.mp hc
        obtain ⟨cx, hx, hc⟩ := Option.bind_eq_some_iff.mp hc
        obtain ⟨cy, hy, hc⟩ := Option.bind_eq_some_iff.mp hc
        obtain rfl := Option.some.inj hc
        simp only [stepOp] at hs
        obtain ⟨q, h3, h4⟩ := Option.map_eq_some_iff.mp hs
        obtain ⟨rfl, rfl⟩ := Prod.mk.inj h4
        exact op_beq hop (.inl ⟨rfl, rfl⟩) hk hx hy hr he h3
      · obtain ⟨k, hk, hc⟩ := Option.bind_eq_some_iff.mp hc
        obtain ⟨cx, hx, hc⟩ := Option.bind_eq_some_iff.mp hc
        obtain ⟨cy, hy, hc⟩ := Option.bind_eq_some_iff.mp hc
        obtain rfl := Option.some.inj hc
        simp only [stepOp] at hs
        obtain ⟨q, h3, h4⟩ := Option.map_eq_some_iff.mp hs
        obtain ⟨rfl, rfl⟩ := Prod.mk.inj h4
        exact op_beq hop (.inr ⟨rfl, rfl⟩) hk hx hy hr he h3
      · cases hc
  case unOp op t x =>
    obtain ⟨cx, hx, hc⟩ := Option.bind_eq_some_iff.mp hc
    obtain rfl := Option.some.inj hc
    rw [noCall (by intro f xs h; cases h)] at hs
    obtain ⟨rfl, h⟩ := op_un (P := P) hop hx hr he hs
    exact h
  case convert t u x =>
    split at hc
    · rename_i k1 k2 hd hu
      obtain ⟨cx, hx, hc⟩ := Option.bind_eq_some_iff.mp hc
      obtain rfl := Option.some.inj hc
      simp only [stepOp] at hs
      split at hs
      · rename_i h1
        obtain ⟨rfl, rfl⟩ := Prod.mk.inj (Option.some.inj hs)
        exact op_conv hop hd hu hx hr he h1
      · cases hs
    · rename_i hd hu
      obtain ⟨cx, hx, hc⟩ := Option.bind_eq_some_iff.mp hc
      obtain rfl := Option.some.inj hc
      simp only [stepOp] at hs
      split at hs
      · rename_i b h1
        obtain ⟨rfl, rfl⟩ := Prod.mk.inj (Option.some.inj hs)
        exact op_same hop hd hu hx hr he h1
      · cases hs
    · rename_i el hd hu
      split at hc
      · rename_i hel
        obtain ⟨cx, hx, hc⟩ := Option.bind_eq_some_iff.mp hc
        obtain rfl := Option.some.inj hc
        simp only [stepOp, Option.bind_eq_bind] at hs
        obtain ⟨es, h1, hs⟩ := Option.bind_eq_some_iff.mp hs
        obtain ⟨bs, h2, hs⟩ := Option.bind_eq_some_iff.mp hs
        obtain ⟨rfl, rfl⟩ := Prod.mk.inj (Option.some.inj hs)
        exact op_toStr hop hd hel hu hx hr he h1 h2
      · cases hc
    · rename_i el hd hu
      split at hc
      · rename_i hel
        obtain ⟨cx, hx, hc⟩ := Option.bind_eq_some_iff.mp hc
        obtain rfl := Option.some.inj hc
        simp only [stepOp] at hs
        split at hs
        · rename_i b h1
          split at hs
          · rename_i hle
            obtain ⟨rfl, rfl⟩ := Prod.mk.inj (Option.some.inj hs)
            exact op_toBytes hop hd hu hel hx hr he (hf _ (Nat.le_refl _) (by rw [Mem.next_push]; omega)) h1 (Nat.le_of_ble_eq_true hle)
          · cases hs
        · cases hs
      · cases hc
    · cases hc
  case makeInterface t x =>
    split at hc
    · cases hc
    · cases hc
    · rename_i d hni hd
      obtain ⟨cx, hx, hc⟩ := Option.bind_eq_some_iff.mp hc
      obtain rfl := Option.some.inj hc
      simp only [stepOp] at hs
      obtain ⟨rfl, rfl⟩ := Prod.mk.inj (Option.some.inj hs)
      exact op_ifc hop hd (fun ms h => hni ms (by rw [← h])) hx hr he
  case makeFunc fn first caps =>
    cases fn <;> simp only at hc <;> try (cases hc; done)
    split at hc
    case isFalse => cases hc
    rename_i h0
    obtain ⟨cxs, hx, hc⟩ := Option.bind_eq_some_iff.mp hc
    obtain rfl := Option.some.inj hc
    simp only [stepOp] at hs
    obtain ⟨rfl, rfl⟩ := Prod.mk.inj (Option.some.inj hs)
    exact op_fn hop h0 hx hr he
  case makeSlice t x y =>
    split at hc
    · rename_i el hu
      obtain ⟨sz, hsz, hc⟩ := Option.bind_eq_some_iff.mp hc
      obtain ⟨by_, hby, hc⟩ := Option.bind_eq_some_iff.mp hc
      obtain ⟨z, hz, hc⟩ := Option.bind_eq_some_iff.mp hc
      split at hc
      case isFalse => cases hc
      rename_i hh
      obtain ⟨cx, hx, hc⟩ := Option.bind_eq_some_iff.mp hc
      obtain rfl := Option.some.inj hc
      simp only [stepOp] at hs
      split at hs
      · rename_i k hk
        split at hs
        · rename_i j hj
          split at hs
          · rename_i hroom
            obtain ⟨rfl, rfl⟩ := Prod.mk.inj (Option.some.inj hs)
            have hj0 : 0 ≤ k ∧ k.toNat = j := by
              unfold toNat? at hj
              split at hj
              · exact ⟨by assumption, Option.some.inj hj⟩
              · cases hj
            obtain ⟨hj0, rfl⟩ := hj0
            exact op_mkS hop hu hsz hby hz hh.1 hh.2 hx hr he (hf _ (Nat.le_refl _) (by rw [Mem.next_push]; omega)) hk hj0 hroom.1
          · cases hs
        · cases hs
      · cases hs
    · cases hc
  case slice t x lo hi mx =>
    cases mx with
    | some z =>
      cases lo with
      | some _ => simp at hc
      | none =>
        cases hi with
        | none => simp at hc
        | some y =>
          simp only at hc
          split at hc
          · rename_i el hu
            obtain ⟨sz, hsz, hc⟩ := Option.bind_eq_some_iff.mp hc
            obtain ⟨cx, hx, hc⟩ := Option.bind_eq_some_iff.mp hc
            obtain ⟨cy, hy, hc⟩ := Option.bind_eq_some_iff.mp hc
            obtain ⟨cz, hz, hc⟩ := Option.bind_eq_some_iff.mp hc
            obtain rfl := Option.some.inj hc
            simp only [stepOp] at hs
            obtain ⟨v, hv, hs⟩ := Option.map_eq_some_iff.mp hs
            obtain ⟨rfl, rfl⟩ := Prod.mk.inj hs
            exact op_cut3 (P := P) hop hu hsz hx hy hz hr he hv
          · cases hc
    | none =>
    simp only at hc
    split at hc
    · rename_i hu
      obtain ⟨cx, hx, hc⟩ := Option.bind_eq_some_iff.mp hc
      obtain ⟨clo, hlo, hc⟩ := Option.bind_eq_some_iff.mp hc
      obtain ⟨chi, hhi, hc⟩ := Option.bind_eq_some_iff.mp hc
      obtain rfl := Option.some.inj hc
      rw [noCall (by intro f xs h; cases h)] at hs
      obtain ⟨rfl, h⟩ := op_cutT (P := P) hop hu hx hlo hhi hr he hs
      exact h
    · rename_i el hu
      obtain ⟨sz, hsz, hc⟩ := Option.bind_eq_some_iff.mp hc
      obtain ⟨cx, hx, hc⟩ := Option.bind_eq_some_iff.mp hc
      obtain ⟨clo, hlo, hc⟩ := Option.bind_eq_some_iff.mp hc
      obtain ⟨chi, hhi, hc⟩ := Option.bind_eq_some_iff.mp hc
      obtain rfl := Option.some.inj hc
      rw [noCall (by intro f xs h; cases h)] at hs
      obtain ⟨rfl, h⟩ := op_cutS (P := P) hop hu hsz hx hlo hhi hr he hs
      exact h
    · cases hc
  case fieldAddr t x k =>
    split at hc
    · rename_i fs hu
      obtain ⟨f, hk, hc⟩ := Option.bind_eq_some_iff.mp hc
      obtain ⟨sz, hsz, hc⟩ := Option.bind_eq_some_iff.mp hc
      split at hc
      · cases hc
      rename_i h0
      obtain ⟨cx, hx, hc⟩ := Option.bind_eq_some_iff.mp hc
      obtain rfl := Option.some.inj hc
      simp only [stepOp] at hs
      split at hs
      · rename_i q i j hq
        obtain ⟨rfl, rfl⟩ := Prod.mk.inj (Option.some.inj hs)
        exact op_fieldAddr hop hu hk hsz h0 hx hr he (.inl ⟨_, _, _, hq, rfl⟩)
      · rename_i cs hq
        obtain ⟨rfl, rfl⟩ := Prod.mk.inj (Option.some.inj hs)
        exact op_fieldAddr hop hu hk hsz h0 hx hr he (.inr ⟨_, hq, rfl⟩)
      · cases hs
    · cases hc
  case field t x k =>
    split at hc
    · rename_i fs hu
      obtain ⟨f, hk, hc⟩ := Option.bind_eq_some_iff.mp hc
      obtain ⟨agg, hag, hc⟩ := Option.bind_eq_some_iff.mp hc
      obtain ⟨sz, hsz, hc⟩ := Option.bind_eq_some_iff.mp hc
      obtain ⟨cx, hx, hc⟩ := Option.bind_eq_some_iff.mp hc
      obtain rfl := Option.some.inj hc
      simp only [stepOp] at hs
      split at hs
      · rename_i cs hq
        simp only [Option.bind_eq_bind] at hs
        obtain ⟨p, hp, hs⟩ := Option.bind_eq_some_iff.mp hs
        obtain ⟨v, hv, hs⟩ := Option.bind_eq_some_iff.mp hs
        obtain ⟨rfl, rfl⟩ := Prod.mk.inj (Option.some.inj hs)
        exact op_field hop hu hk hag hsz hx hr he hq hp hv
      · cases hs
    · cases hc
  case indexAddr t x i =>
    split at hc
    · rename_i el hu
      obtain ⟨sz, hsz, hc⟩ := Option.bind_eq_some_iff.mp hc
      obtain ⟨cx, hx, hc⟩ := Option.bind_eq_some_iff.mp hc
      obtain ⟨ci, hi, hc⟩ := Option.bind_eq_some_iff.mp hc
      obtain rfl := Option.some.inj hc
      rw [noCall (by intro f xs h; cases h)] at hs
      obtain ⟨rfl, h⟩ := op_at (P := P) hop hu hsz hx hi hr he hs
      exact h
    · rename_i k el hu
      obtain ⟨sz, hsz, hc⟩ := Option.bind_eq_some_iff.mp hc
      obtain ⟨cx, hx, hc⟩ := Option.bind_eq_some_iff.mp hc
      obtain ⟨ci, hi, hc⟩ := Option.bind_eq_some_iff.mp hc
      obtain rfl := Option.some.inj hc
      simp only [stepOp] at hs
      obtain ⟨v, hv, hs⟩ := Option.map_eq_some_iff.mp hs
      obtain ⟨rfl, rfl⟩ := Prod.mk.inj hs
      exact op_atP (P := P) hop hu hsz hx hi hr he hv
    · cases hc
  case index t x i =>
    split at hc
    · rename_i hu
      obtain ⟨cx, hx, hc⟩ := Option.bind_eq_some_iff.mp hc
      obtain ⟨ci, hi, hc⟩ := Option.bind_eq_some_iff.mp hc
      obtain rfl := Option.some.inj hc
      rw [noCall (by intro f xs h; cases h)] at hs
      obtain ⟨rfl, h⟩ := op_atT (P := P) hop hu hx hi hr he hs
      exact h
    · rename_i k el hu
      obtain ⟨ag, hag, hc⟩ := Option.bind_eq_some_iff.mp hc
      obtain ⟨sz, hsz, hc⟩ := Option.bind_eq_some_iff.mp hc
      obtain ⟨cx, hx, hc⟩ := Option.bind_eq_some_iff.mp hc
      obtain ⟨ci, hi, hc⟩ := Option.bind_eq_some_iff.mp hc
      obtain rfl := Option.some.inj hc
      simp only [stepOp] at hs
      obtain ⟨v, hv, hs⟩ := Option.map_eq_some_iff.mp hs
      obtain ⟨rfl, rfl⟩ := Prod.mk.inj hs
      exact op_ixA (P := P) hop hu hag hsz hx hi hr he hv
    · cases hc
  case extract x k =>
    obtain ⟨cx, hx, hc⟩ := Option.bind_eq_some_iff.mp hc
    obtain rfl := Option.some.inj hc
    simp only [stepOp] at hs
    split at hs
    · rename_i vs hq
      obtain ⟨v, h1, h2⟩ := Option.map_eq_some_iff.mp hs
      obtain ⟨rfl, rfl⟩ := Prod.mk.inj h2
      exact op_ext hop hx hr he hq h1
    · cases hs
  case call c =>
    obtain ⟨callee, args, ts⟩ := c
    cases callee with
    | value f =>
      simp only at hc
      obtain ⟨cf, hf', hc⟩ := Option.bind_eq_some_iff.mp hc
      obtain ⟨cargs, hx, hc⟩ := Option.bind_eq_some_iff.mp hc
      obtain rfl := Option.some.inj hc
      simp only [stepOp] at hs
      split at hs
      · rename_i g caps hg
        exact op_call hC hop hf' hx hr he hf hg hs
      · cases hs
    | invoke rv nm => simp only at hc; cases hc
    | builtin b =>
      cases b <;> simp only at hc <;> try (cases hc; done)
      case len =>
        split at hc
        · rename_i x t hxs hts
          obtain rfl : args = #[x] := by rw [← Array.toArray_toList (xs := args), hxs]
          obtain rfl : ts = #[t] := by rw [← Array.toArray_toList (xs := ts), hts]
          split at hc
          · rename_i hu
            obtain ⟨cx, hx, hc⟩ := Option.bind_eq_some_iff.mp hc
            obtain rfl := Option.some.inj hc
            simp only [stepOp] at hs
            obtain ⟨v, h1, h2⟩ := Option.map_eq_some_iff.mp hs
            obtain ⟨rfl, rfl⟩ := Prod.mk.inj h2
            exact op_lenT hop hu hx hr he h1
          · rename_i el hu
            obtain ⟨cx, hx, hc⟩ := Option.bind_eq_some_iff.mp hc
            obtain rfl := Option.some.inj hc
            simp only [stepOp] at hs
            obtain ⟨v, h1, h2⟩ := Option.map_eq_some_iff.mp hs
            obtain ⟨rfl, rfl⟩ := Prod.mk.inj h2
            exact op_lenS hop hu hx hr he h1
          · cases hc
        · cases hc
      case append =>
        split at hc
        · rename_i x y t u hxs hts
          obtain rfl : args = #[x, y] := by rw [← Array.toArray_toList (xs := args), hxs]
          obtain rfl : ts = #[t, u] := by rw [← Array.toArray_toList (xs := ts), hts]
          split at hc
          · rename_i el hu
            obtain ⟨sz, hsz, hc⟩ := Option.bind_eq_some_iff.mp hc
            obtain ⟨by_, hby, hc⟩ := Option.bind_eq_some_iff.mp hc
            obtain ⟨z, hz, hc⟩ := Option.bind_eq_some_iff.mp hc
            split at hc
            case isFalse => cases hc
            rename_i hh
            obtain ⟨h0, htu⟩ := hh
            obtain ⟨cx, hx, hc⟩ := Option.bind_eq_some_iff.mp hc
            obtain ⟨cy, hy, hc⟩ := Option.bind_eq_some_iff.mp hc
            obtain rfl := Option.some.inj hc
            rw [noCall (by intro f xs h; cases h)] at hs
            subst htu
            exact op_app hop hu hsz hby hz h0 hx hy hr he hf hs
          · cases hc
        · cases hc
      case max =>
        obtain ⟨cxs, hx, hc⟩ := Option.bind_eq_some_iff.mp hc
        obtain rfl := Option.some.inj hc
        simp only [stepOp] at hs
        split at hs
        · rename_i c cs hcs
          obtain ⟨v, h1, h2⟩ := Option.map_eq_some_iff.mp hs
          obtain ⟨rfl, rfl⟩ := Prod.mk.inj h2
          exact op_mnmx (mx := true) hop hx hr he hcs h1
        · cases hs
      case min =>
        obtain ⟨cxs, hx, hc⟩ := Option.bind_eq_some_iff.mp hc
        obtain rfl := Option.some.inj hc
        simp only [stepOp] at hs
        split at hs
        · rename_i c cs hcs
          obtain ⟨v, h1, h2⟩ := Option.map_eq_some_iff.mp hs
          obtain ⟨rfl, rfl⟩ := Prod.mk.inj h2
          exact op_mnmx (mx := false) hop hx hr he hcs h1
        · cases hs

end
end Go.VI
