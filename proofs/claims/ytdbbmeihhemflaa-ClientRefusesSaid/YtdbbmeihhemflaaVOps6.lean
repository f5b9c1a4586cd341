/- Each operation, on related values: min and max, ==. No statement of the seat is proved here. -/
import Derived.Test.YtdbbmeihhemflaaVOps5
import Derived.WalkSpells
namespace Go.VI
open Go Go.RowKit

section
variable {P : Program} {W0 : World} {m m' : PM} {s s' : Mem} {w w' : World} {n : Nat} {a : Act} {e : Env} {o : Oper} {r : AV}

theorem best_cons {mx : Bool} {c d r : AV} {cs : List AV} (h : best mx c (d :: cs) = some r) : ∃ k x y, c = .int k x ∧ d = .int k y ∧ best mx (.int k (if mx then (if y > x then y else x) else (if y < x then y else x))) cs = some r := by
  unfold best at h
  split at h
  · rename_i heq
    cases heq
  · rename_i k x j y r' heq
    obtain ⟨rfl, rfl⟩ := List.cons.inj heq
    split at h
    · rename_i hkj
      subst hkj
      exact ⟨k, x, y, rfl, rfl, h⟩
    · cases h
  · cases h

theorem best_ok (mx : Bool) : ∀ (cs : List AV) (vs : List Value) (c r : AV) (v : Value), V W0 m v c → vs.length = cs.length → (∀ (i : Nat) (v : Value) (c : AV), vs[i]? = some v → cs[i]? = some c → V W0 m v c) → best mx c cs = some r →
    ∃ u, (vs.foldlM (if mx then Builtin.max2 else Builtin.min2) v).run P w = .ok u w ∧ V W0 m u r := by
  intro cs
  induction cs with
  | nil =>
    intro vs c r v hv hl _ h
    obtain rfl : vs = [] := List.eq_nil_of_length_eq_zero hl
    have : c = r := by unfold best at h; simpa using h
    subst this
    exact ⟨v, by simp, hv⟩
  | cons d cs ih =>
    intro vs c r v hv hl hall h
    match vs, hl, hall with
    | u :: vs, hl, hall =>
      have hu := hall 0 u d rfl rfl
      obtain ⟨k, x, y, rfl, rfl, hb⟩ := best_cons h
      have hv' := hv.inv_int
      have hu' := hu.inv_int
      subst hv' hu'
      obtain ⟨q, h1, h2⟩ := ih vs _ r (.int k (if mx then (if y > x then y else x) else (if y < x then y else x))) (.int _ _) (by simpa using hl) (fun i v c h1 h2 => hall (i + 1) v c (by simpa using h1) (by simpa using h2)) hb
      refine ⟨q, ?_, h2⟩
      rw [List.foldlM_cons]
      cases mx
      · simp only [Bool.false_eq_true, if_false] at h1 ⊢
        simp [Builtin.min2, h1]
      · simp only [if_true] at h1 ⊢
        simp only [Builtin.max2, Sem.run_bind, Sem.run_pure, Result.andThen_ok, h1]

theorem op_mnmx {xs : Array Operand} {ts : Array TypeId} {cxs : List Opd} {mx : Bool} {c : AV} {cs : List AV} (hop : o.op = .call { callee := .builtin (if mx then .max else .min), args := xs, argTypes := ts }) (hx : xs.toList.mapM cOpd = some cxs) (hr : Rel W0 m s w) (he : EnvOK W0 m n a e)
    (h1 : cxs.map (ev e) = c :: cs) (h : best mx c cs = some r) : Done P W0 m s w s r o a := by
  have hV := VL_map hx he
  rw [h1] at hV
  obtain ⟨g1, g2⟩ := hV
  have : ∃ v vs, (xs.map a.eval).toList = v :: vs := by
    cases hh : (xs.map a.eval).toList with
    | nil => have : (xs.map a.eval).size = 0 := by rw [← Array.length_toList, hh]; rfl
             rw [this] at g1; simp at g1
    | cons v vs => exact ⟨v, vs, rfl⟩
  obtain ⟨v, vs, hvs⟩ := this
  have hget : ∀ (i : Nat), (xs.map a.eval)[i]? = (v :: vs)[i]? := fun i => by rw [← hvs, Array.getElem?_toList]
  obtain ⟨u, q1, q2⟩ := best_ok (P := P) (W0 := W0) (m := m) (w := w) mx cs vs c r v (g2 0 v c (by rw [hget]; rfl) rfl) (by rw [← Array.length_toList, hvs] at g1; simpa using g1) (fun i v' c' h1 h2 => g2 (i + 1) v' c' (by rw [hget]; simpa using h1) (by simpa using h2)) h
  refine .pure (v := u) ?_ hr q2
  cases mx
  · simp only [Bool.false_eq_true, if_false] at q1 hop
    simp only [execOp, hop, resolve, invoke, builtin, Builtin.min_, Sem.run_bind, Sem.run_pure, Result.andThen_ok, hvs, q1]
  · simp only [if_true] at q1 hop
    simp only [execOp, hop, resolve, invoke, builtin, Builtin.max_, Sem.run_bind, Sem.run_pure, Result.andThen_ok, hvs, q1]

/-! == -/
theorem eqLf_ok {d : Nat} {t : TypeId} {k : LK} {v u : Value} {c b : AV} {q : Bool} (hk : leaves P (d + 1) t = some [k]) (hns : ∀ fs, P.underlying t ≠ some (.struct fs)) (hv : V W0 m v c) (hu : V W0 m u b) (h : eqLf k c b = some q) :
    (Op.equalIn (d + 1) t v u).run P w = .ok q w := by
  unfold leaves at hk
  split at hk
  · rename_i hty
    obtain rfl : LK.b = k := by simpa using hk
    cases c <;> try (simp [eqLf] at h; done)
    cases b <;> try (simp [eqLf] at h; done)
    simp only [eqLf] at h
    obtain rfl := Option.some.inj h
    simp [Op.equalIn, run_underlying hty, hv.inv_bool, hu.inv_bool]
  · rename_i kk hty
    obtain rfl : LK.i = k := by simpa using hk
    cases c <;> try (simp [eqLf] at h; done)
    cases b <;> try (simp [eqLf] at h; done)
    simp only [eqLf] at h
    split at h
    · rename_i hkk
      subst hkk
      obtain rfl := Option.some.inj h
      simp [Op.equalIn, run_underlying hty, hv.inv_int, hu.inv_int]
    · cases h
  · rename_i hty
    obtain rfl : LK.s = k := by simpa using hk
    cases c <;> try (simp [eqLf] at h; done)
    cases b <;> try (simp [eqLf] at h; done)
    simp only [eqLf] at h
    obtain rfl := Option.some.inj h
    obtain ⟨x, hx, rfl⟩ := hv.inv_str
    obtain ⟨y, hy, rfl⟩ := hu.inv_str
    rw [hx, hy]
    simp only [Op.equalIn, Sem.run_bind, run_underlying hty, Result.andThen_ok, Sem.run_pure]
    congr 1
    rw [Bool.eq_iff_iff, MapKept.bytes_beq, beq_iff_eq]
    constructor
    · intro h; rw [h]
    · intro h
      cases x; cases y
      simp only at h
      congr 1
      exact Array.toList_inj.mp h
  · rename_i fs hty
    exact absurd hty (hns fs)
  · cases hk


theorem eqL_append : ∀ (l1 l2 : List LK) (X Y : List AV) (q : Bool), eqL (l1 ++ l2) X Y = some q →
    ∃ q1, eqL l1 (X.take l1.length) (Y.take l1.length) = some q1 ∧ (q1 = true → eqL l2 (X.drop l1.length) (Y.drop l1.length) = some q) ∧ (q1 = false → q = false) := by
  intro l1
  induction l1 with
  | nil => intro l2 X Y q h; exact ⟨true, by simp [eqL], fun _ => by simpa using h, by simp⟩
  | cons k l1 ih =>
    intro l2 X Y q h
    match X, Y, h with
    | x :: X, y :: Y, h =>
      simp only [List.cons_append, eqL, List.length_cons, List.take_succ_cons, List.drop_succ_cons] at h ⊢
      split at h
      · rename_i hh
        obtain ⟨q1, h1, h2, h3⟩ := ih l2 X Y q h
        exact ⟨q1, h1, h2, h3⟩
      · rename_i hh
        obtain rfl := Option.some.inj h
        exact ⟨false, rfl, by simp, by simp⟩
      · cases h
    | [], [], h => simp [eqL] at h
    | [], _ :: _, h => simp [eqL] at h
    | _ :: _, [], h => simp [eqL] at h

theorem eqL_len : ∀ (ls : List LK) (X Y : List AV), eqL ls X Y = some true → X.length = ls.length ∧ Y.length = ls.length := by
  intro ls
  induction ls with
  | nil => intro X Y h; match X, Y, h with | [], [], _ => exact ⟨rfl, rfl⟩ | [], _ :: _, h => simp [eqL] at h | _ :: _, _, h => simp [eqL] at h
  | cons k ls ih =>
    intro X Y h
    match X, Y, h with
    | x :: X, y :: Y, h =>
      simp only [eqL] at h
      split at h
      · obtain ⟨h1, h2⟩ := ih X Y h; exact ⟨by simp [h1], by simp [h2]⟩
      · cases h
      · cases h
    | [], [], h => simp [eqL] at h
    | [], _ :: _, h => simp [eqL] at h
    | _ :: _, [], h => simp [eqL] at h

/-- The loop over a struct's fields. -/
theorem fields_ok {d : Nat} (lv : TypeId → Option (List LK)) (ihlen : ∀ (t : TypeId) (ls : List LK), lv t = some ls → cAgg P t = some false → ls.length = 1)
    (ih : ∀ (t : TypeId) (ls : List LK) (v u : Value) (c b : AV) (q : Bool), lv t = some ls → (∃ agg, cAgg P t = some agg ∧ pickCells agg (cells c) = some c ∧ pickCells agg (cells b) = some b) → (cells c).length = ls.length → (cells b).length = ls.length → V W0 m v c → V W0 m u b → eqL ls (cells c) (cells b) = some q → (Op.equalIn d t v u).run P w = .ok q w)
    {xs ys : Array Value} {X Y : List AV} (hX : VL W0 m xs X) (hY : VL W0 m ys Y) (cX : ∀ (i : Nat) (c : AV), X[i]? = some c → isCell c = true) (cY : ∀ (i : Nat) (c : AV), Y[i]? = some c → isCell c = true) (hlen : X.length = Y.length) :
    ∀ (fs : List Field) (off : Nat) (ls : List LK) (q : Bool), leavesF P lv fs off = some ls → off + ls.length = X.length → eqL ls (X.drop off) (Y.drop off) = some q →
      (forIn fs ((none : Option Bool), ()) (fun f _ => (if f.name ≠ "_" then do
                let p ← part f.type xs f.offset
                let p' ← part f.type ys f.offset
                let b ← Op.equalIn d f.type p p'
                if (!b) = true then pure (ForInStep.done (some false, ()))
                  else pure (ForInStep.yield (none, ()))
              else pure (ForInStep.yield (none, ())) : Sem (ForInStep (Option Bool × Unit))))).run P w = .ok (if q then none else some false, ()) w := by
  intro fs
  induction fs with
  | nil =>
    intro off ls q h hl he
    simp only [leavesF] at h
    obtain rfl := Option.some.inj h
    simp at hl
    rw [List.drop_eq_nil_of_le (by omega), List.drop_eq_nil_of_le (by omega)] at he
    simp only [eqL] at he
    obtain rfl := Option.some.inj he
    simp
  | cons f fs ihf =>
    intro off ls q h hl he
    simp only [leavesF, Option.bind_eq_bind] at h
    obtain ⟨k, hk, h⟩ := Option.bind_eq_some_iff.mp h
    split at h
    case isFalse => cases h
    rename_i hh
    obtain ⟨h1, h2, h3, h4⟩ := hh
    obtain ⟨l, hl2, h⟩ := Option.bind_eq_some_iff.mp h
    obtain rfl := Option.some.inj h
    obtain ⟨agg, hag⟩ := Option.isSome_iff_exists.mp h4
    simp only [List.length_append] at hl
    obtain ⟨q1, e1, e2, e3⟩ := eqL_append k l _ _ q he
    have sX : slice1 X off k.length = some ((X.drop off).take k.length) := by unfold slice1; rw [if_pos (by omega)]
    have sY : slice1 Y off k.length = some ((Y.drop off).take k.length) := by unfold slice1; rw [if_pos (by omega)]
    have pk : ∀ (Z : List AV), off + k.length ≤ Z.length → (∀ (i : Nat) (c : AV), Z[i]? = some c → isCell c = true) → (agg = false → k.length = 1) → ∃ c, pickCells agg ((Z.drop off).take k.length) = some c ∧ cells c = (Z.drop off).take k.length ∧ pickCells agg (cells c) = some c := by
      intro Z hZ cZ h1
      cases agg with
      | true => exact ⟨.agg ((Z.drop off).take k.length), by simp [pickCells], rfl, by simp [pickCells, cells]⟩
      | false =>
        have hk1 := h1 rfl
        have hlz : ((Z.drop off).take k.length).length = 1 := by simp; omega
        match hz : (Z.drop off).take k.length, hlz with
        | [c], _ =>
          have hc : Z[off]? = some c := by
            have : ((Z.drop off).take k.length)[0]? = some c := by rw [hz]; rfl
            rw [List.getElem?_take, List.getElem?_drop] at this
            split at this
            · simpa using this
            · cases this
          have hcell := cZ _ _ hc
          have hcc : cells c = [c] := by cases c <;> first | rfl | simp [isCell] at hcell
          exact ⟨c, by simp [pickCells], hcc, by rw [hcc]; simp [pickCells]⟩
    have hagg1 : agg = false → k.length = 1 := by
      intro ha
      subst ha
      exact ihlen f.type k hk hag
    obtain ⟨c, c1, c2, c3⟩ := pk X (by omega) cX hagg1
    obtain ⟨b, b1, b2, b3⟩ := pk Y (by omega) cY hagg1
    obtain ⟨v, v1, v2⟩ := part_ok hag h3 hX cX sX c1 w
    obtain ⟨u, u1, u2⟩ := part_ok hag h3 hY cY sY b1 w
    have heq := ih f.type k v u c b q1 hk ⟨agg, hag, c3, b3⟩ (by rw [c2]; simp; omega) (by rw [b2]; simp; omega) v2 u2 (by rw [c2, b2]; exact e1)
    rw [List.forIn_cons]
    simp only [Sem.run_bind, Sem.run_ite, h1, ne_eq, not_false_eq_true, if_true, h2, v1, u1, Result.andThen_ok, heq, Sem.run_pure]
    cases q1 with
    | false =>
      have := e3 rfl
      subst this
      simp
    | true =>
      have := ihf (off + k.length) l q hl2 (by omega) (by have := e2 rfl; rwa [List.drop_drop, List.drop_drop] at this)
      simpa using this

theorem leaves_one {d : Nat} {t : TypeId} {ls : List LK} (h : leaves P d t = some ls) (ha : cAgg P t = some false) : ls.length = 1 := by
  cases d with
  | zero => simp [leaves] at h
  | succ d =>
    unfold leaves at h
    split at h
    · obtain rfl := Option.some.inj h; rfl
    · obtain rfl := Option.some.inj h; rfl
    · obtain rfl := Option.some.inj h; rfl
    · rename_i hu
      simp [cAgg, hu] at ha
    · cases h

/-- == of values of a plain type. -/
theorem equal_ok : ∀ (d : Nat) (t : TypeId) (ls : List LK) (v u : Value) (c b : AV) (q : Bool), leaves P d t = some ls → (∃ agg, cAgg P t = some agg ∧ pickCells agg (cells c) = some c ∧ pickCells agg (cells b) = some b) → (cells c).length = ls.length → (cells b).length = ls.length → V W0 m v c → V W0 m u b → eqL ls (cells c) (cells b) = some q →
    (Op.equalIn d t v u).run P w = .ok q w := by
  intro d
  induction d with
  | zero => intro t ls v u c b q h; simp [leaves] at h
  | succ d ih =>
    intro t ls v u c b q h hag lc lb hv hu heq
    by_cases hs : ∃ fs, P.underlying t = some (.struct fs)
    · obtain ⟨fs, hs⟩ := hs
      have hl := h
      unfold leaves at hl
      rw [hs] at hl
      simp only at hl
      split at hl
      · cases hl
      rename_i hstood
      obtain ⟨agg, hag, pc, pb⟩ := hag
      have : agg = true := by simpa [cAgg, hs] using hag.symm
      subst this
      simp only [pickCells, if_true] at pc pb
      have pc := (Option.some.inj pc).symm
      have pb := (Option.some.inj pb).symm
      rw [pc] at hv
      rw [pb] at hu
      obtain ⟨xs, hx, hX, cX⟩ := hv.inv_agg
      obtain ⟨ys, hy, hY, cY⟩ := hu.inv_agg
      have hf := fields_ok (P := P) (w := w) (leaves P d) (fun t ls => leaves_one) ih hX hY cX cY (by rw [lc, lb]) fs.toList 0 ls q hl (by omega) (by simpa using heq)
      rw [hx, hy]
      simp only [Op.equalIn, Sem.run_bind, run_underlying hs, Result.andThen_ok, run_program, hstood, if_false, Bool.false_eq_true]
      rw [← Array.forIn_toList]
      rw [hf]
      cases q <;> simp
    · have hns : ∀ fs, P.underlying t ≠ some (.struct fs) := fun fs hf => hs ⟨fs, hf⟩
      obtain ⟨agg, hag, pc, pb⟩ := hag
      have hlen : ls.length = 1 ∧ agg = false := by
        cases agg with
        | false => exact ⟨leaves_one h hag, rfl⟩
        | true =>
          exfalso
          unfold leaves at h
          split at h
          · rename_i hu; simp [cAgg, hu] at hag
          · rename_i hu; simp [cAgg, hu] at hag
          · rename_i hu; simp [cAgg, hu] at hag
          · rename_i hu; exact hns _ hu
          · cases h
      obtain ⟨h1, rfl⟩ := hlen
      obtain ⟨k, rfl⟩ : ∃ k, ls = [k] := by
        match ls, h1 with
        | [k], _ => exact ⟨k, rfl⟩
      obtain ⟨x, hx⟩ : ∃ x, cells c = [x] := by
        match hc : cells c, lc with
        | [x], _ => exact ⟨x, rfl⟩
      obtain ⟨y, hy⟩ : ∃ y, cells b = [y] := by
        match hb : cells b, lb with
        | [y], _ => exact ⟨y, rfl⟩
      rw [hx] at pc
      rw [hy] at pb
      rw [hx, hy] at heq
      obtain rfl : x = c := by simpa [pickCells] using pc
      obtain rfl : y = b := by simpa [pickCells] using pb
      have : eqLf k x y = some q := by
        simp only [eqL] at heq
        split at heq
        · rename_i hh; rw [hh]; exact heq
        · rename_i hh; rw [hh]; exact heq
        · cases heq
      exact eqLf_ok h hns hv hu this

theorem leavesF_mono (lv lv' : TypeId → Option (List LK)) (h : ∀ t ls, lv t = some ls → lv' t = some ls) : ∀ (fs : List Field) (off : Nat) (ls : List LK), leavesF P lv fs off = some ls → leavesF P lv' fs off = some ls := by
  intro fs
  induction fs with
  | nil => intro off ls hh; exact hh
  | cons f fs ih =>
    intro off ls hh
    simp only [leavesF, Option.bind_eq_bind] at hh ⊢
    obtain ⟨k, hk, hh⟩ := Option.bind_eq_some_iff.mp hh
    rw [h _ _ hk, Option.bind_some]
    split at hh
    · rename_i hc
      rw [if_pos hc]
      obtain ⟨l, hl, hh⟩ := Option.bind_eq_some_iff.mp hh
      rw [ih _ _ hl]
      exact hh
    · cases hh

theorem leaves_mono : ∀ (d : Nat) (t : TypeId) (ls : List LK), leaves P d t = some ls → leaves P (d + 1) t = some ls := by
  intro d
  induction d with
  | zero => intro t ls h; simp [leaves] at h
  | succ d ih =>
    intro t ls h
    unfold leaves at h ⊢
    split at h
    · exact h
    · exact h
    · exact h
    · split at h
      · cases h
      · rename_i hs
        simp only [hs]
        exact leavesF_mono _ _ ih _ _ _ h
    · cases h

theorem leaves_more {d : Nat} {t : TypeId} {ls : List LK} (k : Nat) (h : leaves P d t = some ls) : leaves P (d + k) t = some ls := by
  induction k with
  | zero => exact h
  | succ k ih => exact leaves_mono _ _ _ ih

/-- The guard of ==: nothing to be feared. -/
theorem eqGuard_ok {op : BinOp} {t : TypeId} {x y : Operand} {v u : Value} (h : (∃ b c, v = .bool b ∧ u = .bool c) ∨ (∃ p q r p' q' r', v = .slice p q r ∧ u = .slice p' q' r') ∨ (∃ p q, v = .pointer p ∧ u = .pointer q) ∨
    ((v = .nilFunc ∨ ∃ p q r, v = .func p q r) ∧ (u = .nilFunc ∨ ∃ p q r, u = .func p q r)) ∨ ((v = .nilIface ∨ ∃ t z, v = .iface t z) ∧ (u = .nilIface ∨ ∃ t z, u = .iface t z) ∧ (isConst x || isConst y) = true) ∨
    (∃ p q, v = .agg p ∧ u = .agg q ∧ P.eqGuardType P.depth t = false)) : (eqGuard op t x y v u).run P w = .ok () w := by
  have hcst : ∀ z : Operand, isConst z = true → ∃ c, z = .const c := by
    intro z hz
    cases z <;> simp [isConst] at hz
    exact ⟨_, rfl⟩
  unfold eqGuard
  cases op <;> simp
  all_goals
    rcases h with ⟨b, c, rfl, rfl⟩ | ⟨p, q, r, p', q', r', rfl, rfl⟩ | ⟨p, q, rfl, rfl⟩ | ⟨hv, hu⟩ | ⟨hv, hu, hc⟩ | ⟨p, q, rfl, rfl, hg⟩
    · simp
    · simp
    · simp
    · rcases hv with rfl | ⟨_, _, _, rfl⟩ <;> rcases hu with rfl | ⟨_, _, _, rfl⟩ <;> simp
    · rcases hv with rfl | ⟨_, _, rfl⟩ <;> rcases hu with rfl | ⟨_, _, rfl⟩ <;> try simp
      rcases Bool.or_eq_true_iff.mp hc with hc | hc <;> obtain ⟨c, rfl⟩ := hcst _ hc <;> simp
    · simp [hg]

theorem V.slice_of {v : Value} {c : AV} (hv : V W0 m v c) (h : c = .nilS ∨ (∃ xs, c = .sl xs) ∨ (∃ r i n z, c = .own r i n z) ∨ c = .emp) : (c = .nilS ∧ v = .slice none 0 0) ∨ (c ≠ .nilS ∧ ∃ p l k, v = .slice (some p) l k) := by
  rcases h with rfl | ⟨xs, rfl⟩ | ⟨r, i, n, z, rfl⟩ | rfl
  · exact .inl ⟨rfl, hv.inv_nilS⟩
  · obtain ⟨ad, cap, e, h1, _⟩ := hv.inv_sl; exact .inr ⟨by simp, _, _, _, h1⟩
  · obtain ⟨off, cp, pl, h1, _⟩ := hv.inv_own; exact .inr ⟨by simp, _, _, _, h1⟩
  · obtain ⟨ad, h1⟩ := hv.inv_emp; exact .inr ⟨by simp, _, _, _, h1⟩

theorem eqA_ok {t : TypeId} {k : EK} {x y : Operand} {v u : Value} {c b : AV} {q : Bool} (hk : eqKind P t x y = some k) (hv : V W0 m v c) (hu : V W0 m u b) (h : eqA k c b = some q) (op : BinOp) :
    (Op.equal t v u).run P w = .ok q w ∧ (eqGuard op t x y v u).run P w = .ok () w ∧
    ((∃ b c, v = .bool b ∧ u = .bool c) ∨ (∃ p q r p' q' r', v = .slice p q r ∧ u = .slice p' q' r') ∨ (∃ p q, v = .pointer p ∧ u = .pointer q) ∨
    ((v = .nilFunc ∨ ∃ p q r, v = .func p q r) ∧ (u = .nilFunc ∨ ∃ p q r, u = .func p q r)) ∨ ((v = .nilIface ∨ ∃ t z, v = .iface t z) ∧ (u = .nilIface ∨ ∃ t z, u = .iface t z)) ∨
    (∃ p q, v = .agg p ∧ u = .agg q)) := by
  unfold eqKind at hk
  obtain ⟨D, h10⟩ : ∃ D, Op.maxDepth = D + 1 := ⟨9999, rfl⟩
  split at hk
  · rename_i hty
    obtain rfl := Option.some.inj hk
    cases c <;> try (simp [eqA] at h; done)
    cases b <;> try (simp [eqA] at h; done)
    simp only [eqA] at h
    obtain rfl := Option.some.inj h
    have e1 := hv.inv_bool
    have e2 := hu.inv_bool
    subst e1 e2
    refine ⟨?_, eqGuard_ok (.inl ⟨_, _, rfl, rfl⟩), .inl ⟨_, _, rfl, rfl⟩⟩
    unfold Op.equal
    rw [h10]
    simp [Op.equalIn, run_underlying hty]
  · rename_i el hty
    obtain rfl := Option.some.inj hk
    have hcb : (c = .nilS ∨ (∃ xs, c = .sl xs) ∨ (∃ r i n z, c = .own r i n z) ∨ c = .emp) ∧ (b = .nilS ∨ (∃ xs, b = .sl xs) ∨ (∃ r i n z, b = .own r i n z) ∨ b = .emp) ∧ ((c = .nilS ∧ b = .nilS ∧ q = true) ∨ (c = .nilS ∧ b ≠ .nilS ∧ q = false) ∨ (c ≠ .nilS ∧ b = .nilS ∧ q = false)) := by
      cases c <;> cases b <;> simp [eqA] at h <;> subst h <;> simp
    obtain ⟨k1, k2, k3⟩ := hcb
    have s1 := hv.slice_of k1
    have s2 := hu.slice_of k2
    have key : (∃ p q r p' q' r', v = .slice p q r ∧ u = .slice p' q' r') ∧ (Op.equal t v u).run P w = .ok q w := by
      unfold Op.equal
      rw [h10]
      rcases k3 with ⟨rfl, rfl, rfl⟩ | ⟨rfl, hb, rfl⟩ | ⟨hc, rfl, rfl⟩
      · have e1 := hv.inv_nilS
        have e2 := hu.inv_nilS
        subst e1 e2
        exact ⟨⟨_, _, _, _, _, _, rfl, rfl⟩, by simp [Op.equalIn, run_underlying hty]⟩
      · have e1 := hv.inv_nilS
        subst e1
        rcases s2 with ⟨h, _⟩ | ⟨_, p, l, kk, rfl⟩
        · exact absurd h hb
        · exact ⟨⟨_, _, _, _, _, _, rfl, rfl⟩, by simp [Op.equalIn, run_underlying hty]⟩
      · have e2 := hu.inv_nilS
        subst e2
        rcases s1 with ⟨h, _⟩ | ⟨_, p, l, kk, rfl⟩
        · exact absurd h hc
        · exact ⟨⟨_, _, _, _, _, _, rfl, rfl⟩, by simp [Op.equalIn, run_underlying hty]⟩
    exact ⟨key.2, eqGuard_ok (.inr (.inl key.1)), .inr (.inl key.1)⟩
  · rename_i hty
    obtain rfl := Option.some.inj hk
    have key : ((v = .nilFunc ∨ ∃ p q r, v = .func p q r) ∧ (u = .nilFunc ∨ ∃ p q r, u = .func p q r)) ∧ (Op.equal t v u).run P w = .ok q w := by
      unfold Op.equal
      rw [h10]
      cases c <;> try (simp [eqA] at h; done)
      · cases b <;> try (simp [eqA] at h; done)
        simp only [eqA] at h
        obtain rfl := Option.some.inj h
        obtain ⟨caps, rfl, _⟩ := hv.inv_fn
        have e2 := hu.inv_nilF
        subst e2
        exact ⟨⟨.inr ⟨_, _, _, rfl⟩, .inl rfl⟩, by simp [Op.equalIn, run_underlying hty]⟩
      · have e1 := hv.inv_nilF
        subst e1
        cases b <;> try (simp [eqA] at h; done)
        · simp only [eqA] at h
          obtain rfl := Option.some.inj h
          obtain ⟨caps, rfl, _⟩ := hu.inv_fn
          exact ⟨⟨.inl rfl, .inr ⟨_, _, _, rfl⟩⟩, by simp [Op.equalIn, run_underlying hty]⟩
        · simp only [eqA] at h
          obtain rfl := Option.some.inj h
          have e2 := hu.inv_nilF
          subst e2
          exact ⟨⟨.inl rfl, .inl rfl⟩, by simp [Op.equalIn, run_underlying hty]⟩
    exact ⟨key.2, eqGuard_ok (.inr (.inr (.inr (.inl key.1)))), .inr (.inr (.inr (.inl key.1)))⟩
  · rename_i hty
    split at hk
    case isFalse => cases hk
    rename_i hcst
    obtain rfl := Option.some.inj hk
    have key : ((v = .nilIface ∨ ∃ t z, v = .iface t z) ∧ (u = .nilIface ∨ ∃ t z, u = .iface t z)) ∧ (Op.equal t v u).run P w = .ok q w := by
      unfold Op.equal
      rw [h10]
      cases c <;> try (simp [eqA] at h; done)
      · cases b <;> try (simp [eqA] at h; done)
        simp only [eqA] at h
        obtain rfl := Option.some.inj h
        obtain ⟨z, rfl, _⟩ := hv.inv_ifc
        have e2 := hu.inv_nilI
        subst e2
        exact ⟨⟨.inr ⟨_, _, rfl⟩, .inl rfl⟩, by simp [Op.equalIn, run_underlying hty]⟩
      · have e1 := hv.inv_nilI
        subst e1
        cases b <;> try (simp [eqA] at h; done)
        · simp only [eqA] at h
          obtain rfl := Option.some.inj h
          obtain ⟨z, rfl, _⟩ := hu.inv_ifc
          exact ⟨⟨.inl rfl, .inr ⟨_, _, rfl⟩⟩, by simp [Op.equalIn, run_underlying hty]⟩
        · simp only [eqA] at h
          obtain rfl := Option.some.inj h
          have e2 := hu.inv_nilI
          subst e2
          exact ⟨⟨.inl rfl, .inl rfl⟩, by simp [Op.equalIn, run_underlying hty]⟩
    exact ⟨key.2, eqGuard_ok (.inr (.inr (.inr (.inr (.inl ⟨key.1.1, key.1.2, hcst⟩))))), .inr (.inr (.inr (.inr (.inl key.1))))⟩
  · rename_i el hty
    obtain rfl := Option.some.inj hk
    have key : (∃ p q, v = .pointer p ∧ u = .pointer q) ∧ (Op.equal t v u).run P w = .ok q w := by
      unfold Op.equal
      rw [h10]
      cases c <;> try (simp [eqA] at h; done)
      · have e1 := hv.inv_nilP
        subst e1
        cases b <;> try (simp [eqA] at h; done)
        · simp only [eqA] at h
          obtain rfl := Option.some.inj h
          have e2 := hu.inv_nilP
          subst e2
          exact ⟨⟨_, _, rfl, rfl⟩, by simp [Op.equalIn, run_underlying hty]⟩
        · simp only [eqA] at h
          obtain rfl := Option.some.inj h
          obtain ⟨pl, rfl, _⟩ := hu.inv_ptr
          exact ⟨⟨_, _, rfl, rfl⟩, by simp [Op.equalIn, run_underlying hty]⟩
      · cases b <;> try (simp [eqA] at h; done)
        simp only [eqA] at h
        obtain rfl := Option.some.inj h
        obtain ⟨pl, rfl, _⟩ := hv.inv_ptr
        have e2 := hu.inv_nilP
        subst e2
        exact ⟨⟨_, _, rfl, rfl⟩, by simp [Op.equalIn, run_underlying hty]⟩
    exact ⟨key.2, eqGuard_ok (.inr (.inr (.inl key.1))), .inr (.inr (.inl key.1))⟩
  · rename_i fs hty
    split at hk
    case isTrue => cases hk
    rename_i hg
    obtain ⟨ls, hls, rfl⟩ := Option.map_eq_some_iff.mp hk
    cases c <;> try (simp [eqA] at h; done)
    cases b <;> try (simp [eqA] at h; done)
    rename_i X Y
    simp only [eqA] at h
    obtain ⟨xs, rfl, hX, cX⟩ := hv.inv_agg
    obtain ⟨ys, rfl, hY, cY⟩ := hu.inv_agg
    refine ⟨?_, eqGuard_ok (.inr (.inr (.inr (.inr (.inr ⟨_, _, rfl, rfl, by simpa using hg⟩))))), .inr (.inr (.inr (.inr (.inr ⟨_, _, rfl, rfl⟩))))⟩
    split at h
    case isFalse => cases h
    rename_i hl
    have hls' := leaves_more 9980 hls
    have e0 : Op.maxDepth = 20 + 9980 := rfl
    unfold Op.equal
    rw [e0]
    exact equal_ok _ t ls _ _ (.agg X) (.agg Y) q hls' ⟨true, by simp [cAgg, hty], rfl, rfl⟩ hl.1 hl.2 hv hu h
  · cases hk

end
end Go.VI
