/- Each operation, on related values: more. No statement of the seat is proved here. -/
import Derived.Test.YtdbbmeihhemflaaVOps
namespace Go.VI
open Go Go.RowKit

section
variable {P : Program} {W0 : World} {m m' : PM} {s s' : Mem} {w w' : World} {n : Nat} {a : Act} {e : Env} {o : Oper} {r : AV}

theorem op_nilCheck {x : Operand} {cx : Opd} (ho : o.op = .nilCheck x) (hx : cOpd x = some cx) (hr : Rel W0 m s w) (he : EnvOK W0 m n a e)
    (h : (∃ q i j, ev e cx = .ptr q i j) ∨ (∃ cs, ev e cx = .ref cs) ∨ (∃ f cs, ev e cx = .fn f cs)) : Done P W0 m s w s (ev e cx) o a := by
  have hv := opd_V he hx
  refine .pure (v := a.eval x) ?_ hr hv
  rcases h with ⟨q, i, j, h⟩ | ⟨cs, h⟩ | ⟨f, cs, h⟩
  · rw [h] at hv; obtain ⟨pl, h1, _⟩ := hv.inv_ptr; simp [execOp, ho, h1]
  · rw [h] at hv; obtain ⟨b, off, h1, _⟩ := hv.inv_ref; simp [execOp, ho, h1]
  · rw [h] at hv; obtain ⟨caps, h1, _⟩ := hv.inv_fn; simp [execOp, ho, h1]

theorem op_fieldAddr {t : TypeId} {x : Operand} {cx : Opd} {k : Nat} {fs : Array Field} {f : Field} {sz : Nat} (ho : o.op = .fieldAddr t x k) (hu : P.underlying t = some (.struct fs)) (hk : fs[k]? = some f)
    (hsz : cSize P f.type = some sz) (h0 : sz ≠ 0) (hx : cOpd x = some cx) (hr : Rel W0 m s w) (he : EnvOK W0 m n a e)
    (h : (∃ q i j, ev e cx = .ptr q i j ∧ r = .ptr q i (j + f.offset)) ∨ (∃ cs, ev e cx = .ref cs ∧ r = .ref (cs.drop f.offset))) : Done P W0 m s w s r o a := by
  have hv := opd_V he hx
  rcases h with ⟨q, i, j, h, rfl⟩ | ⟨cs, h, rfl⟩
  · rw [h] at hv
    obtain ⟨pl, h1, hm⟩ := hv.inv_ptr
    refine .pure (v := .pointer (some ⟨pl.blk, i * pl.e + (j + f.offset), none⟩)) ?_ hr (.ptr q i (j + f.offset) pl hm)
    simp [execOp, ho, Instr.fieldAt, run_underlying hu, hk, h1, Instr.sureAddr, fieldPlace, run_cSize hsz, h0, add_addr, Nat.add_assoc]
  · rw [h] at hv
    obtain ⟨b, off, h1, hb, hc⟩ := hv.inv_ref
    refine .pure (v := .pointer (some ⟨b, off + f.offset, none⟩)) ?_ hr ?_
    · simp [execOp, ho, Instr.fieldAt, run_underlying hu, hk, h1, Instr.sureAddr, fieldPlace, run_cSize hsz, h0, add_addr]
    · refine .ref b (off + f.offset) _ hb ?_ ?_
      · intro i c hi
        rw [List.getElem?_drop] at hi
        obtain ⟨q1, v, q2, q3⟩ := hc _ _ hi
        rw [← Nat.add_assoc] at q2
        exact ⟨q1, by rw [q2]; rfl⟩
      · intro i c v hi hv'
        rw [List.getElem?_drop] at hi
        obtain ⟨q1, v', q2, q3⟩ := hc _ _ hi
        rw [← Nat.add_assoc, hv'] at q2
        obtain rfl := Option.some.inj q2
        exact q3

/-- A part of a struct's value. -/
theorem part_ok {t : TypeId} {agg : Bool} {off sz : Nat} {cs : Array Value} {acs p : List AV} (hag : cAgg P t = some agg) (hsz : cSize P t = some sz) (hV : VL W0 m cs acs) (hc : ∀ (i : Nat) (c : AV), acs[i]? = some c → isCell c = true)
    (hs : slice1 acs off sz = some p) (hp : pickCells agg p = some r) (w : World) : ∃ v, (part t cs off).run P w = .ok v w ∧ V W0 m v r := by
  obtain ⟨h1, h2, h3⟩ := slice1_some hs
  unfold part
  simp only [Sem.run_bind, run_cAgg hag, Result.andThen_ok]
  cases agg with
  | true =>
    simp only [pickCells, if_true] at hp
    obtain rfl := Option.some.inj hp
    refine ⟨.agg (cs.extract off (off + sz)), by simp [run_cSize hsz], ?_⟩
    have hl := hV.1
    refine .agg _ _ (by simp [h2]; omega) ?_ ?_
    · intro i c hi
      rw [h3] at hi
      split at hi
      · exact hc _ _ hi
      · cases hi
    · intro i v c hv hi
      rw [h3] at hi
      split at hi
      · rw [Array.getElem?_extract] at hv
        split at hv
        · exact hV.2 _ _ _ hv hi
        · cases hv
      · cases hi
  | false =>
    simp only [pickCells] at hp
    match p, h2, hp, h3 with
    | [v], h2, hp, h3 =>
      simp at hp
      subst hp
      simp at h2
      subst h2
      have := h3 0
      simp at this
      have hlt : off < cs.size := by have := hV.1; omega
      refine ⟨cs[off], by simp [hlt], hV.2 off _ v (by simp) this.symm⟩
    | [], _, hp, _ => simp at hp
    | _ :: _ :: _, _, hp, _ => simp at hp

theorem op_field {t : TypeId} {x : Operand} {cx : Opd} {k : Nat} {fs : Array Field} {f : Field} {agg : Bool} {sz : Nat} {cs p : List AV} (ho : o.op = .field t x k) (hu : P.underlying t = some (.struct fs)) (hk : fs[k]? = some f)
    (hag : cAgg P f.type = some agg) (hsz : cSize P f.type = some sz) (hx : cOpd x = some cx) (hr : Rel W0 m s w) (he : EnvOK W0 m n a e)
    (h : ev e cx = .agg cs) (hs : slice1 cs f.offset sz = some p) (hp : pickCells agg p = some r) : Done P W0 m s w s r o a := by
  have hv := opd_V he hx
  rw [h] at hv
  obtain ⟨vs, h1, h2, h3⟩ := hv.inv_agg
  obtain ⟨v, q1, q2⟩ := part_ok hag hsz h2 h3 hs hp w
  refine .pure (v := v) ?_ hr q2
  simp [execOp, ho, Instr.field, run_underlying hu, hk, h1, asAgg, q1]

theorem op_at {t el : TypeId} {x i : Operand} {cx ci : Opd} {sz : Nat} (ho : o.op = .indexAddr t x i) (hu : P.underlying t = some (.slice el)) (hsz : cSize P el = some sz) (hx : cOpd x = some cx) (hi : cOpd i = some ci)
    (hr : Rel W0 m s w) (he : EnvOK W0 m n a e) (h : stepOp (fun _ _ _ => none) (.at_ sz cx ci) e s = some (r, s')) : s' = s ∧ Done P W0 m s w s r o a := by
  have hv := opd_V he hx
  have hvi := opd_V he hi
  simp only [stepOp] at h
  split at h
  · rename_i k z hz
    rw [hz] at hvi
    have hiv := hvi.inv_int
    simp only [Option.bind_eq_bind] at h
    obtain ⟨j, hj, h⟩ := Option.bind_eq_some_iff.mp h
    have hz0 : 0 ≤ z ∧ z.toNat = j := by
      unfold toNat? at hj
      split at hj
      · exact ⟨by assumption, Option.some.inj hj⟩
      · cases hj
    obtain ⟨hz0, rfl⟩ := hz0
    split at h
    · rename_i xs hxs
      rw [hxs] at hv
      obtain ⟨cs, hcs, h⟩ := Option.bind_eq_some_iff.mp h
      split at h
      · rename_i hl
        obtain ⟨rfl, rfl⟩ := Prod.mk.inj (Option.some.inj h)
        refine ⟨rfl, ?_⟩
        obtain ⟨ad, cap, el', h1, hb', hcap, hel, hc⟩ := hv.inv_sl
        obtain ⟨had, hb⟩ := hb' (by intro h; rw [h] at hcs; simp at hcs)
        generalize hbb : ad.block = b at had hb hc
        generalize hoo : ad.off = off at had hc
        subst had
        have hjlt := (List.getElem?_eq_some_iff.mp hcs).1
        have hee := hel _ _ hcs
        have hzl : z < (xs.length : Int) := by omega
        refine .pure (v := .pointer (some ⟨b, off + z.toNat * sz, none⟩)) ?_ hr ?_
        · simp [execOp, ho, Instr.indexAt, h1, hiv, asIntOf, run_underlying hu, run_cSize hsz, hz0, hzl, add_addr]
        · have hcc : ∀ (q : Nat) (c : AV), cs[q]? = some c → isCell c = true ∧ ∃ v, W0.cell? ⟨b, off + z.toNat * sz + q, none⟩ = some v ∧ V W0 m v c := by
            intro q c hq
            have := hc z.toNat cs q c hcs hq
            rw [← hee, hl, ← Nat.add_assoc] at this
            exact this
          refine .ref b _ cs hb ?_ ?_
          · intro q c hq
            obtain ⟨q1, v, q2, q3⟩ := hcc q c hq
            exact ⟨q1, by rw [q2]; rfl⟩
          · intro q c v hq hv'
            obtain ⟨q1, v', q2, q3⟩ := hcc q c hq
            rw [hv'] at q2
            obtain rfl := Option.some.inj q2
            exact q3
      · cases h
    · rename_i q i0 n0 z0 hq
      rw [hq] at hv
      split at h
      · rename_i hl
        obtain ⟨hl1, hl2'⟩ := hl
        obtain ⟨rfl, rfl⟩ := Prod.mk.inj (Option.some.inj h)
        refine ⟨rfl, ?_⟩
        obtain ⟨off, cp, pl, h1, hm, hcap, hn, ha, hE⟩ := hv.inv_own
        have hoff := ha (.inl (by omega))
        have hzl : z < (n0 : Int) := by omega
        refine .pure (v := .pointer (some ⟨pl.blk, (i0 + z.toNat) * pl.e + 0, none⟩)) ?_ hr (.ptr q _ 0 pl hm)
        simp [execOp, ho, Instr.indexAt, h1, hiv, asIntOf, run_underlying hu, run_cSize hsz, hz0, hzl, add_addr, hoff, hE, hl2', Nat.add_mul]
      · cases h
    · cases h
  · cases h

theorem op_ixA {t el : TypeId} {x i : Operand} {cx ci : Opd} {agg : Bool} {sz len : Nat} (ho : o.op = .index t x i) (hu : P.underlying t = some (.array len el)) (hag : cAgg P el = some agg) (hsz : cSize P el = some sz) (hx : cOpd x = some cx) (hi : cOpd i = some ci)
    (hr : Rel W0 m s w) (he : EnvOK W0 m n a e) (h : ixV agg sz len (ev e cx) (ev e ci) = some r) : Done P W0 m s w s r o a := by
  have hv := opd_V he hx
  have hvi := opd_V he hi
  unfold ixV at h
  split at h
  case h_2 => cases h
  rename_i cs k z hcs hz
  rw [hz] at hvi
  rw [hcs] at hv
  have hiv := hvi.inv_int
  obtain ⟨vs, h1, h2, h3⟩ := hv.inv_agg
  split at h
  case h_2 => cases h
  rename_i j hj
  have hz0 : 0 ≤ z ∧ z.toNat = j := by
    unfold toNat? at hj
    split at hj
    · exact ⟨by assumption, Option.some.inj hj⟩
    · cases hj
  obtain ⟨hz0, rfl⟩ := hz0
  split at h
  case isFalse => cases h
  rename_i hlt
  obtain ⟨p, hs, hp⟩ := Option.bind_eq_some_iff.mp h
  obtain ⟨v, q1, q2⟩ := part_ok hag hsz h2 h3 hs hp w
  refine .pure (v := v) ?_ hr q2
  have hzl : z < (len : Int) := by omega
  simp [execOp, ho, Instr.index, h1, hiv, asIntOf, run_underlying hu, run_cSize hsz, hz0, hzl, q1]

theorem op_atP {t el : TypeId} {x i : Operand} {cx ci : Opd} {sz len : Nat} (ho : o.op = .indexAddr t x i) (hu : P.underlying t = some (.array len el)) (hsz : cSize P el = some sz) (hx : cOpd x = some cx) (hi : cOpd i = some ci)
    (hr : Rel W0 m s w) (he : EnvOK W0 m n a e) (h : atV sz len (ev e cx) (ev e ci) = some r) : Done P W0 m s w s r o a := by
  have hv := opd_V he hx
  have hvi := opd_V he hi
  unfold atV at h
  split at h
  case h_2 => cases h
  rename_i xa k z hz
  rw [hz] at hvi
  have hiv := hvi.inv_int
  split at h
  case h_2 => cases h
  rename_i j hj
  have hz0 : 0 ≤ z ∧ z.toNat = j := by
    unfold toNat? at hj
    split at hj
    · exact ⟨by assumption, Option.some.inj hj⟩
    · cases hj
  obtain ⟨hz0, rfl⟩ := hz0
  split at h
  case isFalse => cases h
  rename_i hlt
  have hzl : z < (len : Int) := by omega
  split at h
  · rename_i q i0 o0 hq
    rw [hq] at hv
    obtain rfl := Option.some.inj h
    obtain ⟨pl, h1, hm⟩ := hv.inv_ptr
    refine .pure (v := .pointer (some ⟨pl.blk, i0 * pl.e + (o0 + z.toNat * sz), none⟩)) ?_ hr (.ptr q i0 _ pl hm)
    simp [execOp, ho, Instr.indexAt, h1, hiv, asIntOf, run_underlying hu, run_cSize hsz, hz0, hzl, Instr.sureAddr, add_addr, Nat.add_assoc]
  · rename_i cs hq
    rw [hq] at hv
    obtain rfl := Option.some.inj h
    obtain ⟨b, off, h1, hb, hc⟩ := hv.inv_ref
    refine .pure (v := .pointer (some ⟨b, off + z.toNat * sz, none⟩)) ?_ hr ?_
    · simp [execOp, ho, Instr.indexAt, h1, hiv, asIntOf, run_underlying hu, run_cSize hsz, hz0, hzl, Instr.sureAddr, add_addr]
    · refine .ref b (off + z.toNat * sz) _ hb ?_ ?_
      · intro i c hi
        rw [List.getElem?_drop] at hi
        obtain ⟨q1, v, q2, q3⟩ := hc _ _ hi
        rw [← Nat.add_assoc] at q2
        exact ⟨q1, by rw [q2]; rfl⟩
      · intro i c v hi hv'
        rw [List.getElem?_drop] at hi
        obtain ⟨q1, v', q2, q3⟩ := hc _ _ hi
        rw [← Nat.add_assoc, hv'] at q2
        obtain rfl := Option.some.inj q2
        exact q3
  · cases h

theorem op_atT {t : TypeId} {x i : Operand} {cx ci : Opd} (ho : o.op = .index t x i) (hu : P.underlying t = some .string) (hx : cOpd x = some cx) (hi : cOpd i = some ci)
    (hr : Rel W0 m s w) (he : EnvOK W0 m n a e) (h : stepOp (fun _ _ _ => none) (.atT cx ci) e s = some (r, s')) : s' = s ∧ Done P W0 m s w s r o a := by
  have hv := opd_V he hx
  have hvi := opd_V he hi
  simp only [stepOp] at h
  split at h
  · rename_i b k z hb hz
    rw [hz] at hvi
    rw [hb] at hv
    have hiv := hvi.inv_int
    obtain ⟨bs, h1, h2⟩ := hv.inv_str
    simp only [Option.bind_eq_bind] at h
    obtain ⟨j, hj, h⟩ := Option.bind_eq_some_iff.mp h
    obtain ⟨c, hc, h⟩ := Option.bind_eq_some_iff.mp h
    obtain ⟨rfl, rfl⟩ := Prod.mk.inj (Option.some.inj h)
    have hz0 : 0 ≤ z ∧ z.toNat = j := by
      unfold toNat? at hj
      split at hj
      · exact ⟨by assumption, Option.some.inj hj⟩
      · cases hj
    obtain ⟨hz0, rfl⟩ := hz0
    refine ⟨rfl, .pure (v := .int .u8 c.toNat) ?_ hr (.int _ _)⟩
    have hg : bs[z.toNat]? = some c := by
      rw [← hc, ← h2]
      obtain ⟨arr⟩ := bs
      show (⟨arr⟩ : ByteArray)[z.toNat]? = arr.toList[z.toNat]?
      rw [Array.getElem?_toList]
      by_cases hlt : z.toNat < arr.size
      · rw [getElem?_pos (⟨arr⟩ : ByteArray) z.toNat hlt, getElem?_pos arr z.toNat hlt]; rfl
      · rw [getElem?_neg (⟨arr⟩ : ByteArray) z.toNat hlt, getElem?_neg arr z.toNat hlt]
    simp [execOp, ho, Instr.index, h1, hiv, asIntOf, run_underlying hu, hz0, hg]
  · cases h

theorem op_ext {x : Operand} {cx : Opd} {k : Nat} {vs : List AV} (ho : o.op = .extract x k) (hx : cOpd x = some cx) (hr : Rel W0 m s w) (he : EnvOK W0 m n a e) (h : ev e cx = .tup vs) (hk : vs[k]? = some r) : Done P W0 m s w s r o a := by
  have hv := opd_V he hx
  rw [h] at hv
  obtain ⟨us, h1, h2⟩ := hv.inv_tup
  have hlt : k < us.size := by have := (List.getElem?_eq_some_iff.mp hk).1; have := h2.1; omega
  refine .pure (v := us[k]) ?_ hr (h2.2 k _ _ (by simp) hk)
  simp [execOp, ho, Instr.extract, h1, hlt]

theorem op_ifc {t : TypeId} {x : Operand} {cx : Opd} {d : TypeDesc} (ho : o.op = .makeInterface t x) (hd : P.underlying t = some d) (hni : ∀ ms, d ≠ .interface ms) (hx : cOpd x = some cx) (hr : Rel W0 m s w) (he : EnvOK W0 m n a e) :
    Done P W0 m s w s (.ifc t (ev e cx)) o a := by
  refine .pure (v := .iface t (a.eval x)) ?_ hr (.ifc t _ _ (opd_V he hx))
  cases d <;> first | (exfalso; exact hni _ rfl) | simp [execOp, ho, Instr.makeInterface, run_underlying hd]

theorem VL_map {xs : Array Operand} {cxs : List Opd} (h : xs.toList.mapM cOpd = some cxs) (he : EnvOK W0 m n a e) : VL W0 m (xs.map a.eval) (cxs.map (ev e)) := by
  obtain ⟨h1, h2⟩ := mapM_some h
  refine ⟨by simpa using h1, ?_⟩
  intro i v c hv hc
  rw [Array.getElem?_map] at hv
  rw [List.getElem?_map] at hc
  obtain ⟨x, hx, rfl⟩ := Option.map_eq_some_iff.mp hv
  obtain ⟨y, hy, rfl⟩ := Option.map_eq_some_iff.mp hc
  exact opd_V he (h2 i x y (by simpa using hx) hy)

theorem op_fn {f : Nat} {first caps : Array Operand} {cxs : List Opd} (ho : o.op = .makeFunc (.func f) first caps) (h0 : first.size = 0) (hx : caps.toList.mapM cOpd = some cxs) (hr : Rel W0 m s w) (he : EnvOK W0 m n a e) :
    Done P W0 m s w s (.fn f (cxs.map (ev e))) o a := by
  obtain rfl : first = #[] := Array.eq_empty_of_size_eq_zero h0
  have hV := VL_map hx he
  refine .pure (v := .func (.func f) #[] (caps.map a.eval)) ?_ hr (.fn f _ _ hV.1 hV.2)
  simp [execOp, ho, Instr.makeFunc]

theorem op_lenT {t : TypeId} {x : Operand} {cx : Opd} {k : Nat} (hop : o.op = .call { callee := .builtin .len, args := #[x], argTypes := #[t] }) (hu : P.underlying t = some .string) (hx : cOpd x = some cx)
    (hr : Rel W0 m s w) (he : EnvOK W0 m n a e) (h : lenA true (ev e cx) = some k) : Done P W0 m s w s (.int .i64 k) o a := by
  have hv := opd_V he hx
  refine .pure (v := .int .i64 k) ?_ hr (.int _ _)
  have key : ∃ bs : ByteArray, a.eval x = .string bs ∧ bs.size = k := by
    cases hc : ev e cx <;> rw [hc] at h hv <;> simp [lenA] at h
    subst h
    obtain ⟨bs, h1, h2⟩ := hv.inv_str
    exact ⟨bs, h1, by rw [← h2, Array.length_toList]; rfl⟩
  obtain ⟨bs, h1, h2⟩ := key
  simp [execOp, hop, resolve, invoke, builtin, Builtin.len_, run_underlying hu, h1, goInt, h2]

theorem op_lenS {t el : TypeId} {x : Operand} {cx : Opd} {k : Nat} (hop : o.op = .call { callee := .builtin .len, args := #[x], argTypes := #[t] }) (hu : P.underlying t = some (.slice el)) (hx : cOpd x = some cx)
    (hr : Rel W0 m s w) (he : EnvOK W0 m n a e) (h : lenA false (ev e cx) = some k) : Done P W0 m s w s (.int .i64 k) o a := by
  have hv := opd_V he hx
  refine .pure (v := .int .i64 k) ?_ hr (.int _ _)
  have key : ∃ q cp, a.eval x = .slice q k cp := by
    cases hc : ev e cx <;> rw [hc] at h hv <;> simp [lenA] at h
    · subst h; exact ⟨_, _, hv.inv_nilS⟩
    · subst h; obtain ⟨ad, h1⟩ := hv.inv_emp; exact ⟨_, _, h1⟩
    · subst h; obtain ⟨ad, cap, el', h1, _⟩ := hv.inv_sl; exact ⟨_, _, h1⟩
    · subst h; obtain ⟨off, cp, pl, h1, _⟩ := hv.inv_own; exact ⟨_, _, h1⟩
  obtain ⟨q, cp, h1⟩ := key
  simp [execOp, hop, resolve, invoke, builtin, Builtin.len_, run_underlying hu, h1, goInt]

end
end Go.VI
