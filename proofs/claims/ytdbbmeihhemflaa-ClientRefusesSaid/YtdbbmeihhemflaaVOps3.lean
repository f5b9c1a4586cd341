/- Each operation, on related values: numbers, strings, slices. No statement of the seat is proved here. -/
import Derived.Test.YtdbbmeihhemflaaVOps2
import Derived.Lib.Strings
namespace Go.VI
open Go Go.RowKit

section
variable {P : Program} {W0 : World} {m m' : PM} {s s' : Mem} {w w' : World} {n : Nat} {a : Act} {e : Env} {o : Oper} {r : AV}

theorem eqGuard_int (op : BinOp) (t : TypeId) (x y : Operand) (k j : IntKind) (p q : Int) : (eqGuard op t x y (.int k p) (.int j q)).run P w = .ok () w := by
  cases op <;> simp [eqGuard]
theorem eqGuard_str (op : BinOp) (t : TypeId) (x y : Operand) (p q : ByteArray) : (eqGuard op t x y (.string p) (.string q)).run P w = .ok () w := by
  cases op <;> simp [eqGuard]

theorem op_ibin {op : BinOp} {t ty : TypeId} {x y : Operand} {cx cy : Opd} {k j : IntKind} {p q : Int} (ho : o.op = .binOp op t x y ty) (hx : cOpd x = some cx) (hy : cOpd y = some cy) (hr : Rel W0 m s w) (he : EnvOK W0 m n a e)
    (h1 : ev e cx = .int k p) (h2 : ev e cy = .int j q) (h : intOp op k p j q = some r) : Done P W0 m s w s r o a := by
  have hvx := opd_V he hx
  have hvy := opd_V he hy
  rw [h1] at hvx
  rw [h2] at hvy
  have key : ∃ v, (binOp op t (.int k p) (.int j q)).run P w = .ok v w ∧ V W0 m v r := by
    unfold intOp at h
    cases op <;> simp only at h
    case shl => split at h <;> first | (cases h; done) | (obtain rfl := Option.some.inj h; rename_i h0; exact ⟨_, by simp [binOp, Op.shift, h0], .int _ _⟩)
    case shr => split at h <;> first | (cases h; done) | (obtain rfl := Option.some.inj h; rename_i h0; exact ⟨_, by simp [binOp, Op.shift, h0], .int _ _⟩)
    all_goals (split at h <;> first | (cases h; done) | skip)
    all_goals (rename_i hkj; simp only [ne_eq, Decidable.not_not] at hkj; subst hkj)
    case quo => split at h <;> first | (cases h; done) | (obtain rfl := Option.some.inj h; rename_i h0; exact ⟨_, by simp [binOp, Op.intDiv, h0], .int _ _⟩)
    case rem => split at h <;> first | (cases h; done) | (obtain rfl := Option.some.inj h; rename_i h0; exact ⟨_, by simp [binOp, Op.intDiv, h0], .int _ _⟩)
    all_goals (obtain rfl := Option.some.inj h)
    all_goals first
      | (refine ⟨_, ?_, V.int _ _⟩; simp [binOp, Op.intArith]; done)
      | (refine ⟨_, ?_, V.int _ _⟩; simp only [binOp, ne_eq, not_true_eq_false, if_false]; rfl)
      | (refine ⟨_, ?_, V.bool _⟩; simp [binOp, Op.intCmp]; done)
  obtain ⟨v, hv, hV⟩ := key
  refine .pure (v := v) ?_ hr hV
  simp only [execOp, ho, Sem.run_bind, hvx.inv_int, hvy.inv_int, eqGuard_int, Result.andThen_ok, hv, Sem.run_pure]

theorem str_eq (b c : ByteArray) : b.toList = b.data.toList ∧ c.toList = c.data.toList := ⟨ByteArray.toList_eq b, ByteArray.toList_eq c⟩

theorem op_sbin {op : BinOp} {t ty : TypeId} {x y : Operand} {cx cy : Opd} {p q : List UInt8} (ho : o.op = .binOp op t x y ty) (hx : cOpd x = some cx) (hy : cOpd y = some cy) (hr : Rel W0 m s w) (he : EnvOK W0 m n a e)
    (h1 : ev e cx = .str p) (h2 : ev e cy = .str q) (h : strOp op p q = some r) : Done P W0 m s w s r o a := by
  have hvx := opd_V he hx
  have hvy := opd_V he hy
  rw [h1] at hvx
  rw [h2] at hvy
  obtain ⟨b, hb, rfl⟩ := hvx.inv_str
  obtain ⟨c, hc, rfl⟩ := hvy.inv_str
  have key : ∃ v, (binOp op t (.string b) (.string c)).run P w = .ok v w ∧ V W0 m v r := by
    unfold strOp at h
    cases op <;> simp only at h <;> first | (cases h; done) | skip
    case add =>
      split at h
      · rename_i hle
        obtain rfl := Option.some.inj h
        have hs : ¬ (9223372036854775807 : Int) < ((b.size + c.size : Nat) : Int) := by
          have e1 : b.size = b.data.toList.length := by rw [Array.length_toList]; rfl
          have e2 : c.size = c.data.toList.length := by rw [Array.length_toList]; rfl
          omega
        refine ⟨.string (b ++ c), ?_, ?_⟩
        · have : (IntKind.i64.max : Int) = 9223372036854775807 := by decide
          simp only [binOp, Op.stringOp, this]
          rw [if_neg (by omega)]
          rfl
        · have := V.str (W0 := W0) (m := m) (b ++ c)
          rwa [ByteArray.data_append, Array.toList_append] at this
      · cases h
    all_goals (obtain rfl := Option.some.inj h; exact ⟨_, by simp [binOp, Op.stringOp, (str_eq b c).1, (str_eq b c).2]; try rfl, .bool _⟩)
  obtain ⟨v, hv, hV⟩ := key
  refine .pure (v := v) ?_ hr hV
  simp only [execOp, ho, Sem.run_bind, hb, hc, eqGuard_str, Result.andThen_ok, hv, Sem.run_pure]

theorem op_un {op : UnOp} {t : TypeId} {x : Operand} {cx : Opd} (ho : o.op = .unOp op t x) (hx : cOpd x = some cx) (hr : Rel W0 m s w) (he : EnvOK W0 m n a e) (h : stepOp (fun _ _ _ => none) (.un op cx) e s = some (r, s')) :
    s' = s ∧ Done P W0 m s w s r o a := by
  have hv := opd_V he hx
  simp only [stepOp] at h
  split at h
  · rename_i k z hz
    rw [hz] at hv
    obtain ⟨rfl, rfl⟩ := Prod.mk.inj (Option.some.inj h)
    exact ⟨rfl, .pure (v := .int k (k.wrap (0 - z))) (by simp [execOp, ho, hv.inv_int, Op.unary, Op.intArith]) hr (.int _ _)⟩
  · rename_i k z hz
    rw [hz] at hv
    obtain ⟨rfl, rfl⟩ := Prod.mk.inj (Option.some.inj h)
    exact ⟨rfl, .pure (v := .int k _) (by simp [execOp, ho, hv.inv_int, Op.unary]; rfl) hr (.int _ _)⟩
  · rename_i b hb
    rw [hb] at hv
    obtain ⟨rfl, rfl⟩ := Prod.mk.inj (Option.some.inj h)
    exact ⟨rfl, .pure (v := .bool (!b)) (by simp [execOp, ho, hv.inv_bool, Op.unary]) hr (.bool _)⟩
  · cases h

theorem op_conv {t u : TypeId} {x : Operand} {cx : Opd} {k j : IntKind} {z : Int} {d : TypeDesc} (ho : o.op = .convert t u x) (hd : P.underlying t = some d) (hu : P.underlying u = some (.int k)) (hx : cOpd x = some cx) (hr : Rel W0 m s w) (he : EnvOK W0 m n a e)
    (h : ev e cx = .int j z) : Done P W0 m s w s (.int k (k.wrap z)) o a := by
  have hv := opd_V he hx
  rw [h] at hv
  refine .pure (v := .int k (k.wrap z)) ?_ hr (.int _ _)
  cases d <;> simp [execOp, ho, convert, run_underlying hd, run_underlying hu, hv.inv_int, Conv.intToInt]

theorem op_same {t u : TypeId} {x : Operand} {cx : Opd} {z : List UInt8} (ho : o.op = .convert t u x) (hd : P.underlying t = some .string) (hu : P.underlying u = some .string) (hx : cOpd x = some cx) (hr : Rel W0 m s w) (he : EnvOK W0 m n a e)
    (h : ev e cx = .str z) : Done P W0 m s w s (.str z) o a := by
  have hv := opd_V he hx
  rw [h] at hv
  obtain ⟨b, hb, rfl⟩ := hv.inv_str
  refine .pure (v := .string b) ?_ hr (.str _)
  simp [execOp, ho, convert, run_underlying hd, run_underlying hu, hb]

/-- What a slice reads. -/
theorem read_told {v : Value} {c : AV} {xs : List (List AV)} (hr : Rel W0 m s w) (hv : V W0 m v c) (h : readAll s c = some xs) :
    (v = .slice none 0 0 ∧ xs = []) ∨ ∃ ad cap e, v = .slice (some ad) xs.length cap ∧ (∀ (i : Nat) (x : List AV), xs[i]? = some x → x.length = e) ∧
      (∀ (i : Nat) (x : List AV) (q : Nat) (c : AV), xs[i]? = some x → x[q]? = some c → isCell c = true ∧ ∃ u, w.cell? (ad.add (i * e + q)) = some u ∧ V W0 m u c) := by
  unfold readAll at h
  split at h
  · obtain rfl := Option.some.inj h
    exact .inl ⟨hv.inv_nilS, rfl⟩
  · obtain rfl := Option.some.inj h
    obtain ⟨ad, h1⟩ := hv.inv_emp
    exact .inr ⟨ad, 0, 0, h1, by simp, by simp⟩
  · obtain rfl := Option.some.inj h
    obtain ⟨ad, cap, el, h1, hb', hcap, hel, hc⟩ := hv.inv_sl
    refine .inr ⟨ad, cap, el, h1, hel, ?_⟩
    intro i x q c hi hq
    obtain ⟨q1, u, q2, q3⟩ := hc i x q c hi hq
    obtain ⟨had, hb⟩ := hb' (by intro h; rw [h] at hi; simp at hi)
    refine ⟨q1, u, ?_, q3⟩
    rw [had, add_addr, W0_cell hr hb]
    exact q2
  · rename_i rr i0 n0 z0
    simp only [Option.bind_eq_bind] at h
    obtain ⟨row, hrow, h⟩ := Option.bind_eq_some_iff.mp h
    split at h
    · rename_i hle
      obtain rfl := Option.some.inj h
      obtain ⟨off, cp, pl, h1, hm, hcap, hn, ha, _⟩ := hv.inv_own
      have hR := hr.row rr pl row hm hrow
      obtain ⟨arr, fz, g1, g2, g3, g4, gf⟩ := hR.ex
      have hlen : ((row.els.drop i0).take n0).length = n0 := by simp; omega
      refine .inr ⟨⟨pl.blk, off, none⟩, cp, pl.e, by rw [hlen]; exact h1, ?_, ?_⟩
      · intro i x hi
        rw [List.getElem?_take] at hi
        split at hi
        · rw [List.getElem?_drop] at hi
          rw [hR.e]
          exact (hR.szs _ x hi).1
        · cases hi
      · intro i x q c hi hq
        rw [List.getElem?_take] at hi
        split at hi
        · rename_i hin
          rw [List.getElem?_drop] at hi
          refine ⟨(hR.szs _ x hi).2 q c hq, ?_⟩
          obtain ⟨u, hu, hV⟩ := g4 _ x q c hi hq
          refine ⟨u, ?_, hV⟩
          have hl := hR.len
          have hoff := ha (.inl (by omega))
          rw [add_addr]
          simp only [World.cell?, g1]
          rw [hoff]
          have : i0 * pl.e + (i * pl.e + q) = (i0 + i) * pl.e + q := by rw [Nat.add_mul]; omega
          simpa [this] using hu
        · cases hi
    · cases h
  · cases h

theorem boundA_ok {lo : Option Operand} {clo : Option Opd} {l : Option Nat} (hl : cOpt lo = some clo) (he : EnvOK W0 m n a e) (h : boundA e clo = some l) :
    (lo = none ∧ l = none) ∨ ∃ x k z, lo = some x ∧ a.eval x = .int k z ∧ 0 ≤ z ∧ l = some z.toNat := by
  unfold cOpt at hl
  split at hl
  · obtain rfl := Option.some.inj hl
    simp only [boundA] at h
    exact .inl ⟨rfl, (Option.some.inj h).symm⟩
  · rename_i x
    obtain ⟨cx, hcx, rfl⟩ := Option.map_eq_some_iff.mp hl
    simp only [boundA] at h
    split at h
    · rename_i k z hz
      have hv := opd_V he hcx
      rw [hz] at hv
      obtain ⟨j, hj, rfl⟩ := Option.map_eq_some_iff.mp h
      unfold toNat? at hj
      split at hj
      · rename_i h0
        obtain rfl := Option.some.inj hj
        exact .inr ⟨x, k, z, rfl, hv.inv_int, h0, rfl⟩
      · cases hj
    · cases h

theorem run_bounds {lo hi : Option Operand} {clo chi : Option Opd} {l h : Option Nat} (isS : Bool) (len cap : Nat) (hl : cOpt lo = some clo) (hh : cOpt hi = some chi) (he : EnvOK W0 m n a e) (el : boundA e clo = some l) (eh : boundA e chi = some h)
    (h1 : l.getD 0 ≤ h.getD len) (h2 : h.getD len ≤ cap) : (Instr.sliceBounds isS len cap (lo.map a.eval) (hi.map a.eval) none).run P w = .ok (l.getD 0, h.getD len, cap) w := by
  rcases boundA_ok hl he el with ⟨rfl, rfl⟩ | ⟨x, k, z, rfl, hx, hz, rfl⟩ <;> rcases boundA_ok hh he eh with ⟨rfl, rfl⟩ | ⟨y, j, u, rfl, hy, hu, rfl⟩
  · simp [Instr.sliceBounds]
  · have hb : u ≤ (cap : Int) := by simp at h2; omega
    simp [Instr.sliceBounds, Instr.sliceBound, hy, asIntOf, hu, hb]
  · have hb : z ≤ (len : Int) := by simp at h1; omega
    simp [Instr.sliceBounds, Instr.sliceBound, hx, asIntOf, hz, hb]
  · have hb : u ≤ (cap : Int) := by simp at h2; omega
    have hb2 : z ≤ (u.toNat : Int) := by simp at h1; omega
    simp [Instr.sliceBounds, Instr.sliceBound, hx, hy, asIntOf, hz, hu, hb]
    intro hx; omega

theorem op_cutT {t : TypeId} {x : Operand} {cx : Opd} {lo hi : Option Operand} {clo chi : Option Opd} (ho : o.op = .slice t x lo hi none) (hu : P.underlying t = some .string) (hx : cOpd x = some cx) (hlo : cOpt lo = some clo) (hhi : cOpt hi = some chi)
    (hr : Rel W0 m s w) (he : EnvOK W0 m n a e) (h : stepOp (fun _ _ _ => none) (.cutT cx clo chi) e s = some (r, s')) : s' = s ∧ Done P W0 m s w s r o a := by
  have hv := opd_V he hx
  simp only [stepOp, Option.bind_eq_bind] at h
  obtain ⟨l, hl, h⟩ := Option.bind_eq_some_iff.mp h
  obtain ⟨hh, hhh, h⟩ := Option.bind_eq_some_iff.mp h
  split at h
  · rename_i b hb
    rw [hb] at hv
    obtain ⟨bs, h1, rfl⟩ := hv.inv_str
    split at h
    · rename_i hc
      obtain ⟨rfl, rfl⟩ := Prod.mk.inj (Option.some.inj h)
      have hsz : bs.data.toList.length = bs.size := by rw [Array.length_toList]; rfl
      rw [hsz] at hc ⊢
      have hrun := run_bounds (P := P) (w := w) false bs.size bs.size hlo hhi he hl hhh hc.1 hc.2
      refine ⟨rfl, .pure (v := .string (bs.extract (l.getD 0) (hh.getD bs.size))) ?_ hr ?_⟩
      · simp [execOp, ho, Instr.sliceAt, Instr.slice, run_underlying hu, h1, hrun]
      · have := V.str (W0 := W0) (m := m) (bs.extract (l.getD 0) (hh.getD bs.size))
        rw [Lib.extract_data] at this
        rw [List.drop_take]
        exact this
    · cases h
  · cases h

theorem op_cutS {t el : TypeId} {x : Operand} {cx : Opd} {lo hi : Option Operand} {clo chi : Option Opd} {sz : Nat} (ho : o.op = .slice t x lo hi none) (hu : P.underlying t = some (.slice el)) (hsz : cSize P el = some sz) (hx : cOpd x = some cx) (hlo : cOpt lo = some clo) (hhi : cOpt hi = some chi)
    (hr : Rel W0 m s w) (he : EnvOK W0 m n a e) (h : stepOp (fun _ _ _ => none) (.cutS sz cx clo chi) e s = some (r, s')) : s' = s ∧ Done P W0 m s w s r o a := by
  have hv := opd_V he hx
  simp only [stepOp, Option.bind_eq_bind] at h
  obtain ⟨l, hl, h⟩ := Option.bind_eq_some_iff.mp h
  obtain ⟨hh, hhh, h⟩ := Option.bind_eq_some_iff.mp h
  split at h
  · rename_i hb
    rw [hb] at hv
    split at h
    · rename_i hc
      obtain ⟨rfl, rfl⟩ := Prod.mk.inj (Option.some.inj h)
      have hrun := run_bounds (P := P) (w := w) true 0 0 hlo hhi he hl hhh (by omega) (by omega)
      refine ⟨rfl, .pure (v := .slice none 0 0) ?_ hr .nilS⟩
      simp [execOp, ho, Instr.sliceAt, Instr.slice, run_underlying hu, hv.inv_nilS, hrun, run_cSize hsz, hc.1, hc.2]
    · cases h
  · rename_i hb
    rw [hb] at hv
    split at h
    · rename_i hc
      obtain ⟨rfl, rfl⟩ := Prod.mk.inj (Option.some.inj h)
      have hrun := run_bounds (P := P) (w := w) true 0 0 hlo hhi he hl hhh (by omega) (by omega)
      obtain ⟨ad, h1⟩ := hv.inv_emp
      refine ⟨rfl, .pure (v := .slice (some ad) 0 0) ?_ hr (.emp ad)⟩
      simp [execOp, ho, Instr.sliceAt, Instr.slice, run_underlying hu, h1, hrun, run_cSize hsz, hc.1, hc.2]
    · cases h
  · rename_i xs hb
    rw [hb] at hv
    split at h
    · rename_i hc
      obtain ⟨hc1, hc2, hc3⟩ := hc
      obtain ⟨rfl, rfl⟩ := Prod.mk.inj (Option.some.inj h)
      obtain ⟨ad, cap, el', h1, hbl, hcap, hel, hcell⟩ := hv.inv_sl
      have hrun := run_bounds (P := P) (w := w) true xs.length cap hlo hhi he hl hhh hc1 (by omega)
      let L := l.getD 0
      let H := hh.getD xs.length
      have eL : l.getD 0 = L := rfl
      have eH : hh.getD xs.length = H := rfl
      rw [eL, eH] at hrun ⊢
      rw [eL, eH] at hc1
      rw [eH] at hc2
      refine ⟨rfl, .pure (v := .slice (some (if cap = L then ad else ad.add (L * sz))) (H - L) (cap - L)) ?_ hr ?_⟩
      · simp [execOp, ho, Instr.sliceAt, Instr.slice, run_underlying hu, h1, hrun, run_cSize hsz]
        split <;> rfl
      · have hlen : ((xs.take H).drop L).length = H - L := by simp; omega
        have hget : ∀ (i : Nat) (x : List AV), ((xs.take H).drop L)[i]? = some x → xs[L + i]? = some x ∧ L + i < H := by
          intro i x hi
          rw [List.getElem?_drop, List.getElem?_take] at hi
          split at hi
          · exact ⟨hi, by assumption⟩
          · cases hi
        by_cases hcl : cap = L
        · rw [if_pos hcl]
          refine .sl ad _ _ 0 _ ?_ hlen (by omega) ?_ ?_ ?_
          · intro hne
            exfalso
            apply hne
            apply List.eq_nil_of_length_eq_zero
            rw [hlen]; omega
          · intro i x hi; have := hget i x hi; omega
          · intro i x _ _ hi; have := hget i x hi; omega
          · intro i x _ _ _ hi; have := hget i x hi; omega
        · rw [if_neg hcl]
          have hee : ∀ (i : Nat) (x : List AV), xs[i]? = some x → x.length = sz := by
            intro i x hi
            have := List.all_eq_true.mp hc3 x (List.mem_of_getElem? hi)
            simpa using this
          by_cases hxe : xs = []
          · subst hxe
            refine .sl _ _ _ 0 _ (by simp) hlen (by omega) (by simp) (by simp) (by simp)
          obtain ⟨had, hbk⟩ := hbl hxe
          generalize hbb : ad.block = b at had hbk hcell
          generalize hoo : ad.off = off at had hcell
          subst had
          rw [add_addr]
          have hcc : ∀ (i : Nat) (x : List AV) (q : Nat) (c : AV), ((xs.take H).drop L)[i]? = some x → x[q]? = some c → isCell c = true ∧ ∃ v, W0.cell? ⟨b, off + L * sz + (i * sz + q), none⟩ = some v ∧ V W0 m v c := by
            intro i x q c hi hq
            obtain ⟨g1, _⟩ := hget i x hi
            have := hcell _ x q c g1 hq
            rw [← hel _ x g1, hee _ x g1] at this
            have e3 : off + ((L + i) * sz + q) = off + L * sz + (i * sz + q) := by rw [Nat.add_mul]; omega
            rw [e3] at this
            exact this
          refine .sl ⟨b, off + L * sz, none⟩ _ _ sz _ (fun _ => ⟨rfl, hbk⟩) hlen (by omega) ?_ ?_ ?_
          · intro i x hi; exact hee _ x (hget i x hi).1
          · intro i x q c hi hq
            obtain ⟨q1, v, q2, q3⟩ := hcc i x q c hi hq
            exact ⟨q1, by rw [q2]; rfl⟩
          · intro i x q c v hi hq hv'
            obtain ⟨q1, v', q2, q3⟩ := hcc i x q c hi hq
            rw [hv'] at q2
            obtain rfl := Option.some.inj q2
            exact q3
    · cases h
  · rename_i rr i0 n0 z0 hb
    rw [hb] at hv
    split at h
    · rename_i hc
      obtain ⟨hc1, hc2, hc3⟩ := hc
      obtain ⟨rfl, rfl⟩ := Prod.mk.inj (Option.some.inj h)
      obtain ⟨off, cp, pl, h1, hm, hcap, hn, ha, hE⟩ := hv.inv_own
      have hrun := run_bounds (P := P) (w := w) true n0 cp hlo hhi he hl hhh hc1 (by omega)
      let L := l.getD 0
      let H := hh.getD n0
      have eL : l.getD 0 = L := rfl
      have eH : hh.getD n0 = H := rfl
      rw [eL, eH] at hrun ⊢
      rw [eL, eH] at hc1
      rw [eH] at hc2
      refine ⟨rfl, .pure (v := .slice (some ⟨pl.blk, if cp = L then off else off + L * sz, none⟩) (H - L) (cp - L)) ?_ hr ?_⟩
      · simp [execOp, ho, Instr.sliceAt, Instr.slice, run_underlying hu, h1, hrun, run_cSize hsz, add_addr]
        split <;> rfl
      · rw [← hE]
        refine .own _ _ _ rr _ pl hm (by omega) (by omega) ?_
        intro hi
        by_cases hcl : cp = L
        · rw [if_pos hcl]
          rcases hi with hi | hi
          · omega
          · have : i0 = 0 := by omega
            subst this
            have hz := ha (.inr rfl)
            have : L = 0 := by omega
            rw [this, hz]
        · rw [if_neg hcl]
          have hz := ha (.inl (by omega))
          rw [hz, hE, hc3, Nat.add_mul]
    · cases h
  · cases h

theorem op_cut3 {t el : TypeId} {x y z : Operand} {cx cy cz : Opd} {sz : Nat} (ho : o.op = .slice t x none (some y) (some z)) (hu : P.underlying t = some (.slice el)) (hsz : cSize P el = some sz) (hx : cOpd x = some cx) (hy : cOpd y = some cy) (hz : cOpd z = some cz)
    (hr : Rel W0 m s w) (he : EnvOK W0 m n a e) (h : cut3A (ev e cx) (ev e cy) (ev e cz) = some r) : Done P W0 m s w s r o a := by
  have hv := opd_V he hx
  have hvy := opd_V he hy
  have hvz := opd_V he hz
  unfold cut3A at h
  split at h
  case h_2 => cases h
  rename_i ka za kb zb hay hbz
  rw [hay] at hvy
  rw [hbz] at hvz
  have hyv := hvy.inv_int
  have hzv := hvz.inv_int
  simp only [Option.bind_eq_bind] at h
  obtain ⟨H, hH, hh⟩ := Option.bind_eq_some_iff.mp h
  clear h
  obtain ⟨M, hM, h⟩ := Option.bind_eq_some_iff.mp hh
  clear hh
  have nat : ∀ {i : Int} {j : Nat}, toNat? i = some j → i = (j : Int) := by
    intro i j hj
    unfold toNat? at hj
    split at hj
    · have := Option.some.inj hj; omega
    · cases hj
  have eH := nat hH
  have eM := nat hM
  subst eH eM
  have bounds : ∀ (len cap : Nat), H ≤ M → M ≤ cap → (Instr.sliceBounds true len cap none (some (.int ka (H : Int))) (some (.int kb (M : Int)))).run P w = .ok (0, H, M) w := by
    intro len cap h1 h2
    have h3 : (H : Int) ≤ (M : Int) := by omega
    have h4 : (M : Int) ≤ (cap : Int) := by omega
    have h5 : (0 : Int) ≤ (H : Int) := by omega
    have h6 : (0 : Int) ≤ (M : Int) := by omega
    simp [Instr.sliceBounds, Instr.sliceBound, asIntOf, h4]
    intro h7; omega
  split at h
  · rename_i hb
    rw [hb] at hv
    split at h
    · rename_i hc
      obtain rfl := Option.some.inj h
      obtain ⟨rfl, rfl⟩ := hc
      have hrun : (Instr.sliceBounds true 0 0 none (some (.int ka 0)) (some (.int kb 0))).run P w = .ok (0, 0, 0) w := bounds 0 0 (Nat.le_refl _) (Nat.le_refl _)
      refine .pure (v := .slice none 0 0) ?_ hr .nilS
      simp only [execOp, ho, Instr.sliceAt, Instr.slice, Option.map_some, Option.map_none, hyv, hzv]
      simp [run_underlying hu, hv.inv_nilS, hrun, run_cSize hsz]
    · cases h
  · rename_i hb
    rw [hb] at hv
    split at h
    · rename_i hc
      obtain rfl := Option.some.inj h
      obtain ⟨rfl, rfl⟩ := hc
      obtain ⟨ad, h1⟩ := hv.inv_emp
      have hrun : (Instr.sliceBounds true 0 0 none (some (.int ka 0)) (some (.int kb 0))).run P w = .ok (0, 0, 0) w := bounds 0 0 (Nat.le_refl _) (Nat.le_refl _)
      refine .pure (v := .slice (some ad) 0 0) ?_ hr (.emp ad)
      simp only [execOp, ho, Instr.sliceAt, Instr.slice, Option.map_some, Option.map_none, hyv, hzv]
      simp [run_underlying hu, h1, hrun, run_cSize hsz]
    · cases h
  · rename_i xs hb
    rw [hb] at hv
    split at h
    · rename_i hc
      obtain rfl := Option.some.inj h
      obtain ⟨rfl, rfl⟩ := hc
      obtain ⟨ad, cap, el', h1, hbl, hcap, hel, hcell⟩ := hv.inv_sl
      have hrun : (Instr.sliceBounds true xs.length cap none (some (.int ka 0)) (some (.int kb 0))).run P w = .ok (0, 0, 0) w := bounds xs.length cap (Nat.le_refl _) (Nat.zero_le _)
      refine .pure (v := .slice (some ad) 0 0) ?_ hr (.emp ad)
      simp only [execOp, ho, Instr.sliceAt, Instr.slice, Option.map_some, Option.map_none, hyv, hzv]
      simp [run_underlying hu, h1, hrun, run_cSize hsz]
    split at h
    · rename_i hc
      obtain rfl := Option.some.inj h
      have hv0 := hv
      obtain ⟨ad, cap, el', h1, hbl, hcap, hel, hcell⟩ := hv.inv_sl
      have hrun := bounds xs.length cap hc.1 (by omega)
      have hl : (xs.take H).length = H := by simp; omega
      refine .pure (v := .slice (some ad) H M) ?_ hr ?_
      · simp only [execOp, ho, Instr.sliceAt, Instr.slice, Option.map_some, Option.map_none, hyv, hzv, h1]
        simp [run_underlying hu, hrun, run_cSize hsz, Addr.add]
      · have hg : ∀ (i : Nat) (y : List AV), (xs.take H)[i]? = some y → xs[i]? = some y := by
          intro i y hi
          rw [List.getElem?_take] at hi
          split at hi
          · exact hi
          · cases hi
        refine .sl ad H M el' _ ?_ hl hc.1 (fun i y hi => hel i y (hg i y hi)) ?_ ?_
        · intro hne
          refine hbl ?_
          rintro rfl
          simp at hne
        · intro i y q c hi hq
          obtain ⟨q1, v, q2, _⟩ := hcell i y q c (hg i y hi) hq
          exact ⟨q1, by rw [q2]; rfl⟩
        · intro i y q c v hi hq hv'
          obtain ⟨_, v', q2, q3⟩ := hcell i y q c (hg i y hi) hq
          rw [hv'] at q2
          obtain rfl := Option.some.inj q2
          exact q3
    · cases h
  · rename_i rr i0 n0 z0 hb
    rw [hb] at hv
    split at h
    · rename_i hc
      obtain rfl := Option.some.inj h
      obtain ⟨rfl, rfl⟩ := hc
      obtain ⟨off, cp, pl, h1, hm, hcap, hn, ha, hE⟩ := hv.inv_own
      have hrun : (Instr.sliceBounds true n0 cp none (some (.int ka 0)) (some (.int kb 0))).run P w = .ok (0, 0, 0) w := bounds n0 cp (Nat.le_refl _) (Nat.zero_le _)
      refine .pure (v := .slice (some ⟨pl.blk, off, none⟩) 0 0) ?_ hr (.emp _)
      simp only [execOp, ho, Instr.sliceAt, Instr.slice, Option.map_some, Option.map_none, hyv, hzv, h1]
      simp [run_underlying hu, hrun, run_cSize hsz]
    split at h
    · rename_i hc
      obtain rfl := Option.some.inj h
      obtain ⟨off, cp, pl, h1, hm, hcap, hn, ha, hE⟩ := hv.inv_own
      have hrun := bounds n0 cp hc.1 (by omega)
      refine .pure (v := .slice (some ⟨pl.blk, off, none⟩) H M) ?_ hr ?_
      · simp only [execOp, ho, Instr.sliceAt, Instr.slice, Option.map_some, Option.map_none, hyv, hzv, h1]
        simp [run_underlying hu, hrun, run_cSize hsz, Addr.add]
      · exact V.own' hm (by omega) hc.1 (fun h => ha (by omega)) hE
    · cases h
  · cases h

end
end Go.VI
