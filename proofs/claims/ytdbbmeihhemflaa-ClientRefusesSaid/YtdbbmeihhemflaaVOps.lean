/- Each operation, on related values. No statement of the seat is proved here. -/
import Derived.Test.YtdbbmeihhemflaaVMems
namespace Go.VI
open Go Go.RowKit

section inv
variable {W0 : World} {m : PM} {v : Value}
theorem V.inv_bool {b : Bool} (h : V W0 m v (.bool b)) : v = .bool b := by cases h; rfl
theorem V.inv_int {k : IntKind} {n : Int} (h : V W0 m v (.int k n)) : v = .int k n := by cases h; rfl
theorem V.inv_str {s : List UInt8} (h : V W0 m v (.str s)) : ∃ b : ByteArray, v = .string b ∧ b.data.toList = s := by cases h; exact ⟨_, rfl, rfl⟩
theorem V.inv_nilS (h : V W0 m v .nilS) : v = .slice none 0 0 := by cases h; rfl
theorem V.inv_emp (h : V W0 m v .emp) : ∃ a, v = .slice (some a) 0 0 := by cases h; exact ⟨_, rfl⟩
theorem V.inv_nilP (h : V W0 m v .nilP) : v = .pointer none := by cases h; rfl
theorem V.inv_nilF (h : V W0 m v .nilF) : v = .nilFunc := by cases h; rfl
theorem V.inv_nilI (h : V W0 m v .nilI) : v = .nilIface := by cases h; rfl
theorem V.inv_own {r i n z : Nat} (h : V W0 m v (.own r i n z)) : ∃ off cp pl, v = .slice (some ⟨pl.blk, off, none⟩) n cp ∧ m r = some pl ∧ i + cp ≤ pl.cap ∧ n ≤ cp ∧ (0 < cp ∨ i = 0 → off = i * pl.e) ∧ pl.e = z := by
  cases h with | own off _ cp _ _ pl hm hi hn ha => exact ⟨off, cp, pl, rfl, hm, hi, hn, ha, rfl⟩
theorem V.inv_ptr {r i o : Nat} (h : V W0 m v (.ptr r i o)) : ∃ pl, v = .pointer (some ⟨pl.blk, i * pl.e + o, none⟩) ∧ m r = some pl := by
  cases h with | ptr _ _ _ pl hm => exact ⟨pl, rfl, hm⟩
theorem V.inv_ref {cs : List AV} (h : V W0 m v (.ref cs)) : ∃ b off, v = .pointer (some ⟨b, off, none⟩) ∧ b < W0.heap.size ∧ (∀ o c, cs[o]? = some c → isCell c = true ∧ ∃ v, W0.cell? ⟨b, off + o, none⟩ = some v ∧ V W0 m v c) := by
  cases h with
  | ref b off _ hb hcell hv =>
    refine ⟨b, off, rfl, hb, ?_⟩
    intro o c hc
    obtain ⟨h1, h2⟩ := hcell o c hc
    obtain ⟨v, h3⟩ := Option.isSome_iff_exists.mp h2
    exact ⟨h1, v, h3, hv o c v hc h3⟩
theorem V.inv_sl {xs : List (List AV)} (h : V W0 m v (.sl xs)) : ∃ a cap e, v = .slice (some a) xs.length cap ∧ (xs ≠ [] → a = ⟨a.block, a.off, none⟩ ∧ a.block < W0.heap.size) ∧ xs.length ≤ cap ∧ (∀ (i : Nat) (x : List AV), xs[i]? = some x → x.length = e) ∧
    (∀ (i : Nat) (x : List AV) (o : Nat) (c : AV), xs[i]? = some x → x[o]? = some c → isCell c = true ∧ ∃ v, W0.cell? ⟨a.block, a.off + (i * e + o), none⟩ = some v ∧ V W0 m v c) := by
  cases h with
  | sl a len cap e _ hb hl hc he hcell hv =>
    subst hl
    refine ⟨a, cap, e, rfl, hb, hc, he, ?_⟩
    intro i x o c hx ho
    obtain ⟨h1, h2⟩ := hcell i x o c hx ho
    obtain ⟨v, h3⟩ := Option.isSome_iff_exists.mp h2
    exact ⟨h1, v, h3, hv i x o c v hx ho h3⟩
theorem V.inv_fn {f : Nat} {avs : List AV} (h : V W0 m v (.fn f avs)) : ∃ caps, v = .func (.func f) #[] caps ∧ VL W0 m caps avs := by
  cases h with | fn _ caps _ hl hv => exact ⟨caps, rfl, hl, hv⟩
theorem V.inv_ifc {t : Nat} {c : AV} (h : V W0 m v (.ifc t c)) : ∃ x, v = .iface t x ∧ V W0 m x c := by cases h with | ifc _ x _ hv => exact ⟨x, rfl, hv⟩
theorem V.inv_agg {cs : List AV} (h : V W0 m v (.agg cs)) : ∃ vs, v = .agg vs ∧ VL W0 m vs cs ∧ ∀ (i : Nat) (c : AV), cs[i]? = some c → isCell c = true := by
  cases h with | agg vs _ hl hc hv => exact ⟨vs, rfl, ⟨hl, hv⟩, hc⟩
theorem V.inv_tup {cs : List AV} (h : V W0 m v (.tup cs)) : ∃ vs, v = .tuple vs ∧ VL W0 m vs cs := by
  cases h with | tup vs _ hl hv => exact ⟨vs, rfl, hl, hv⟩
end inv

/-- What an operation must do to be told by its abstract twin. -/
def Done (P : Program) (W0 : World) (m : PM) (s : Mem) (w : World) (s' : Mem) (r : AV) (o : Oper) (a : Act) : Prop :=
  ∀ (next : Act → World → Prop) (Q : Exit → Act → World → Prop),
    (∀ v m' w', After W0 m s w m' s' w' → V W0 m' v r → next (a.put o.dst v) w') → o.wp P a w next Q

section
variable {P : Program} {W0 : World} {m m' : PM} {s s' : Mem} {w w' : World} {n : Nat} {a : Act} {e : Env} {o : Oper} {r : AV}

theorem Done.value {v : Value} (h : (execOp a.eval o).run P w = .ok (.value v) w') (ha : After W0 m s w m' s' w') (hv : V W0 m' v r) : Done P W0 m s w s' r o a := by
  intro next Q hK
  unfold Oper.wp
  rw [h]
  exact hK v m' w' ha hv

theorem Done.skip (h : (execOp a.eval o).run P w = .ok .skip w') (ha : After W0 m s w m' s' w') : Done P W0 m s w s' und o a := by
  intro next Q hK
  unfold Oper.wp
  rw [h]
  exact hK undef m' w' ha (V.und W0 m')

theorem Done.pure {v : Value} (h : (execOp a.eval o).run P w = .ok (.value v) w) (hr : Rel W0 m s w) (hv : V W0 m v r) : Done P W0 m s w s r o a :=
  .value h (.refl hr) hv

theorem op_mv {x : Operand} {cx : Opd} (ho : o.op = .move x ∨ o.op = .assign x) (hx : cOpd x = some cx) (hr : Rel W0 m s w) (he : EnvOK W0 m n a e) : Done P W0 m s w s (ev e cx) o a := by
  refine .pure (v := a.eval x) ?_ hr (opd_V he hx)
  rcases ho with ho | ho <;> simp [execOp, ho]

theorem op_pick {c x y : Operand} {cc cx cy : Opd} (ho : o.op = .pick c x y) (hc : cOpd c = some cc) (hx : cOpd x = some cx) (hy : cOpd y = some cy) (hr : Rel W0 m s w) (he : EnvOK W0 m n a e)
    {t : Bool} (ht : ev e cc = .bool t) : Done P W0 m s w s (if t then ev e cx else ev e cy) o a := by
  have h1 := opd_V he hc
  rw [ht] at h1
  refine .pure (v := if t then a.eval x else a.eval y) ?_ hr ?_
  · simp [execOp, ho, h1.inv_bool, asBool]
  · cases t
    · exact opd_V he hy
    · exact opd_V he hx

/-! Types. -/
theorem info_of_cSize {t : TypeId} {sz : Nat} (h : cSize P t = some sz) : ∃ i, P.info? t = some i ∧ i.size = sz := by
  obtain ⟨i, h1, h2⟩ := Option.map_eq_some_iff.mp h
  exact ⟨i, h1, h2⟩
theorem run_cSize {t : TypeId} {sz : Nat} (h : cSize P t = some sz) (w : World) : (sizeOf t).run P w = .ok sz w := by
  obtain ⟨i, h1, h2⟩ := info_of_cSize h
  simp [sizeOf, typeInfo, h1, h2]
theorem cZero_ok {t : TypeId} {z : List AV} (h : cZero P t = some z) : ∃ i v c, P.info? t = some i ∧ i.zero = some v ∧ constAV v = some c ∧ cells c = z ∧ z.length = i.size ∧ z.all isCell = true ∧ v.cells.size = i.size := by
  unfold cZero at h
  simp only [Option.bind_eq_bind] at h
  obtain ⟨i, hi, h⟩ := Option.bind_eq_some_iff.mp h
  obtain ⟨v, hv, h⟩ := Option.bind_eq_some_iff.mp h
  obtain ⟨c, hc, h⟩ := Option.bind_eq_some_iff.mp h
  split at h
  · rename_i hh
    obtain rfl := Option.some.inj h
    exact ⟨i, v, c, hi, hv, hc, rfl, hh.1, hh.2.1, hh.2.2⟩
  · cases h
theorem run_cAgg {t : TypeId} {b : Bool} (h : cAgg P t = some b) (w : World) : (isAgg t).run P w = .ok b w := by
  unfold cAgg at h
  unfold isAgg
  cases hu : P.underlying t with
  | none => rw [hu] at h; cases h
  | some d =>
    rw [hu] at h
    simp only [Sem.run_bind, run_underlying hu, Result.andThen_ok]
    cases d <;> simp at h <;> subst h <;> simp

theorem add_addr (b off k : Nat) : (⟨b, off, none⟩ : Addr).add k = ⟨b, off + k, none⟩ := by
  unfold Addr.add
  split
  · subst_vars; rfl
  · rfl

/-- Reading cells that are told. -/
theorem load_ok {t : TypeId} {agg : Bool} {sz : Nat} (hag : cAgg P t = some agg) (hsz : cSize P t = some sz) {b off : Nat} {part : List AV} (hl : part.length = sz)
    (hc : ∀ (j : Nat) (c : AV), part[j]? = some c → isCell c = true ∧ ∃ v, w.cell? ⟨b, off + j, none⟩ = some v ∧ V W0 m v c) (hp : pickCells agg part = some r) :
    ∃ v, (loadVar t ⟨b, off, none⟩).run P w = .ok v w ∧ V W0 m v r := by
  unfold loadVar
  simp only [Sem.run_bind, run_cAgg hag, Result.andThen_ok]
  cases agg with
  | true =>
    simp only [pickCells, if_true] at hp
    obtain rfl := Option.some.inj hp
    let f : Nat → Value := fun j => (w.cell? ⟨b, off + j, none⟩).getD undef
    have hf : ∀ j, j < sz → w.cell? ((⟨b, off, none⟩ : Addr).add j) = some (f j) := by
      intro j hj
      obtain ⟨_, v, hv, _⟩ := hc j part[j] (by simp)
      rw [add_addr]
      simp only [f, hv, Option.getD_some]
    refine ⟨.agg ((List.range sz).map f).toArray, ?_, ?_⟩
    · simp only [if_true, Sem.run_bind, run_cSize hsz, Result.andThen_ok, run_loadCells w _ sz f hf, Sem.run_pure]
    · refine .agg _ _ (by simp [hl]) (fun i c h => (hc i c h).1) ?_
      intro i v c hv hcc
      obtain ⟨_, v', hv', hV⟩ := hc i c hcc
      have : v = v' := by
        simp only [List.getElem?_toArray, List.getElem?_map] at hv
        obtain ⟨k, hk, rfl⟩ := Option.map_eq_some_iff.mp hv
        have : k = i := by
          rw [List.getElem?_range] at hk
          · exact (Option.some.inj hk).symm
          · exact (by have := (List.getElem?_eq_some_iff.mp hcc).1; omega)
        subst this
        simp only [f, hv', Option.getD_some]
      rw [this]; exact hV
  | false =>
    simp only [pickCells] at hp
    match part, hl, hp, hc with
    | [v], hl, hp, hc =>
      simp at hp
      subst hp
      obtain ⟨_, u, hu, hV⟩ := hc 0 v rfl
      refine ⟨u, ?_, hV⟩
      simp only [Nat.add_zero] at hu
      simp [hu]
    | [], hl, hp, hc => simp at hp
    | _ :: _ :: _, hl, hp, hc => simp at hp

theorem slice1_some {cs part : List AV} {o sz : Nat} (h : slice1 cs o sz = some part) : o + sz ≤ cs.length ∧ part.length = sz ∧ ∀ j, part[j]? = if j < sz then cs[o + j]? else none := by
  unfold slice1 at h
  split at h
  · rename_i hle
    obtain rfl := Option.some.inj h
    refine ⟨hle, by simp; omega, ?_⟩
    intro j
    rw [List.getElem?_take]
    split
    · rw [List.getElem?_drop]
    · rfl
  · cases h

theorem W0_cell {b off : Nat} (hr : Rel W0 m s w) (hb : b < W0.heap.size) : w.cell? ⟨b, off, none⟩ = W0.cell? ⟨b, off, none⟩ := hr.below.cell hb

/-- A load. -/
theorem loadA_ok {t : TypeId} {agg : Bool} {sz : Nat} (hag : cAgg P t = some agg) (hsz : cSize P t = some sz) (hr : Rel W0 m s w) {v : Value} {c : AV} (hv : V W0 m v c) (h : loadA s agg sz c = some r) :
    ∃ ad u, v = .pointer (some ad) ∧ (loadVar t ad).run P w = .ok u w ∧ V W0 m u r := by
  unfold loadA at h
  split at h
  · rename_i rr i oo
    obtain ⟨pl, rfl, hm⟩ := hv.inv_ptr
    simp only [Option.bind_eq_bind] at h
    obtain ⟨row, hrow, h⟩ := Option.bind_eq_some_iff.mp h
    obtain ⟨cs, hcs, h⟩ := Option.bind_eq_some_iff.mp h
    obtain ⟨part, hpart, h⟩ := Option.bind_eq_some_iff.mp h
    obtain ⟨h1, h2, h3⟩ := slice1_some hpart
    have hR := hr.row rr pl row hm hrow
    obtain ⟨arr, fz, g1, g2, g3, g4, gf⟩ := hR.ex
    obtain ⟨u, hu, hV⟩ := load_ok (P := P) (W0 := W0) (m := m) (w := w) hag hsz (b := pl.blk) (off := i * pl.e + oo) (part := part) h2 (r := r) (by
      intro j c hc
      rw [h3] at hc
      split at hc
      · refine ⟨(hR.szs i cs hcs).2 _ _ hc, ?_⟩
        obtain ⟨v, hv, hV⟩ := g4 i cs (oo + j) c hcs hc
        refine ⟨v, ?_, hV⟩
        simp only [World.cell?, g1]
        simpa [Nat.add_assoc] using hv
      · cases hc) h
    exact ⟨_, u, rfl, hu, hV⟩
  · rename_i cs
    obtain ⟨b, off, rfl, hb, hc⟩ := hv.inv_ref
    simp only [Option.bind_eq_bind] at h
    obtain ⟨part, hpart, h⟩ := Option.bind_eq_some_iff.mp h
    obtain ⟨h1, h2, h3⟩ := slice1_some hpart
    obtain ⟨u, hu, hV⟩ := load_ok (P := P) (W0 := W0) (m := m) (w := w) hag hsz (b := b) (off := off) (part := part) h2 (r := r) (by
      intro j c hcc
      rw [h3] at hcc
      split at hcc
      · simp only [Nat.zero_add] at hcc
        obtain ⟨q1, v, q2, q3⟩ := hc j c hcc
        exact ⟨q1, v, by rw [W0_cell hr hb]; exact q2, q3⟩
      · cases hcc) h
    exact ⟨_, u, rfl, hu, hV⟩
  · cases h

theorem op_load {t : TypeId} {x : Operand} {cx : Opd} {agg : Bool} {sz : Nat} (ho : o.op = .load t x) (hag : cAgg P t = some agg) (hsz : cSize P t = some sz) (hx : cOpd x = some cx)
    (hr : Rel W0 m s w) (he : EnvOK W0 m n a e) (h : loadA s agg sz (ev e cx) = some r) : Done P W0 m s w s r o a := by
  obtain ⟨ad, u, h1, h2, h3⟩ := loadA_ok hag hsz hr (opd_V he hx) h
  refine .pure (v := u) ?_ hr h3
  simp [execOp, ho, Instr.loadAt, h1, Instr.sureAddr, h2]

/-- A value's cells are told, one by one. -/
theorem cells_told {v : Value} {c : AV} (h : V W0 m v c) : ∀ (j : Nat) (y : AV), (cells c)[j]? = some y → ∃ x, v.cells[j]? = some x ∧ V W0 m x y := by
  intro j y hy
  obtain ⟨h1, h2⟩ := h.cells
  have hlt := (List.getElem?_eq_some_iff.mp hy).1
  have : j < v.cells.size := by omega
  exact ⟨v.cells[j], by simp, h2 j _ y (by simp) hy⟩

theorem below_push (w : World) (ob : Obj) : Below w.heap.size w (w.alloc ob) := (Below.refl _ w).alloc (Nat.le_refl _) ob

/-- A new variable. -/
theorem var_ok (hr : Rel W0 m s w) (hf : m s.next = none) {v : Value} {c : AV} (hv : V W0 m v c) (hc : (cells c).all isCell = true) (t : TypeId) :
    ∃ m', After W0 m s w m' (s.push ⟨t, (cells c).length, [cells c]⟩) (w.alloc (.cells v.cells t)) ∧ V W0 m' (.pointer (some ⟨w.heap.size, 0, none⟩)) (.ptr s.next 0 0) := by
  refine ⟨upd m s.next ⟨t, w.heap.size, 1, (cells c).length⟩, ?_, ?_⟩
  · refine After.push hr hf ⟨t, (cells c).length, [cells c]⟩ v.cells 1 (below_push w _) (heap_alloc_new w _) (.inl rfl) (by simp [hv.cells.1]) (by simp [maxLen]) (by simp) ?_ ?_
    · intro i x hx
      match i, hx with
      | 0, hx =>
        simp at hx
        subst hx
        refine ⟨rfl, ?_⟩
        intro j y hy
        exact List.all_eq_true.mp hc y (List.mem_of_getElem? hy)
    · intro i x j y hx hy
      match i, hx with
      | 0, hx =>
        simp at hx
        subst hx
        obtain ⟨u, h1, h2⟩ := cells_told hv j y hy
        exact ⟨u, by simpa using h1, h2⟩
  · have := V.ptr (W0 := W0) (m := upd m s.next ⟨t, w.heap.size, 1, (cells c).length⟩) s.next 0 0 _ (upd_same _ _ _)
    simpa using this

theorem op_new {t : TypeId} {z : List AV} (ho : o.op = .alloc t) (hz : cZero P t = some z) (hr : Rel W0 m s w) (hf : m s.next = none) : Done P W0 m s w (s.push ⟨t, z.length, [z]⟩) (.ptr s.next 0 0) o a := by
  obtain ⟨i, v, c, h1, h2, h3, h4, h5, h6, h7⟩ := cZero_ok hz
  subst h4
  obtain ⟨m', hA, hV⟩ := var_ok hr hf (constAV_V (W0 := W0) (m := m) h3) h6 t
  refine .value (v := .pointer (some ⟨w.heap.size, 0, none⟩)) (w' := w.alloc (.cells v.cells t)) ?_ hA hV
  simp [execOp, ho, Instr.alloc, zeroValue, typeInfo, h1, h2, newVar, newRow]

theorem op_box {t : TypeId} {x : Operand} {cx : Opd} (ho : o.op = .box t x) (hx : cOpd x = some cx) (hr : Rel W0 m s w) (he : EnvOK W0 m n a e) (hf : m s.next = none) (hc : (cells (ev e cx)).all isCell = true) :
    Done P W0 m s w (s.push ⟨t, (cells (ev e cx)).length, [cells (ev e cx)]⟩) (.ptr s.next 0 0) o a := by
  obtain ⟨m', hA, hV⟩ := var_ok hr hf (opd_V he hx) hc t
  refine .value (v := .pointer (some ⟨w.heap.size, 0, none⟩)) (w' := w.alloc (.cells (a.eval x).cells t)) ?_ hA hV
  simp [execOp, ho, Instr.box, newVar, newRow]

theorem putCells_get (cs xs : List AV) (o : Nat) (h : o + xs.length ≤ cs.length) (j : Nat) : (putCells cs o xs)[j]? = if j < o then cs[j]? else if j < o + xs.length then xs[j - o]? else cs[j]? := by
  unfold putCells
  by_cases h1 : j < o
  · rw [if_pos h1, List.append_assoc, List.getElem?_append_left (by simp; omega), List.getElem?_take, if_pos h1]
  · rw [if_neg h1]
    by_cases h2 : j < o + xs.length
    · rw [if_pos h2, List.append_assoc, List.getElem?_append_right (by simp; omega), List.length_take, Nat.min_eq_left (by omega), List.getElem?_append_left (by omega)]
    · rw [if_neg h2, List.getElem?_append_right (by simp; omega), List.getElem?_drop]
      simp only [List.length_append, List.length_take, Nat.min_eq_left (show o ≤ cs.length by omega)]
      congr 1
      omega

theorem putCells_len (cs xs : List AV) (o : Nat) (h : o + xs.length ≤ cs.length) : (putCells cs o xs).length = cs.length := by
  unfold putCells
  simp only [List.length_append, List.length_take, List.length_drop]
  omega

theorem setRow_size (w : World) (g : Nat) (c : Array Value) : (w.setRow g c).heap.size = w.heap.size := by simp [World.setRow]

theorem op_store {t : TypeId} {x y : Operand} {cx cy : Opd} {sz : Nat} (ho : o.op = .store t x y) (hsz : cSize P t = some sz) (hx : cOpd x = some cx) (hy : cOpd y = some cy)
    (hr : Rel W0 m s w) (he : EnvOK W0 m n a e) (h : storeA s sz (ev e cx) (ev e cy) = some s') : Done P W0 m s w s' und o a := by
  have hvx := opd_V he hx
  have hvy := opd_V he hy
  unfold storeA at h
  split at h
  · rename_i rr i oo heq
    rw [heq] at hvx
    obtain ⟨pl, hpx, hm⟩ := hvx.inv_ptr
    simp only [Option.bind_eq_bind] at h
    obtain ⟨row, hrow, h⟩ := Option.bind_eq_some_iff.mp h
    obtain ⟨cs, hcs, h⟩ := Option.bind_eq_some_iff.mp h
    split at h
    · rename_i hh
      obtain ⟨h1, h2, h3, h4⟩ := hh
      obtain rfl := Option.some.inj h
      have hR := hr.row rr pl row hm hrow
      obtain ⟨arr, fz, g1, g2, g3, g4, gf⟩ := hR.ex
      have hi : i < row.els.length := (List.getElem?_eq_some_iff.mp hcs).1
      have hcl := (hR.szs i cs hcs).1
      have hval := hvy.cells
      have hbound : i * pl.e + oo + (a.eval y).cells.toList.length ≤ arr.size := by
        rw [← g2, Array.length_toList, hval.1, h1]
        have : (i + 1) * pl.e ≤ pl.cap * pl.e := Nat.mul_le_mul_right _ (by have := hR.len; omega)
        have e1 := hR.e
        rw [Nat.add_mul] at this
        omega
      have h1cell : ∀ u ∈ (a.eval y).cells.toList, u.oneCell' = true := by
        intro u hu
        obtain ⟨j, hj⟩ := List.mem_iff_getElem?.mp hu
        rw [Array.getElem?_toList] at hj
        have hlt : j < (cells (ev e cy)).length := by rw [← hval.1]; exact (Array.getElem?_eq_some_iff.mp hj).1
        have hV := hval.2 j u _ hj (List.getElem?_eq_getElem hlt)
        exact hV.one (List.all_eq_true.mp h4 _ (List.getElem_mem hlt))
      have hst := run_storeCells_cells (P := P) pl.blk (i * pl.e + oo) (a.eval y).cells.toList 0 w (by
          intro j hj
          simp only [World.cell?, g1, Nat.add_zero]
          rw [Array.getElem?_eq_getElem (by omega)]; rfl) (by
          intro j hj
          simp only [World.frozen?, g1]
          exact gf.at_ (by omega)) h1cell
      simp only [Nat.add_zero] at hst
      refine Done.skip (w' := w.setCells pl.blk (i * pl.e + oo) (a.eval y).cells.toList) (m' := m) ?_ ?_
      · obtain ⟨inf, hi1, hi2⟩ := info_of_cSize hsz
        have hne : (a.eval y).cells.size = inf.size := by rw [hval.1, h1, hi2]
        simp [execOp, ho, Instr.storeAt, hpx, Instr.sureAddr, storeVar, sizeOf, typeInfo, hi1, hne]
        rw [hst]; simp
      · refine After.store hr hm hrow h3 rfl rfl (by simp) _ (setCells_rest _ _ _ _) (fun k hk => setCells_far _ _ _ w k hk) (setCells_row _ _ w arr g1 hbound) ?_ ?_ ?_ ?_
        · have : (arr.toList.take (i * pl.e + oo) ++ (a.eval y).cells.toList ++ arr.toList.drop (i * pl.e + oo + (a.eval y).cells.toList.length)).toArray.size = arr.size := by
            simp only [List.size_toArray, List.length_append, List.length_take, List.length_drop, Array.length_toList] at hbound ⊢
            omega
          rw [this]; exact gf
        · rw [g2]
          simp only [List.size_toArray, List.length_append, List.length_take, List.length_drop, Array.length_toList] at hbound ⊢
          omega
        · intro j x hj
          by_cases hji : i = j
          · subst hji
            rw [List.getElem?_set_self hi] at hj
            obtain rfl := Option.some.inj hj
            refine ⟨by rw [putCells_len _ _ _ (by omega)]; exact hcl, ?_⟩
            intro q c hq
            rw [putCells_get _ _ _ (by omega)] at hq
            split at hq
            · exact (hR.szs i cs hcs).2 q c hq
            · split at hq
              · exact List.all_eq_true.mp h4 c (List.mem_of_getElem? hq)
              · exact (hR.szs i cs hcs).2 q c hq
          · rw [List.getElem?_set_ne hji] at hj
            exact hR.szs j x hj
        · intro j x q c hj hq
          have hj' : ∃ x0, row.els[j]? = some x0 := by
            have hlt : j < row.els.length := by have := (List.getElem?_eq_some_iff.mp hj).1; simpa using this
            exact ⟨_, List.getElem?_eq_getElem hlt⟩
          obtain ⟨x0, hx0⟩ := hj'
          have hx0l := (hR.szs j x0 hx0).1
          have hql : q < row.sz := by
            have hh := (List.getElem?_eq_some_iff.mp hq).1
            by_cases hji : i = j
            · subst hji
              rw [List.getElem?_set_self hi] at hj
              obtain rfl := Option.some.inj hj
              rw [putCells_len _ _ _ (by omega)] at hh
              omega
            · rw [List.getElem?_set_ne hji] at hj
              rw [(hR.szs j x hj).1] at hh; exact hh
          have hA : (arr.toList.take (i * pl.e + oo) ++ (a.eval y).cells.toList ++ arr.toList.drop (i * pl.e + oo + (a.eval y).cells.toList.length)).toArray[j * row.sz + q]? =
              if j * row.sz + q < i * pl.e + oo then arr[j * row.sz + q]? else if j * row.sz + q < i * pl.e + oo + sz then (a.eval y).cells[j * row.sz + q - (i * pl.e + oo)]? else arr[j * row.sz + q]? := by
            have hyl : (a.eval y).cells.toList.length = sz := by rw [Array.length_toList, hval.1, h1]
            rw [List.getElem?_toArray]
            by_cases k1 : j * row.sz + q < i * pl.e + oo
            · rw [if_pos k1, List.append_assoc, List.getElem?_append_left (by simp; omega), List.getElem?_take, if_pos k1, Array.getElem?_toList]
            · rw [if_neg k1]
              by_cases k2 : j * row.sz + q < i * pl.e + oo + sz
              · rw [if_pos k2, List.append_assoc, List.getElem?_append_right (by simp; omega), List.length_take, Nat.min_eq_left (by have := Array.length_toList (xs := arr); omega), List.getElem?_append_left (by omega), Array.getElem?_toList]
              · rw [if_neg k2, List.getElem?_append_right (by simp; omega), List.getElem?_drop, Array.getElem?_toList]
                simp only [List.length_append, List.length_take, Array.length_toList] at hyl ⊢
                congr 1
                omega
          rw [hA]
          have e1 := hR.e
          by_cases hji : i = j
          · subst hji
            rw [List.getElem?_set_self hi] at hj
            obtain rfl := Option.some.inj hj
            rw [putCells_get _ _ _ (by omega)] at hq
            rw [e1]
            split at hq
            · rename_i k1
              rw [if_pos (by omega)]
              have := g4 i cs q c hcs hq
              rw [e1] at this; exact this
            · rename_i k1
              rw [if_neg (by omega)]
              split at hq
              · rename_i k2
                rw [if_pos (by omega)]
                obtain ⟨u, hu, hV⟩ := cells_told hvy (q - oo) c hq
                refine ⟨u, ?_, hV⟩
                rw [← hu]; congr 1; omega
              · rename_i k2
                rw [if_neg (by omega)]
                have := g4 i cs q c hcs hq
                rw [e1] at this; exact this
          · rw [List.getElem?_set_ne hji] at hj
            have := g4 j x q c hj hq
            rw [e1] at this ⊢
            rcases Nat.lt_or_gt_of_ne hji with hlt | hgt
            · have hm1 : (i + 1) * row.sz ≤ j * row.sz := Nat.mul_le_mul_right _ hlt
              rw [Nat.add_mul] at hm1
              rw [if_neg (by omega), if_neg (by omega)]
              exact this
            · have hm1 : (j + 1) * row.sz ≤ i * row.sz := Nat.mul_le_mul_right _ hgt
              rw [Nat.add_mul] at hm1
              rw [if_pos (by omega)]
              exact this
    · cases h
  · cases h

end

end Go.VI
