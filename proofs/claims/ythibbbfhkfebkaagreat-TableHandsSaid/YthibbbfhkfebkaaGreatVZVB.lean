/- Each operation, on related values. No statement of the seat is proved here. -/
import Derived.Test.YthibbbfhkfebkaaGreatVZVA
import Derived.Lib.Strings
import Derived.IntWalk
import Derived.Laws.BytesString
import Derived.ArgAppend
import Derived.Deep.AppendSrc
import Derived.Lib.ConvBytes
import Derived.WalkSpells
namespace Go.VI
open Go Go.RowKit
variable {P : Program}
section inv
variable {W0 : World} {m : PM} {v : Value}
theorem V.inv_bool {b : Bool} (h : V W0 m v (.bool b)) : v = .bool b := by cases h; rfl
theorem V.inv_int {k : IntKind} {n : Int} (h : V W0 m v (.int k n)) : v = .int k n := by cases h; rfl
theorem V.inv_str {s : List UInt8} (h : V W0 m v (.str s)) : ∃ b : ByteArray, v = .string b ∧ b.data.toList = s := by cases h; exact ⟨_, rfl, rfl⟩
theorem V.inv_nilS (h : V W0 m v .nilS) : v = .slice none 0 0 := by cases h; rfl
theorem V.inv_emp (h : V W0 m v .emp) : ∃ a, v = .slice (some a) 0 0 := by cases h; exact ⟨_, rfl⟩
theorem V.inv_nilP (h : V W0 m v .nilP) : v = .pointer none := by cases h; rfl
theorem V.inv_nilF (h : V W0 m v .nilF) : v = .nilFunc := by cases h; rfl
theorem V.inv_nilI (h : V W0 m v .nilI) : v = .nilIface := by cases h; rfl
theorem V.inv_own {r i n z : Nat} (h : V W0 m v (.own r i n z)) : ∃ off cp pl, v = .slice (some ⟨pl.blk, off, none⟩) n cp ∧ (m r = some pl ∧ pl.mp = false) ∧ i + cp ≤ pl.cap ∧ n ≤ cp ∧ (0 < cp ∨ i = 0 → off = i * pl.e) ∧ pl.e = z := by
  cases h with | own off _ cp _ _ pl hm hp hi hn ha => exact ⟨off, cp, pl, rfl, ⟨hm, hp⟩, hi, hn, ha, rfl⟩
theorem V.inv_ptr {r i o : Nat} (h : V W0 m v (.ptr r i o)) : ∃ pl, v = .pointer (some ⟨pl.blk, i * pl.e + o, none⟩) ∧ m r = some pl ∧ pl.mp = false := by
  cases h with | ptr _ _ _ pl hm hp => exact ⟨pl, rfl, hm, hp⟩
theorem V.inv_mapv {r : Nat} (h : V W0 m v (.mapv r)) : ∃ pl, v = .map (some pl.blk) ∧ m r = some pl ∧ pl.mp = true := by
  cases h with | mapv _ pl hm hp => exact ⟨pl, rfl, hm, hp⟩
theorem V.inv_nilM (h : V W0 m v .nilM) : v = .map none := by cases h; rfl
theorem V.inv_ref {cs : List AV} (h : V W0 m v (.ref cs)) : ∃ b off, v = .pointer (some ⟨b, off, none⟩) ∧ b < W0.heap.size ∧ (∀ o c, cs[o]? = some c → isCell c = true ∧ ∃ v, W0.cell? ⟨b, off + o, none⟩ = some v ∧ V W0 m v c) := by
  cases h with
  | ref b off _ hb hcell hv =>
    refine ⟨b, off, rfl, hb, ?_⟩
    intro o c hc
    obtain ⟨h1, h2⟩ := hcell o c hc
    obtain ⟨v, h3⟩ := Option.isSome_iff_exists.mp h2
    exact ⟨h1, v, h3, hv o c v hc h3⟩
theorem V.inv_sl {xs : List (List AV)} (h : V W0 m v (.sl xs)) : ∃ a cap e, v = .slice (some a) xs.length cap ∧ (xs ≠ [] → a = ⟨a.block, a.off, none⟩ ∧ a.block < W0.heap.size) ∧ xs.length ≤ cap ∧ (∀ (i : Nat) (x : List AV), xs[i]? = some x → x.length = e) ∧
    (∀ (i : Nat) (x : List AV) (o : Nat) (c : AV), xs[i]? = some x → x[o]? = some c → isCell c = true ∧ ∃ v, W0.cell? ⟨a.block, a.off + (i * e + o), none⟩ = some v ∧ V W0 m v c) := by
  cases h with
  | sl a len cap e _ hb hl hc he hcell hv =>
    subst hl
    refine ⟨a, cap, e, rfl, hb, hc, he, ?_⟩
    intro i x o c hx ho
    obtain ⟨h1, h2⟩ := hcell i x o c hx ho
    obtain ⟨v, h3⟩ := Option.isSome_iff_exists.mp h2
    exact ⟨h1, v, h3, hv i x o c v hx ho h3⟩
theorem V.inv_fn {f : Nat} {avs : List AV} (h : V W0 m v (.fn f avs)) : ∃ caps, v = .func (.func f) #[] caps ∧ VL W0 m caps avs := by
  cases h with | fn _ caps _ hl hv => exact ⟨caps, rfl, hl, hv⟩
theorem V.inv_ifc {t : Nat} {c : AV} (h : V W0 m v (.ifc t c)) : ∃ x, v = .iface t x ∧ V W0 m x c := by cases h with | ifc _ x _ hv => exact ⟨x, rfl, hv⟩
theorem V.inv_agg {cs : List AV} (h : V W0 m v (.agg cs)) : ∃ vs, v = .agg vs ∧ VL W0 m vs cs ∧ ∀ (i : Nat) (c : AV), cs[i]? = some c → isCell c = true := by
  cases h with | agg vs _ hl hc hv => exact ⟨vs, rfl, ⟨hl, hv⟩, hc⟩
theorem V.inv_tup {cs : List AV} (h : V W0 m v (.tup cs)) : ∃ vs, v = .tuple vs ∧ VL W0 m vs cs := by
  cases h with | tup vs _ hl hv => exact ⟨vs, rfl, hl, hv⟩
end inv
def Done (P : Program) (W0 : World) (m : PM) (s : Mem) (w : World) (s' : Mem) (r : AV) (o : Oper) (a : Act) : Prop :=
  ∀ (next : Act → World → Prop) (Q : Exit → Act → World → Prop),
    (∀ v m' w', After P W0 m s w m' s' w' → V W0 m' v r → next (a.put o.dst v) w') → o.wp P a w next Q
section
variable {W0 : World} {m m' : PM} {s s' : Mem} {w w' : World} {n : Nat} {a : Act} {e : Env} {o : Oper} {r : AV}
theorem Done.value {v : Value} (h : (execOp a.eval o).run P w = .ok (.value v) w') (ha : After P W0 m s w m' s' w') (hv : V W0 m' v r) : Done P W0 m s w s' r o a := by
  intro next Q hK
  unfold Oper.wp
  rw [h]
  exact hK v m' w' ha hv
theorem Done.skip (h : (execOp a.eval o).run P w = .ok .skip w') (ha : After P W0 m s w m' s' w') : Done P W0 m s w s' und o a := by
  intro next Q hK
  unfold Oper.wp
  rw [h]
  exact hK undef m' w' ha (V.und W0 m')
theorem Done.pure {v : Value} (h : (execOp a.eval o).run P w = .ok (.value v) w) (hr : Rel P W0 m s w) (hv : V W0 m v r) : Done P W0 m s w s r o a :=
  .value h (.refl hr) hv
theorem op_mv {x : Operand} {cx : Opd} (ho : o.op = .move x ∨ o.op = .assign x) (hx : cOpd x = some cx) (hr : Rel P W0 m s w) (he : EnvOK W0 m n a e) : Done P W0 m s w s (ev e cx) o a := by
  refine .pure (v := a.eval x) ?_ hr (opd_V he hx)
  rcases ho with ho | ho <;> simp [execOp, ho]
theorem op_pick {c x y : Operand} {cc cx cy : Opd} (ho : o.op = .pick c x y) (hc : cOpd c = some cc) (hx : cOpd x = some cx) (hy : cOpd y = some cy) (hr : Rel P W0 m s w) (he : EnvOK W0 m n a e)
    {t : Bool} (ht : ev e cc = .bool t) : Done P W0 m s w s (if t then ev e cx else ev e cy) o a := by
  have h1 := opd_V he hc
  rw [ht] at h1
  refine .pure (v := if t then a.eval x else a.eval y) ?_ hr ?_
  · simp [execOp, ho, h1.inv_bool, asBool]
  · cases t
    · exact opd_V he hy
    · exact opd_V he hx
theorem info_of_cSize {t : TypeId} {sz : Nat} (h : cSize P t = some sz) : ∃ i, P.info? t = some i ∧ i.size = sz := by
  obtain ⟨i, h1, h2⟩ := Option.map_eq_some_iff.mp h
  exact ⟨i, h1, h2⟩
theorem run_cSize {t : TypeId} {sz : Nat} (h : cSize P t = some sz) (w : World) : (sizeOf t).run P w = .ok sz w := by
  obtain ⟨i, h1, h2⟩ := info_of_cSize h
  simp [sizeOf, typeInfo, h1, h2]
theorem cZero_ok {t : TypeId} {z : List AV} (h : cZero P t = some z) : ∃ i v c, P.info? t = some i ∧ i.zero = some v ∧ constAV v = some c ∧ cells c = z ∧ z.length = i.size ∧ z.all isCell = true ∧ v.cells.size = i.size := by
  unfold cZero at h
  simp only [Option.bind_eq_bind] at h
  obtain ⟨i, hi, h⟩ := Option.bind_eq_some_iff.mp h
  obtain ⟨v, hv, h⟩ := Option.bind_eq_some_iff.mp h
  obtain ⟨c, hc, h⟩ := Option.bind_eq_some_iff.mp h
  split at h
  · rename_i hh
    obtain rfl := Option.some.inj h
    exact ⟨i, v, c, hi, hv, hc, rfl, hh.1, hh.2.1, hh.2.2⟩
  · cases h
theorem run_cAgg {t : TypeId} {b : Bool} (h : cAgg P t = some b) (w : World) : (isAgg t).run P w = .ok b w := by
  unfold cAgg at h
  unfold isAgg
  cases hu : P.underlying t with
  | none => rw [hu] at h; cases h
  | some d =>
    rw [hu] at h
    simp only [Sem.run_bind, run_underlying hu, Result.andThen_ok]
    cases d <;> simp at h <;> subst h <;> simp
theorem add_addr (b off k : Nat) : (⟨b, off, none⟩ : Addr).add k = ⟨b, off + k, none⟩ := by
  unfold Addr.add
  split
  · subst_vars; rfl
  · rfl
theorem load_ok {t : TypeId} {agg : Bool} {sz : Nat} (hag : cAgg P t = some agg) (hsz : cSize P t = some sz) {b off : Nat} {part : List AV} (hl : part.length = sz)
    (hc : ∀ (j : Nat) (c : AV), part[j]? = some c → isCell c = true ∧ ∃ v, w.cell? ⟨b, off + j, none⟩ = some v ∧ V W0 m v c) (hp : pickCells agg part = some r) :
    ∃ v, (loadVar t ⟨b, off, none⟩).run P w = .ok v w ∧ V W0 m v r := by
  unfold loadVar
  simp only [Sem.run_bind, run_cAgg hag, Result.andThen_ok]
  cases agg with
  | true =>
    simp only [pickCells, if_true] at hp
    obtain rfl := Option.some.inj hp
    let f : Nat → Value := fun j => (w.cell? ⟨b, off + j, none⟩).getD undef
    have hf : ∀ j, j < sz → w.cell? ((⟨b, off, none⟩ : Addr).add j) = some (f j) := by
      intro j hj
      obtain ⟨_, v, hv, _⟩ := hc j part[j] (by simp)
      rw [add_addr]
      simp only [f, hv, Option.getD_some]
    refine ⟨.agg ((List.range sz).map f).toArray, ?_, ?_⟩
    · simp only [if_true, Sem.run_bind, run_cSize hsz, Result.andThen_ok, run_loadCells w _ sz f hf, Sem.run_pure]
    · refine .agg _ _ (by simp [hl]) (fun i c h => (hc i c h).1) ?_
      intro i v c hv hcc
      obtain ⟨_, v', hv', hV⟩ := hc i c hcc
      have : v = v' := by
        simp only [List.getElem?_toArray, List.getElem?_map] at hv
        obtain ⟨k, hk, rfl⟩ := Option.map_eq_some_iff.mp hv
        have : k = i := by
          rw [List.getElem?_range] at hk
          · exact (Option.some.inj hk).symm
          · exact (by have := (List.getElem?_eq_some_iff.mp hcc).1; omega)
        subst this
        simp only [f, hv', Option.getD_some]
      rw [this]; exact hV
  | false =>
    simp only [pickCells] at hp
    match part, hl, hp, hc with
    | [v], hl, hp, hc =>
      simp at hp
      subst hp
      obtain ⟨_, u, hu, hV⟩ := hc 0 v rfl
      refine ⟨u, ?_, hV⟩
      simp only [Nat.add_zero] at hu
      simp [hu]
    | [], hl, hp, hc => simp at hp
    | _ :: _ :: _, hl, hp, hc => simp at hp
theorem slice1_some {cs part : List AV} {o sz : Nat} (h : slice1 cs o sz = some part) : o + sz ≤ cs.length ∧ part.length = sz ∧ ∀ j, part[j]? = if j < sz then cs[o + j]? else none := by
  unfold slice1 at h
  split at h
  · rename_i hle
    obtain rfl := Option.some.inj h
    refine ⟨hle, by simp; omega, ?_⟩
    intro j
    rw [List.getElem?_take]
    split
    · rw [List.getElem?_drop]
    · rfl
  · cases h
theorem W0_cell {b off : Nat} (hr : Rel P W0 m s w) (hb : b < W0.heap.size) : w.cell? ⟨b, off, none⟩ = W0.cell? ⟨b, off, none⟩ := hr.below.cell hb
theorem loadA_ok {t : TypeId} {agg : Bool} {sz : Nat} (hag : cAgg P t = some agg) (hsz : cSize P t = some sz) (hr : Rel P W0 m s w) {v : Value} {c : AV} (hv : V W0 m v c) (h : loadA s agg sz c = some r) :
    ∃ ad u, v = .pointer (some ad) ∧ (loadVar t ad).run P w = .ok u w ∧ V W0 m u r := by
  unfold loadA at h
  split at h
  · rename_i rr i oo
    obtain ⟨pl, rfl, hm, hp⟩ := hv.inv_ptr
    simp only [Option.bind_eq_bind] at h
    obtain ⟨row, hrow, h⟩ := Option.bind_eq_some_iff.mp h
    obtain ⟨cs, hcs, h⟩ := Option.bind_eq_some_iff.mp h
    obtain ⟨part, hpart, h⟩ := Option.bind_eq_some_iff.mp h
    obtain ⟨h1, h2, h3⟩ := slice1_some hpart
    have hR := (hr.row rr pl row hm hrow).cs hp
    obtain ⟨arr, fz, g1, g2, g3, g4, gf⟩ := hR.ex
    obtain ⟨u, hu, hV⟩ := load_ok (P := P) (W0 := W0) (m := m) (w := w) hag hsz (b := pl.blk) (off := i * pl.e + oo) (part := part) h2 (r := r) (by
      intro j c hc
      rw [h3] at hc
      split at hc
      · refine ⟨(hR.szs i cs hcs).2 _ _ hc, ?_⟩
        obtain ⟨v, hv, hV⟩ := g4 i cs (oo + j) c hcs hc
        refine ⟨v, ?_, hV⟩
        simp only [World.cell?, g1]
        simpa [Nat.add_assoc] using hv
      · cases hc) h
    exact ⟨_, u, rfl, hu, hV⟩
  · rename_i cs
    obtain ⟨b, off, rfl, hb, hc⟩ := hv.inv_ref
    simp only [Option.bind_eq_bind] at h
    obtain ⟨part, hpart, h⟩ := Option.bind_eq_some_iff.mp h
    obtain ⟨h1, h2, h3⟩ := slice1_some hpart
    obtain ⟨u, hu, hV⟩ := load_ok (P := P) (W0 := W0) (m := m) (w := w) hag hsz (b := b) (off := off) (part := part) h2 (r := r) (by
      intro j c hcc
      rw [h3] at hcc
      split at hcc
      · simp only [Nat.zero_add] at hcc
        obtain ⟨q1, v, q2, q3⟩ := hc j c hcc
        exact ⟨q1, v, by rw [W0_cell hr hb]; exact q2, q3⟩
      · cases hcc) h
    exact ⟨_, u, rfl, hu, hV⟩
  · cases h
theorem op_load {t : TypeId} {x : Operand} {cx : Opd} {agg : Bool} {sz : Nat} (ho : o.op = .load t x) (hag : cAgg P t = some agg) (hsz : cSize P t = some sz) (hx : cOpd x = some cx)
    (hr : Rel P W0 m s w) (he : EnvOK W0 m n a e) (h : loadA s agg sz (ev e cx) = some r) : Done P W0 m s w s r o a := by
  obtain ⟨ad, u, h1, h2, h3⟩ := loadA_ok hag hsz hr (opd_V he hx) h
  refine .pure (v := u) ?_ hr h3
  simp [execOp, ho, Instr.loadAt, h1, Instr.sureAddr, h2]
theorem cells_told {v : Value} {c : AV} (h : V W0 m v c) : ∀ (j : Nat) (y : AV), (cells c)[j]? = some y → ∃ x, v.cells[j]? = some x ∧ V W0 m x y := by
  intro j y hy
  obtain ⟨h1, h2⟩ := h.cells
  have hlt := (List.getElem?_eq_some_iff.mp hy).1
  have : j < v.cells.size := by omega
  exact ⟨v.cells[j], by simp, h2 j _ y (by simp) hy⟩
theorem below_push (w : World) (ob : Obj) : Below w.heap.size w (w.alloc ob) := (Below.refl _ w).alloc (Nat.le_refl _) ob
theorem var_ok (hr : Rel P W0 m s w) (hf : m s.next = none) {v : Value} {c : AV} (hv : V W0 m v c) (hc : (cells c).all isCell = true) (t : TypeId) :
    ∃ m', After P W0 m s w m' (s.push ⟨t, (cells c).length, [cells c]⟩) (w.alloc (.cells v.cells t)) ∧ V W0 m' (.pointer (some ⟨w.heap.size, 0, none⟩)) (.ptr s.next 0 0) := by
  refine ⟨upd m s.next ⟨t, w.heap.size, 1, (cells c).length, false⟩, ?_, ?_⟩
  · refine After.push hr hf ⟨t, (cells c).length, [cells c]⟩ v.cells 1 (below_push w _) (heap_alloc_new w _) (.inl rfl) (by simp [hv.cells.1]) (by simp [maxLen]) (by simp) ?_ ?_
    · intro i x hx
      match i, hx with
      | 0, hx =>
        simp at hx
        subst hx
        refine ⟨rfl, ?_⟩
        intro j y hy
        exact List.all_eq_true.mp hc y (List.mem_of_getElem? hy)
    · intro i x j y hx hy
      match i, hx with
      | 0, hx =>
        simp at hx
        subst hx
        obtain ⟨u, h1, h2⟩ := cells_told hv j y hy
        exact ⟨u, by simpa using h1, h2⟩
  · have := V.ptr (W0 := W0) (m := upd m s.next ⟨t, w.heap.size, 1, (cells c).length, false⟩) s.next 0 0 _ (upd_same _ _ _) rfl
    simpa using this
theorem op_new {t : TypeId} {z : List AV} (ho : o.op = .alloc t) (hz : cZero P t = some z) (hr : Rel P W0 m s w) (hf : m s.next = none) : Done P W0 m s w (s.push ⟨t, z.length, [z]⟩) (.ptr s.next 0 0) o a := by
  obtain ⟨i, v, c, h1, h2, h3, h4, h5, h6, h7⟩ := cZero_ok hz
  subst h4
  obtain ⟨m', hA, hV⟩ := var_ok hr hf (constAV_V (W0 := W0) (m := m) h3) h6 t
  refine .value (v := .pointer (some ⟨w.heap.size, 0, none⟩)) (w' := w.alloc (.cells v.cells t)) ?_ hA hV
  simp [execOp, ho, Instr.alloc, zeroValue, typeInfo, h1, h2, newVar, newRow]
theorem op_box {t : TypeId} {x : Operand} {cx : Opd} (ho : o.op = .box t x) (hx : cOpd x = some cx) (hr : Rel P W0 m s w) (he : EnvOK W0 m n a e) (hf : m s.next = none) (hc : (cells (ev e cx)).all isCell = true) :
    Done P W0 m s w (s.push ⟨t, (cells (ev e cx)).length, [cells (ev e cx)]⟩) (.ptr s.next 0 0) o a := by
  obtain ⟨m', hA, hV⟩ := var_ok hr hf (opd_V he hx) hc t
  refine .value (v := .pointer (some ⟨w.heap.size, 0, none⟩)) (w' := w.alloc (.cells (a.eval x).cells t)) ?_ hA hV
  simp [execOp, ho, Instr.box, newVar, newRow]
theorem putCells_get (cs xs : List AV) (o : Nat) (h : o + xs.length ≤ cs.length) (j : Nat) : (putCells cs o xs)[j]? = if j < o then cs[j]? else if j < o + xs.length then xs[j - o]? else cs[j]? := by
  unfold putCells
  by_cases h1 : j < o
  · rw [if_pos h1, List.append_assoc, List.getElem?_append_left (by simp; omega), List.getElem?_take, if_pos h1]
  · rw [if_neg h1]
    by_cases h2 : j < o + xs.length
    · rw [if_pos h2, List.append_assoc, List.getElem?_append_right (by simp; omega), List.length_take, Nat.min_eq_left (by omega), List.getElem?_append_left (by omega)]
    · rw [if_neg h2, List.getElem?_append_right (by simp; omega), List.getElem?_drop]
      simp only [List.length_append, List.length_take, Nat.min_eq_left (show o ≤ cs.length by omega)]
      congr 1
      omega
theorem putCells_len (cs xs : List AV) (o : Nat) (h : o + xs.length ≤ cs.length) : (putCells cs o xs).length = cs.length := by
  unfold putCells
  simp only [List.length_append, List.length_take, List.length_drop]
  omega
theorem op_store {t : TypeId} {x y : Operand} {cx cy : Opd} {sz : Nat} (ho : o.op = .store t x y) (hsz : cSize P t = some sz) (hx : cOpd x = some cx) (hy : cOpd y = some cy)
    (hr : Rel P W0 m s w) (he : EnvOK W0 m n a e) (h : storeA s sz (ev e cx) (ev e cy) = some s') : Done P W0 m s w s' und o a := by
  have hvx := opd_V he hx
  have hvy := opd_V he hy
  unfold storeA at h
  split at h
  · rename_i rr i oo heq
    rw [heq] at hvx
    obtain ⟨pl, hpx, hm, hp⟩ := hvx.inv_ptr
    simp only [Option.bind_eq_bind] at h
    obtain ⟨row, hrow, h⟩ := Option.bind_eq_some_iff.mp h
    obtain ⟨cs, hcs, h⟩ := Option.bind_eq_some_iff.mp h
    split at h
    · rename_i hh
      obtain ⟨h1, h2, h3, h4⟩ := hh
      obtain rfl := Option.some.inj h
      have hR := (hr.row rr pl row hm hrow).cs hp
      obtain ⟨arr, fz, g1, g2, g3, g4, gf⟩ := hR.ex
      have hi : i < row.els.length := (List.getElem?_eq_some_iff.mp hcs).1
      have hcl := (hR.szs i cs hcs).1
      have hval := hvy.cells
      have hbound : i * pl.e + oo + (a.eval y).cells.toList.length ≤ arr.size := by
        rw [← g2, Array.length_toList, hval.1, h1]
        have : (i + 1) * pl.e ≤ pl.cap * pl.e := Nat.mul_le_mul_right _ (by have := hR.len; omega)
        have e1 := hR.e
        rw [Nat.add_mul] at this
        omega
      have h1cell : ∀ u ∈ (a.eval y).cells.toList, u.oneCell' = true := by
        intro u hu
        obtain ⟨j, hj⟩ := List.mem_iff_getElem?.mp hu
        rw [Array.getElem?_toList] at hj
        have hlt : j < (cells (ev e cy)).length := by rw [← hval.1]; exact (Array.getElem?_eq_some_iff.mp hj).1
        have hV := hval.2 j u _ hj (List.getElem?_eq_getElem hlt)
        exact hV.one (List.all_eq_true.mp h4 _ (List.getElem_mem hlt))
      have hst := run_storeCells_cells (P := P) pl.blk (i * pl.e + oo) (a.eval y).cells.toList 0 w (by
          intro j hj
          simp only [World.cell?, g1, Nat.add_zero]
          rw [Array.getElem?_eq_getElem (by omega)]; rfl) (by
          intro j hj
          simp only [World.frozen?, g1]
          exact gf.at_ (by omega)) h1cell
      simp only [Nat.add_zero] at hst
      refine Done.skip (w' := w.setCells pl.blk (i * pl.e + oo) (a.eval y).cells.toList) (m' := m) ?_ ?_
      · obtain ⟨inf, hi1, hi2⟩ := info_of_cSize hsz
        have hne : (a.eval y).cells.size = inf.size := by rw [hval.1, h1, hi2]
        simp [execOp, ho, Instr.storeAt, hpx, Instr.sureAddr, storeVar, sizeOf, typeInfo, hi1, hne]
        rw [hst]; simp
      · refine After.store hr hm hp hrow h3 rfl rfl (by simp) _ (setCells_rest _ _ _ _) (fun k hk => setCells_far _ _ _ w k hk) (setCells_row _ _ w arr g1 hbound) ?_ ?_ ?_ ?_
        · have : (arr.toList.take (i * pl.e + oo) ++ (a.eval y).cells.toList ++ arr.toList.drop (i * pl.e + oo + (a.eval y).cells.toList.length)).toArray.size = arr.size := by
            simp only [List.size_toArray, List.length_append, List.length_take, List.length_drop, Array.length_toList] at hbound ⊢
            omega
          rw [this]; exact gf
        · rw [g2]
          simp only [List.size_toArray, List.length_append, List.length_take, List.length_drop, Array.length_toList] at hbound ⊢
          omega
        · intro j x hj
          by_cases hji : i = j
          · subst hji
            rw [List.getElem?_set_self hi] at hj
            obtain rfl := Option.some.inj hj
            refine ⟨by rw [putCells_len _ _ _ (by omega)]; exact hcl, ?_⟩
            intro q c hq
            rw [putCells_get _ _ _ (by omega)] at hq
            split at hq
            · exact (hR.szs i cs hcs).2 q c hq
            · split at hq
              · exact List.all_eq_true.mp h4 c (List.mem_of_getElem? hq)
              · exact (hR.szs i cs hcs).2 q c hq
          · rw [List.getElem?_set_ne hji] at hj
            exact hR.szs j x hj
        · intro j x q c hj hq
          have hj' : ∃ x0, row.els[j]? = some x0 := by
            have hlt : j < row.els.length := by have := (List.getElem?_eq_some_iff.mp hj).1; simpa using this
            exact ⟨_, List.getElem?_eq_getElem hlt⟩
          obtain ⟨x0, hx0⟩ := hj'
          have hx0l := (hR.szs j x0 hx0).1
          have hql : q < row.sz := by
            have hh := (List.getElem?_eq_some_iff.mp hq).1
            by_cases hji : i = j
            · subst hji
              rw [List.getElem?_set_self hi] at hj
              obtain rfl := Option.some.inj hj
              rw [putCells_len _ _ _ (by omega)] at hh
              omega
            · rw [List.getElem?_set_ne hji] at hj
              rw [(hR.szs j x hj).1] at hh; exact hh
          have hA : (arr.toList.take (i * pl.e + oo) ++ (a.eval y).cells.toList ++ arr.toList.drop (i * pl.e + oo + (a.eval y).cells.toList.length)).toArray[j * row.sz + q]? =
              if j * row.sz + q < i * pl.e + oo then arr[j * row.sz + q]? else if j * row.sz + q < i * pl.e + oo + sz then (a.eval y).cells[j * row.sz + q - (i * pl.e + oo)]? else arr[j * row.sz + q]? := by
            have hyl : (a.eval y).cells.toList.length = sz := by rw [Array.length_toList, hval.1, h1]
            rw [List.getElem?_toArray]
            by_cases k1 : j * row.sz + q < i * pl.e + oo
            · rw [if_pos k1, List.append_assoc, List.getElem?_append_left (by simp; omega), List.getElem?_take, if_pos k1, Array.getElem?_toList]
            · rw [if_neg k1]
              by_cases k2 : j * row.sz + q < i * pl.e + oo + sz
              · rw [if_pos k2, List.append_assoc, List.getElem?_append_right (by simp; omega), List.length_take, Nat.min_eq_left (by have := Array.length_toList (xs := arr); omega), List.getElem?_append_left (by omega), Array.getElem?_toList]
              · rw [if_neg k2, List.getElem?_append_right (by simp; omega), List.getElem?_drop, Array.getElem?_toList]
                simp only [List.length_append, List.length_take, Array.length_toList] at hyl ⊢
                congr 1
                omega
          rw [hA]
          have e1 := hR.e
          by_cases hji : i = j
          · subst hji
            rw [List.getElem?_set_self hi] at hj
            obtain rfl := Option.some.inj hj
            rw [putCells_get _ _ _ (by omega)] at hq
            rw [e1]
            split at hq
            · rename_i k1
              rw [if_pos (by omega)]
              have := g4 i cs q c hcs hq
              rw [e1] at this; exact this
            · rename_i k1
              rw [if_neg (by omega)]
              split at hq
              · rename_i k2
                rw [if_pos (by omega)]
                obtain ⟨u, hu, hV⟩ := cells_told hvy (q - oo) c hq
                refine ⟨u, ?_, hV⟩
                rw [← hu]; congr 1; omega
              · rename_i k2
                rw [if_neg (by omega)]
                have := g4 i cs q c hcs hq
                rw [e1] at this; exact this
          · rw [List.getElem?_set_ne hji] at hj
            have := g4 j x q c hj hq
            rw [e1] at this ⊢
            rcases Nat.lt_or_gt_of_ne hji with hlt | hgt
            · have hm1 : (i + 1) * row.sz ≤ j * row.sz := Nat.mul_le_mul_right _ hlt
              rw [Nat.add_mul] at hm1
              rw [if_neg (by omega), if_neg (by omega)]
              exact this
            · have hm1 : (j + 1) * row.sz ≤ i * row.sz := Nat.mul_le_mul_right _ hgt
              rw [Nat.add_mul] at hm1
              rw [if_pos (by omega)]
              exact this
    · cases h
  · cases h
end
end Go.VI
/- Each operation, on related values: more. No statement of the seat is proved here. -/
namespace Go.VI
open Go Go.RowKit
section
variable {P : Program} {W0 : World} {m m' : PM} {s s' : Mem} {w w' : World} {n : Nat} {a : Act} {e : Env} {o : Oper} {r : AV}
theorem op_nilCheck {x : Operand} {cx : Opd} (ho : o.op = .nilCheck x) (hx : cOpd x = some cx) (hr : Rel P W0 m s w) (he : EnvOK W0 m n a e)
    (h : (∃ q i j, ev e cx = .ptr q i j) ∨ (∃ cs, ev e cx = .ref cs) ∨ (∃ f cs, ev e cx = .fn f cs)) : Done P W0 m s w s (ev e cx) o a := by
  have hv := opd_V he hx
  refine .pure (v := a.eval x) ?_ hr hv
  rcases h with ⟨q, i, j, h⟩ | ⟨cs, h⟩ | ⟨f, cs, h⟩
  · rw [h] at hv; obtain ⟨pl, h1, _⟩ := hv.inv_ptr; simp [execOp, ho, h1]
  · rw [h] at hv; obtain ⟨b, off, h1, _⟩ := hv.inv_ref; simp [execOp, ho, h1]
  · rw [h] at hv; obtain ⟨caps, h1, _⟩ := hv.inv_fn; simp [execOp, ho, h1]
theorem op_fieldAddr {t : TypeId} {x : Operand} {cx : Opd} {k : Nat} {fs : Array Field} {f : Field} {sz : Nat} (ho : o.op = .fieldAddr t x k) (hu : P.underlying t = some (.struct fs)) (hk : fs[k]? = some f)
    (hsz : cSize P f.type = some sz) (h0 : sz ≠ 0) (hx : cOpd x = some cx) (hr : Rel P W0 m s w) (he : EnvOK W0 m n a e)
    (h : (∃ q i j, ev e cx = .ptr q i j ∧ r = .ptr q i (j + f.offset)) ∨ (∃ cs, ev e cx = .ref cs ∧ r = .ref (cs.drop f.offset))) : Done P W0 m s w s r o a := by
  have hv := opd_V he hx
  rcases h with ⟨q, i, j, h, rfl⟩ | ⟨cs, h, rfl⟩
  · rw [h] at hv
    obtain ⟨pl, h1, hm, hp⟩ := hv.inv_ptr
    refine .pure (v := .pointer (some ⟨pl.blk, i * pl.e + (j + f.offset), none⟩)) ?_ hr (.ptr q i (j + f.offset) pl hm hp)
    simp [execOp, ho, Instr.fieldAt, run_underlying hu, hk, h1, Instr.sureAddr, fieldPlace, run_cSize hsz, h0, add_addr, Nat.add_assoc]
  · rw [h] at hv
    obtain ⟨b, off, h1, hb, hc⟩ := hv.inv_ref
    refine .pure (v := .pointer (some ⟨b, off + f.offset, none⟩)) ?_ hr ?_
    · simp [execOp, ho, Instr.fieldAt, run_underlying hu, hk, h1, Instr.sureAddr, fieldPlace, run_cSize hsz, h0, add_addr]
    · refine .ref b (off + f.offset) _ hb ?_ ?_
      · intro i c hi
        rw [List.getElem?_drop] at hi
        obtain ⟨q1, v, q2, q3⟩ := hc _ _ hi
        rw [← Nat.add_assoc] at q2
        exact ⟨q1, by rw [q2]; rfl⟩
      · intro i c v hi hv'
        rw [List.getElem?_drop] at hi
        obtain ⟨q1, v', q2, q3⟩ := hc _ _ hi
        rw [← Nat.add_assoc, hv'] at q2
        obtain rfl := Option.some.inj q2
        exact q3
theorem part_ok {t : TypeId} {agg : Bool} {off sz : Nat} {cs : Array Value} {acs p : List AV} (hag : cAgg P t = some agg) (hsz : cSize P t = some sz) (hV : VL W0 m cs acs) (hc : ∀ (i : Nat) (c : AV), acs[i]? = some c → isCell c = true)
    (hs : slice1 acs off sz = some p) (hp : pickCells agg p = some r) (w : World) : ∃ v, (part t cs off).run P w = .ok v w ∧ V W0 m v r := by
  obtain ⟨h1, h2, h3⟩ := slice1_some hs
  unfold part
  simp only [Sem.run_bind, run_cAgg hag, Result.andThen_ok]
  cases agg with
  | true =>
    simp only [pickCells, if_true] at hp
    obtain rfl := Option.some.inj hp
    refine ⟨.agg (cs.extract off (off + sz)), by simp [run_cSize hsz], ?_⟩
    have hl := hV.1
    refine .agg _ _ (by simp [h2]; omega) ?_ ?_
    · intro i c hi
      rw [h3] at hi
      split at hi
      · exact hc _ _ hi
      · cases hi
    · intro i v c hv hi
      rw [h3] at hi
      split at hi
      · rw [Array.getElem?_extract] at hv
        split at hv
        · exact hV.2 _ _ _ hv hi
        · cases hv
      · cases hi
  | false =>
    simp only [pickCells] at hp
    match p, h2, hp, h3 with
    | [v], h2, hp, h3 =>
      simp at hp
      subst hp
      simp at h2
      subst h2
      have := h3 0
      simp at this
      have hlt : off < cs.size := by have := hV.1; omega
      refine ⟨cs[off], by simp [hlt], hV.2 off _ v (by simp) this.symm⟩
    | [], _, hp, _ => simp at hp
    | _ :: _ :: _, _, hp, _ => simp at hp
theorem op_field {t : TypeId} {x : Operand} {cx : Opd} {k : Nat} {fs : Array Field} {f : Field} {agg : Bool} {sz : Nat} {cs p : List AV} (ho : o.op = .field t x k) (hu : P.underlying t = some (.struct fs)) (hk : fs[k]? = some f)
    (hag : cAgg P f.type = some agg) (hsz : cSize P f.type = some sz) (hx : cOpd x = some cx) (hr : Rel P W0 m s w) (he : EnvOK W0 m n a e)
    (h : ev e cx = .agg cs) (hs : slice1 cs f.offset sz = some p) (hp : pickCells agg p = some r) : Done P W0 m s w s r o a := by
  have hv := opd_V he hx
  rw [h] at hv
  obtain ⟨vs, h1, h2, h3⟩ := hv.inv_agg
  obtain ⟨v, q1, q2⟩ := part_ok hag hsz h2 h3 hs hp w
  refine .pure (v := v) ?_ hr q2
  simp [execOp, ho, Instr.field, run_underlying hu, hk, h1, asAgg, q1]
theorem op_at {t el : TypeId} {x i : Operand} {cx ci : Opd} {sz : Nat} (ho : o.op = .indexAddr t x i) (hu : P.underlying t = some (.slice el)) (hsz : cSize P el = some sz) (hx : cOpd x = some cx) (hi : cOpd i = some ci)
    (hr : Rel P W0 m s w) (he : EnvOK W0 m n a e) (h : stepOp (fun _ _ _ => none) (.at_ sz cx ci) e s = some (r, s')) : s' = s ∧ Done P W0 m s w s r o a := by
  have hv := opd_V he hx
  have hvi := opd_V he hi
  simp only [stepOp] at h
  split at h
  · rename_i k z hz
    rw [hz] at hvi
    have hiv := hvi.inv_int
    simp only [Option.bind_eq_bind] at h
    obtain ⟨j, hj, h⟩ := Option.bind_eq_some_iff.mp h
    have hz0 : 0 ≤ z ∧ z.toNat = j := by
      unfold toNat? at hj
      split at hj
      · exact ⟨by assumption, Option.some.inj hj⟩
      · cases hj
    obtain ⟨hz0, rfl⟩ := hz0
    split at h
    · rename_i xs hxs
      rw [hxs] at hv
      obtain ⟨cs, hcs, h⟩ := Option.bind_eq_some_iff.mp h
      split at h
      · rename_i hl
        obtain ⟨rfl, rfl⟩ := Prod.mk.inj (Option.some.inj h)
        refine ⟨rfl, ?_⟩
        obtain ⟨ad, cap, el', h1, hb', hcap, hel, hc⟩ := hv.inv_sl
        obtain ⟨had, hb⟩ := hb' (by intro h; rw [h] at hcs; simp at hcs)
        generalize hbb : ad.block = b at had hb hc
        generalize hoo : ad.off = off at had hc
        subst had
        have hjlt := (List.getElem?_eq_some_iff.mp hcs).1
        have hee := hel _ _ hcs
        have hzl : z < (xs.length : Int) := by omega
        refine .pure (v := .pointer (some ⟨b, off + z.toNat * sz, none⟩)) ?_ hr ?_
        · simp [execOp, ho, Instr.indexAt, h1, hiv, asIntOf, run_underlying hu, run_cSize hsz, hz0, hzl, add_addr]
        · have hcc : ∀ (q : Nat) (c : AV), cs[q]? = some c → isCell c = true ∧ ∃ v, W0.cell? ⟨b, off + z.toNat * sz + q, none⟩ = some v ∧ V W0 m v c := by
            intro q c hq
            have := hc z.toNat cs q c hcs hq
            rw [← hee, hl, ← Nat.add_assoc] at this
            exact this
          refine .ref b _ cs hb ?_ ?_
          · intro q c hq
            obtain ⟨q1, v, q2, q3⟩ := hcc q c hq
            exact ⟨q1, by rw [q2]; rfl⟩
          · intro q c v hq hv'
            obtain ⟨q1, v', q2, q3⟩ := hcc q c hq
            rw [hv'] at q2
            obtain rfl := Option.some.inj q2
            exact q3
      · cases h
    · rename_i q i0 n0 z0 hq
      rw [hq] at hv
      split at h
      · rename_i hl
        obtain ⟨hl1, hl2'⟩ := hl
        obtain ⟨rfl, rfl⟩ := Prod.mk.inj (Option.some.inj h)
        refine ⟨rfl, ?_⟩
        obtain ⟨off, cp, pl, h1, ⟨hm, hp⟩, hcap, hn, ha, hE⟩ := hv.inv_own
        have hoff := ha (.inl (by omega))
        have hzl : z < (n0 : Int) := by omega
        refine .pure (v := .pointer (some ⟨pl.blk, (i0 + z.toNat) * pl.e + 0, none⟩)) ?_ hr (.ptr q _ 0 pl hm hp)
        simp [execOp, ho, Instr.indexAt, h1, hiv, asIntOf, run_underlying hu, run_cSize hsz, hz0, hzl, add_addr, hoff, hE, hl2', Nat.add_mul]
      · cases h
    · cases h
  · cases h
theorem op_ixA {t el : TypeId} {x i : Operand} {cx ci : Opd} {agg : Bool} {sz len : Nat} (ho : o.op = .index t x i) (hu : P.underlying t = some (.array len el)) (hag : cAgg P el = some agg) (hsz : cSize P el = some sz) (hx : cOpd x = some cx) (hi : cOpd i = some ci)
    (hr : Rel P W0 m s w) (he : EnvOK W0 m n a e) (h : ixV agg sz len (ev e cx) (ev e ci) = some r) : Done P W0 m s w s r o a := by
  have hv := opd_V he hx
  have hvi := opd_V he hi
  unfold ixV at h
  split at h
  case h_2 => cases h
  rename_i cs k z hcs hz
  rw [hz] at hvi
  rw [hcs] at hv
  have hiv := hvi.inv_int
  obtain ⟨vs, h1, h2, h3⟩ := hv.inv_agg
  split at h
  case h_2 => cases h
  rename_i j hj
  have hz0 : 0 ≤ z ∧ z.toNat = j := by
    unfold toNat? at hj
    split at hj
    · exact ⟨by assumption, Option.some.inj hj⟩
    · cases hj
  obtain ⟨hz0, rfl⟩ := hz0
  split at h
  case isFalse => cases h
  rename_i hlt
  obtain ⟨p, hs, hp⟩ := Option.bind_eq_some_iff.mp h
  obtain ⟨v, q1, q2⟩ := part_ok hag hsz h2 h3 hs hp w
  refine .pure (v := v) ?_ hr q2
  have hzl : z < (len : Int) := by omega
  simp [execOp, ho, Instr.index, h1, hiv, asIntOf, run_underlying hu, run_cSize hsz, hz0, hzl, q1]
theorem op_atP {t el : TypeId} {x i : Operand} {cx ci : Opd} {sz len : Nat} (ho : o.op = .indexAddr t x i) (hu : P.underlying t = some (.array len el)) (hsz : cSize P el = some sz) (hx : cOpd x = some cx) (hi : cOpd i = some ci)
    (hr : Rel P W0 m s w) (he : EnvOK W0 m n a e) (h : atV sz len (ev e cx) (ev e ci) = some r) : Done P W0 m s w s r o a := by
  have hv := opd_V he hx
  have hvi := opd_V he hi
  unfold atV at h
  split at h
  case h_2 => cases h
  rename_i xa k z hz
  rw [hz] at hvi
  have hiv := hvi.inv_int
  split at h
  case h_2 => cases h
  rename_i j hj
  have hz0 : 0 ≤ z ∧ z.toNat = j := by
    unfold toNat? at hj
    split at hj
    · exact ⟨by assumption, Option.some.inj hj⟩
    · cases hj
  obtain ⟨hz0, rfl⟩ := hz0
  split at h
  case isFalse => cases h
  rename_i hlt
  have hzl : z < (len : Int) := by omega
  split at h
  · rename_i q i0 o0 hq
    rw [hq] at hv
    obtain rfl := Option.some.inj h
    obtain ⟨pl, h1, hm, hp⟩ := hv.inv_ptr
    refine .pure (v := .pointer (some ⟨pl.blk, i0 * pl.e + (o0 + z.toNat * sz), none⟩)) ?_ hr (.ptr q i0 _ pl hm hp)
    simp [execOp, ho, Instr.indexAt, h1, hiv, asIntOf, run_underlying hu, run_cSize hsz, hz0, hzl, Instr.sureAddr, add_addr, Nat.add_assoc]
  · rename_i cs hq
    rw [hq] at hv
    obtain rfl := Option.some.inj h
    obtain ⟨b, off, h1, hb, hc⟩ := hv.inv_ref
    refine .pure (v := .pointer (some ⟨b, off + z.toNat * sz, none⟩)) ?_ hr ?_
    · simp [execOp, ho, Instr.indexAt, h1, hiv, asIntOf, run_underlying hu, run_cSize hsz, hz0, hzl, Instr.sureAddr, add_addr]
    · refine .ref b (off + z.toNat * sz) _ hb ?_ ?_
      · intro i c hi
        rw [List.getElem?_drop] at hi
        obtain ⟨q1, v, q2, q3⟩ := hc _ _ hi
        rw [← Nat.add_assoc] at q2
        exact ⟨q1, by rw [q2]; rfl⟩
      · intro i c v hi hv'
        rw [List.getElem?_drop] at hi
        obtain ⟨q1, v', q2, q3⟩ := hc _ _ hi
        rw [← Nat.add_assoc, hv'] at q2
        obtain rfl := Option.some.inj q2
        exact q3
  · cases h
theorem op_atT {t : TypeId} {x i : Operand} {cx ci : Opd} (ho : o.op = .index t x i) (hu : P.underlying t = some .string) (hx : cOpd x = some cx) (hi : cOpd i = some ci)
    (hr : Rel P W0 m s w) (he : EnvOK W0 m n a e) (h : stepOp (fun _ _ _ => none) (.atT cx ci) e s = some (r, s')) : s' = s ∧ Done P W0 m s w s r o a := by
  have hv := opd_V he hx
  have hvi := opd_V he hi
  simp only [stepOp] at h
  split at h
  · rename_i b k z hb hz
    rw [hz] at hvi
    rw [hb] at hv
    have hiv := hvi.inv_int
    obtain ⟨bs, h1, h2⟩ := hv.inv_str
    simp only [Option.bind_eq_bind] at h
    obtain ⟨j, hj, h⟩ := Option.bind_eq_some_iff.mp h
    obtain ⟨c, hc, h⟩ := Option.bind_eq_some_iff.mp h
    obtain ⟨rfl, rfl⟩ := Prod.mk.inj (Option.some.inj h)
    have hz0 : 0 ≤ z ∧ z.toNat = j := by
      unfold toNat? at hj
      split at hj
      · exact ⟨by assumption, Option.some.inj hj⟩
      · cases hj
    obtain ⟨hz0, rfl⟩ := hz0
    refine ⟨rfl, .pure (v := .int .u8 c.toNat) ?_ hr (.int _ _)⟩
    have hg : bs[z.toNat]? = some c := by
      rw [← hc, ← h2]
      obtain ⟨arr⟩ := bs
      show (⟨arr⟩ : ByteArray)[z.toNat]? = arr.toList[z.toNat]?
      rw [Array.getElem?_toList]
      by_cases hlt : z.toNat < arr.size
      · rw [getElem?_pos (⟨arr⟩ : ByteArray) z.toNat hlt, getElem?_pos arr z.toNat hlt]; rfl
      · rw [getElem?_neg (⟨arr⟩ : ByteArray) z.toNat hlt, getElem?_neg arr z.toNat hlt]
    simp [execOp, ho, Instr.index, h1, hiv, asIntOf, run_underlying hu, hz0, hg]
  · cases h
theorem op_ext {x : Operand} {cx : Opd} {k : Nat} {vs : List AV} (ho : o.op = .extract x k) (hx : cOpd x = some cx) (hr : Rel P W0 m s w) (he : EnvOK W0 m n a e) (h : ev e cx = .tup vs) (hk : vs[k]? = some r) : Done P W0 m s w s r o a := by
  have hv := opd_V he hx
  rw [h] at hv
  obtain ⟨us, h1, h2⟩ := hv.inv_tup
  have hlt : k < us.size := by have := (List.getElem?_eq_some_iff.mp hk).1; have := h2.1; omega
  refine .pure (v := us[k]) ?_ hr (h2.2 k _ _ (by simp) hk)
  simp [execOp, ho, Instr.extract, h1, hlt]
theorem op_ifc {t : TypeId} {x : Operand} {cx : Opd} {d : TypeDesc} (ho : o.op = .makeInterface t x) (hd : P.underlying t = some d) (hni : ∀ ms, d ≠ .interface ms) (hx : cOpd x = some cx) (hr : Rel P W0 m s w) (he : EnvOK W0 m n a e) :
    Done P W0 m s w s (.ifc t (ev e cx)) o a := by
  refine .pure (v := .iface t (a.eval x)) ?_ hr (.ifc t _ _ (opd_V he hx))
  cases d <;> first | (exfalso; exact hni _ rfl) | simp [execOp, ho, Instr.makeInterface, run_underlying hd]
theorem VL_map {xs : Array Operand} {cxs : List Opd} (h : xs.toList.mapM cOpd = some cxs) (he : EnvOK W0 m n a e) : VL W0 m (xs.map a.eval) (cxs.map (ev e)) := by
  obtain ⟨h1, h2⟩ := mapM_some h
  refine ⟨by simpa using h1, ?_⟩
  intro i v c hv hc
  rw [Array.getElem?_map] at hv
  rw [List.getElem?_map] at hc
  obtain ⟨x, hx, rfl⟩ := Option.map_eq_some_iff.mp hv
  obtain ⟨y, hy, rfl⟩ := Option.map_eq_some_iff.mp hc
  exact opd_V he (h2 i x y (by simpa using hx) hy)
theorem op_fn {f : Nat} {first caps : Array Operand} {cxs : List Opd} (ho : o.op = .makeFunc (.func f) first caps) (h0 : first.size = 0) (hx : caps.toList.mapM cOpd = some cxs) (hr : Rel P W0 m s w) (he : EnvOK W0 m n a e) :
    Done P W0 m s w s (.fn f (cxs.map (ev e))) o a := by
  obtain rfl : first = #[] := Array.eq_empty_of_size_eq_zero h0
  have hV := VL_map hx he
  refine .pure (v := .func (.func f) #[] (caps.map a.eval)) ?_ hr (.fn f _ _ hV.1 hV.2)
  simp [execOp, ho, Instr.makeFunc]
theorem op_lenT {t : TypeId} {x : Operand} {cx : Opd} {k : Nat} (hop : o.op = .call { callee := .builtin .len, args := #[x], argTypes := #[t] }) (hu : P.underlying t = some .string) (hx : cOpd x = some cx)
    (hr : Rel P W0 m s w) (he : EnvOK W0 m n a e) (h : lenA true (ev e cx) = some k) : Done P W0 m s w s (.int .i64 k) o a := by
  have hv := opd_V he hx
  refine .pure (v := .int .i64 k) ?_ hr (.int _ _)
  have key : ∃ bs : ByteArray, a.eval x = .string bs ∧ bs.size = k := by
    cases hc : ev e cx <;> rw [hc] at h hv <;> simp [lenA] at h
    subst h
    obtain ⟨bs, h1, h2⟩ := hv.inv_str
    exact ⟨bs, h1, by rw [← h2, Array.length_toList]; rfl⟩
  obtain ⟨bs, h1, h2⟩ := key
  simp [execOp, hop, resolve, invoke, builtin, Builtin.len_, run_underlying hu, h1, goInt, h2]
theorem op_lenS {t el : TypeId} {x : Operand} {cx : Opd} {k : Nat} (hop : o.op = .call { callee := .builtin .len, args := #[x], argTypes := #[t] }) (hu : P.underlying t = some (.slice el)) (hx : cOpd x = some cx)
    (hr : Rel P W0 m s w) (he : EnvOK W0 m n a e) (h : lenA false (ev e cx) = some k) : Done P W0 m s w s (.int .i64 k) o a := by
  have hv := opd_V he hx
  refine .pure (v := .int .i64 k) ?_ hr (.int _ _)
  have key : ∃ q cp, a.eval x = .slice q k cp := by
    cases hc : ev e cx <;> rw [hc] at h hv <;> simp [lenA] at h
    · subst h; exact ⟨_, _, hv.inv_nilS⟩
    · subst h; obtain ⟨ad, h1⟩ := hv.inv_emp; exact ⟨_, _, h1⟩
    · subst h; obtain ⟨ad, cap, el', h1, _⟩ := hv.inv_sl; exact ⟨_, _, h1⟩
    · subst h; obtain ⟨off, cp, pl, h1, _⟩ := hv.inv_own; exact ⟨_, _, h1⟩
  obtain ⟨q, cp, h1⟩ := key
  simp [execOp, hop, resolve, invoke, builtin, Builtin.len_, run_underlying hu, h1, goInt]
end
end Go.VI
/- Each operation, on related values: numbers, strings, slices. No statement of the seat is proved here. -/
namespace Go.VI
open Go Go.RowKit
section
variable {P : Program} {W0 : World} {m m' : PM} {s s' : Mem} {w w' : World} {n : Nat} {a : Act} {e : Env} {o : Oper} {r : AV}
theorem eqGuard_int (op : BinOp) (t : TypeId) (x y : Operand) (k j : IntKind) (p q : Int) : (eqGuard op t x y (.int k p) (.int j q)).run P w = .ok () w := by
  cases op <;> simp [eqGuard]
theorem eqGuard_str (op : BinOp) (t : TypeId) (x y : Operand) (p q : ByteArray) : (eqGuard op t x y (.string p) (.string q)).run P w = .ok () w := by
  cases op <;> simp [eqGuard]
theorem op_ibin {op : BinOp} {t ty : TypeId} {x y : Operand} {cx cy : Opd} {k j : IntKind} {p q : Int} (ho : o.op = .binOp op t x y ty) (hx : cOpd x = some cx) (hy : cOpd y = some cy) (hr : Rel P W0 m s w) (he : EnvOK W0 m n a e)
    (h1 : ev e cx = .int k p) (h2 : ev e cy = .int j q) (h : intOp op k p j q = some r) : Done P W0 m s w s r o a := by
  have hvx := opd_V he hx
  have hvy := opd_V he hy
  rw [h1] at hvx
  rw [h2] at hvy
  have key : ∃ v, (binOp op t (.int k p) (.int j q)).run P w = .ok v w ∧ V W0 m v r := by
    unfold intOp at h
    cases op <;> simp only at h
    case shl => split at h <;> first | (cases h; done) | (obtain rfl := Option.some.inj h; rename_i h0; exact ⟨_, by simp [binOp, Op.shift, h0], .int _ _⟩)
    case shr => split at h <;> first | (cases h; done) | (obtain rfl := Option.some.inj h; rename_i h0; exact ⟨_, by simp [binOp, Op.shift, h0], .int _ _⟩)
    all_goals (split at h <;> first | (cases h; done) | skip)
    all_goals (rename_i hkj; simp only [ne_eq, Decidable.not_not] at hkj; subst hkj)
    case quo => split at h <;> first | (cases h; done) | (obtain rfl := Option.some.inj h; rename_i h0; exact ⟨_, by simp [binOp, Op.intDiv, h0], .int _ _⟩)
    case rem => split at h <;> first | (cases h; done) | (obtain rfl := Option.some.inj h; rename_i h0; exact ⟨_, by simp [binOp, Op.intDiv, h0], .int _ _⟩)
    all_goals (obtain rfl := Option.some.inj h)
    all_goals first
      | (refine ⟨_, ?_, V.int _ _⟩; simp [binOp, Op.intArith]; done)
      | (refine ⟨_, ?_, V.int _ _⟩; simp only [binOp, ne_eq, not_true_eq_false, if_false]; rfl)
      | (refine ⟨_, ?_, V.bool _⟩; simp [binOp, Op.intCmp]; done)
  obtain ⟨v, hv, hV⟩ := key
  refine .pure (v := v) ?_ hr hV
  simp only [execOp, ho, Sem.run_bind, hvx.inv_int, hvy.inv_int, eqGuard_int, Result.andThen_ok, hv, Sem.run_pure]
theorem str_eq (b c : ByteArray) : b.toList = b.data.toList ∧ c.toList = c.data.toList := ⟨ByteArray.toList_eq b, ByteArray.toList_eq c⟩
theorem op_sbin {op : BinOp} {t ty : TypeId} {x y : Operand} {cx cy : Opd} {p q : List UInt8} (ho : o.op = .binOp op t x y ty) (hx : cOpd x = some cx) (hy : cOpd y = some cy) (hr : Rel P W0 m s w) (he : EnvOK W0 m n a e)
    (h1 : ev e cx = .str p) (h2 : ev e cy = .str q) (h : strOp op p q = some r) : Done P W0 m s w s r o a := by
  have hvx := opd_V he hx
  have hvy := opd_V he hy
  rw [h1] at hvx
  rw [h2] at hvy
  obtain ⟨b, hb, rfl⟩ := hvx.inv_str
  obtain ⟨c, hc, rfl⟩ := hvy.inv_str
  have key : ∃ v, (binOp op t (.string b) (.string c)).run P w = .ok v w ∧ V W0 m v r := by
    unfold strOp at h
    cases op <;> simp only at h <;> first | (cases h; done) | skip
    case add =>
      split at h
      · rename_i hle
        obtain rfl := Option.some.inj h
        have hs : ¬ (9223372036854775807 : Int) < ((b.size + c.size : Nat) : Int) := by
          have e1 : b.size = b.data.toList.length := by rw [Array.length_toList]; rfl
          have e2 : c.size = c.data.toList.length := by rw [Array.length_toList]; rfl
          omega
        refine ⟨.string (b ++ c), ?_, ?_⟩
        · have : (IntKind.i64.max : Int) = 9223372036854775807 := by decide
          simp only [binOp, Op.stringOp, this]
          rw [if_neg (by omega)]
          rfl
        · have := V.str (W0 := W0) (m := m) (b ++ c)
          rwa [ByteArray.data_append, Array.toList_append] at this
      · cases h
    all_goals (obtain rfl := Option.some.inj h; exact ⟨_, by simp [binOp, Op.stringOp, (str_eq b c).1, (str_eq b c).2]; try rfl, .bool _⟩)
  obtain ⟨v, hv, hV⟩ := key
  refine .pure (v := v) ?_ hr hV
  simp only [execOp, ho, Sem.run_bind, hb, hc, eqGuard_str, Result.andThen_ok, hv, Sem.run_pure]
theorem op_un {op : UnOp} {t : TypeId} {x : Operand} {cx : Opd} (ho : o.op = .unOp op t x) (hx : cOpd x = some cx) (hr : Rel P W0 m s w) (he : EnvOK W0 m n a e) (h : stepOp (fun _ _ _ => none) (.un op cx) e s = some (r, s')) :
    s' = s ∧ Done P W0 m s w s r o a := by
  have hv := opd_V he hx
  simp only [stepOp] at h
  split at h
  · rename_i k z hz
    rw [hz] at hv
    obtain ⟨rfl, rfl⟩ := Prod.mk.inj (Option.some.inj h)
    exact ⟨rfl, .pure (v := .int k (k.wrap (0 - z))) (by simp [execOp, ho, hv.inv_int, Op.unary, Op.intArith]) hr (.int _ _)⟩
  · rename_i k z hz
    rw [hz] at hv
    obtain ⟨rfl, rfl⟩ := Prod.mk.inj (Option.some.inj h)
    exact ⟨rfl, .pure (v := .int k _) (by simp [execOp, ho, hv.inv_int, Op.unary]; rfl) hr (.int _ _)⟩
  · rename_i b hb
    rw [hb] at hv
    obtain ⟨rfl, rfl⟩ := Prod.mk.inj (Option.some.inj h)
    exact ⟨rfl, .pure (v := .bool (!b)) (by simp [execOp, ho, hv.inv_bool, Op.unary]) hr (.bool _)⟩
  · cases h
theorem op_conv {t u : TypeId} {x : Operand} {cx : Opd} {k j : IntKind} {z : Int} {d : TypeDesc} (ho : o.op = .convert t u x) (hd : P.underlying t = some d) (hu : P.underlying u = some (.int k)) (hx : cOpd x = some cx) (hr : Rel P W0 m s w) (he : EnvOK W0 m n a e)
    (h : ev e cx = .int j z) : Done P W0 m s w s (.int k (k.wrap z)) o a := by
  have hv := opd_V he hx
  rw [h] at hv
  refine .pure (v := .int k (k.wrap z)) ?_ hr (.int _ _)
  cases d <;> simp [execOp, ho, convert, run_underlying hd, run_underlying hu, hv.inv_int, Conv.intToInt]
theorem op_same {t u : TypeId} {x : Operand} {cx : Opd} {z : List UInt8} (ho : o.op = .convert t u x) (hd : P.underlying t = some .string) (hu : P.underlying u = some .string) (hx : cOpd x = some cx) (hr : Rel P W0 m s w) (he : EnvOK W0 m n a e)
    (h : ev e cx = .str z) : Done P W0 m s w s (.str z) o a := by
  have hv := opd_V he hx
  rw [h] at hv
  obtain ⟨b, hb, rfl⟩ := hv.inv_str
  refine .pure (v := .string b) ?_ hr (.str _)
  simp [execOp, ho, convert, run_underlying hd, run_underlying hu, hb]
theorem read_told {v : Value} {c : AV} {xs : List (List AV)} (hr : Rel P W0 m s w) (hv : V W0 m v c) (h : readAll s c = some xs) :
    (v = .slice none 0 0 ∧ xs = []) ∨ ∃ ad cap e, v = .slice (some ad) xs.length cap ∧ (∀ (i : Nat) (x : List AV), xs[i]? = some x → x.length = e) ∧
      (∀ (i : Nat) (x : List AV) (q : Nat) (c : AV), xs[i]? = some x → x[q]? = some c → isCell c = true ∧ ∃ u, w.cell? (ad.add (i * e + q)) = some u ∧ V W0 m u c) := by
  unfold readAll at h
  split at h
  · obtain rfl := Option.some.inj h
    exact .inl ⟨hv.inv_nilS, rfl⟩
  · obtain rfl := Option.some.inj h
    obtain ⟨ad, h1⟩ := hv.inv_emp
    exact .inr ⟨ad, 0, 0, h1, by simp, by simp⟩
  · obtain rfl := Option.some.inj h
    obtain ⟨ad, cap, el, h1, hb', hcap, hel, hc⟩ := hv.inv_sl
    refine .inr ⟨ad, cap, el, h1, hel, ?_⟩
    intro i x q c hi hq
    obtain ⟨q1, u, q2, q3⟩ := hc i x q c hi hq
    obtain ⟨had, hb⟩ := hb' (by intro h; rw [h] at hi; simp at hi)
    refine ⟨q1, u, ?_, q3⟩
    rw [had, add_addr, W0_cell hr hb]
    exact q2
  · rename_i rr i0 n0 z0
    simp only [Option.bind_eq_bind] at h
    obtain ⟨row, hrow, h⟩ := Option.bind_eq_some_iff.mp h
    split at h
    · rename_i hle
      obtain rfl := Option.some.inj h
      obtain ⟨off, cp, pl, h1, ⟨hm, hp⟩, hcap, hn, ha, _⟩ := hv.inv_own
      have hR := (hr.row rr pl row hm hrow).cs hp
      obtain ⟨arr, fz, g1, g2, g3, g4, gf⟩ := hR.ex
      have hlen : ((row.els.drop i0).take n0).length = n0 := by simp; omega
      refine .inr ⟨⟨pl.blk, off, none⟩, cp, pl.e, by rw [hlen]; exact h1, ?_, ?_⟩
      · intro i x hi
        rw [List.getElem?_take] at hi
        split at hi
        · rw [List.getElem?_drop] at hi
          rw [hR.e]
          exact (hR.szs _ x hi).1
        · cases hi
      · intro i x q c hi hq
        rw [List.getElem?_take] at hi
        split at hi
        · rename_i hin
          rw [List.getElem?_drop] at hi
          refine ⟨(hR.szs _ x hi).2 q c hq, ?_⟩
          obtain ⟨u, hu, hV⟩ := g4 _ x q c hi hq
          refine ⟨u, ?_, hV⟩
          have hl := hR.len
          have hoff := ha (.inl (by omega))
          rw [add_addr]
          simp only [World.cell?, g1]
          rw [hoff]
          have : i0 * pl.e + (i * pl.e + q) = (i0 + i) * pl.e + q := by rw [Nat.add_mul]; omega
          simpa [this] using hu
        · cases hi
    · cases h
  · cases h
theorem boundA_ok {lo : Option Operand} {clo : Option Opd} {l : Option Nat} (hl : cOpt lo = some clo) (he : EnvOK W0 m n a e) (h : boundA e clo = some l) :
    (lo = none ∧ l = none) ∨ ∃ x k z, lo = some x ∧ a.eval x = .int k z ∧ 0 ≤ z ∧ l = some z.toNat := by
  unfold cOpt at hl
  split at hl
  · obtain rfl := Option.some.inj hl
    simp only [boundA] at h
    exact .inl ⟨rfl, (Option.some.inj h).symm⟩
  · rename_i x
    obtain ⟨cx, hcx, rfl⟩ := Option.map_eq_some_iff.mp hl
    simp only [boundA] at h
    split at h
    · rename_i k z hz
      have hv := opd_V he hcx
      rw [hz] at hv
      obtain ⟨j, hj, rfl⟩ := Option.map_eq_some_iff.mp h
      unfold toNat? at hj
      split at hj
      · rename_i h0
        obtain rfl := Option.some.inj hj
        exact .inr ⟨x, k, z, rfl, hv.inv_int, h0, rfl⟩
      · cases hj
    · cases h
theorem run_bounds {lo hi : Option Operand} {clo chi : Option Opd} {l h : Option Nat} (isS : Bool) (len cap : Nat) (hl : cOpt lo = some clo) (hh : cOpt hi = some chi) (he : EnvOK W0 m n a e) (el : boundA e clo = some l) (eh : boundA e chi = some h)
    (h1 : l.getD 0 ≤ h.getD len) (h2 : h.getD len ≤ cap) : (Instr.sliceBounds isS len cap (lo.map a.eval) (hi.map a.eval) none).run P w = .ok (l.getD 0, h.getD len, cap) w := by
  rcases boundA_ok hl he el with ⟨rfl, rfl⟩ | ⟨x, k, z, rfl, hx, hz, rfl⟩ <;> rcases boundA_ok hh he eh with ⟨rfl, rfl⟩ | ⟨y, j, u, rfl, hy, hu, rfl⟩
  · simp [Instr.sliceBounds]
  · have hb : u ≤ (cap : Int) := by simp at h2; omega
    simp [Instr.sliceBounds, Instr.sliceBound, hy, asIntOf, hu, hb]
  · have hb : z ≤ (len : Int) := by simp at h1; omega
    simp [Instr.sliceBounds, Instr.sliceBound, hx, asIntOf, hz, hb]
  · have hb : u ≤ (cap : Int) := by simp at h2; omega
    have hb2 : z ≤ (u.toNat : Int) := by simp at h1; omega
    simp [Instr.sliceBounds, Instr.sliceBound, hx, hy, asIntOf, hz, hu, hb]
    intro hx; omega
theorem op_cutT {t : TypeId} {x : Operand} {cx : Opd} {lo hi : Option Operand} {clo chi : Option Opd} (ho : o.op = .slice t x lo hi none) (hu : P.underlying t = some .string) (hx : cOpd x = some cx) (hlo : cOpt lo = some clo) (hhi : cOpt hi = some chi)
    (hr : Rel P W0 m s w) (he : EnvOK W0 m n a e) (h : stepOp (fun _ _ _ => none) (.cutT cx clo chi) e s = some (r, s')) : s' = s ∧ Done P W0 m s w s r o a := by
  have hv := opd_V he hx
  simp only [stepOp, Option.bind_eq_bind] at h
  obtain ⟨l, hl, h⟩ := Option.bind_eq_some_iff.mp h
  obtain ⟨hh, hhh, h⟩ := Option.bind_eq_some_iff.mp h
  split at h
  · rename_i b hb
    rw [hb] at hv
    obtain ⟨bs, h1, rfl⟩ := hv.inv_str
    split at h
    · rename_i hc
      obtain ⟨rfl, rfl⟩ := Prod.mk.inj (Option.some.inj h)
      have hsz : bs.data.toList.length = bs.size := by rw [Array.length_toList]; rfl
      rw [hsz] at hc ⊢
      have hrun := run_bounds (P := P) (w := w) false bs.size bs.size hlo hhi he hl hhh hc.1 hc.2
      refine ⟨rfl, .pure (v := .string (bs.extract (l.getD 0) (hh.getD bs.size))) ?_ hr ?_⟩
      · simp [execOp, ho, Instr.sliceAt, Instr.slice, run_underlying hu, h1, hrun]
      · have := V.str (W0 := W0) (m := m) (bs.extract (l.getD 0) (hh.getD bs.size))
        rw [Lib.extract_data] at this
        rw [List.drop_take]
        exact this
    · cases h
  · cases h
theorem op_cutS {t el : TypeId} {x : Operand} {cx : Opd} {lo hi : Option Operand} {clo chi : Option Opd} {sz : Nat} (ho : o.op = .slice t x lo hi none) (hu : P.underlying t = some (.slice el)) (hsz : cSize P el = some sz) (hx : cOpd x = some cx) (hlo : cOpt lo = some clo) (hhi : cOpt hi = some chi)
    (hr : Rel P W0 m s w) (he : EnvOK W0 m n a e) (h : stepOp (fun _ _ _ => none) (.cutS sz cx clo chi) e s = some (r, s')) : s' = s ∧ Done P W0 m s w s r o a := by
  have hv := opd_V he hx
  simp only [stepOp, Option.bind_eq_bind] at h
  obtain ⟨l, hl, h⟩ := Option.bind_eq_some_iff.mp h
  obtain ⟨hh, hhh, h⟩ := Option.bind_eq_some_iff.mp h
  split at h
  · rename_i hb
    rw [hb] at hv
    split at h
    · rename_i hc
      obtain ⟨rfl, rfl⟩ := Prod.mk.inj (Option.some.inj h)
      have hrun := run_bounds (P := P) (w := w) true 0 0 hlo hhi he hl hhh (by omega) (by omega)
      refine ⟨rfl, .pure (v := .slice none 0 0) ?_ hr .nilS⟩
      simp [execOp, ho, Instr.sliceAt, Instr.slice, run_underlying hu, hv.inv_nilS, hrun, run_cSize hsz, hc.1, hc.2]
    · cases h
  · rename_i hb
    rw [hb] at hv
    split at h
    · rename_i hc
      obtain ⟨rfl, rfl⟩ := Prod.mk.inj (Option.some.inj h)
      have hrun := run_bounds (P := P) (w := w) true 0 0 hlo hhi he hl hhh (by omega) (by omega)
      obtain ⟨ad, h1⟩ := hv.inv_emp
      refine ⟨rfl, .pure (v := .slice (some ad) 0 0) ?_ hr (.emp ad)⟩
      simp [execOp, ho, Instr.sliceAt, Instr.slice, run_underlying hu, h1, hrun, run_cSize hsz, hc.1, hc.2]
    · cases h
  · rename_i xs hb
    rw [hb] at hv
    split at h
    · rename_i hc
      obtain ⟨hc1, hc2, hc3⟩ := hc
      obtain ⟨rfl, rfl⟩ := Prod.mk.inj (Option.some.inj h)
      obtain ⟨ad, cap, el', h1, hbl, hcap, hel, hcell⟩ := hv.inv_sl
      have hrun := run_bounds (P := P) (w := w) true xs.length cap hlo hhi he hl hhh hc1 (by omega)
      let L := l.getD 0
      let H := hh.getD xs.length
      have eL : l.getD 0 = L := rfl
      have eH : hh.getD xs.length = H := rfl
      rw [eL, eH] at hrun ⊢
      rw [eL, eH] at hc1
      rw [eH] at hc2
      refine ⟨rfl, .pure (v := .slice (some (if cap = L then ad else ad.add (L * sz))) (H - L) (cap - L)) ?_ hr ?_⟩
      · simp [execOp, ho, Instr.sliceAt, Instr.slice, run_underlying hu, h1, hrun, run_cSize hsz]
        split <;> rfl
      · have hlen : ((xs.take H).drop L).length = H - L := by simp; omega
        have hget : ∀ (i : Nat) (x : List AV), ((xs.take H).drop L)[i]? = some x → xs[L + i]? = some x ∧ L + i < H := by
          intro i x hi
          rw [List.getElem?_drop, List.getElem?_take] at hi
          split at hi
          · exact ⟨hi, by assumption⟩
          · cases hi
        by_cases hcl : cap = L
        · rw [if_pos hcl]
          refine .sl ad _ _ 0 _ ?_ hlen (by omega) ?_ ?_ ?_
          · intro hne
            exfalso
            apply hne
            apply List.eq_nil_of_length_eq_zero
            rw [hlen]; omega
          · intro i x hi; have := hget i x hi; omega
          · intro i x _ _ hi; have := hget i x hi; omega
          · intro i x _ _ _ hi; have := hget i x hi; omega
        · rw [if_neg hcl]
          have hee : ∀ (i : Nat) (x : List AV), xs[i]? = some x → x.length = sz := by
            intro i x hi
            have := List.all_eq_true.mp hc3 x (List.mem_of_getElem? hi)
            simpa using this
          by_cases hxe : xs = []
          · subst hxe
            refine .sl _ _ _ 0 _ (by simp) hlen (by omega) (by simp) (by simp) (by simp)
          obtain ⟨had, hbk⟩ := hbl hxe
          generalize hbb : ad.block = b at had hbk hcell
          generalize hoo : ad.off = off at had hcell
          subst had
          rw [add_addr]
          have hcc : ∀ (i : Nat) (x : List AV) (q : Nat) (c : AV), ((xs.take H).drop L)[i]? = some x → x[q]? = some c → isCell c = true ∧ ∃ v, W0.cell? ⟨b, off + L * sz + (i * sz + q), none⟩ = some v ∧ V W0 m v c := by
            intro i x q c hi hq
            obtain ⟨g1, _⟩ := hget i x hi
            have := hcell _ x q c g1 hq
            rw [← hel _ x g1, hee _ x g1] at this
            have e3 : off + ((L + i) * sz + q) = off + L * sz + (i * sz + q) := by rw [Nat.add_mul]; omega
            rw [e3] at this
            exact this
          refine .sl ⟨b, off + L * sz, none⟩ _ _ sz _ (fun _ => ⟨rfl, hbk⟩) hlen (by omega) ?_ ?_ ?_
          · intro i x hi; exact hee _ x (hget i x hi).1
          · intro i x q c hi hq
            obtain ⟨q1, v, q2, q3⟩ := hcc i x q c hi hq
            exact ⟨q1, by rw [q2]; rfl⟩
          · intro i x q c v hi hq hv'
            obtain ⟨q1, v', q2, q3⟩ := hcc i x q c hi hq
            rw [hv'] at q2
            obtain rfl := Option.some.inj q2
            exact q3
    · cases h
  · rename_i rr i0 n0 z0 hb
    rw [hb] at hv
    split at h
    · rename_i hc
      obtain ⟨hc1, hc2, hc3⟩ := hc
      obtain ⟨rfl, rfl⟩ := Prod.mk.inj (Option.some.inj h)
      obtain ⟨off, cp, pl, h1, ⟨hm, hp⟩, hcap, hn, ha, hE⟩ := hv.inv_own
      have hrun := run_bounds (P := P) (w := w) true n0 cp hlo hhi he hl hhh hc1 (by omega)
      let L := l.getD 0
      let H := hh.getD n0
      have eL : l.getD 0 = L := rfl
      have eH : hh.getD n0 = H := rfl
      rw [eL, eH] at hrun ⊢
      rw [eL, eH] at hc1
      rw [eH] at hc2
      refine ⟨rfl, .pure (v := .slice (some ⟨pl.blk, if cp = L then off else off + L * sz, none⟩) (H - L) (cp - L)) ?_ hr ?_⟩
      · simp [execOp, ho, Instr.sliceAt, Instr.slice, run_underlying hu, h1, hrun, run_cSize hsz, add_addr]
        split <;> rfl
      · rw [← hE]
        refine .own _ _ _ rr _ pl hm hp (by omega) (by omega) ?_
        intro hi
        by_cases hcl : cp = L
        · rw [if_pos hcl]
          rcases hi with hi | hi
          · omega
          · have : i0 = 0 := by omega
            subst this
            have hz := ha (.inr rfl)
            have : L = 0 := by omega
            rw [this, hz]
        · rw [if_neg hcl]
          have hz := ha (.inl (by omega))
          rw [hz, hE, hc3, Nat.add_mul]
    · cases h
  · cases h
theorem op_cut3 {t el : TypeId} {x y z : Operand} {cx cy cz : Opd} {sz : Nat} (ho : o.op = .slice t x none (some y) (some z)) (hu : P.underlying t = some (.slice el)) (hsz : cSize P el = some sz) (hx : cOpd x = some cx) (hy : cOpd y = some cy) (hz : cOpd z = some cz)
    (hr : Rel P W0 m s w) (he : EnvOK W0 m n a e) (h : cut3A (ev e cx) (ev e cy) (ev e cz) = some r) : Done P W0 m s w s r o a := by
  have hv := opd_V he hx
  have hvy := opd_V he hy
  have hvz := opd_V he hz
  unfold cut3A at h
  split at h
  case h_2 => cases h
  rename_i ka za kb zb hay hbz
  rw [hay] at hvy
  rw [hbz] at hvz
  have hyv := hvy.inv_int
  have hzv := hvz.inv_int
  simp only [Option.bind_eq_bind] at h
  obtain ⟨H, hH, hh⟩ := Option.bind_eq_some_iff.mp h
  clear h
  obtain ⟨M, hM, h⟩ := Option.bind_eq_some_iff.mp hh
  clear hh
  have nat : ∀ {i : Int} {j : Nat}, toNat? i = some j → i = (j : Int) := by
    intro i j hj
    unfold toNat? at hj
    split at hj
    · have := Option.some.inj hj; omega
    · cases hj
  have eH := nat hH
  have eM := nat hM
  subst eH eM
  have bounds : ∀ (len cap : Nat), H ≤ M → M ≤ cap → (Instr.sliceBounds true len cap none (some (.int ka (H : Int))) (some (.int kb (M : Int)))).run P w = .ok (0, H, M) w := by
    intro len cap h1 h2
    have h3 : (H : Int) ≤ (M : Int) := by omega
    have h4 : (M : Int) ≤ (cap : Int) := by omega
    have h5 : (0 : Int) ≤ (H : Int) := by omega
    have h6 : (0 : Int) ≤ (M : Int) := by omega
    simp [Instr.sliceBounds, Instr.sliceBound, asIntOf, h4]
    intro h7; omega
  split at h
  · rename_i hb
    rw [hb] at hv
    split at h
    · rename_i hc
      obtain rfl := Option.some.inj h
      obtain ⟨rfl, rfl⟩ := hc
      have hrun : (Instr.sliceBounds true 0 0 none (some (.int ka 0)) (some (.int kb 0))).run P w = .ok (0, 0, 0) w := bounds 0 0 (Nat.le_refl _) (Nat.le_refl _)
      refine .pure (v := .slice none 0 0) ?_ hr .nilS
      simp only [execOp, ho, Instr.sliceAt, Instr.slice, Option.map_some, Option.map_none, hyv, hzv]
      simp [run_underlying hu, hv.inv_nilS, hrun, run_cSize hsz]
    · cases h
  · rename_i hb
    rw [hb] at hv
    split at h
    · rename_i hc
      obtain rfl := Option.some.inj h
      obtain ⟨rfl, rfl⟩ := hc
      obtain ⟨ad, h1⟩ := hv.inv_emp
      have hrun : (Instr.sliceBounds true 0 0 none (some (.int ka 0)) (some (.int kb 0))).run P w = .ok (0, 0, 0) w := bounds 0 0 (Nat.le_refl _) (Nat.le_refl _)
      refine .pure (v := .slice (some ad) 0 0) ?_ hr (.emp ad)
      simp only [execOp, ho, Instr.sliceAt, Instr.slice, Option.map_some, Option.map_none, hyv, hzv]
      simp [run_underlying hu, h1, hrun, run_cSize hsz]
    · cases h
  · rename_i xs hb
    rw [hb] at hv
    split at h
    · rename_i hc
      obtain rfl := Option.some.inj h
      obtain ⟨rfl, rfl⟩ := hc
      obtain ⟨ad, cap, el', h1, hbl, hcap, hel, hcell⟩ := hv.inv_sl
      have hrun : (Instr.sliceBounds true xs.length cap none (some (.int ka 0)) (some (.int kb 0))).run P w = .ok (0, 0, 0) w := bounds xs.length cap (Nat.le_refl _) (Nat.zero_le _)
      refine .pure (v := .slice (some ad) 0 0) ?_ hr (.emp ad)
      simp only [execOp, ho, Instr.sliceAt, Instr.slice, Option.map_some, Option.map_none, hyv, hzv]
      simp [run_underlying hu, h1, hrun, run_cSize hsz]
    split at h
    · rename_i hc
      obtain rfl := Option.some.inj h
      have hv0 := hv
      obtain ⟨ad, cap, el', h1, hbl, hcap, hel, hcell⟩ := hv.inv_sl
      have hrun := bounds xs.length cap hc.1 (by omega)
      have hl : (xs.take H).length = H := by simp; omega
      refine .pure (v := .slice (some ad) H M) ?_ hr ?_
      · simp only [execOp, ho, Instr.sliceAt, Instr.slice, Option.map_some, Option.map_none, hyv, hzv, h1]
        simp [run_underlying hu, hrun, run_cSize hsz, Addr.add]
      · have hg : ∀ (i : Nat) (y : List AV), (xs.take H)[i]? = some y → xs[i]? = some y := by
          intro i y hi
          rw [List.getElem?_take] at hi
          split at hi
          · exact hi
          · cases hi
        refine .sl ad H M el' _ ?_ hl hc.1 (fun i y hi => hel i y (hg i y hi)) ?_ ?_
        · intro hne
          refine hbl ?_
          rintro rfl
          simp at hne
        · intro i y q c hi hq
          obtain ⟨q1, v, q2, _⟩ := hcell i y q c (hg i y hi) hq
          exact ⟨q1, by rw [q2]; rfl⟩
        · intro i y q c v hi hq hv'
          obtain ⟨_, v', q2, q3⟩ := hcell i y q c (hg i y hi) hq
          rw [hv'] at q2
          obtain rfl := Option.some.inj q2
          exact q3
    · cases h
  · rename_i rr i0 n0 z0 hb
    rw [hb] at hv
    split at h
    · rename_i hc
      obtain rfl := Option.some.inj h
      obtain ⟨rfl, rfl⟩ := hc
      obtain ⟨off, cp, pl, h1, ⟨hm, hp⟩, hcap, hn, ha, hE⟩ := hv.inv_own
      have hrun : (Instr.sliceBounds true n0 cp none (some (.int ka 0)) (some (.int kb 0))).run P w = .ok (0, 0, 0) w := bounds n0 cp (Nat.le_refl _) (Nat.zero_le _)
      refine .pure (v := .slice (some ⟨pl.blk, off, none⟩) 0 0) ?_ hr (.emp _)
      simp only [execOp, ho, Instr.sliceAt, Instr.slice, Option.map_some, Option.map_none, hyv, hzv, h1]
      simp [run_underlying hu, hrun, run_cSize hsz]
    split at h
    · rename_i hc
      obtain rfl := Option.some.inj h
      obtain ⟨off, cp, pl, h1, ⟨hm, hp⟩, hcap, hn, ha, hE⟩ := hv.inv_own
      have hrun := bounds n0 cp hc.1 (by omega)
      refine .pure (v := .slice (some ⟨pl.blk, off, none⟩) H M) ?_ hr ?_
      · simp only [execOp, ho, Instr.sliceAt, Instr.slice, Option.map_some, Option.map_none, hyv, hzv, h1]
        simp [run_underlying hu, hrun, run_cSize hsz, Addr.add]
      · exact V.own' hm hp (by omega) hc.1 (fun h => ha (by omega)) hE
    · cases h
  · cases h
end
end Go.VI
/- Each operation, on related values: what makes memory. No statement of the seat is proved here. -/
namespace Go.VI
open Go Go.RowKit
section
variable {P : Program} {W0 : World} {m m' : PM} {s s' : Mem} {w w' : World} {n : Nat} {a : Act} {e : Env} {o : Oper} {r : AV}
theorem fill1 (off : Nat) : ∀ (v : List Value) (i : Nat) (cs : Array Value),
    ((v.zipIdx i).foldl (fun (cs : Array Value) (p : Value × Nat) => cs.setIfInBounds (off + p.2) p.1) cs).size = cs.size ∧
    ∀ k, ((v.zipIdx i).foldl (fun (cs : Array Value) (p : Value × Nat) => cs.setIfInBounds (off + p.2) p.1) cs)[k]? = if off + i ≤ k ∧ k < off + i + v.length ∧ k < cs.size then v[k - (off + i)]? else cs[k]? := by
  intro v
  induction v with
  | nil => intro i cs; refine ⟨rfl, ?_⟩; intro k; rw [if_neg (by simp; omega)]; rfl
  | cons x v ih =>
    intro i cs
    simp only [List.zipIdx_cons, List.foldl_cons]
    obtain ⟨h1, h2⟩ := ih (i + 1) (cs.setIfInBounds (off + i) x)
    refine ⟨by rw [h1]; simp, ?_⟩
    intro k
    rw [h2 k]
    simp only [Array.size_setIfInBounds, List.length_cons]
    by_cases c1 : off + (i + 1) ≤ k ∧ k < off + (i + 1) + v.length ∧ k < cs.size
    · rw [if_pos c1, if_pos (by omega)]
      have : k - (off + i) = (k - (off + (i + 1))) + 1 := by omega
      rw [this, List.getElem?_cons_succ]
    · rw [if_neg c1]
      by_cases c2 : k = off + i
      · subst c2
        by_cases c3 : off + i < cs.size
        · rw [if_pos (by omega)]
          simp [c3]
        · rw [if_neg (by omega)]
          rw [Array.getElem?_eq_none (by simp; omega), Array.getElem?_eq_none (by omega)]
      · have c2' : ¬ off + i = k := fun h => c2 h.symm
        rw [if_neg (by omega), Array.getElem?_setIfInBounds, if_neg c2']
theorem fillA (off : Nat) (v cs : Array Value) : (v.zipIdx.foldl (fun (cs : Array Value) (p : Value × Nat) => cs.setIfInBounds (off + p.2) p.1) cs).size = cs.size ∧
    ∀ k, (v.zipIdx.foldl (fun (cs : Array Value) (p : Value × Nat) => cs.setIfInBounds (off + p.2) p.1) cs)[k]? = if off ≤ k ∧ k < off + v.size ∧ k < cs.size then v[k - off]? else cs[k]? := by
  have h := fill1 off v.toList 0 cs
  rw [← Array.foldl_toList, Array.toList_zipIdx]
  simpa using h
theorem VL_put {cs v : Array Value} {acs av : List AV} {off : Nat} (h : VL W0 m cs acs) (hv : VL W0 m v av) (hle : off + av.length ≤ acs.length) :
    VL W0 m (v.zipIdx.foldl (fun (cs : Array Value) (p : Value × Nat) => cs.setIfInBounds (off + p.2) p.1) cs) (putCells acs off av) := by
  obtain ⟨h1, h2⟩ := fillA off v cs
  refine ⟨by rw [h1, putCells_len _ _ _ hle]; exact h.1, ?_⟩
  intro i x c hx hc
  rw [h2] at hx
  rw [putCells_get _ _ _ hle] at hc
  have e1 := h.1
  have e2 := hv.1
  by_cases c1 : i < off
  · rw [if_neg (by omega)] at hx
    rw [if_pos c1] at hc
    exact h.2 i x c hx hc
  · rw [if_neg c1] at hc
    by_cases c2 : i < off + av.length
    · rw [if_pos c2] at hc
      rw [if_pos (by omega)] at hx
      exact hv.2 _ x c hx hc
    · rw [if_neg c2] at hc
      rw [if_neg (by omega)] at hx
      exact h.2 i x c hx hc
theorem build_ok (he : EnvOK W0 m n a e) (fs : Array Field) (places : Array (Nat × Nat)) (hp : ∀ (i : Nat) (f : Field), fs[i]? = some f → ∀ sz, cSize P f.type = some sz → places[i]? = some (f.offset, sz)) :
    ∀ (ps : List (Nat × Operand)) (cps : List (Nat × Nat × Opd)) (cells : Array Value) (acs racs : List AV), cParts P fs ps = some cps → VL W0 m cells acs → (∀ (i : Nat) (c : AV), acs[i]? = some c → isCell c = true) → fillParts e cps acs = some racs →
      ∃ rc, Instr.fill (places[·]?) cells (ps.map fun p => (p.1, a.eval p.2)) = some rc ∧ VL W0 m rc racs ∧ (∀ (i : Nat) (c : AV), racs[i]? = some c → isCell c = true) := by
  intro ps
  induction ps with
  | nil =>
    intro cps cells acs racs hc hV hcl h
    simp [cParts] at hc
    subst hc
    simp only [fillParts] at h
    obtain rfl := Option.some.inj h
    exact ⟨cells, rfl, hV, hcl⟩
  | cons p ps ih =>
    intro cps cells acs racs hc hV hcl h
    simp only [cParts, List.mapM_cons, Option.pure_def, Option.bind_eq_bind] at hc
    obtain ⟨q, hq, hc⟩ := Option.bind_eq_some_iff.mp hc
    obtain ⟨qs, hqs, hc⟩ := Option.bind_eq_some_iff.mp hc
    obtain rfl := Option.some.inj hc
    obtain ⟨f, hf, hq⟩ := Option.bind_eq_some_iff.mp hq
    obtain ⟨sz, hsz, hq⟩ := Option.bind_eq_some_iff.mp hq
    obtain ⟨x, hx, hq⟩ := Option.bind_eq_some_iff.mp hq
    obtain rfl := Option.some.inj hq
    simp only [fillParts] at h
    split at h
    · rename_i hh
      obtain ⟨h1, h2, h3⟩ := hh
      have hvx := opd_V he hx
      have hvc := hvx.cells
      have hpl := hp _ _ hf _ hsz
      have hput := VL_put (off := f.offset) hV ⟨hvc.1, hvc.2⟩ (by omega)
      obtain ⟨rc, g1, g2, g3⟩ := ih qs _ _ racs (by simpa [cParts] using hqs) hput (by
        intro i c hi
        rw [putCells_get _ _ _ (by omega)] at hi
        split at hi
        · exact hcl _ _ hi
        · split at hi
          · exact List.all_eq_true.mp h3 c (List.mem_of_getElem? hi)
          · exact hcl _ _ hi) h
      refine ⟨rc, ?_, g2, g3⟩
      simp only [List.map_cons, Instr.fill, hpl]
      have e1 := hV.1
      have e2 := hvc.1
      rw [if_neg (by simp only [ne_eq, Bool.or_eq_true, decide_eq_true_eq, not_or, Decidable.not_not]; omega)]
      exact g1
    · cases h
theorem op_build {t : TypeId} {ps : Array (Nat × Operand)} {fs : Array Field} {z : List AV} {cps : List (Nat × Nat × Opd)} {racs : List AV} (ho : o.op = .build t ps) (hu : P.underlying t = some (.struct fs)) (hz : cZero P t = some z) (hps : cParts P fs ps.toList = some cps)
    (hall : ∀ (i : Nat) (f : Field), fs[i]? = some f → ∃ sz, cSize P f.type = some sz)
    (hr : Rel P W0 m s w) (he : EnvOK W0 m n a e) (h : fillParts e cps z = some racs) : Done P W0 m s w s (.agg racs) o a := by
  obtain ⟨inf, zv, c, h1, h2, h3, h4, h5, h6, h7⟩ := cZero_ok hz
  subst h4
  have hzV := (constAV_V (W0 := W0) (m := m) h3).cells
  have hmap : ∃ places : Array (Nat × Nat), (fs.mapM (fun f => do pure (f.offset, ← sizeOf f.type) : Field → Sem (Nat × Nat))).run P w = .ok places w ∧ ∀ (i : Nat) (f : Field), fs[i]? = some f → ∀ sz, cSize P f.type = some sz → places[i]? = some (f.offset, sz) := by
    have key : ∀ (l : List Field), (∀ (i : Nat) (f : Field), l[i]? = some f → ∃ sz, cSize P f.type = some sz) → ∃ ps : List (Nat × Nat), (l.mapM (fun f => do pure (f.offset, ← sizeOf f.type) : Field → Sem (Nat × Nat))).run P w = .ok ps w ∧ ∀ (i : Nat) (f : Field), l[i]? = some f → ∀ sz, cSize P f.type = some sz → ps[i]? = some (f.offset, sz) := by
      intro l
      induction l with
      | nil => intro _; exact ⟨[], by simp, by simp⟩
      | cons f l ih =>
        intro hl
        obtain ⟨sz, hsz⟩ := hl 0 f rfl
        obtain ⟨ps, g1, g2⟩ := ih (fun i f h => hl (i + 1) f (by simpa using h))
        refine ⟨(f.offset, sz) :: ps, by simp only [List.mapM_cons, Sem.run_bind, run_cSize hsz, Result.andThen_ok, Sem.run_pure, g1], ?_⟩
        intro i g hg sz' hsz'
        match i with
        | 0 =>
          simp at hg
          subst hg
          rw [hsz] at hsz'
          obtain rfl := Option.some.inj hsz'
          rfl
        | i + 1 => simp at hg; simpa using g2 i g hg sz' hsz'
    obtain ⟨ps, g1, g2⟩ := key fs.toList (fun i f h => hall i f (by simpa using h))
    refine ⟨ps.toArray, ?_, fun i f h sz hs => by simpa using g2 i f (by simpa using h) sz hs⟩
    rw [Array.mapM_eq_mapM_toList]
    simp only [Sem.run_map, g1, Result.andThen_ok]
  obtain ⟨places, g1, g2⟩ := hmap
  obtain ⟨rc, q1, q2, q3⟩ := build_ok he fs places g2 ps.toList cps zv.cells _ racs hps ⟨hzV.1, hzV.2⟩ (fun i c hi => List.all_eq_true.mp h6 c (List.mem_of_getElem? hi)) h
  refine .pure (v := .agg rc) ?_ hr (.agg rc racs q2.1 q3 q2.2)
  have q1' : Instr.fill (places[·]?) zv.cells (ps.map fun p => (p.1, a.eval p.2)).toList = some rc := by rw [Array.toList_map]; exact q1
  simp only [execOp, ho, Instr.build, zeroValue, typeInfo, Sem.run_bind, run_program, Result.andThen_ok, h1, h2, Sem.run_pure, run_underlying hu, g1]
  rw [q1']
  rfl
def Flat (W0 : World) (m : PM) (sz : Nat) (c : Array Value) (els : List (List AV)) : Prop :=
  c.size = els.length * sz ∧ (∀ (i : Nat) (x : List AV), els[i]? = some x → x.length = sz ∧ ∀ (q : Nat) (y : AV), x[q]? = some y → isCell y = true) ∧
  ∀ (i : Nat) (x : List AV) (q : Nat) (y : AV), els[i]? = some x → x[q]? = some y → ∃ v, c[i * sz + q]? = some v ∧ V W0 m v y
theorem flat_zero {z : Array Value} {az : List AV} {sz : Nat} (k : Nat) (hz : VL W0 m z az) (hl : az.length = sz) (hc : az.all isCell = true) (_hs : 0 < sz) :
    Flat W0 m sz ((Array.range (k * sz)).map (z[· % z.size]!)) (List.replicate k az) := by
  refine ⟨by simp, ?_, ?_⟩
  · intro i x hi
    rw [List.getElem?_replicate] at hi
    split at hi
    · obtain rfl := Option.some.inj hi
      exact ⟨hl, fun q y hq => List.all_eq_true.mp hc y (List.mem_of_getElem? hq)⟩
    · cases hi
  · intro i x q y hi hq
    rw [List.getElem?_replicate] at hi
    split at hi
    · rename_i hik
      obtain rfl := Option.some.inj hi
      have hq' := (List.getElem?_eq_some_iff.mp hq).1
      have hzs := hz.1
      have hlt : i * sz + q < k * sz := by
        have : (i + 1) * sz ≤ k * sz := Nat.mul_le_mul_right _ hik
        rw [Nat.add_mul] at this
        omega
      have hmod : (i * sz + q) % z.size = q := by
        rw [hzs, hl, Nat.mul_comm, Nat.mul_add_mod, Nat.mod_eq_of_lt (by omega)]
      refine ⟨z[q]!, ?_, ?_⟩
      · simp [hlt, hmod]
      · exact hz.2 q _ y (by rw [getElem!_pos z q (by omega)]; simp) hq
    · cases hi
theorem flat_set {c v : Array Value} {els : List (List AV)} {av : List AV} {sz i : Nat} (h : Flat W0 m sz c els) (hv : VL W0 m v av) (hl : av.length = sz) (hc : av.all isCell = true) (hi : i < els.length) :
    Flat W0 m sz (v.zipIdx.foldl (fun (cs : Array Value) (p : Value × Nat) => cs.setIfInBounds (i * sz + p.2) p.1) c) (els.set i av) := by
  obtain ⟨h1, h2, h3⟩ := h
  obtain ⟨g1, g2⟩ := fillA (i * sz) v c
  have hvs := hv.1
  refine ⟨by rw [g1, h1]; simp, ?_, ?_⟩
  · intro j x hj
    by_cases e : i = j
    · subst e
      rw [List.getElem?_set_self hi] at hj
      obtain rfl := Option.some.inj hj
      exact ⟨hl, fun q y hq => List.all_eq_true.mp hc y (List.mem_of_getElem? hq)⟩
    · rw [List.getElem?_set_ne e] at hj
      exact h2 j x hj
  · intro j x q y hj hq
    by_cases e : i = j
    · subst e
      rw [List.getElem?_set_self hi] at hj
      obtain rfl := Option.some.inj hj
      have hq' := (List.getElem?_eq_some_iff.mp hq).1
      have hb : (i + 1) * sz ≤ els.length * sz := Nat.mul_le_mul_right _ hi
      rw [Nat.add_mul] at hb
      rw [g2, if_pos (by omega)]
      have hlt : q < v.size := by omega
      refine ⟨v[q], by simp [hlt], hv.2 q _ y (by simp) hq⟩
    · rw [List.getElem?_set_ne e] at hj
      obtain ⟨u, hu, hV⟩ := h3 j x q y hj hq
      refine ⟨u, ?_, hV⟩
      have hq' := (List.getElem?_eq_some_iff.mp hq).1
      have hxl := (h2 j x hj).1
      rw [g2, if_neg]
      · exact hu
      · rcases Nat.lt_or_gt_of_ne e with hlt | hgt
        · have : (i + 1) * sz ≤ j * sz := Nat.mul_le_mul_right _ hlt
          rw [Nat.add_mul] at this
          omega
        · have : (j + 1) * sz ≤ i * sz := Nat.mul_le_mul_right _ hgt
          rw [Nat.add_mul] at this
          omega
theorem lit_ok (he : EnvOK W0 m n a e) (sz : Nat) : ∀ (ps : List (Nat × Operand)) (cps : List (Nat × Opd)) (c : Array Value) (els rels : List (List AV)), cLits ps = some cps → Flat W0 m sz c els → fillLit sz e cps els = some rels →
    ∃ rc, Instr.fill (fun i => some (i * sz, sz)) c (ps.map fun p => (p.1, a.eval p.2)) = some rc ∧ Flat W0 m sz rc rels ∧ rels.length = els.length := by
  intro ps
  induction ps with
  | nil =>
    intro cps c els rels hc hF h
    simp [cLits] at hc
    subst hc
    simp only [fillLit] at h
    obtain rfl := Option.some.inj h
    exact ⟨c, rfl, hF, rfl⟩
  | cons p ps ih =>
    intro cps c els rels hc hF h
    simp only [cLits, List.mapM_cons, Option.pure_def, Option.bind_eq_bind] at hc
    obtain ⟨q, hq, hc⟩ := Option.bind_eq_some_iff.mp hc
    obtain ⟨qs, hqs, hc⟩ := Option.bind_eq_some_iff.mp hc
    obtain rfl := Option.some.inj hc
    obtain ⟨x, hx, hq⟩ := Option.bind_eq_some_iff.mp hq
    obtain rfl := Option.some.inj hq
    simp only [fillLit] at h
    split at h
    · rename_i hh
      obtain ⟨h1, h2, h3⟩ := hh
      have hvc := (opd_V he hx).cells
      have hF' := flat_set hF ⟨hvc.1, hvc.2⟩ h1 h3 h2
      obtain ⟨rc, g1, g2, g3⟩ := ih qs _ _ rels (by simpa [cLits] using hqs) hF' h
      refine ⟨rc, ?_, g2, by rw [g3]; simp⟩
      simp only [List.map_cons, Instr.fill]
      have e1 := hF.1
      have e2 := hvc.1
      have hb : (p.1 + 1) * sz ≤ els.length * sz := Nat.mul_le_mul_right _ h2
      rw [Nat.add_mul] at hb
      rw [if_neg (by simp only [ne_eq, Bool.or_eq_true, decide_eq_true_eq, not_or, Decidable.not_not]; omega)]
      exact g1
    · cases h
theorem newRow_fz (hr : Rel P W0 m s w) (hf : m s.next = none) {ty sz cap : Nat} {c : Array Value} {els : List (List AV)} (w1 : World) (hb : Below w.heap.size w w1) {fz : Nat × Nat} (hg : w1.heap[w.heap.size]? = some (.cells c ty fz)) (hfz : Cold P ty fz c.size) (hcap : cap ≤ maxLen) (hl : els.length ≤ cap) (hc : cap * sz = c.size)
    (hsz : ∀ (i : Nat) (x : List AV), els[i]? = some x → x.length = sz ∧ ∀ (q : Nat) (y : AV), x[q]? = some y → isCell y = true)
    (hv : ∀ (i : Nat) (x : List AV) (q : Nat) (y : AV), els[i]? = some x → x[q]? = some y → ∃ v, c[i * sz + q]? = some v ∧ V W0 m v y) :
    ∃ m', After P W0 m s w m' (s.push ⟨ty, sz, els⟩) w1 ∧ V W0 m' (.slice (some ⟨w.heap.size, 0, none⟩) els.length cap) (.own s.next 0 els.length sz) := by
  refine ⟨upd m s.next ⟨ty, w.heap.size, cap, sz, false⟩, After.push hr hf ⟨ty, sz, els⟩ c cap hb hg hfz hc hcap hl hsz hv, ?_⟩
  exact .own 0 _ cap _ 0 ⟨ty, w.heap.size, cap, sz, false⟩ (upd_same _ _ _) rfl (by simp) hl (by intro _; simp)
theorem newRow_ok (hr : Rel P W0 m s w) (hf : m s.next = none) {ty sz cap : Nat} {c : Array Value} {els : List (List AV)} (w1 : World) (hb : Below w.heap.size w w1) (hg : w1.heap[w.heap.size]? = some (.cells c ty (0, 0))) (hcap : cap ≤ maxLen) (hl : els.length ≤ cap) (hc : cap * sz = c.size)
    (hsz : ∀ (i : Nat) (x : List AV), els[i]? = some x → x.length = sz ∧ ∀ (q : Nat) (y : AV), x[q]? = some y → isCell y = true)
    (hv : ∀ (i : Nat) (x : List AV) (q : Nat) (y : AV), els[i]? = some x → x[q]? = some y → ∃ v, c[i * sz + q]? = some v ∧ V W0 m v y) :
    ∃ m', After P W0 m s w m' (s.push ⟨ty, sz, els⟩) w1 ∧ V W0 m' (.slice (some ⟨w.heap.size, 0, none⟩) els.length cap) (.own s.next 0 els.length sz) := by
  refine ⟨upd m s.next ⟨ty, w.heap.size, cap, sz, false⟩, After.push hr hf ⟨ty, sz, els⟩ c cap hb hg (.inl rfl) hc hcap hl hsz hv, ?_⟩
  exact .own 0 _ cap _ 0 ⟨ty, w.heap.size, cap, sz, false⟩ (upd_same _ _ _) rfl (by simp) hl (by intro _; simp)
theorem op_lit {t el : TypeId} {len : Nat} {ps : Array (Nat × Operand)} {sz : Nat} {z : List AV} {cps : List (Nat × Opd)} {els : List (List AV)} (ho : o.op = .buildSlice t len ps) (hu : P.underlying t = some (.slice el)) (hsz : cSize P el = some sz) (hz : cZero P el = some z) (hps : cLits ps.toList = some cps)
    (h0 : 0 < sz) (hle : len * sz ≤ 16777216) (hr : Rel P W0 m s w) (he : EnvOK W0 m n a e) (hf : m s.next = none) (h : fillLit sz e cps (List.replicate len z) = some els) : Done P W0 m s w (s.push ⟨el, sz, els⟩) (litV s.next len sz) o a := by
  obtain ⟨inf, zv, c, h1, h2, h3, h4, h5, h6, h7⟩ := cZero_ok hz
  subst h4
  have hzV := (constAV_V (W0 := W0) (m := m) h3).cells
  obtain ⟨inf', h1', hs⟩ := info_of_cSize hsz
  rw [h1] at h1'
  obtain rfl := Option.some.inj h1'
  have hF := flat_zero (W0 := W0) (m := m) (z := zv.cells) (az := cells c) (sz := sz) len ⟨hzV.1, hzV.2⟩ (by rw [h5, hs]) h6 h0
  obtain ⟨rc, g1, g2, g3⟩ := lit_ok he sz ps.toList cps _ _ els hps hF h
  obtain ⟨q1, q2, q3⟩ := g2
  have hlen : els.length = len := by rw [g3]; simp
  have hmx : els.length ≤ maxLen := by
    have : len * 1 ≤ len * sz := Nat.mul_le_mul_left _ h0
    simp only [maxLen]; omega
  obtain ⟨m', hA, hV⟩ := newRow_ok (els := els) (cap := els.length) hr hf (w.alloc (.cells rc el)) (below_push w _) (heap_alloc_new w _) hmx (Nat.le_refl _) q1.symm q2 q3
  rw [hlen] at hV
  have hV' : V W0 m' (.slice (some ⟨w.heap.size, 0, none⟩) len len) (litV s.next len sz) := by
    unfold litV
    split
    · rename_i hb0
      obtain rfl := Nat.eq_of_beq_eq_true hb0
      exact .emp _
    · exact hV
  refine .value (w' := w.alloc (.cells rc el)) ?_ hA hV'
  have g1' : Instr.fill (fun i => some (i * sz, sz)) ((Array.range (len * sz)).map (zv.cells[· % zv.cells.size]!)) (ps.map fun p => (p.1, a.eval p.2)).toList = some rc := by rw [Array.toList_map]; exact g1
  by_cases hzero : len * sz = 0
  · have hl0 : len = 0 := by
      rcases Nat.mul_eq_zero.mp hzero with h | h
      · exact h
      · omega
    subst hl0
    have hr0 : ∀ {β : Type} (f : Nat → β), Array.map f (Array.range 0) = #[] := fun f => Array.eq_empty_of_size_eq_zero (by simp)
    simp only [Nat.zero_mul, hr0] at g1'
    simp [execOp, ho, Instr.buildSlice, run_underlying hu, run_cSize hsz, newRow, hr0]
    rw [show (Array.map (fun p => (p.1, a.eval p.2)) ps).toList = ps.toList.map (fun p => (p.1, a.eval p.2)) from Array.toList_map] at g1'
    rw [g1']
    simp
  · have hn : ¬ (16777216 < len * sz) := by omega
    simp [execOp, ho, Instr.buildSlice, run_underlying hu, run_cSize hsz, newRow, hn, hzero, zeroValue, typeInfo, h1, h2]
    rw [show (Array.map (fun p => (p.1, a.eval p.2)) ps).toList = ps.toList.map (fun p => (p.1, a.eval p.2)) from Array.toList_map] at g1'
    rw [g1']
    simp
end
end Go.VI
/- Each operation, on related values: make, append, bytes to strings, min and max. No statement of the seat is proved here. -/
namespace Go.VI
open Go Go.RowKit
section
variable {P : Program} {W0 : World} {m m' : PM} {s s' : Mem} {w w' : World} {n : Nat} {a : Act} {e : Env} {o : Oper} {r : AV}
theorem sameOpd_eval {x y : Operand} (h : sameOpd x y = true) (a : Act) : a.eval x = a.eval y := by
  unfold sameOpd at h
  split at h
  · simp at h; subst h; rfl
  · simp at h; subst h; rfl
  · cases h
theorem roomOk_iff {k b : Nat} (h : roomOk k b = true) : k ≤ 9223372036854775807 ∧ k * b ≤ 140737488355328 := by
  simp only [roomOk, Bool.and_eq_true, Nat.ble_eq] at h
  exact h
theorem op_mkS {t el : TypeId} {x y : Operand} {cx : Opd} {sz by_ : Nat} {z : List AV} {k : Int} (ho : o.op = .makeSlice t x y) (hu : P.underlying t = some (.slice el)) (hsz : cSize P el = some sz) (hby : cBytes P el = some by_) (hz : cZero P el = some z) (hs : sameOpd x y = true) (h0 : 0 < sz)
    (hx : cOpd x = some cx) (hr : Rel P W0 m s w) (he : EnvOK W0 m n a e) (hf : m s.next = none) (hk : ev e cx = .int .i64 k) (hk0 : 0 ≤ k) (hroom : roomOk k.toNat by_ = true) :
    Done P W0 m s w (s.push ⟨el, sz, List.replicate k.toNat z⟩) (.own s.next 0 k.toNat sz) o a := by
  obtain ⟨inf, zv, c, h1, h2, h3, h4, h5, h6, h7⟩ := cZero_ok hz
  subst h4
  have hzV := (constAV_V (W0 := W0) (m := m) h3).cells
  obtain ⟨inf', h1', hsz'⟩ := info_of_cSize hsz
  rw [h1] at h1'
  obtain rfl := Option.some.inj h1'
  have hb' : inf.bytes = by_ := by simp only [cBytes, h1, Option.map_some] at hby; exact Option.some.inj hby
  obtain ⟨r1, r2⟩ := roomOk_iff hroom
  have hv := opd_V he hx
  rw [hk] at hv
  have hev := hv.inv_int
  have hev2 : a.eval y = .int .i64 k := by rw [← sameOpd_eval hs]; exact hev
  have hF := flat_zero (W0 := W0) (m := m) (z := zv.cells) (az := cells c) (sz := sz) k.toNat ⟨hzV.1, hzV.2⟩ (by rw [h5, hsz']) h6 h0
  obtain ⟨q1, q2, q3⟩ := hF
  have hlen : (List.replicate k.toNat (cells c)).length = k.toNat := by simp
  obtain ⟨m', hA, hV⟩ := newRow_ok (ty := el) (els := List.replicate k.toNat (cells c)) (cap := k.toNat) hr hf (w.alloc (.cells ((Array.range (k.toNat * sz)).map (zv.cells[· % zv.cells.size]!)) el)) (below_push w _) (heap_alloc_new w _) (by simp only [maxLen]; omega) (by simp) (by simp) q2 q3
  rw [hlen] at hV
  refine .value (w' := w.alloc (.cells ((Array.range (k.toNat * sz)).map (zv.cells[· % zv.cells.size]!)) el)) ?_ hA hV
  have hw : IntKind.i64.wrap k = k := IntWalk.i64_in _ ⟨by omega, by omega⟩
  have hbytes : ¬ ((281474976710656 : Int) < inf.bytes * k) := by
    obtain ⟨kk, hkk⟩ : ∃ kk : Nat, k = (kk : Int) := ⟨k.toNat, by omega⟩
    have e0 : k.toNat = kk := by omega
    rw [e0, Nat.mul_comm] at r2
    rw [hb', hkk, ← Int.natCast_mul]
    omega
  by_cases hzero : k.toNat * sz = 0
  · have hk00 : k.toNat = 0 := by
      rcases Nat.mul_eq_zero.mp hzero with h | h
      · exact h
      · omega
    have hkk : k = 0 := by omega
    subst hkk
    have hr0 : ∀ {β : Type} (f : Nat → β), Array.map f (Array.range 0) = #[] := fun f => Array.eq_empty_of_size_eq_zero (by simp)
    simp [execOp, ho, Instr.makeSlice, run_underlying hu, hev, hev2, asInt, asIntOf, typeInfo, h1, hw, run_cSize hsz, newRow, hr0]
  · have c1 : ¬ (k < 0) := by omega
    have c2 : ¬ (k < k) := by omega
    have c3 := hbytes
    simp [execOp, ho, Instr.makeSlice, run_underlying hu, hev, hev2, asInt, asIntOf, typeInfo, h1, hw, run_cSize hsz, newRow, c1, c3, zeroValue, h2]
    intro h
    exact absurd h hzero
theorem news_ok {ad : Addr} {e' : Nat} {xs : List (List AV)} {sz : Nat} (hs : 0 < sz) (hu : uni sz xs = true) (hel : ∀ (i : Nat) (x : List AV), xs[i]? = some x → x.length = e')
    (hc : ∀ (i : Nat) (x : List AV) (q : Nat) (c : AV), xs[i]? = some x → x[q]? = some c → isCell c = true ∧ ∃ u, w.cell? (ad.add (i * e' + q)) = some u ∧ V W0 m u c) :
    ∃ news : List Value, news.length = xs.length * sz ∧ (∀ j u, news[j]? = some u → w.cell? (ad.add j) = some u) ∧ (∀ u ∈ news, u.oneCell' = true) ∧
      ∀ (i : Nat) (x : List AV) (q : Nat) (c : AV), xs[i]? = some x → x[q]? = some c → ∃ u, news[i * sz + q]? = some u ∧ V W0 m u c := by
  have hus : ∀ (i : Nat) (x : List AV), xs[i]? = some x → x.length = sz := by
    intro i x hi
    have := List.all_eq_true.mp hu x (List.mem_of_getElem? hi)
    simpa using this
  have hcc : ∀ (i : Nat) (x : List AV) (q : Nat) (c : AV), xs[i]? = some x → x[q]? = some c → isCell c = true ∧ ∃ u, w.cell? (ad.add (i * sz + q)) = some u ∧ V W0 m u c := by
    intro i x q c hi hq
    have := hc i x q c hi hq
    rw [← hel i x hi, hus i x hi] at this
    exact this
  have at_ : ∀ j, j < xs.length * sz → ∃ x c, xs[j / sz]? = some x ∧ x[j % sz]? = some c := by
    intro j hj
    have h1 : j / sz < xs.length := (Nat.div_lt_iff_lt_mul hs).mpr hj
    have h2 : j % sz < sz := Nat.mod_lt _ hs
    have h3 : xs[j / sz]? = some xs[j / sz] := List.getElem?_eq_getElem h1
    have h4 := hus _ _ h3
    exact ⟨_, _, h3, List.getElem?_eq_getElem (by omega)⟩
  have dm : ∀ j, j / sz * sz + j % sz = j := fun j => by rw [Nat.mul_comm]; exact Nat.div_add_mod j sz
  have val : ∀ j, j < xs.length * sz → ∃ u, w.cell? (ad.add j) = some u ∧ u.oneCell' = true := by
    intro j hj
    obtain ⟨x, c, h1, h2⟩ := at_ j hj
    obtain ⟨g1, u, g2, g3⟩ := hcc _ _ _ _ h1 h2
    rw [dm] at g2
    exact ⟨u, g2, g3.one g1⟩
  refine ⟨(List.range (xs.length * sz)).map fun j => (w.cell? (ad.add j)).getD undef, by simp, ?_, ?_, ?_⟩
  · intro j u hj
    rw [List.getElem?_map] at hj
    obtain ⟨k, hk, rfl⟩ := Option.map_eq_some_iff.mp hj
    have hkl : j < xs.length * sz := by have := (List.getElem?_eq_some_iff.mp hk).1; simpa using this
    have : k = j := by rw [List.getElem?_range hkl] at hk; exact (Option.some.inj hk).symm
    subst this
    obtain ⟨u, hu', _⟩ := val k hkl
    rw [hu']; rfl
  · intro u hu'
    obtain ⟨k, hk, rfl⟩ := List.mem_map.mp hu'
    obtain ⟨u, hu2, h1⟩ := val k (by simpa using hk)
    rw [hu2]; exact h1
  · intro i x q c hi hq
    obtain ⟨_, u, g2, g3⟩ := hcc i x q c hi hq
    have hil := (List.getElem?_eq_some_iff.mp hi).1
    have hql := (List.getElem?_eq_some_iff.mp hq).1
    rw [hus i x hi] at hql
    have hb : (i + 1) * sz ≤ xs.length * sz := Nat.mul_le_mul_right _ hil
    rw [Nat.add_mul] at hb
    refine ⟨u, ?_, g3⟩
    rw [List.getElem?_map, List.getElem?_range (by omega)]
    simp only [Option.map_some, g2, Option.getD_some]
theorem below_grow (w : World) (ob : Obj) : Below w.heap.size w (w.drew.alloc ob) := (Below.refl _ w).drew.alloc (Nat.le_refl _) ob
theorem grown_cells {zs : Array Value} {news olds : List Value} {sz k cap : Nat} (hzs : zs.size = sz) (hk : olds.length + news.length = k * sz) (hcap : k ≤ cap) :
    (olds.toArray ++ news.toArray ++ Builtin.zeroCells zs (cap - k)).size = cap * sz := by
  simp only [Array.size_append, List.size_toArray, size_zeroCells, hzs, hk, ← Nat.add_mul]
  congr 1
  omega
theorem app_src {t tx el : TypeId} {x y : Operand} {cx : Opd} {sz by_ : Nat} {z : List AV} {ys : List (List AV)} (hop : o.op = .call { callee := .builtin .append, args := #[x, y], argTypes := #[t, tx] }) (hu : P.underlying t = some (.slice el)) (hsz : cSize P el = some sz) (hby : cBytes P el = some by_) (hz : cZero P el = some z) (h0 : 0 < sz)
    (hx : cOpd x = some cx) (hr : Rel P W0 m s w) (he : EnvOK W0 m n a e) (hf : Fresh m s s') {news : List Value} (hs : Src P sz tx (a.eval y) ys.length news w)
    (hcell : ∀ (i : Nat) (x : List AV) (q : Nat) (c : AV), ys[i]? = some x → x[q]? = some c → isCell c = true) (n4 : ∀ (i : Nat) (x : List AV) (q : Nat) (c : AV), ys[i]? = some x → x[q]? = some c → ∃ u, news[i * sz + q]? = some u ∧ V W0 m u c)
    (h : appA s el sz by_ (ev e cx) ys = some (r, s')) : Done P W0 m s w s' r o a := by
  obtain ⟨inf, zv, c, h1, h2, h3, h4, h5, h6, h7⟩ := cZero_ok hz
  obtain ⟨inf', h1', hsz'⟩ := info_of_cSize hsz
  rw [h1] at h1'
  obtain rfl := Option.some.inj h1'
  have hb' : inf.bytes = by_ := by simp only [cBytes, h1, Option.map_some] at hby; exact Option.some.inj hby
  have hvx := opd_V he hx
  unfold appA at h
  split at h
  case isFalse => cases h
  rename_i hun
  have hs' := hs
  rw [← hsz'] at hs'
  have n1 := hs.newsLen
  have run1 : ∀ v w1, (Builtin.append_ #[t, tx] o.type #[a.eval x, a.eval y]).run P w = .ok v w1 → (execOp a.eval o).run P w = .ok (.value v) w1 := by
    intro v w1 hh
    simp only [execOp, hop, resolve, invoke, builtin, Sem.run_bind, Sem.run_pure, Result.andThen_ok, List.map_toArray, List.map_cons, List.map_nil, hh]
  have hyu : ∀ (i : Nat) (x : List AV), ys[i]? = some x → x.length = sz ∧ ∀ (q : Nat) (y : AV), x[q]? = some y → isCell y = true := by
    intro i x hi
    have := List.all_eq_true.mp hun x (List.mem_of_getElem? hi)
    exact ⟨by simpa using this, fun q y hq => hcell i x q y hi hq⟩
  have none_ : ∀ base : Option Addr, ys = [] → (Builtin.append_ #[t, tx] o.type #[.slice base 0 0, a.eval y]).run P w = .ok (.slice base 0 0) w := by
    intro base hnil
    subst hnil
    have hn0 : news = [] := List.eq_nil_of_length_eq_zero (by simpa using n1)
    subst hn0
    have hl0 : ∀ w', (Builtin.lenOf (a.eval y)).run P w' = .ok 0 w' := fun w' => by simpa using hs'.len w'
    have hc0 : (Builtin.firstCells inf.size 0 (a.eval y)).run P w = .ok #[] w := by simpa using hs'.cells
    have hst0 : ∀ ad : Addr, (storeCells ad []).run P w = .ok () w := fun ad => rfl
    cases base <;> rcases hs.kind with ⟨e', hk⟩ | hk <;> simp [Builtin.append_, run_underlying hu, run_underlying hk, sizeOf, typeInfo, h1, hl0, hc0, hst0]
  have grow_ : ∀ base : Option Addr, ys ≠ [] → roomOk ys.length by_ = true → m s.next = none → a.eval x = .slice base 0 0 → Done P W0 m s w (s.push ⟨el, sz, ys⟩) (.own s.next 0 ys.length sz) o a := by
    intro base hnn hroom hfn hxe
    obtain ⟨r1, r2⟩ := roomOk_iff hroom
    have hpos : 0 < ys.length := List.length_pos_iff.mpr hnn
    have hrun := run_append_grow_src (P := P) w t tx o.type el inf zv hu h1 h2 base 0 0 [] (by cases base <;> simp [Builtin.firstCells, loadCells, loadCellsFrom]) (a.eval y) ys.length news hs' (by omega) (by omega) (growslice_fits (by omega) (by rw [hb', Nat.zero_add]; omega))
    simp only [Nat.zero_add, List.nil_append] at hrun
    have hcg : ys.length ≤ grownCap w ys.length 0 el := grownCap_ge w _ _ _
    have hmx : ys.length ≤ maxLen := by simp only [maxLen]; omega
    have hsize := grown_cells (zs := zv.cells) (news := news) (olds := []) (sz := sz) (k := ys.length) (cap := grownCap w ys.length 0 el) (by rw [h7, hsz']) (by simpa using n1) hcg
    simp only [Array.empty_append] at hsize
    obtain ⟨m', hA, hV⟩ := newRow_ok (ty := el) (sz := sz) (els := ys) (cap := grownCap w ys.length 0 el) (c := news.toArray ++ Builtin.zeroCells zv.cells (grownCap w ys.length 0 el - ys.length)) hr hfn (w.drew.alloc (.cells (news.toArray ++ Builtin.zeroCells zv.cells (grownCap w ys.length 0 el - ys.length)) el)) (below_grow w _) (heap_alloc_new w.drew _) (grownCap_le_maxLen w _ _ _ hmx) hcg (by simpa using hsize.symm) hyu (by
        intro i x q y hi hq
        obtain ⟨u, g1, g2⟩ := n4 i x q y hi hq
        refine ⟨u, ?_, g2⟩
        rw [Array.getElem?_append_left (by simpa using (List.getElem?_eq_some_iff.mp g1).1), List.getElem?_toArray]; exact g1)
    refine .value (run1 _ _ ?_) hA hV
    rw [hxe]
    exact hrun
  split at h
  · rename_i hxn
    rw [hxn] at hvx
    obtain ⟨ax, hxe⟩ := hvx.inv_emp
    split at h
    · rename_i hnil
      obtain ⟨rfl, rfl⟩ := Prod.mk.inj (Option.some.inj h)
      exact .pure (v := .slice (some ax) 0 0) (run1 _ _ (by rw [hxe]; exact none_ _ hnil)) hr (.emp ax)
    · rename_i hnn
      split at h
      · rename_i hroom
        obtain ⟨rfl, rfl⟩ := Prod.mk.inj (Option.some.inj h)
        exact grow_ _ hnn hroom (hf _ (Nat.le_refl _) (by rw [Mem.next_push]; omega)) hxe
      · cases h
  · rename_i hxn
    rw [hxn] at hvx
    have hxe := hvx.inv_nilS
    split at h
    · rename_i hnil
      obtain ⟨rfl, rfl⟩ := Prod.mk.inj (Option.some.inj h)
      exact .pure (v := .slice none 0 0) (run1 _ _ (by rw [hxe]; exact none_ _ hnil)) hr .nilS
    · rename_i hnn
      split at h
      · rename_i hroom
        obtain ⟨rfl, rfl⟩ := Prod.mk.inj (Option.some.inj h)
        exact grow_ _ hnn hroom (hf _ (Nat.le_refl _) (by rw [Mem.next_push]; omega)) hxe
      · cases h
  · -- to a row of its own
    rename_i rr i0 k z0 hxo
    rw [hxo] at hvx
    simp only [Option.bind_eq_bind] at h
    obtain ⟨row, hrow, h⟩ := Option.bind_eq_some_iff.mp h
    split at h
    · rename_i hh
      obtain ⟨c1, c2, c3, c4, c5, c6⟩ := hh
      obtain ⟨rfl, rfl⟩ := Prod.mk.inj (Option.some.inj h)
      subst c1
      obtain ⟨r1, r2⟩ := roomOk_iff c6
      obtain ⟨off, cp, pl, hx1, ⟨hm, hp⟩, hcp, hkn, ha, _⟩ := hvx.inv_own
      have hoff : off = 0 := by rw [ha (.inr rfl), Nat.zero_mul]
      subst hoff
      have hkn2 : k ≤ pl.cap := by omega
      have hR := (hr.row rr pl row hm hrow).cs hp
      obtain ⟨arr, fz, g1, g2, g3, g4, gf⟩ := hR.ex
      have hE := hR.e
      have hT := hR.ty
      have hrlt := hr.wf.lt hrow
      have hfn : m s.next = none := hf _ (Nat.le_refl _) (by rw [Mem.next_push, Mem.next_put]; omega)
      have hlt : (row.els.take k).length = k := by simp; omega
      have hels : ∀ (i : Nat) (x : List AV), (row.els.take k ++ ys)[i]? = some x → (i < k ∧ row.els[i]? = some x) ∨ (k ≤ i ∧ ys[i - k]? = some x) := by
        intro i x hi
        by_cases hik : i < k
        · rw [List.getElem?_append_left (by omega), List.getElem?_take, if_pos hik] at hi
          exact .inl ⟨hik, hi⟩
        · rw [List.getElem?_append_right (by omega), hlt] at hi
          exact .inr ⟨by omega, hi⟩
      · have hsize : arr.size = pl.cap * sz := by rw [← g2, hE, c4]
        have hszs : ∀ (i : Nat) (x : List AV), (row.els.take k ++ ys)[i]? = some x → x.length = sz ∧ ∀ (q : Nat) (y : AV), x[q]? = some y → isCell y = true := by
          intro i x hi
          rcases hels i x hi with ⟨_, hi⟩ | ⟨_, hi⟩
          · rw [← c4]; exact hR.szs i x hi
          · exact hyu _ x hi
        have hkc : k * sz ≤ pl.cap * sz := Nat.mul_le_mul_right _ hkn2
        have hol : (arr.toList.take (k * sz)).length = k * sz := by rw [List.length_take, Array.length_toList, hsize]; omega
        by_cases hfit : k + ys.length ≤ cp
        · have hmul : (k + ys.length) * sz ≤ pl.cap * sz := Nat.mul_le_mul_right _ (by omega)
          have hmul' := hmul
          rw [Nat.add_mul] at hmul'
          have hbd : k * sz + news.length ≤ arr.size := by rw [n1, hsize]; omega
          have hrun := run_append_room_src (P := P) w t tx o.type el inf hu h1 pl.blk 0 k cp (a.eval y) ys.length news hs' hfit (by
              intro j hj
              rw [hsz']
              simp only [World.cell?, g1]
              rw [Array.getElem?_eq_getElem (by omega)]; rfl) (by
              intro j hj
              rw [hsz']
              simp only [World.frozen?, g1]
              exact gf.at_ (by omega))
          rw [hsz', Nat.zero_add] at hrun
          have hA := After.rebind (w1 := w.setCells pl.blk (k * sz) news) hr hfn hm hp hrow c5 (row' := ⟨el, sz, row.els.take k ++ ys⟩) c3.symm c4.symm (by simp; omega)
            (arr.toList.take (k * sz) ++ news ++ arr.toList.drop (k * sz + news.length)).toArray (setCells_rest _ _ _ _) (fun j hj => setCells_far _ _ _ w j hj) (setCells_row _ _ w arr g1 hbd) (by
              have : (arr.toList.take (k * sz) ++ news ++ arr.toList.drop (k * sz + news.length)).toArray.size = arr.size := by
                simp only [List.size_toArray, List.length_append, List.length_take, List.length_drop, Array.length_toList]
                omega
              rw [this]; exact gf) (by
              rw [g2]
              simp only [List.size_toArray, List.length_append, List.length_take, List.length_drop, Array.length_toList]
              omega) (by rw [c4]; exact hszs) (by
              intro i x q y hi hq
              have hql : q < sz := by rw [← (hszs i x hi).1]; exact (List.getElem?_eq_some_iff.mp hq).1
              rw [c4, List.getElem?_toArray]
              rcases hels i x hi with ⟨hik, hi⟩ | ⟨hik, hi⟩
              · have hb2 : (i + 1) * sz ≤ k * sz := Nat.mul_le_mul_right _ hik
                rw [Nat.add_mul] at hb2
                obtain ⟨u, q1, q2⟩ := g4 i x q y hi hq
                refine ⟨u, ?_, q2⟩
                rw [List.append_assoc, List.getElem?_append_left (by rw [List.length_take, Array.length_toList]; omega), List.getElem?_take, if_pos (by omega), Array.getElem?_toList]
                rw [hE, c4] at q1; exact q1
              · obtain ⟨u, q1, q2⟩ := n4 _ x q y hi hq
                refine ⟨u, ?_, q2⟩
                have hnl := (List.getElem?_eq_some_iff.mp q1).1
                have hb2 : i * sz = k * sz + (i - k) * sz := by rw [← Nat.add_mul]; congr 1; omega
                rw [List.append_assoc, List.getElem?_append_right (by rw [hol]; omega), hol, List.getElem?_append_left (by omega)]
                rw [← q1]; congr 1; omega)
          refine .value (run1 _ _ ?_) hA (V.own' (off := 0) (i := 0) (cp := cp) (pl := pl) (upd_same _ _ _) hp (by omega) hfit (by intro _; simp) (hE.trans c4))
          rw [hx1]
          exact hrun
        · have hcells : ∀ j u, (arr.toList.take (k * sz))[j]? = some u → w.cell? ((⟨pl.blk, 0, none⟩ : Addr).add j) = some u := by
            intro j u hj
            rw [List.getElem?_take] at hj
            split at hj
            · rw [add_addr]
              simp only [World.cell?, g1]
              rw [Array.getElem?_toList] at hj
              simpa using hj
            · cases hj
          have hneed : cp < k + ys.length := by omega
          have hrun := run_append_grow_src (P := P) w t tx o.type el inf zv hu h1 h2 (some ⟨pl.blk, 0, none⟩) k cp (arr.toList.take (k * sz)) (run_firstCells_some w.drew inf.size k _ k cp _ (by rw [hsz']; exact hol) (by simpa using hcells)) (a.eval y) ys.length news hs' hneed (by omega) (growslice_fits hneed (by rw [hb']; exact r2))
          rw [← List.append_toArray] at hrun
          have hkill := After.kill hr hrlt c5
          have hcg : k + ys.length ≤ grownCap w (k + ys.length) cp el := grownCap_ge w _ _ _
          have hmx : k + ys.length ≤ maxLen := by simp only [maxLen]; omega
          have hsize2 := grown_cells (zs := zv.cells) (news := news) (olds := arr.toList.take (k * sz)) (sz := sz) (k := k + ys.length) (cap := grownCap w (k + ys.length) cp el) (by rw [h7, hsz']) (by rw [hol, n1, Nat.add_mul]) hcg
          have hlen2 : (row.els.take k ++ ys).length = k + ys.length := by rw [List.length_append, hlt]
          obtain ⟨m', hA, hV⟩ := newRow_ok (ty := el) (sz := sz) (els := row.els.take k ++ ys) (cap := grownCap w (k + ys.length) cp el) (c := (arr.toList.take (k * sz)).toArray ++ news.toArray ++ Builtin.zeroCells zv.cells (grownCap w (k + ys.length) cp el - (k + ys.length))) hkill.rel (by rw [Mem.next_put]; exact hfn) (w.drew.alloc (.cells ((arr.toList.take (k * sz)).toArray ++ news.toArray ++ Builtin.zeroCells zv.cells (grownCap w (k + ys.length) cp el - (k + ys.length))) el)) (below_grow w _) (heap_alloc_new w.drew _) (grownCap_le_maxLen w _ _ _ hmx) (by rw [hlen2]; exact hcg) hsize2.symm hszs (by
              intro i x q y hi hq
              have hql : q < sz := by rw [← (hszs i x hi).1]; exact (List.getElem?_eq_some_iff.mp hq).1
              rcases hels i x hi with ⟨hik, hi⟩ | ⟨hik, hi⟩
              · have hb2 : (i + 1) * sz ≤ k * sz := Nat.mul_le_mul_right _ hik
                rw [Nat.add_mul] at hb2
                obtain ⟨u, q1, q2⟩ := g4 i x q y hi hq
                refine ⟨u, ?_, q2⟩
                rw [Array.append_assoc, Array.getElem?_append_left (by rw [List.size_toArray]; omega), List.getElem?_toArray, List.getElem?_take, if_pos (by omega), Array.getElem?_toList]
                rw [hE, c4] at q1; exact q1
              · obtain ⟨u, q1, q2⟩ := n4 _ x q y hi hq
                refine ⟨u, ?_, q2⟩
                have hnl := (List.getElem?_eq_some_iff.mp q1).1
                have hb2 : i * sz = k * sz + (i - k) * sz := by rw [← Nat.add_mul]; congr 1; omega
                rw [Array.append_assoc, Array.getElem?_append_right (by rw [List.size_toArray]; omega), List.size_toArray, hol, Array.getElem?_append_left (by rw [List.size_toArray]; omega), List.getElem?_toArray]
                rw [← q1]; congr 1; omega)
          have hst := Step.put hr.wf hrlt c5 none (fun _ => rfl)
          refine .value (run1 _ _ ?_) (After.trans hst (Step.push hst.wf _) hkill hA) (by rw [hlen2] at hV; exact hV)
          rw [hx1]
          exact hrun
    · cases h
  · cases h
theorem op_app {t el : TypeId} {x y : Operand} {cx cy : Opd} {sz by_ : Nat} {z : List AV} (hop : o.op = .call { callee := .builtin .append, args := #[x, y], argTypes := #[t, t] }) (hu : P.underlying t = some (.slice el)) (hsz : cSize P el = some sz) (hby : cBytes P el = some by_) (hz : cZero P el = some z) (h0 : 0 < sz)
    (hx : cOpd x = some cx) (hy : cOpd y = some cy) (hr : Rel P W0 m s w) (he : EnvOK W0 m n a e) (hf : Fresh m s s') (h : stepOp (fun _ _ _ => none) (.app el sz by_ cx cy) e s = some (r, s')) : Done P W0 m s w s' r o a := by
  simp only [stepOp, Option.bind_eq_bind] at h
  obtain ⟨ys, hys, h⟩ := Option.bind_eq_some_iff.mp h
  have hun : uni sz ys = true := by
    unfold appA at h
    split at h
    · assumption
    · cases h
  rcases read_told hr (opd_V he hy) hys with ⟨hy1, hy2⟩ | ⟨ad, cap, e', hy1, hel, hcell⟩
  · subst hy2
    exact app_src hop hu hsz hby hz h0 hx hr he hf (news := []) (by rw [hy1]; exact Src.ofNil w hu 0) (by simp) (by simp) h
  · obtain ⟨news, n1, n2, n3, n4⟩ := news_ok h0 hun hel hcell
    exact app_src hop hu hsz hby hz h0 hx hr he hf (news := news) (by rw [hy1]; exact Src.ofSlice w hu ad _ cap news n1 n2 n3) (fun i x q c h1 h2 => (hcell i x q c h1 h2).1) n4 h
theorem op_appT {t tx el : TypeId} {x y : Operand} {cx cy : Opd} {by_ : Nat} {z : List AV} (hop : o.op = .call { callee := .builtin .append, args := #[x, y], argTypes := #[t, tx] }) (hu : P.underlying t = some (.slice el)) (ht : P.underlying tx = some .string) (hsz : cSize P el = some 1) (hby : cBytes P el = some by_) (hz : cZero P el = some z)
    (hx : cOpd x = some cx) (hy : cOpd y = some cy) (hr : Rel P W0 m s w) (he : EnvOK W0 m n a e) (hf : Fresh m s s') (h : stepOp (fun _ _ _ => none) (.appT el by_ cx cy) e s = some (r, s')) : Done P W0 m s w s' r o a := by
  simp only [stepOp] at h
  split at h
  case h_2 => cases h
  rename_i b hb
  have hvy := opd_V he hy
  rw [hb] at hvy
  obtain ⟨bs, hv, rfl⟩ := hvy.inv_str
  have hl : (bs.data.toList.map fun c => [AV.int .u8 c.toNat]).length = bs.size := by rw [List.length_map, Array.length_toList]; rfl
  refine app_src hop hu hsz hby hz (by omega) hx hr he hf (news := byteCells bs) (by rw [hv, hl]; exact Src.ofString w ht bs) ?_ ?_ h
  · intro i x q c h1 h2
    rw [List.getElem?_map] at h1
    obtain ⟨u, _, rfl⟩ := Option.map_eq_some_iff.mp h1
    match q with
    | 0 => simp at h2; subst h2; rfl
    | q + 1 => simp at h2
  · intro i x q c h1 h2
    rw [List.getElem?_map] at h1
    obtain ⟨u, hu', rfl⟩ := Option.map_eq_some_iff.mp h1
    match q with
    | q + 1 => simp at h2
    | 0 =>
      simp at h2
      subst h2
      refine ⟨.int .u8 u.toNat, ?_, .int _ _⟩
      unfold byteCells
      rw [Nat.mul_one, Nat.add_zero, List.getElem?_map, hu']; rfl
theorem below_bytes (w : World) (el : TypeId) (b : ByteArray) : Below w.heap.size w (Lib.bytesWorld w el b) := by
  refine ⟨rfl, rfl, rfl, by rw [Lib.bytesWorld_size]; omega, fun k hk => Lib.bytesWorld_at_old w el b k hk⟩
theorem op_toBytes {t u el : TypeId} {x : Operand} {cx : Opd} {bs : List UInt8} (ho : o.op = .convert t u x) (ht : P.underlying t = some .string) (hu : P.underlying u = some (.slice el)) (hel : P.underlying el = some (.int .u8)) (hx : cOpd x = some cx) (hr : Rel P W0 m s w) (he : EnvOK W0 m n a e) (hf : m s.next = none)
    (h1 : ev e cx = .str bs) (h2 : bs.length ≤ 140737488355328) : Done P W0 m s w (s.push ⟨el, 1, bs.map fun c => [.int .u8 c.toNat]⟩) (.own s.next 0 bs.length 1) o a := by
  have hv := opd_V he hx
  rw [h1] at hv
  obtain ⟨b, hb, rfl⟩ := hv.inv_str
  have hsize : b.size = b.data.toList.length := by rw [Array.length_toList]; rfl
  have hlen : (b.data.toList.map fun c => [AV.int .u8 c.toNat]).length = b.data.toList.length := by simp
  have hcg : b.size ≤ grownCap w b.size 0 el := grownCap_ge w _ _ _
  have hcells : (Lib.bytesCells w el b).size = grownCap w b.size 0 el := by
    have : b.data.size = b.size := rfl
    simp only [Lib.bytesCells, Array.size_append, Array.size_map, Array.size_replicate, this]
    omega
  obtain ⟨m', hA, hV⟩ := newRow_fz (ty := el) (sz := 1) (cap := grownCap w b.size 0 el) (c := Lib.bytesCells w el b) (els := b.data.toList.map fun c => [AV.int .u8 c.toNat]) hr hf (Lib.bytesWorld w el b) (below_bytes w el b) (Lib.bytesWorld_at_new w el b) (.inr ⟨Nat.le_refl _, hel⟩) (grownCap_le_maxLen w _ _ _ (by simp only [maxLen]; omega)) (by rw [hlen, ← hsize]; exact hcg) (by rw [hcells, Nat.mul_one]) (by
      intro i y hi
      rw [List.getElem?_map] at hi
      obtain ⟨c, _, rfl⟩ := Option.map_eq_some_iff.mp hi
      refine ⟨rfl, ?_⟩
      intro q z hq
      match q with
      | 0 => simp at hq; subst hq; rfl
      | q + 1 => simp at hq) (by
      intro i y q z hi hq
      rw [List.getElem?_map] at hi
      obtain ⟨c, hc, rfl⟩ := Option.map_eq_some_iff.mp hi
      match q with
      | q + 1 => simp at hq
      | 0 =>
        simp at hq
        subst hq
        rw [Array.getElem?_toList] at hc
        have hlt := (Array.getElem?_eq_some_iff.mp hc).1
        refine ⟨.int .u8 c.toNat, ?_, .int _ _⟩
        simp only [Lib.bytesCells, Nat.mul_one, Nat.add_zero]
        rw [Array.getElem?_append_left (by simpa using hlt), Array.getElem?_map, hc]
        rfl)
  rw [hlen] at hV
  refine .value (w' := Lib.bytesWorld w el b) ?_ hA hV
  have hrun := Lib.run_convert_string_bytes (P := P) w t u el b ht hu hel
  rw [← hsize]
  generalize Lib.bytesWorld w el b = w1 at hrun ⊢
  generalize grownCap w b.size 0 el = g at hrun ⊢
  generalize b.size = z at hrun ⊢
  simp only [execOp, ho, hb, Sem.run_bind, hrun, Result.andThen_ok, Sem.run_pure]
theorem op_toStr {t u el : TypeId} {x : Operand} {cx : Opd} {es : List (List AV)} {bs : List UInt8} (ho : o.op = .convert t u x) (hd : P.underlying t = some (.slice el)) (hel : P.underlying el = some (.int .u8)) (hu : P.underlying u = some .string) (hx : cOpd x = some cx) (hr : Rel P W0 m s w) (he : EnvOK W0 m n a e)
    (h1 : readAll s (ev e cx) = some es) (h2 : es.mapM byteOf = some bs) : Done P W0 m s w s (.str bs) o a := by
  have hv := opd_V he hx
  have hby : ∀ c b, byteOf c = some b → ∃ z, c = [.int .u8 z] ∧ b = UInt8.ofNat z.toNat := by
    intro c b hc
    unfold byteOf at hc
    split at hc
    · exact ⟨_, rfl, (Option.some.inj hc).symm⟩
    · cases hc
  obtain ⟨hl, hall⟩ := mapM_some h2
  have huni : uni 1 es = true := by
    apply List.all_eq_true.mpr
    intro c hc
    obtain ⟨i, hi⟩ := List.mem_iff_getElem?.mp hc
    have hlt := (List.getElem?_eq_some_iff.mp hi).1
    obtain ⟨z, rfl, _⟩ := hby _ _ (hall i c bs[i] hi (by simp))
    simp
  have key : ∃ ad l c, ∃ b : ByteArray, a.eval x = .slice ad l c ∧ (Conv.bytesToString (.slice ad l c)).run P w = .ok (.string b) w ∧ b.data.toList = bs := by
    rcases read_told hr hv h1 with ⟨hy1, hy2⟩ | ⟨ad, cap, e', hy1, hel', hcell⟩
    · subst hy2
      simp at hl
      have : bs = [] := List.eq_nil_of_length_eq_zero hl.symm
      subst this
      refine ⟨_, _, _, ByteArray.empty, hy1, by simp [Conv.bytesToString], rfl⟩
    · obtain ⟨news, n1, n2, n3, n4⟩ := news_ok (W0 := W0) (m := m) (by omega : 0 < 1) huni hel' hcell
      let ns : List Int := es.map fun c => match c with | [.int .u8 z] => z | _ => 0
      have hns : news = ns.map (Value.int .u8) := by
        apply List.ext_getElem?
        intro i
        by_cases hi : i < es.length
        · have he1 : es[i]? = some es[i] := List.getElem?_eq_getElem hi
          obtain ⟨z, hz, _⟩ := hby _ _ (hall i es[i] bs[i] he1 (by simp))
          obtain ⟨uu, g1, g2⟩ := n4 i es[i] 0 (.int .u8 z) he1 (by rw [hz]; rfl)
          have := g2.inv_int
          subst this
          simp only [Nat.mul_one, Nat.add_zero] at g1
          rw [g1]
          simp [ns, he1, hz]
        · rw [List.getElem?_eq_none (by omega), List.getElem?_eq_none (by simp [ns]; omega)]
      have hload : (loadCells ad es.length).run P w = .ok (ns.map (Value.int .u8)).toArray w := by
        have := run_loadCells_list (P := P) w ad news n2
        rw [n1, Nat.mul_one] at this
        rw [this, hns]
      refine ⟨_, _, _, _, hy1, run_bytesToString w _ _ _ ns hload, ?_⟩
      have fold : ∀ (l : List Int) (acc : ByteArray), (l.foldl (fun r n => r.push (UInt8.ofNat n.toNat)) acc).data.toList = acc.data.toList ++ l.map fun n => UInt8.ofNat n.toNat := by
        intro l
        induction l with
        | nil => intro acc; simp
        | cons z l ih => intro acc; simp only [List.foldl_cons, ih, List.map_cons]; simp [ByteArray.push]
      rw [fold]
      simp only [ByteArray.empty]
      apply List.ext_getElem?
      intro i
      by_cases hi : i < es.length
      · have he1 : es[i]? = some es[i] := List.getElem?_eq_getElem hi
        have hb1 : bs[i]? = some bs[i] := List.getElem?_eq_getElem (by omega)
        obtain ⟨z, hz, hz2⟩ := hby _ _ (hall i es[i] bs[i] he1 hb1)
        rw [hb1, hz2]
        simp [ns, he1, hz]
      · rw [List.getElem?_eq_none (by simp [ns]; omega), List.getElem?_eq_none (by omega)]
  obtain ⟨ad, l, c, b, hx1, hb, hb2⟩ := key
  refine .pure (v := .string b) ?_ hr (by rw [← hb2]; exact .str b)
  simp [hx1, execOp, ho, convert, run_underlying hd, run_underlying hu, run_underlying hel, hb]
end
end Go.VI
/- Each operation, on related values: min and max, ==. No statement of the seat is proved here. -/
namespace Go.VI
open Go Go.RowKit
section
variable {P : Program} {W0 : World} {m m' : PM} {s s' : Mem} {w w' : World} {n : Nat} {a : Act} {e : Env} {o : Oper} {r : AV}
theorem best_cons {mx : Bool} {c d r : AV} {cs : List AV} (h : best mx c (d :: cs) = some r) : (∃ k x y, c = .int k x ∧ d = .int k y ∧ best mx (.int k (if mx then (if y > x then y else x) else (if y < x then y else x))) cs = some r) ∨
    ∃ x y, c = .str x ∧ d = .str y ∧ best mx (.str (if mx then (if Op.bytesLess x y then y else x) else (if Op.bytesLess x y || x == y then x else y))) cs = some r := by
  unfold best at h
  split at h
  · rename_i heq
    cases heq
  · rename_i k x j y r' heq
    obtain ⟨rfl, rfl⟩ := List.cons.inj heq
    split at h
    · rename_i hkj
      subst hkj
      exact .inl ⟨k, x, y, rfl, rfl, h⟩
    · cases h
  · rename_i x y r' heq
    obtain ⟨rfl, rfl⟩ := List.cons.inj heq
    exact .inr ⟨x, y, rfl, rfl, h⟩
  · cases h
theorem best_ok (mx : Bool) : ∀ (cs : List AV) (vs : List Value) (c r : AV) (v : Value), V W0 m v c → vs.length = cs.length → (∀ (i : Nat) (v : Value) (c : AV), vs[i]? = some v → cs[i]? = some c → V W0 m v c) → best mx c cs = some r →
    ∃ u, (vs.foldlM (if mx then Builtin.max2 else Builtin.min2) v).run P w = .ok u w ∧ V W0 m u r := by
  intro cs
  induction cs with
  | nil =>
    intro vs c r v hv hl _ h
    obtain rfl : vs = [] := List.eq_nil_of_length_eq_zero hl
    have : c = r := by unfold best at h; simpa using h
    subst this
    exact ⟨v, by simp, hv⟩
  | cons d cs ih =>
    intro vs c r v hv hl hall h
    match vs, hl, hall with
    | u :: vs, hl, hall =>
      have hu := hall 0 u d rfl rfl
      rcases best_cons h with ⟨k, x, y, rfl, rfl, hb⟩ | ⟨x, y, rfl, rfl, hb⟩
      case inr =>
        obtain ⟨b, rfl, rfl⟩ := hv.inv_str
        obtain ⟨c, rfl, rfl⟩ := hu.inv_str
        have ex : (if mx = true then (if Op.bytesLess b.data.toList c.data.toList = true then c.data.toList else b.data.toList) else (if (Op.bytesLess b.data.toList c.data.toList || b.data.toList == c.data.toList) = true then b.data.toList else c.data.toList)) = (if mx = true then (if Op.bytesLess b.data.toList c.data.toList = true then c else b) else (if (Op.bytesLess b.data.toList c.data.toList || b.data.toList == c.data.toList) = true then b else c)).data.toList := by
          split <;> split <;> rfl
        obtain ⟨q, h1, h2⟩ := ih vs _ r (.string (if mx = true then (if Op.bytesLess b.data.toList c.data.toList = true then c else b) else (if (Op.bytesLess b.data.toList c.data.toList || b.data.toList == c.data.toList) = true then b else c))) (by rw [ex]; exact .str _) (by simpa using hl) (fun i v c h1 h2 => hall (i + 1) v c (by simpa using h1) (by simpa using h2)) hb
        refine ⟨q, ?_, h2⟩
        rw [List.foldlM_cons]
        have eb := (str_eq b c).1
        have ec := (str_eq b c).2
        cases mx
        · simp only [Bool.false_eq_true, if_false] at h1 ⊢
          have : (Builtin.min2 (.string b) (.string c)).run P w = .ok (.string (if (Op.bytesLess b.data.toList c.data.toList || b.data.toList == c.data.toList) = true then b else c)) w := by
            simp [Builtin.min2, Op.stringOp, asBool, eb, ec]
          rw [Sem.run_bind, this]; exact h1
        · simp only [if_true] at h1 ⊢
          have : (Builtin.max2 (.string b) (.string c)).run P w = .ok (.string (if Op.bytesLess b.data.toList c.data.toList = true then c else b)) w := by
            simp [Builtin.max2, Op.stringOp, asBool, eb, ec]
            cases Op.bytesLess b.data.toList c.data.toList <;> rfl
          rw [Sem.run_bind, this]; exact h1
      have hv' := hv.inv_int
      have hu' := hu.inv_int
      subst hv' hu'
      obtain ⟨q, h1, h2⟩ := ih vs _ r (.int k (if mx then (if y > x then y else x) else (if y < x then y else x))) (.int _ _) (by simpa using hl) (fun i v c h1 h2 => hall (i + 1) v c (by simpa using h1) (by simpa using h2)) hb
      refine ⟨q, ?_, h2⟩
      rw [List.foldlM_cons]
      cases mx
      · simp only [Bool.false_eq_true, if_false] at h1 ⊢
        simp [Builtin.min2, h1]
      · simp only [if_true] at h1 ⊢
        simp only [Builtin.max2, Sem.run_bind, Sem.run_pure, Result.andThen_ok, h1]
theorem op_mnmx {xs : Array Operand} {ts : Array TypeId} {cxs : List Opd} {mx : Bool} {c : AV} {cs : List AV} (hop : o.op = .call { callee := .builtin (if mx then .max else .min), args := xs, argTypes := ts }) (hx : xs.toList.mapM cOpd = some cxs) (hr : Rel P W0 m s w) (he : EnvOK W0 m n a e)
    (h1 : cxs.map (ev e) = c :: cs) (h : best mx c cs = some r) : Done P W0 m s w s r o a := by
  have hV := VL_map hx he
  rw [h1] at hV
  obtain ⟨g1, g2⟩ := hV
  have : ∃ v vs, (xs.map a.eval).toList = v :: vs := by
    cases hh : (xs.map a.eval).toList with
    | nil => have : (xs.map a.eval).size = 0 := by rw [← Array.length_toList, hh]; rfl
             rw [this] at g1; simp at g1
    | cons v vs => exact ⟨v, vs, rfl⟩
  obtain ⟨v, vs, hvs⟩ := this
  have hget : ∀ (i : Nat), (xs.map a.eval)[i]? = (v :: vs)[i]? := fun i => by rw [← hvs, Array.getElem?_toList]
  obtain ⟨u, q1, q2⟩ := best_ok (P := P) (W0 := W0) (m := m) (w := w) mx cs vs c r v (g2 0 v c (by rw [hget]; rfl) rfl) (by rw [← Array.length_toList, hvs] at g1; simpa using g1) (fun i v' c' h1 h2 => g2 (i + 1) v' c' (by rw [hget]; simpa using h1) (by simpa using h2)) h
  refine .pure (v := u) ?_ hr q2
  cases mx
  · simp only [Bool.false_eq_true, if_false] at q1 hop
    simp only [execOp, hop, resolve, invoke, builtin, Builtin.min_, Sem.run_bind, Sem.run_pure, Result.andThen_ok, hvs, q1]
  · simp only [if_true] at q1 hop
    simp only [execOp, hop, resolve, invoke, builtin, Builtin.max_, Sem.run_bind, Sem.run_pure, Result.andThen_ok, hvs, q1]
theorem eqLf_ok {d : Nat} {t : TypeId} {k : LK} {v u : Value} {c b : AV} {q : Bool} (hk : leaves P (d + 1) t = some [k]) (hns : ∀ fs, P.underlying t ≠ some (.struct fs)) (hv : V W0 m v c) (hu : V W0 m u b) (h : eqLf k c b = some q) :
    (Op.equalIn (d + 1) t v u).run P w = .ok q w := by
  unfold leaves at hk
  split at hk
  · rename_i hty
    obtain rfl : LK.b = k := by simpa using hk
    cases c <;> try (simp [eqLf] at h; done)
    cases b <;> try (simp [eqLf] at h; done)
    simp only [eqLf] at h
    obtain rfl := Option.some.inj h
    simp [Op.equalIn, run_underlying hty, hv.inv_bool, hu.inv_bool]
  · rename_i kk hty
    obtain rfl : LK.i = k := by simpa using hk
    cases c <;> try (simp [eqLf] at h; done)
    cases b <;> try (simp [eqLf] at h; done)
    simp only [eqLf] at h
    split at h
    · rename_i hkk
      subst hkk
      obtain rfl := Option.some.inj h
      simp [Op.equalIn, run_underlying hty, hv.inv_int, hu.inv_int]
    · cases h
  · rename_i hty
    obtain rfl : LK.s = k := by simpa using hk
    cases c <;> try (simp [eqLf] at h; done)
    cases b <;> try (simp [eqLf] at h; done)
    simp only [eqLf] at h
    obtain rfl := Option.some.inj h
    obtain ⟨x, hx, rfl⟩ := hv.inv_str
    obtain ⟨y, hy, rfl⟩ := hu.inv_str
    rw [hx, hy]
    simp only [Op.equalIn, Sem.run_bind, run_underlying hty, Result.andThen_ok, Sem.run_pure]
    congr 1
    rw [Bool.eq_iff_iff, MapKept.bytes_beq, beq_iff_eq]
    constructor
    · intro h; rw [h]
    · intro h
      cases x; cases y
      simp only at h
      congr 1
      exact Array.toList_inj.mp h
  · rename_i fs hty
    exact absurd hty (hns fs)
  · cases hk
theorem eqL_append : ∀ (l1 l2 : List LK) (X Y : List AV) (q : Bool), eqL (l1 ++ l2) X Y = some q →
    ∃ q1, eqL l1 (X.take l1.length) (Y.take l1.length) = some q1 ∧ (q1 = true → eqL l2 (X.drop l1.length) (Y.drop l1.length) = some q) ∧ (q1 = false → q = false) := by
  intro l1
  induction l1 with
  | nil => intro l2 X Y q h; exact ⟨true, by simp [eqL], fun _ => by simpa using h, by simp⟩
  | cons k l1 ih =>
    intro l2 X Y q h
    match X, Y, h with
    | x :: X, y :: Y, h =>
      simp only [List.cons_append, eqL, List.length_cons, List.take_succ_cons, List.drop_succ_cons] at h ⊢
      split at h
      · rename_i hh
        obtain ⟨q1, h1, h2, h3⟩ := ih l2 X Y q h
        exact ⟨q1, h1, h2, h3⟩
      · rename_i hh
        obtain rfl := Option.some.inj h
        exact ⟨false, rfl, by simp, by simp⟩
      · cases h
    | [], [], h => simp [eqL] at h
    | [], _ :: _, h => simp [eqL] at h
    | _ :: _, [], h => simp [eqL] at h
theorem fields_ok {d : Nat} (lv : TypeId → Option (List LK)) (ihlen : ∀ (t : TypeId) (ls : List LK), lv t = some ls → cAgg P t = some false → ls.length = 1)
    (ih : ∀ (t : TypeId) (ls : List LK) (v u : Value) (c b : AV) (q : Bool), lv t = some ls → (∃ agg, cAgg P t = some agg ∧ pickCells agg (cells c) = some c ∧ pickCells agg (cells b) = some b) → (cells c).length = ls.length → (cells b).length = ls.length → V W0 m v c → V W0 m u b → eqL ls (cells c) (cells b) = some q → (Op.equalIn d t v u).run P w = .ok q w)
    {xs ys : Array Value} {X Y : List AV} (hX : VL W0 m xs X) (hY : VL W0 m ys Y) (cX : ∀ (i : Nat) (c : AV), X[i]? = some c → isCell c = true) (cY : ∀ (i : Nat) (c : AV), Y[i]? = some c → isCell c = true) (hlen : X.length = Y.length) :
    ∀ (fs : List Field) (off : Nat) (ls : List LK) (q : Bool), leavesF P lv fs off = some ls → off + ls.length = X.length → eqL ls (X.drop off) (Y.drop off) = some q →
      (forIn fs ((none : Option Bool), ()) (fun f _ => (if f.name ≠ "_" then do
                let p ← part f.type xs f.offset
                let p' ← part f.type ys f.offset
                let b ← Op.equalIn d f.type p p'
                if (!b) = true then pure (ForInStep.done (some false, ()))
                  else pure (ForInStep.yield (none, ()))
              else pure (ForInStep.yield (none, ())) : Sem (ForInStep (Option Bool × Unit))))).run P w = .ok (if q then none else some false, ()) w := by
  intro fs
  induction fs with
  | nil =>
    intro off ls q h hl he
    simp only [leavesF] at h
    obtain rfl := Option.some.inj h
    simp at hl
    rw [List.drop_eq_nil_of_le (by omega), List.drop_eq_nil_of_le (by omega)] at he
    simp only [eqL] at he
    obtain rfl := Option.some.inj he
    simp
  | cons f fs ihf =>
    intro off ls q h hl he
    simp only [leavesF, Option.bind_eq_bind] at h
    obtain ⟨k, hk, h⟩ := Option.bind_eq_some_iff.mp h
    split at h
    case isFalse => cases h
    rename_i hh
    obtain ⟨h1, h2, h3, h4⟩ := hh
    obtain ⟨l, hl2, h⟩ := Option.bind_eq_some_iff.mp h
    obtain rfl := Option.some.inj h
    obtain ⟨agg, hag⟩ := Option.isSome_iff_exists.mp h4
    simp only [List.length_append] at hl
    obtain ⟨q1, e1, e2, e3⟩ := eqL_append k l _ _ q he
    have sX : slice1 X off k.length = some ((X.drop off).take k.length) := by unfold slice1; rw [if_pos (by omega)]
    have sY : slice1 Y off k.length = some ((Y.drop off).take k.length) := by unfold slice1; rw [if_pos (by omega)]
    have pk : ∀ (Z : List AV), off + k.length ≤ Z.length → (∀ (i : Nat) (c : AV), Z[i]? = some c → isCell c = true) → (agg = false → k.length = 1) → ∃ c, pickCells agg ((Z.drop off).take k.length) = some c ∧ cells c = (Z.drop off).take k.length ∧ pickCells agg (cells c) = some c := by
      intro Z hZ cZ h1
      cases agg with
      | true => exact ⟨.agg ((Z.drop off).take k.length), by simp [pickCells], rfl, by simp [pickCells, cells]⟩
      | false =>
        have hk1 := h1 rfl
        have hlz : ((Z.drop off).take k.length).length = 1 := by simp; omega
        match hz : (Z.drop off).take k.length, hlz with
        | [c], _ =>
          have hc : Z[off]? = some c := by
            have : ((Z.drop off).take k.length)[0]? = some c := by rw [hz]; rfl
            rw [List.getElem?_take, List.getElem?_drop] at this
            split at this
            · simpa using this
            · cases this
          have hcell := cZ _ _ hc
          have hcc : cells c = [c] := by cases c <;> first | rfl | simp [isCell] at hcell
          exact ⟨c, by simp [pickCells], hcc, by rw [hcc]; simp [pickCells]⟩
    have hagg1 : agg = false → k.length = 1 := by
      intro ha
      subst ha
      exact ihlen f.type k hk hag
    obtain ⟨c, c1, c2, c3⟩ := pk X (by omega) cX hagg1
    obtain ⟨b, b1, b2, b3⟩ := pk Y (by omega) cY hagg1
    obtain ⟨v, v1, v2⟩ := part_ok hag h3 hX cX sX c1 w
    obtain ⟨u, u1, u2⟩ := part_ok hag h3 hY cY sY b1 w
    have heq := ih f.type k v u c b q1 hk ⟨agg, hag, c3, b3⟩ (by rw [c2]; simp; omega) (by rw [b2]; simp; omega) v2 u2 (by rw [c2, b2]; exact e1)
    rw [List.forIn_cons]
    simp only [Sem.run_bind, Sem.run_ite, h1, ne_eq, not_false_eq_true, if_true, h2, v1, u1, Result.andThen_ok, heq, Sem.run_pure]
    cases q1 with
    | false =>
      have := e3 rfl
      subst this
      simp
    | true =>
      have := ihf (off + k.length) l q hl2 (by omega) (by have := e2 rfl; rwa [List.drop_drop, List.drop_drop] at this)
      simpa using this
theorem leaves_one {d : Nat} {t : TypeId} {ls : List LK} (h : leaves P d t = some ls) (ha : cAgg P t = some false) : ls.length = 1 := by
  cases d with
  | zero => simp [leaves] at h
  | succ d =>
    unfold leaves at h
    split at h
    · obtain rfl := Option.some.inj h; rfl
    · obtain rfl := Option.some.inj h; rfl
    · obtain rfl := Option.some.inj h; rfl
    · rename_i hu
      simp [cAgg, hu] at ha
    · cases h
theorem equal_ok : ∀ (d : Nat) (t : TypeId) (ls : List LK) (v u : Value) (c b : AV) (q : Bool), leaves P d t = some ls → (∃ agg, cAgg P t = some agg ∧ pickCells agg (cells c) = some c ∧ pickCells agg (cells b) = some b) → (cells c).length = ls.length → (cells b).length = ls.length → V W0 m v c → V W0 m u b → eqL ls (cells c) (cells b) = some q →
    (Op.equalIn d t v u).run P w = .ok q w := by
  intro d
  induction d with
  | zero => intro t ls v u c b q h; simp [leaves] at h
  | succ d ih =>
    intro t ls v u c b q h hag lc lb hv hu heq
    by_cases hs : ∃ fs, P.underlying t = some (.struct fs)
    · obtain ⟨fs, hs⟩ := hs
      have hl := h
      unfold leaves at hl
      rw [hs] at hl
      simp only at hl
      split at hl
      · cases hl
      rename_i hstood
      obtain ⟨agg, hag, pc, pb⟩ := hag
      have : agg = true := by simpa [cAgg, hs] using hag.symm
      subst this
      simp only [pickCells, if_true] at pc pb
      have pc := (Option.some.inj pc).symm
      have pb := (Option.some.inj pb).symm
      rw [pc] at hv
      rw [pb] at hu
      obtain ⟨xs, hx, hX, cX⟩ := hv.inv_agg
      obtain ⟨ys, hy, hY, cY⟩ := hu.inv_agg
      have hf := fields_ok (P := P) (w := w) (leaves P d) (fun t ls => leaves_one) ih hX hY cX cY (by rw [lc, lb]) fs.toList 0 ls q hl (by omega) (by simpa using heq)
      rw [hx, hy]
      simp only [Op.equalIn, Sem.run_bind, run_underlying hs, Result.andThen_ok, run_program, hstood, if_false, Bool.false_eq_true]
      rw [← Array.forIn_toList]
      rw [hf]
      cases q <;> simp
    · have hns : ∀ fs, P.underlying t ≠ some (.struct fs) := fun fs hf => hs ⟨fs, hf⟩
      obtain ⟨agg, hag, pc, pb⟩ := hag
      have hlen : ls.length = 1 ∧ agg = false := by
        cases agg with
        | false => exact ⟨leaves_one h hag, rfl⟩
        | true =>
          exfalso
          unfold leaves at h
          split at h
          · rename_i hu; simp [cAgg, hu] at hag
          · rename_i hu; simp [cAgg, hu] at hag
          · rename_i hu; simp [cAgg, hu] at hag
          · rename_i hu; exact hns _ hu
          · cases h
      obtain ⟨h1, rfl⟩ := hlen
      obtain ⟨k, rfl⟩ : ∃ k, ls = [k] := by
        match ls, h1 with
        | [k], _ => exact ⟨k, rfl⟩
      obtain ⟨x, hx⟩ : ∃ x, cells c = [x] := by
        match hc : cells c, lc with
        | [x], _ => exact ⟨x, rfl⟩
      obtain ⟨y, hy⟩ : ∃ y, cells b = [y] := by
        match hb : cells b, lb with
        | [y], _ => exact ⟨y, rfl⟩
      rw [hx] at pc
      rw [hy] at pb
      rw [hx, hy] at heq
      obtain rfl : x = c := by simpa [pickCells] using pc
      obtain rfl : y = b := by simpa [pickCells] using pb
      have : eqLf k x y = some q := by
        simp only [eqL] at heq
        split at heq
        · rename_i hh; rw [hh]; exact heq
        · rename_i hh; rw [hh]; exact heq
        · cases heq
      exact eqLf_ok h hns hv hu this
theorem leavesF_mono (lv lv' : TypeId → Option (List LK)) (h : ∀ t ls, lv t = some ls → lv' t = some ls) : ∀ (fs : List Field) (off : Nat) (ls : List LK), leavesF P lv fs off = some ls → leavesF P lv' fs off = some ls := by
  intro fs
  induction fs with
  | nil => intro off ls hh; exact hh
  | cons f fs ih =>
    intro off ls hh
    simp only [leavesF, Option.bind_eq_bind] at hh ⊢
    obtain ⟨k, hk, hh⟩ := Option.bind_eq_some_iff.mp hh
    rw [h _ _ hk, Option.bind_some]
    split at hh
    · rename_i hc
      rw [if_pos hc]
      obtain ⟨l, hl, hh⟩ := Option.bind_eq_some_iff.mp hh
      rw [ih _ _ hl]
      exact hh
    · cases hh
theorem leaves_mono : ∀ (d : Nat) (t : TypeId) (ls : List LK), leaves P d t = some ls → leaves P (d + 1) t = some ls := by
  intro d
  induction d with
  | zero => intro t ls h; simp [leaves] at h
  | succ d ih =>
    intro t ls h
    unfold leaves at h ⊢
    split at h
    · exact h
    · exact h
    · exact h
    · split at h
      · cases h
      · rename_i hs
        simp only [hs]
        exact leavesF_mono _ _ ih _ _ _ h
    · cases h
theorem leaves_more {d : Nat} {t : TypeId} {ls : List LK} (k : Nat) (h : leaves P d t = some ls) : leaves P (d + k) t = some ls := by
  induction k with
  | zero => exact h
  | succ k ih => exact leaves_mono _ _ _ ih
theorem eqGuard_ok {op : BinOp} {t : TypeId} {x y : Operand} {v u : Value} (h : (∃ b c, v = .bool b ∧ u = .bool c) ∨ (∃ p q r p' q' r', v = .slice p q r ∧ u = .slice p' q' r') ∨ (∃ p q, v = .pointer p ∧ u = .pointer q) ∨
    ((v = .nilFunc ∨ ∃ p q r, v = .func p q r) ∧ (u = .nilFunc ∨ ∃ p q r, u = .func p q r)) ∨ ((v = .nilIface ∨ ∃ t z, v = .iface t z) ∧ (u = .nilIface ∨ ∃ t z, u = .iface t z) ∧ (isConst x || isConst y) = true) ∨
    (∃ p q, v = .agg p ∧ u = .agg q ∧ P.eqGuardType P.depth t = false)) : (eqGuard op t x y v u).run P w = .ok () w := by
  have hcst : ∀ z : Operand, isConst z = true → ∃ c, z = .const c := by
    intro z hz
    cases z <;> simp [isConst] at hz
    exact ⟨_, rfl⟩
  unfold eqGuard
  cases op <;> simp
  all_goals
    rcases h with ⟨b, c, rfl, rfl⟩ | ⟨p, q, r, p', q', r', rfl, rfl⟩ | ⟨p, q, rfl, rfl⟩ | ⟨hv, hu⟩ | ⟨hv, hu, hc⟩ | ⟨p, q, rfl, rfl, hg⟩
    · simp
    · simp
    · simp
    · rcases hv with rfl | ⟨_, _, _, rfl⟩ <;> rcases hu with rfl | ⟨_, _, _, rfl⟩ <;> simp
    · rcases hv with rfl | ⟨_, _, rfl⟩ <;> rcases hu with rfl | ⟨_, _, rfl⟩ <;> try simp
      rcases Bool.or_eq_true_iff.mp hc with hc | hc <;> obtain ⟨c, rfl⟩ := hcst _ hc <;> simp
    · simp [hg]
theorem V.slice_of {v : Value} {c : AV} (hv : V W0 m v c) (h : c = .nilS ∨ (∃ xs, c = .sl xs) ∨ (∃ r i n z, c = .own r i n z) ∨ c = .emp) : (c = .nilS ∧ v = .slice none 0 0) ∨ (c ≠ .nilS ∧ ∃ p l k, v = .slice (some p) l k) := by
  rcases h with rfl | ⟨xs, rfl⟩ | ⟨r, i, n, z, rfl⟩ | rfl
  · exact .inl ⟨rfl, hv.inv_nilS⟩
  · obtain ⟨ad, cap, e, h1, _⟩ := hv.inv_sl; exact .inr ⟨by simp, _, _, _, h1⟩
  · obtain ⟨off, cp, pl, h1, _⟩ := hv.inv_own; exact .inr ⟨by simp, _, _, _, h1⟩
  · obtain ⟨ad, h1⟩ := hv.inv_emp; exact .inr ⟨by simp, _, _, _, h1⟩
theorem eqA_ok {t : TypeId} {k : EK} {x y : Operand} {v u : Value} {c b : AV} {q : Bool} (hk : eqKind P t x y = some k) (hv : V W0 m v c) (hu : V W0 m u b) (h : eqA k c b = some q) (op : BinOp) :
    (Op.equal t v u).run P w = .ok q w ∧ (eqGuard op t x y v u).run P w = .ok () w ∧
    ((∃ b c, v = .bool b ∧ u = .bool c) ∨ (∃ p q r p' q' r', v = .slice p q r ∧ u = .slice p' q' r') ∨ (∃ p q, v = .pointer p ∧ u = .pointer q) ∨
    ((v = .nilFunc ∨ ∃ p q r, v = .func p q r) ∧ (u = .nilFunc ∨ ∃ p q r, u = .func p q r)) ∨ ((v = .nilIface ∨ ∃ t z, v = .iface t z) ∧ (u = .nilIface ∨ ∃ t z, u = .iface t z)) ∨
    (∃ p q, v = .agg p ∧ u = .agg q)) := by
  unfold eqKind at hk
  obtain ⟨D, h10⟩ : ∃ D, Op.maxDepth = D + 1 := ⟨9999, rfl⟩
  split at hk
  · rename_i hty
    obtain rfl := Option.some.inj hk
    cases c <;> try (simp [eqA] at h; done)
    cases b <;> try (simp [eqA] at h; done)
    simp only [eqA] at h
    obtain rfl := Option.some.inj h
    have e1 := hv.inv_bool
    have e2 := hu.inv_bool
    subst e1 e2
    refine ⟨?_, eqGuard_ok (.inl ⟨_, _, rfl, rfl⟩), .inl ⟨_, _, rfl, rfl⟩⟩
    unfold Op.equal
    rw [h10]
    simp [Op.equalIn, run_underlying hty]
  · rename_i el hty
    obtain rfl := Option.some.inj hk
    have hcb : (c = .nilS ∨ (∃ xs, c = .sl xs) ∨ (∃ r i n z, c = .own r i n z) ∨ c = .emp) ∧ (b = .nilS ∨ (∃ xs, b = .sl xs) ∨ (∃ r i n z, b = .own r i n z) ∨ b = .emp) ∧ ((c = .nilS ∧ b = .nilS ∧ q = true) ∨ (c = .nilS ∧ b ≠ .nilS ∧ q = false) ∨ (c ≠ .nilS ∧ b = .nilS ∧ q = false)) := by
      cases c <;> cases b <;> simp [eqA] at h <;> subst h <;> simp
    obtain ⟨k1, k2, k3⟩ := hcb
    have s1 := hv.slice_of k1
    have s2 := hu.slice_of k2
    have key : (∃ p q r p' q' r', v = .slice p q r ∧ u = .slice p' q' r') ∧ (Op.equal t v u).run P w = .ok q w := by
      unfold Op.equal
      rw [h10]
      rcases k3 with ⟨rfl, rfl, rfl⟩ | ⟨rfl, hb, rfl⟩ | ⟨hc, rfl, rfl⟩
      · have e1 := hv.inv_nilS
        have e2 := hu.inv_nilS
        subst e1 e2
        exact ⟨⟨_, _, _, _, _, _, rfl, rfl⟩, by simp [Op.equalIn, run_underlying hty]⟩
      · have e1 := hv.inv_nilS
        subst e1
        rcases s2 with ⟨h, _⟩ | ⟨_, p, l, kk, rfl⟩
        · exact absurd h hb
        · exact ⟨⟨_, _, _, _, _, _, rfl, rfl⟩, by simp [Op.equalIn, run_underlying hty]⟩
      · have e2 := hu.inv_nilS
        subst e2
        rcases s1 with ⟨h, _⟩ | ⟨_, p, l, kk, rfl⟩
        · exact absurd h hc
        · exact ⟨⟨_, _, _, _, _, _, rfl, rfl⟩, by simp [Op.equalIn, run_underlying hty]⟩
    exact ⟨key.2, eqGuard_ok (.inr (.inl key.1)), .inr (.inl key.1)⟩
  · rename_i hty
    obtain rfl := Option.some.inj hk
    have key : ((v = .nilFunc ∨ ∃ p q r, v = .func p q r) ∧ (u = .nilFunc ∨ ∃ p q r, u = .func p q r)) ∧ (Op.equal t v u).run P w = .ok q w := by
      unfold Op.equal
      rw [h10]
      cases c <;> try (simp [eqA] at h; done)
      · cases b <;> try (simp [eqA] at h; done)
        simp only [eqA] at h
        obtain rfl := Option.some.inj h
        obtain ⟨caps, rfl, _⟩ := hv.inv_fn
        have e2 := hu.inv_nilF
        subst e2
        exact ⟨⟨.inr ⟨_, _, _, rfl⟩, .inl rfl⟩, by simp [Op.equalIn, run_underlying hty]⟩
      · have e1 := hv.inv_nilF
        subst e1
        cases b <;> try (simp [eqA] at h; done)
        · simp only [eqA] at h
          obtain rfl := Option.some.inj h
          obtain ⟨caps, rfl, _⟩ := hu.inv_fn
          exact ⟨⟨.inl rfl, .inr ⟨_, _, _, rfl⟩⟩, by simp [Op.equalIn, run_underlying hty]⟩
        · simp only [eqA] at h
          obtain rfl := Option.some.inj h
          have e2 := hu.inv_nilF
          subst e2
          exact ⟨⟨.inl rfl, .inl rfl⟩, by simp [Op.equalIn, run_underlying hty]⟩
    exact ⟨key.2, eqGuard_ok (.inr (.inr (.inr (.inl key.1)))), .inr (.inr (.inr (.inl key.1)))⟩
  · rename_i hty
    split at hk
    case isFalse => cases hk
    rename_i hcst
    obtain rfl := Option.some.inj hk
    have key : ((v = .nilIface ∨ ∃ t z, v = .iface t z) ∧ (u = .nilIface ∨ ∃ t z, u = .iface t z)) ∧ (Op.equal t v u).run P w = .ok q w := by
      unfold Op.equal
      rw [h10]
      cases c <;> try (simp [eqA] at h; done)
      · cases b <;> try (simp [eqA] at h; done)
        simp only [eqA] at h
        obtain rfl := Option.some.inj h
        obtain ⟨z, rfl, _⟩ := hv.inv_ifc
        have e2 := hu.inv_nilI
        subst e2
        exact ⟨⟨.inr ⟨_, _, rfl⟩, .inl rfl⟩, by simp [Op.equalIn, run_underlying hty]⟩
      · have e1 := hv.inv_nilI
        subst e1
        cases b <;> try (simp [eqA] at h; done)
        · simp only [eqA] at h
          obtain rfl := Option.some.inj h
          obtain ⟨z, rfl, _⟩ := hu.inv_ifc
          exact ⟨⟨.inl rfl, .inr ⟨_, _, rfl⟩⟩, by simp [Op.equalIn, run_underlying hty]⟩
        · simp only [eqA] at h
          obtain rfl := Option.some.inj h
          have e2 := hu.inv_nilI
          subst e2
          exact ⟨⟨.inl rfl, .inl rfl⟩, by simp [Op.equalIn, run_underlying hty]⟩
    exact ⟨key.2, eqGuard_ok (.inr (.inr (.inr (.inr (.inl ⟨key.1.1, key.1.2, hcst⟩))))), .inr (.inr (.inr (.inr (.inl key.1))))⟩
  · rename_i el hty
    obtain rfl := Option.some.inj hk
    have key : (∃ p q, v = .pointer p ∧ u = .pointer q) ∧ (Op.equal t v u).run P w = .ok q w := by
      unfold Op.equal
      rw [h10]
      cases c <;> try (simp [eqA] at h; done)
      · have e1 := hv.inv_nilP
        subst e1
        cases b <;> try (simp [eqA] at h; done)
        · simp only [eqA] at h
          obtain rfl := Option.some.inj h
          have e2 := hu.inv_nilP
          subst e2
          exact ⟨⟨_, _, rfl, rfl⟩, by simp [Op.equalIn, run_underlying hty]⟩
        · simp only [eqA] at h
          obtain rfl := Option.some.inj h
          obtain ⟨pl, rfl, _⟩ := hu.inv_ptr
          exact ⟨⟨_, _, rfl, rfl⟩, by simp [Op.equalIn, run_underlying hty]⟩
      · cases b <;> try (simp [eqA] at h; done)
        simp only [eqA] at h
        obtain rfl := Option.some.inj h
        obtain ⟨pl, rfl, _⟩ := hv.inv_ptr
        have e2 := hu.inv_nilP
        subst e2
        exact ⟨⟨_, _, rfl, rfl⟩, by simp [Op.equalIn, run_underlying hty]⟩
    exact ⟨key.2, eqGuard_ok (.inr (.inr (.inl key.1))), .inr (.inr (.inl key.1))⟩
  · rename_i fs hty
    split at hk
    case isTrue => cases hk
    rename_i hg
    obtain ⟨ls, hls, rfl⟩ := Option.map_eq_some_iff.mp hk
    cases c <;> try (simp [eqA] at h; done)
    cases b <;> try (simp [eqA] at h; done)
    rename_i X Y
    simp only [eqA] at h
    obtain ⟨xs, rfl, hX, cX⟩ := hv.inv_agg
    obtain ⟨ys, rfl, hY, cY⟩ := hu.inv_agg
    refine ⟨?_, eqGuard_ok (.inr (.inr (.inr (.inr (.inr ⟨_, _, rfl, rfl, by simpa using hg⟩))))), .inr (.inr (.inr (.inr (.inr ⟨_, _, rfl, rfl⟩))))⟩
    split at h
    case isFalse => cases h
    rename_i hl
    have hls' := leaves_more 9980 hls
    have e0 : Op.maxDepth = 20 + 9980 := rfl
    unfold Op.equal
    rw [e0]
    exact equal_ok _ t ls _ _ (.agg X) (.agg Y) q hls' ⟨true, by simp [cAgg, hty], rfl, rfl⟩ hl.1 hl.2 hv hu h
  · cases hk
end
end Go.VI
/- Each operation, on related values: maps, clear. No statement of the seat is proved here. -/
namespace Go.VI
open Go Go.RowKit
section
variable {P : Program} {W0 : World} {m m' : PM} {s s' : Mem} {w w' : World} {n : Nat} {a : Act} {e : Env} {o : Oper} {r : AV}
theorem keyOk_one {ks : List LK} {c : AV} (h : keyOk ks false c = true) : cells c = [c] ∧ (∃ k, ks = [k]) ∧ isCell c = true := by
  have hk : ∀ ks : List LK, ks.length = 1 → ∃ k, ks = [k] := by
    intro ks h
    match ks, h with
    | [k], _ => exact ⟨k, rfl⟩
  cases c <;> simp [keyOk] at h <;> exact ⟨rfl, hk _ h, rfl⟩
theorem keyOk_agg {ks : List LK} {c : AV} (h : keyOk ks true c = true) : ∃ cs, c = .agg cs ∧ cs.length = ks.length := by
  cases c <;> simp [keyOk] at h
  exact ⟨_, rfl, h⟩
theorem eqLf_same {k : LK} {v u : Value} {c b : AV} (hv : V W0 m v c) (hu : V W0 m u b) (h : eqLf k c b = some true) : v = u ∧ ∀ n, Instr.sameBits n v v = true := by
  cases k <;> cases c <;> (try (cases h; done)) <;> cases b <;> simp only [eqLf] at h <;> (try (cases h; done))
  · rename_i b1 b2
    have : b1 = b2 := by simpa using h
    subst this
    rw [hv.inv_bool, hu.inv_bool]
    exact ⟨rfl, fun n => by cases n <;> simp [Instr.sameBits]⟩
  · split at h
    · rename_i hk
      subst hk
      rename_i n1 n2
      have : n1 = n2 := by simpa using h
      subst this
      rw [hv.inv_int, hu.inv_int]
      exact ⟨rfl, fun n => by cases n <;> simp [Instr.sameBits]⟩
    · cases h
  · rename_i s1 s2
    have hh : s1 = s2 := by simpa using h
    obtain ⟨x, hx, h1⟩ := hv.inv_str
    obtain ⟨y, hy, h2⟩ := hu.inv_str
    rw [hx, hy]
    have : x = y := by
      cases x; cases y
      simp only at h1 h2
      congr 1
      exact Array.toList_inj.mp (by rw [h1, h2, hh])
    subst this
    exact ⟨rfl, fun n => by cases n <;> (simp only [Instr.sameBits]; exact (MapKept.bytes_beq _ _).mpr rfl)⟩
theorem eqL_same : ∀ (ks : List LK) (X Y : List AV) (vs us : List Value), eqL ks X Y = some true → vs.length = X.length → us.length = Y.length →
    (∀ (i : Nat) (v : Value) (c : AV), vs[i]? = some v → X[i]? = some c → V W0 m v c) → (∀ (i : Nat) (v : Value) (c : AV), us[i]? = some v → Y[i]? = some c → V W0 m v c) →
    vs = us ∧ ∀ v ∈ vs, ∀ n, Instr.sameBits n v v = true := by
  intro ks
  induction ks with
  | nil =>
    intro X Y vs us h h1 h2 _ _
    match X, Y, h with
    | [], [], _ =>
      obtain rfl := List.eq_nil_of_length_eq_zero h1
      obtain rfl := List.eq_nil_of_length_eq_zero h2
      exact ⟨rfl, by simp⟩
    | [], _ :: _, h => simp [eqL] at h
    | _ :: _, [], h => simp [eqL] at h
    | _ :: _, _ :: _, h => simp [eqL] at h
  | cons k ks ih =>
    intro X Y vs us h h1 h2 hX hY
    match X, Y, vs, us, h, h1, h2 with
    | x :: X, y :: Y, v :: vs, u :: us, h, h1, h2 =>
      simp only [eqL] at h
      split at h
      · rename_i hh
        obtain ⟨rfl, hs⟩ := eqLf_same (hX 0 v x rfl rfl) (hY 0 u y rfl rfl) hh
        obtain ⟨rfl, hr⟩ := ih X Y vs us h (by simpa using h1) (by simpa using h2) (fun i v c a b => hX (i + 1) v c (by simpa using a) (by simpa using b)) (fun i v c a b => hY (i + 1) v c (by simpa using a) (by simpa using b))
        refine ⟨rfl, ?_⟩
        intro q hq
        rcases List.mem_cons.mp hq with rfl | hq
        · exact hs
        · exact hr q hq
      · cases h
      · cases h
    | [], [], _, _, h, _, _ => simp [eqL] at h
    | [], _ :: _, _, _, h, _, _ => simp [eqL] at h
    | _ :: _, [], _, _, h, _, _ => simp [eqL] at h
theorem key_same {ks : List LK} {ag : Bool} {v u : Value} {c b : AV} (hc : keyOk ks ag c = true) (hb : keyOk ks ag b = true) (hv : V W0 m v c) (hu : V W0 m u b) (h : eqL ks (cells c) (cells b) = some true) :
    v = u ∧ Instr.sameBits 10000 v v = true := by
  cases ag with
  | false =>
    obtain ⟨e1, ⟨k, rfl⟩, _⟩ := keyOk_one hc
    obtain ⟨e2, _, _⟩ := keyOk_one hb
    rw [e1, e2] at h
    have : eqLf k c b = some true := by
      simp only [eqL] at h
      split at h
      · assumption
      · cases h
      · cases h
    obtain ⟨h1, h2⟩ := eqLf_same hv hu this
    exact ⟨h1, h2 _⟩
  | true =>
    obtain ⟨cs, rfl, _⟩ := keyOk_agg hc
    obtain ⟨bs, rfl, _⟩ := keyOk_agg hb
    obtain ⟨vs, rfl, ⟨h1, h2⟩, _⟩ := hv.inv_agg
    obtain ⟨us, rfl, ⟨h3, h4⟩, _⟩ := hu.inv_agg
    obtain ⟨g1, g2⟩ := eqL_same ks _ _ vs.toList us.toList h (by simpa [cells] using h1) (by simpa [cells] using h3) (fun i v c a b => h2 i v c (by simpa using a) b) (fun i v c a b => h4 i v c (by simpa using a) b)
    obtain rfl := Array.toList_inj.mp g1
    refine ⟨rfl, ?_⟩
    have : Instr.sameBits 10000 (.agg vs) (.agg vs) = (vs.size == vs.size && (vs.toList.zip vs.toList).all fun x => match x with | (x, y) => Instr.sameBits 9999 x y) := rfl
    rw [this]
    simp only [beq_self_eq_true, Bool.true_and, List.all_eq_true]
    rintro ⟨x, y⟩ hxy
    obtain ⟨i, hi⟩ := List.mem_iff_getElem?.mp hxy
    rw [List.getElem?_zip_eq_some] at hi
    obtain ⟨a1, a2⟩ := hi
    simp only at a1 a2
    rw [a1] at a2
    obtain rfl := Option.some.inj a2
    exact g2 x (List.mem_of_getElem? a1) 9999
theorem leaf_check {d : Nat} {t : TypeId} {ls : List LK} (hk : leaves P (d + 1) t = some ls) (hns : ∀ fs, P.underlying t ≠ some (.struct fs)) (v : Value) (em : Bool) (n : Nat) : (Instr.checkKey em (n + 1) t v).run P w = .ok () w := by
  unfold leaves at hk
  split at hk
  · rename_i hty; simp [Instr.checkKey, run_underlying hty]
  · rename_i hty; simp [Instr.checkKey, run_underlying hty]
  · rename_i hty; simp [Instr.checkKey, run_underlying hty]
  · rename_i hty; exact absurd hty (hns _)
  · cases hk
theorem check_fields {n : Nat} {em : Bool} (lv : TypeId → Option (List LK)) (ih : ∀ (t : TypeId) (ls : List LK) (v : Value) (c : AV), lv t = some ls → (∃ agg, cAgg P t = some agg ∧ pickCells agg (cells c) = some c) → (cells c).length = ls.length → V W0 m v c → (Instr.checkKey em n t v).run P w = .ok () w)
    (ihlen : ∀ (t : TypeId) (ls : List LK), lv t = some ls → cAgg P t = some false → ls.length = 1)
    {xs : Array Value} {X : List AV} (hX : VL W0 m xs X) (cX : ∀ (i : Nat) (c : AV), X[i]? = some c → isCell c = true) :
    ∀ (fs : List Field) (off : Nat) (ls : List LK), leavesF P lv fs off = some ls → off + ls.length = X.length →
      (forIn fs () (fun f _ => (if f.name ≠ "_" then do
                let p ← part f.type xs f.offset
                Instr.checkKey em n f.type p
                pure (ForInStep.yield ())
              else pure (ForInStep.yield ()) : Sem (ForInStep Unit)))).run P w = .ok () w := by
  intro fs
  induction fs with
  | nil => intro off ls _ _; simp
  | cons f fs ihf =>
    intro off ls h hl
    simp only [leavesF, Option.bind_eq_bind] at h
    obtain ⟨k, hk, h⟩ := Option.bind_eq_some_iff.mp h
    split at h
    case isFalse => cases h
    rename_i hh
    obtain ⟨h1, h2, h3, h4⟩ := hh
    obtain ⟨l, hl2, h⟩ := Option.bind_eq_some_iff.mp h
    obtain rfl := Option.some.inj h
    obtain ⟨agg, hag⟩ := Option.isSome_iff_exists.mp h4
    simp only [List.length_append] at hl
    have sX : slice1 X off k.length = some ((X.drop off).take k.length) := by unfold slice1; rw [if_pos (by omega)]
    have pk : ∃ c, pickCells agg ((X.drop off).take k.length) = some c ∧ cells c = (X.drop off).take k.length ∧ pickCells agg (cells c) = some c := by
      cases agg with
      | true => exact ⟨.agg ((X.drop off).take k.length), by simp [pickCells], rfl, by simp [pickCells, cells]⟩
      | false =>
        have hk1 := ihlen f.type k hk hag
        have hlz : ((X.drop off).take k.length).length = 1 := by simp; omega
        match hz : (X.drop off).take k.length, hlz with
        | [c], _ =>
          have hc : X[off]? = some c := by
            have : ((X.drop off).take k.length)[0]? = some c := by rw [hz]; rfl
            rw [List.getElem?_take, List.getElem?_drop] at this
            split at this
            · simpa using this
            · cases this
          have hcell := cX _ _ hc
          have hcc : cells c = [c] := by cases c <;> first | rfl | simp [isCell] at hcell
          exact ⟨c, by simp [pickCells], hcc, by rw [hcc]; simp [pickCells]⟩
    obtain ⟨c, c1, c2, c3⟩ := pk
    obtain ⟨v, v1, v2⟩ := part_ok hag h3 hX cX sX c1 w
    have heq := ih f.type k v c hk ⟨agg, hag, c3⟩ (by rw [c2]; simp; omega) v2
    rw [List.forIn_cons]
    simp only [Sem.run_bind, h1, ne_eq, not_false_eq_true, if_true, h2, v1, Result.andThen_ok, heq, Sem.run_pure]
    exact ihf (off + k.length) l hl2 (by omega)
theorem check_ok (em : Bool) : ∀ (d n : Nat) (t : TypeId) (ls : List LK) (v : Value) (c : AV), d ≤ n → leaves P d t = some ls → (∃ agg, cAgg P t = some agg ∧ pickCells agg (cells c) = some c) → (cells c).length = ls.length → V W0 m v c →
    (Instr.checkKey em n t v).run P w = .ok () w := by
  intro d
  induction d with
  | zero => intro n t ls v c _ h; simp [leaves] at h
  | succ d ih =>
    intro n t ls v c hn h hag lc hv
    obtain ⟨n, rfl⟩ : ∃ k, n = k + 1 := ⟨n - 1, by omega⟩
    by_cases hs : ∃ fs, P.underlying t = some (.struct fs)
    · obtain ⟨fs, hs⟩ := hs
      have hl := h
      unfold leaves at hl
      rw [hs] at hl
      simp only at hl
      split at hl
      · cases hl
      obtain ⟨agg, hag, pc⟩ := hag
      have : agg = true := by simpa [cAgg, hs] using hag.symm
      subst this
      simp only [pickCells, if_true] at pc
      have pc := (Option.some.inj pc).symm
      rw [pc] at hv
      obtain ⟨xs, hx, hX, cX⟩ := hv.inv_agg
      have hf := check_fields (P := P) (w := w) (em := em) (n := n) (leaves P d) (fun t ls v c h1 h2 h3 h4 => ih n t ls v c (by omega) h1 h2 h3 h4) (fun t ls => leaves_one) hX cX fs.toList 0 ls hl (by omega)
      rw [hx]
      simp only [Instr.checkKey, Sem.run_bind, run_underlying hs, Result.andThen_ok]
      rw [← Array.forIn_toList]
      have hf' := hf
      simp only [ne_eq] at hf'
      refine Eq.trans (congrArg (fun r => Result.andThen r _) (Eq.trans (congrArg (fun z => Sem.run P z w) ?_) hf')) ?_
      · rfl
      · simp
    · exact leaf_check h (fun fs hf => hs ⟨fs, hf⟩) v em n
theorem key_shape {ks : List LK} {ag : Bool} {c : AV} (h : keyOk ks ag c = true) : pickCells ag (cells c) = some c ∧ (cells c).length = ks.length := by
  cases ag with
  | false =>
    obtain ⟨e1, ⟨k, rfl⟩, _⟩ := keyOk_one h
    rw [e1]; exact ⟨by simp [pickCells], rfl⟩
  | true =>
    obtain ⟨cs, rfl, hl⟩ := keyOk_agg h
    exact ⟨by simp [pickCells, cells], hl⟩
theorem key_check {ks : List LK} {ag : Bool} {kt : TypeId} {v : Value} {c : AV} (hl : leaves P 20 kt = some ks) (hag : cAgg P kt = some ag) (hc : keyOk ks ag c = true) (hv : V W0 m v c) (em : Bool) : (Instr.checkKey em 10000 kt v).run P w = .ok () w :=
  check_ok em 20 10000 kt ks v c (by omega) hl ⟨ag, hag, (key_shape hc).1⟩ (key_shape hc).2 hv
theorem key_equal {ks : List LK} {ag : Bool} {kt : TypeId} {v u : Value} {c b : AV} {q : Bool} (hl : leaves P 20 kt = some ks) (hag : cAgg P kt = some ag) (hc : keyOk ks ag c = true) (hb : keyOk ks ag b = true) (hv : V W0 m v c) (hu : V W0 m u b) (h : eqL ks (cells c) (cells b) = some q) :
    (Op.equal kt v u).run P w = .ok q w := by
  have := leaves_more (P := P) 9980 hl
  exact equal_ok 10000 kt ks v u c b q this ⟨ag, hag, (key_shape hc).1, (key_shape hb).1⟩ (key_shape hc).2 (key_shape hb).2 hv hu h
theorem find_asking {ks : List LK} {ag : Bool} {kt : TypeId} {v : Value} {c : AV} (hl : leaves P 20 kt = some ks) (hag : cAgg P kt = some ag) (hc : keyOk ks ag c = true) (hv : V W0 m v c) :
    ∀ (xs : List (List AV)) (es : List MapEntry) (i : Nat) (q : Option (Nat × AV)), es.length = xs.length →
      (∀ (j : Nat) (en : MapEntry) (x : List AV), es[j]? = some en → xs[j]? = some x → ∃ k y, x = [k, y] ∧ V W0 m en.key k ∧ V W0 m en.val y) → findM ks ag (cells c) i xs = some q →
      ∃ r, (Instr.findAsking kt v es i).run P w = .ok r w ∧ (match q with
        | none => r = none
        | some p => ∃ y en j k, r = some (p.1, y) ∧ p.1 = i + j ∧ es[j]? = some en ∧ xs[j]? = some [k, p.2] ∧ en.val = y ∧ V W0 m y p.2 ∧ keyOk ks ag k = true ∧ V W0 m en.key k ∧ eqL ks (cells c) (cells k) = some true) := by
  intro xs
  induction xs with
  | nil =>
    intro es i q hlen _ h
    obtain rfl := List.eq_nil_of_length_eq_zero hlen
    simp only [findM] at h
    obtain rfl := Option.some.inj h
    exact ⟨none, by simp [Instr.findAsking], rfl⟩
  | cons x xs ih =>
    intro es i q hlen hall h
    match es, hlen with
    | en :: es, hlen =>
      obtain ⟨k, y, rfl, hk, hy⟩ := hall 0 en x rfl rfl
      simp only [findM] at h
      split at h
      case isFalse => cases h
      rename_i hko
      split at h
      · rename_i heq
        obtain rfl := Option.some.inj h
        exact ⟨some (i, en.val), by simp [Instr.findAsking, key_equal hl hag hc hko hv hk heq], en.val, en, 0, k, rfl, rfl, rfl, rfl, rfl, hy, hko, hk, heq⟩
      · rename_i heq
        obtain ⟨r, h1, h2⟩ := ih es (i + 1) q (by simpa using hlen) (fun j en x a b => hall (j + 1) en x (by simpa using a) (by simpa using b)) h
        refine ⟨r, by simp [Instr.findAsking, key_equal hl hag hc hko hv hk heq, h1], ?_⟩
        cases q with
        | none => exact h2
        | some p =>
          obtain ⟨y, en', j, k', g1, g2, g3, g4, g5⟩ := h2
          exact ⟨y, en', j + 1, k', g1, by omega, by simpa using g3, by simpa using g4, g5⟩
      · cases h
theorem find_now {k : LK} {kt : TypeId} {d : TypeDesc} {v : Value} {c : AV} (hl : leaves P 20 kt = some [k]) (hd : P.underlying kt = some d) (hns : ∀ fs, d ≠ .struct fs) (hc : keyOk [k] false c = true) (hv : V W0 m v c) :
    ∀ (xs : List (List AV)) (es : List MapEntry) (i : Nat) (q : Option (Nat × AV)), es.length = xs.length →
      (∀ (j : Nat) (en : MapEntry) (x : List AV), es[j]? = some en → xs[j]? = some x → ∃ k y, x = [k, y] ∧ V W0 m en.key k ∧ V W0 m en.val y) → findM [k] false (cells c) i xs = some q →
      ∃ r, Instr.findNow d v es i = some r ∧ (match q with
        | none => r = none
        | some p => ∃ y en j x, r = some (p.1, y) ∧ p.1 = i + j ∧ es[j]? = some en ∧ xs[j]? = some [x, p.2] ∧ en.val = y ∧ V W0 m y p.2 ∧ keyOk [k] false x = true ∧ V W0 m en.key x ∧ eqL [k] (cells c) (cells x) = some true) := by
  have now : ∀ (u : Value) (b : AV) (q : Bool), keyOk [k] false b = true → V W0 m u b → eqL [k] (cells c) (cells b) = some q → Instr.sameNow d v u = some q := by
    intro u b q hb hu h
    obtain ⟨e1, _, _⟩ := keyOk_one hc
    obtain ⟨e2, _, _⟩ := keyOk_one hb
    rw [e1, e2] at h
    have hq : eqLf k c b = some q := by
      simp only [eqL] at h
      split at h
      · rename_i hh; rw [hh]; exact h
      · rename_i hh; rw [hh]; exact h
      · cases h
    unfold leaves at hl
    rw [hd] at hl
    cases k <;> cases c <;> (try (cases hq; done)) <;> cases b <;> simp only [eqLf] at hq <;> (try (cases hq; done))
    · rw [hv.inv_bool, hu.inv_bool]
      cases d <;> simp at hl <;> first | (simpa [Instr.sameNow] using hq) | (exact absurd rfl (hns _))
    · rw [hv.inv_int, hu.inv_int]
      cases d <;> simp at hl <;> first | (simpa [Instr.sameNow] using hq) | (exact absurd rfl (hns _))
    · obtain ⟨x, hx, rfl⟩ := hv.inv_str
      obtain ⟨y, hy, rfl⟩ := hu.inv_str
      rw [hx, hy]
      have hxy : (x == y) = (x.data.toList == y.data.toList) := by
        rw [Bool.eq_iff_iff, MapKept.bytes_beq, beq_iff_eq]
        constructor
        · intro h; rw [h]
        · intro h
          cases x; cases y
          simp only at h
          congr 1
          exact Array.toList_inj.mp h
      cases d <;> simp at hl <;> first | (simp only [Instr.sameNow, hxy]; exact hq) | (exact absurd rfl (hns _))
  intro xs
  induction xs with
  | nil =>
    intro es i q hlen _ h
    obtain rfl := List.eq_nil_of_length_eq_zero hlen
    simp only [findM] at h
    obtain rfl := Option.some.inj h
    exact ⟨none, rfl, rfl⟩
  | cons x xs ih =>
    intro es i q hlen hall h
    match es, hlen with
    | en :: es, hlen =>
      obtain ⟨x, y, rfl, hk, hy⟩ := hall 0 en x rfl rfl
      simp only [findM] at h
      split at h
      case isFalse => cases h
      rename_i hko
      split at h
      · rename_i heq
        obtain rfl := Option.some.inj h
        exact ⟨some (i, en.val), by simp [Instr.findNow, now _ _ _ hko hk heq], en.val, en, 0, x, rfl, rfl, rfl, rfl, rfl, hy, hko, hk, heq⟩
      · rename_i heq
        obtain ⟨r, h1, h2⟩ := ih es (i + 1) q (by simpa using hlen) (fun j en x a b => hall (j + 1) en x (by simpa using a) (by simpa using b)) h
        refine ⟨r, by simp [Instr.findNow, now _ _ _ hko hk heq, h1], ?_⟩
        cases q with
        | none => exact h2
        | some p =>
          obtain ⟨y, en', j, k', g1, g2, g3, g4, g5⟩ := h2
          exact ⟨y, en', j + 1, k', g1, by omega, by simpa using g3, by simpa using g4, g5⟩
      · cases h
theorem findNow_struct {fs : Array Field} {v : Value} : ∀ (es : List MapEntry) (i : Nat), es ≠ [] → Instr.findNow (.struct fs) v es i = none := by
  intro es i h
  match es, h with
  | e :: es, _ => simp [Instr.findNow, Instr.sameNow]
theorem find_ok {ks : List LK} {ag : Bool} {kt : TypeId} {v : Value} {c : AV} (hl : leaves P 20 kt = some ks) (hag : cAgg P kt = some ag) (hc : keyOk ks ag c = true) (hv : V W0 m v c)
    {xs : List (List AV)} {es : Array MapEntry} {q : Option (Nat × AV)} (hlen : es.size = xs.length)
    (hall : ∀ (j : Nat) (en : MapEntry) (x : List AV), es[j]? = some en → xs[j]? = some x → ∃ k y, x = [k, y] ∧ V W0 m en.key k ∧ V W0 m en.val y) (h : findM ks ag (cells c) 0 xs = some q) :
    ∃ r, (Instr.findKey kt v es.toList).run P w = .ok r w ∧ (match q with
        | none => r = none
        | some p => ∃ y en k, r = some (p.1, y) ∧ es[p.1]? = some en ∧ xs[p.1]? = some [k, p.2] ∧ V W0 m y p.2 ∧ en.key = v ∧ Instr.sameBits 10000 v v = true) := by
  have fin : ∀ r, (match q with
        | none => r = none
        | some p => ∃ y en j x, r = some (p.1, y) ∧ p.1 = 0 + j ∧ es.toList[j]? = some en ∧ xs[j]? = some [x, p.2] ∧ en.val = y ∧ V W0 m y p.2 ∧ keyOk ks ag x = true ∧ V W0 m en.key x ∧ eqL ks (cells c) (cells x) = some true) →
      (match q with
        | none => r = none
        | some p => ∃ y en k, r = some (p.1, y) ∧ es[p.1]? = some en ∧ xs[p.1]? = some [k, p.2] ∧ V W0 m y p.2 ∧ en.key = v ∧ Instr.sameBits 10000 v v = true) := by
    intro r hr
    cases q with
    | none => exact hr
    | some p =>
      obtain ⟨y, en, j, x, g1, g2, g3, g4, g5, g6, g7, g8, g9⟩ := hr
      have : p.1 = j := by omega
      obtain ⟨k1, k2⟩ := key_same hc g7 hv g8 g9
      show ∃ y en k, r = some (p.1, y) ∧ es[p.1]? = some en ∧ xs[p.1]? = some [k, p.2] ∧ V W0 m y p.2 ∧ en.key = v ∧ Instr.sameBits 10000 v v = true
      rw [this]
      exact ⟨y, en, x, by rw [g1, this], by simpa using g3, g4, g6, k1.symm, k2⟩
  obtain ⟨d, hd⟩ : ∃ d, P.underlying kt = some d := by
    unfold cAgg at hag
    split at hag
    · rename_i hu; exact ⟨_, hu⟩
    · rename_i hu; exact ⟨_, hu⟩
    · rename_i hu; exact ⟨_, by assumption⟩
    · cases hag
  by_cases hs : ∃ fs, d = .struct fs
  · obtain ⟨fs, rfl⟩ := hs
    by_cases he : es.toList = []
    · have hx0 : xs = [] := by
        apply List.eq_nil_of_length_eq_zero
        rw [← hlen, ← Array.length_toList, he]; rfl
      subst hx0
      simp only [findM] at h
      obtain rfl := Option.some.inj h
      exact ⟨none, by simp [Instr.findKey, run_underlying hd, he, Instr.findNow], rfl⟩
    · obtain ⟨r, h1, h2⟩ := find_asking (w := w) hl hag hc hv xs es.toList 0 q (by simpa using hlen) (fun j en x a b => hall j en x (by simpa using a) b) h
      refine ⟨r, ?_, fin r h2⟩
      simp [Instr.findKey, run_underlying hd, findNow_struct es.toList 0 he, h1]
  · have hns : ∀ fs, d ≠ .struct fs := fun fs hf => hs ⟨fs, hf⟩
    have hag0 : ag = false ∧ ∃ k, ks = [k] := by
      unfold leaves at hl
      rw [hd] at hl
      cases d <;> simp at hl
      · subst hl; simp [cAgg, hd] at hag; exact ⟨hag, _, rfl⟩
      · subst hl; simp [cAgg, hd] at hag; exact ⟨hag, _, rfl⟩
      · subst hl; simp [cAgg, hd] at hag; exact ⟨hag, _, rfl⟩
      · exact absurd rfl (hns _)
    obtain ⟨rfl, k, rfl⟩ := hag0
    obtain ⟨r, h1, h2⟩ := find_now hl hd hns hc hv xs es.toList 0 q (by simpa using hlen) (fun j en x a b => hall j en x (by simpa using a) b) h
    refine ⟨r, ?_, fin r h2⟩
    simp [Instr.findKey, run_underlying hd, h1]
theorem op_mkMap {t : TypeId} {rs : Option Operand} (ho : o.op = .makeMap t rs) (hrs : rs = none ∨ ∃ k z, rs = some (.const (.int k z))) (ht : ∃ k el, P.underlying t = some (.map k el)) (hr : Rel P W0 m s w) (hf : m s.next = none) : Done P W0 m s w (s.push ⟨t, 0, []⟩) (.mapv s.next) o a := by
  refine .value (v := .map (some w.heap.size)) (w' := w.alloc (.map #[] 0)) (m' := upd m s.next ⟨t, w.heap.size, 0, 0, true⟩) ?_ ?_ (.mapv _ _ (upd_same _ _ _) rfl)
  · obtain ⟨k, el, ht⟩ := ht
    rcases hrs with rfl | ⟨k, z, rfl⟩ <;> simp [execOp, ho, Instr.makeMap, run_underlying ht, asInt, asIntOf, Act.eval] <;> rfl
  · refine After.push' hr hf _ ⟨t, w.heap.size, 0, 0, true⟩ rfl (below_push w _) (by simp) ?_
    intro m' _
    exact MapOK.row rfl ⟨#[], 0, heap_alloc_new w _, rfl, by simp⟩
theorem op_mapPut {t kt et : TypeId} {x y z : Operand} {cx cy cz : Opd} {ks : List LK} {ag : Bool} (ho : o.op = .mapUpdate t x y z ∨ o.op = .insert t x y z) (ht : P.underlying t = some (.map kt et)) (hl : leaves P 20 kt = some ks) (hag : cAgg P kt = some ag) (hx : cOpd x = some cx) (hy : cOpd y = some cy) (hz : cOpd z = some cz)
    (hr : Rel P W0 m s w) (he : EnvOK W0 m n a e) (h : mapPutA s ks ag (ev e cx) (ev e cy) (ev e cz) = some s') : Done P W0 m s w s' und o a := by
  have hvx := opd_V he hx
  have hvy := opd_V he hy
  have hvz := opd_V he hz
  unfold mapPutA at h
  split at h
  case h_2 => cases h
  rename_i rr heq
  rw [heq] at hvx
  obtain ⟨pl, hpx, hm, hp⟩ := hvx.inv_mapv
  simp only [Option.bind_eq_bind] at h
  obtain ⟨row, hrow, h⟩ := Option.bind_eq_some_iff.mp h
  split at h
  case isFalse => cases h
  rename_i hh
  obtain ⟨hk, hfl⟩ := hh
  obtain ⟨es, cl, g1, g2, g3⟩ := ((hr.row rr pl row hm hrow).ms hp).ex
  have run_ : ∀ w1, (Instr.mapUpdate t (.map (some pl.blk)) (a.eval y) (a.eval z)).run P w = .ok () w1 → (execOp a.eval o).run P w = .ok .skip w1 := by
    intro w1 hh
    rcases ho with ho | ho <;> simp [execOp, ho, hpx, hh]
  have heap_ : ∀ ob, (w.heap.setIfInBounds pl.blk ob)[pl.blk]? = some ob ∧ ∀ k, k ≠ pl.blk → (w.heap.setIfInBounds pl.blk ob)[k]? = w.heap[k]? := fun ob => MapKept.heap_set g1
  have store_ : ∀ (es' : Array MapEntry) (cl' : Nat) (els' : List (List AV)), es'.size = els'.length → (∀ (i : Nat) (en : MapEntry) (x : List AV), es'[i]? = some en → els'[i]? = some x → ∃ k v, x = [k, v] ∧ V W0 m en.key k ∧ V W0 m en.val v) →
      (Instr.mapUpdate t (.map (some pl.blk)) (a.eval y) (a.eval z)).run P w = .ok () { w with heap := w.heap.setIfInBounds pl.blk (.map es' cl') } →
      Done P W0 m s w (s.put rr (some { row with els := els' })) und o a := by
    intro es' cl' els' h1 h2 h3
    refine Done.skip (run_ _ h3) (m' := m) ?_
    exact After.store' hr hm hrow hfl ⟨rfl, rfl, rfl, by simp⟩ (fun k hk => (heap_ _).2 k hk) (MapOK.row hp ⟨es', cl', (heap_ _).1, h1, h2⟩)
  have chk := fun em => key_check (w := w) hl hag hk hvy em
  split at h
  · rename_i p hfm
    obtain rfl := Option.some.inj h
    obtain ⟨q, r1, y', en, k, rfl, r3, r4, r5, r6, r7⟩ := find_ok (w := w) hl hag hk hvy g2 g3 hfm
    refine store_ (es.modify p.1 fun e => { e with key := a.eval y, val := a.eval z }) cl _ (by simp [g2]) ?_ ?_
    · intro i en' x hi hx'
      rw [Array.getElem?_modify] at hi
      by_cases hpi : p.1 = i
      · subst hpi
        rw [r3] at hi
        simp at hi
        subst hi
        rw [List.getElem?_set_self (by have := (List.getElem?_eq_some_iff.mp r4).1; exact this)] at hx'
        obtain rfl := Option.some.inj hx'
        exact ⟨_, _, rfl, hvy, hvz⟩
      · rw [if_neg hpi] at hi
        rw [List.getElem?_set_ne hpi] at hx'
        exact g3 i en' x hi hx'
    · have hkk : ((es[p.1]?).map (·.key)).getD (a.eval y) = a.eval y := by rw [r3]; simpa using r6
      simp [Instr.mapUpdate, run_underlying ht, MapKept.run_getObj_map g1, chk, r1, Result.andThen, hkk, Instr.keyThatStays, r7, MapKept.run_setObj_map _ g1]
  · rename_i hfm
    obtain rfl := Option.some.inj h
    obtain ⟨q, r1, rfl⟩ := find_ok (w := w) hl hag hk hvy g2 g3 hfm
    refine store_ (es.push { key := a.eval y, val := a.eval z, born := cl }) (cl + 1) _ (by simp [g2]) ?_ ?_
    · intro i en' x hi hx'
      by_cases hpi : i < es.size
      · rw [Array.getElem?_push_lt hpi] at hi
        rw [List.getElem?_append_left (by omega)] at hx'
        exact g3 i en' x (by rw [Array.getElem?_eq_getElem hpi]; exact hi) hx'
      · have hi' := (Array.getElem?_eq_some_iff.mp hi).1
        simp at hi'
        obtain rfl : i = es.size := by omega
        simp at hi
        subst hi
        rw [g2] at hx'
        simp at hx'
        subst hx'
        exact ⟨_, _, rfl, hvy, hvz⟩
    · simp [Instr.mapUpdate, run_underlying ht, MapKept.run_getObj_map g1, chk, r1, Result.andThen, MapKept.run_setObj_map _ g1]
  · cases h
theorem cZeroV_ok {t : TypeId} {z : AV} (h : cZeroV P t = some z) : ∃ v, (∀ w : World, (zeroValue t).run P w = .ok v w) ∧ ∀ (W0 : World) (m : PM), V W0 m v z := by
  simp only [cZeroV, Option.bind_eq_bind] at h
  obtain ⟨i, h1, h⟩ := Option.bind_eq_some_iff.mp h
  obtain ⟨v, h2, h⟩ := Option.bind_eq_some_iff.mp h
  exact ⟨v, fun w => by simp [zeroValue, typeInfo, h1, h2], fun W0 m => constAV_V h⟩
theorem op_mapGet {t kt et : TypeId} {x y : Operand} {cx cy : Opd} {ks : List LK} {ag ok : Bool} {z : AV} {p : AV × Bool} (ho : o.op = .lookup t x y ok) (ht : P.underlying t = some (.map kt et)) (hl : leaves P 20 kt = some ks) (hag : cAgg P kt = some ag) (hz : cZeroV P et = some z) (hx : cOpd x = some cx) (hy : cOpd y = some cy)
    (hr : Rel P W0 m s w) (he : EnvOK W0 m n a e) (h : mapGetA s ks ag z (ev e cx) (ev e cy) = some p) : Done P W0 m s w s (if ok then .tup [p.1, .bool p.2] else p.1) o a := by
  have hvx := opd_V he hx
  have hvy := opd_V he hy
  obtain ⟨zv, z1, z2⟩ := cZeroV_ok hz
  have fin : ∀ v : Value, V W0 m v p.1 → (Instr.lookup t (a.eval x) (a.eval y) ok).run P w = .ok (if ok then .tuple #[v, .bool p.2] else v) w → Done P W0 m s w s (if ok then .tup [p.1, .bool p.2] else p.1) o a := by
    intro v hv hrun
    refine .pure (v := if ok then .tuple #[v, .bool p.2] else v) ?_ hr ?_
    · simp [execOp, ho, hrun]
    · cases ok
      · simpa using hv
      · simp only [if_true]
        refine .tup _ _ rfl ?_
        intro i v' c h1 h2
        match i with
        | 0 => simp at h1 h2; subst h1 h2; exact hv
        | 1 => simp at h1 h2; subst h1 h2; exact .bool _
        | i + 2 => simp at h1
  unfold mapGetA at h
  split at h
  · rename_i heq
    rw [heq] at hvx
    split at h
    case isFalse => cases h
    rename_i hk
    obtain rfl := Option.some.inj h
    refine fin zv (z2 _ _) ?_
    rw [hvx.inv_nilM]
    have chk := fun em => key_check (w := w) hl hag hk hvy em
    have hfk : (Instr.findKey kt (a.eval y) []).run P w = .ok none w := by
      have : ∃ d, P.underlying kt = some d := by
        unfold cAgg at hag
        split at hag
        · rename_i hu; exact ⟨_, hu⟩
        · rename_i hu; exact ⟨_, hu⟩
        · exact ⟨_, by assumption⟩
        · cases hag
      obtain ⟨d, hd⟩ := this
      simp [Instr.findKey, run_underlying hd, Instr.findNow]
    cases ok <;> simp [Instr.lookup, run_underlying ht, chk, hfk, z1]
  · rename_i rr heq
    rw [heq] at hvx
    obtain ⟨pl, hpx, hm, hp⟩ := hvx.inv_mapv
    simp only [Option.bind_eq_bind] at h
    obtain ⟨row, hrow, h⟩ := Option.bind_eq_some_iff.mp h
    split at h
    case isFalse => cases h
    rename_i hk
    obtain ⟨es, cl, g1, g2, g3⟩ := ((hr.row rr pl row hm hrow).ms hp).ex
    have chk := fun em => key_check (w := w) hl hag hk hvy em
    split at h
    · rename_i p' hfm
      obtain rfl := Option.some.inj h
      obtain ⟨q, r1, y', en, k, rfl, r3, r4, r5, r6, r7⟩ := find_ok (w := w) hl hag hk hvy g2 g3 hfm
      refine fin y' r5 ?_
      rw [hpx]
      cases ok <;> simp [Instr.lookup, run_underlying ht, MapKept.run_getObj_map g1, chk, r1]
    · rename_i hfm
      obtain rfl := Option.some.inj h
      obtain ⟨q, r1, rfl⟩ := find_ok (w := w) hl hag hk hvy g2 g3 hfm
      refine fin zv (z2 _ _) ?_
      rw [hpx]
      cases ok <;> simp [Instr.lookup, run_underlying ht, MapKept.run_getObj_map g1, chk, r1, z1]
    · cases h
  · cases h
theorem op_capS {t el : TypeId} {x : Operand} {cx : Opd} {k : Nat} (hop : o.op = .call { callee := .builtin .cap, args := #[x], argTypes := #[t] }) (hu : P.underlying t = some (.slice el)) (hx : cOpd x = some cx)
    (hr : Rel P W0 m s w) (he : EnvOK W0 m n a e) (h : capA (ev e cx) = some k) : Done P W0 m s w s (.int .i64 (k : Int)) o a := by
  have hv := opd_V he hx
  refine .pure (v := .int .i64 (k : Int)) ?_ hr (.int _ _)
  unfold capA at h
  split at h
  · rename_i heq
    rw [heq] at hv
    obtain rfl := Option.some.inj h
    simp [execOp, hop, resolve, invoke, builtin, Builtin.cap_, run_underlying hu, hv.inv_nilS, goInt]
  · cases h
theorem op_lenM {t kt et : TypeId} {x : Operand} {cx : Opd} {k : Nat} (ho : o.op = .call { callee := .builtin .len, args := #[x], argTypes := #[t] }) (ht : P.underlying t = some (.map kt et)) (hx : cOpd x = some cx) (hr : Rel P W0 m s w) (he : EnvOK W0 m n a e)
    (h : lenMA s (ev e cx) = some k) : Done P W0 m s w s (.int .i64 (k : Int)) o a := by
  have hvx := opd_V he hx
  refine .pure (v := .int .i64 (k : Int)) ?_ hr (.int _ _)
  unfold lenMA at h
  split at h
  · rename_i heq
    rw [heq] at hvx
    obtain rfl := Option.some.inj h
    simp [execOp, ho, resolve, invoke, builtin, Builtin.len_, run_underlying ht, hvx.inv_nilM, goInt]
  · rename_i rr heq
    rw [heq] at hvx
    obtain ⟨pl, hpx, hm, hp⟩ := hvx.inv_mapv
    obtain ⟨row, hrow, rfl⟩ := Option.map_eq_some_iff.mp h
    obtain ⟨es, cl, g1, g2, g3⟩ := ((hr.row rr pl row hm hrow).ms hp).ex
    simp [execOp, ho, resolve, invoke, builtin, Builtin.len_, run_underlying ht, hpx, MapKept.run_getObj_map g1, goInt, g2]
  · cases h
theorem zero_cells {z : Array Value} {az : List AV} {sz : Nat} (k : Nat) (hz : VL W0 m z az) (hl : az.length = sz) (hs : 0 < sz) : (Builtin.zeroCells z k).size = k * sz ∧ ∀ (i q : Nat) (c : AV), i < k → az[q]? = some c → ∃ v, (Builtin.zeroCells z k)[i * sz + q]? = some v ∧ V W0 m v c := by
  have hsz : z.size = sz := by rw [hz.1, hl]
  refine ⟨by rw [size_zeroCells, hsz], ?_⟩
  intro i q c hi hq
  have hql : q < sz := by rw [← hl]; exact (List.getElem?_eq_some_iff.mp hq).1
  have hb : (i + 1) * sz ≤ k * sz := Nat.mul_le_mul_right _ hi
  rw [Nat.add_mul] at hb
  have hv : z[q]? = some z[q] := by simp
  refine ⟨z[q], ?_, hz.2 q _ c hv hq⟩
  have hmod : (i * sz + q) % z.size = q := by rw [hsz, Nat.add_comm, Nat.add_mul_mod_self_right]; exact Nat.mod_eq_of_lt hql
  have hlt : i * sz + q < k * z.size := by rw [hsz]; omega
  unfold Builtin.zeroCells
  rw [Array.getElem?_map, Array.getElem?_range, if_pos hlt]
  simp only [Option.map_some, hmod]
  congr 1
  exact getElem!_pos z q (by omega)
theorem run_append_zeros_nil (t tx ty el : TypeId) (i : TypeInfo) (z : Value) (ik : IntKind) (ht : P.underlying t = some (.slice el)) (hx : P.underlying tx = some (.int ik)) (hi : P.info? el = some i) (hz : i.zero = some z) (k : Nat) (h0 : 0 < k) (hs : 0 < i.size)
    (h63 : k ≤ 9223372036854775807) (hfit : k * i.bytes ≤ 140737488355328) :
    (Builtin.append_ #[t, tx] ty #[.slice none 0 0, .int .i64 k]).run P w =
      .ok (.slice (some ⟨w.heap.size, 0, none⟩) k (grownCap w k 0 el)) (w.drew.alloc (.cells (Builtin.zeroCells z.cells k ++ Builtin.zeroCells z.cells (grownCap w k 0 el - k)) el)) := by
  have hw : IntKind.i64.wrap (k : Int) = (k : Int) := IntWalk.i64_in _ ⟨by omega, by omega⟩
  have c1 : ¬ ((k : Int) < 0) := by omega
  have c2 : ¬ ((281474976710656 : Int) < (k : Int) * (i.bytes : Int)) := by rw [← Int.natCast_mul]; omega
  have c3 : ¬ (k = 0) := by omega
  have c4 : ¬ (i.size = 0) := by omega
  have c5 : ¬ ((9223372036854775807 : Int) < (k : Int)) := by omega
  have hnc : Builtin.nextslicecap k 0 = k := by
    unfold Builtin.nextslicecap
    rw [if_pos (by omega)]
  have c6 : ¬ (281474976710656 < k * i.bytes) := by omega
  simp [Builtin.append_, run_underlying ht, run_underlying hx, sizeOf, typeInfo, zeroValue, hi, hz, asInt, asIntOf, hw, c1, c2, c3, c4, c5, hnc, c6, Question.forced, newRow, grownCap, Builtin.firstCells]
  intro h
  rcases Nat.mul_eq_zero.mp h with h | h
  · exact absurd h c3
  · exact absurd h c4
theorem op_appZ {t tx el : TypeId} {x y : Operand} {cx cy : Opd} {sz by_ : Nat} {z : List AV} {ik : IntKind} {k : Int} (hop : o.op = .call { callee := .builtin .append, args := #[x, y], argTypes := #[t, tx] }) (hu : P.underlying t = some (.slice el)) (ht : P.underlying tx = some (.int ik))
    (hsz : cSize P el = some sz) (hby : cBytes P el = some by_) (hz : cZero P el = some z) (h0 : 0 < sz) (hx : cOpd x = some cx) (hy : cOpd y = some cy) (hr : Rel P W0 m s w) (he : EnvOK W0 m n a e) (hf : m s.next = none)
    (hcx : ev e cx = .nilS) (hk : ev e cy = .int .i64 k) (hk0 : 0 < k.toNat) (hroom : roomOk k.toNat by_ = true) :
    Done P W0 m s w (s.push ⟨el, sz, List.replicate k.toNat z⟩) (.own s.next 0 k.toNat sz) o a := by
  obtain ⟨inf, zv, c, h1, h2, h3, h4, h5, h6, h7⟩ := cZero_ok hz
  subst h4
  have hzV := (constAV_V (W0 := W0) (m := m) h3).cells
  obtain ⟨inf', h1', hsz'⟩ := info_of_cSize hsz
  rw [h1] at h1'
  obtain rfl := Option.some.inj h1'
  have hb' : inf.bytes = by_ := by simp only [cBytes, h1, Option.map_some] at hby; exact Option.some.inj hby
  obtain ⟨r1, r2⟩ := roomOk_iff hroom
  have hvx := opd_V he hx
  rw [hcx] at hvx
  have hvy := opd_V he hy
  rw [hk] at hvy
  obtain ⟨kk, hkk⟩ : ∃ kk : Nat, k = (kk : Int) := ⟨k.toNat, by omega⟩
  subst hkk
  have e0 : ((kk : Int)).toNat = kk := by omega
  rw [e0] at hk0 hroom r1 r2 ⊢
  obtain ⟨q1, q2⟩ := zero_cells (W0 := W0) (m := m) (z := zv.cells) (az := cells c) (sz := sz) kk ⟨hzV.1, hzV.2⟩ (by rw [h5, hsz']) h0
  obtain ⟨q3, _⟩ := zero_cells (W0 := W0) (m := m) (z := zv.cells) (az := cells c) (sz := sz) (grownCap w kk 0 el - kk) ⟨hzV.1, hzV.2⟩ (by rw [h5, hsz']) h0
  have hlen : (List.replicate kk (cells c)).length = kk := by simp
  have hcg : kk ≤ grownCap w kk 0 el := grownCap_ge w _ _ _
  obtain ⟨m', hA, hV⟩ := newRow_ok (ty := el) (sz := sz) (els := List.replicate kk (cells c)) (cap := grownCap w kk 0 el) (c := Builtin.zeroCells zv.cells kk ++ Builtin.zeroCells zv.cells (grownCap w kk 0 el - kk)) hr hf (w.drew.alloc (.cells (Builtin.zeroCells zv.cells kk ++ Builtin.zeroCells zv.cells (grownCap w kk 0 el - kk)) el)) (below_grow w _) (heap_alloc_new w.drew _) (grownCap_le_maxLen w _ _ _ (by simp only [maxLen]; omega)) (by rw [hlen]; exact hcg) (by rw [Array.size_append, q1, q3, ← Nat.add_mul]; congr 1; omega) (by
      intro i x hi
      rw [List.getElem?_replicate] at hi
      split at hi
      · obtain rfl := Option.some.inj hi
        exact ⟨by rw [h5, hsz'], fun q y hy => List.all_eq_true.mp h6 y (List.mem_of_getElem? hy)⟩
      · cases hi) (by
      intro i x q y hi hq
      rw [List.getElem?_replicate] at hi
      split at hi
      · rename_i hlt
        obtain rfl := Option.some.inj hi
        obtain ⟨v, g1, g2⟩ := q2 i q y hlt hq
        refine ⟨v, ?_, g2⟩
        rw [Array.getElem?_append_left (Array.getElem?_eq_some_iff.mp g1).1]; exact g1
      · cases hi)
  rw [hlen] at hV
  refine .value (w' := w.drew.alloc (.cells (Builtin.zeroCells zv.cells kk ++ Builtin.zeroCells zv.cells (grownCap w kk 0 el - kk)) el)) ?_ hA hV
  have := run_append_zeros_nil (P := P) (w := w) t tx o.type el inf zv ik hu ht h1 h2 kk hk0 (by omega) (by omega) (by rw [hb']; exact r2)
  simp [execOp, hop, resolve, invoke, builtin, hvx.inv_nilS, hvy.inv_int, this]
theorem op_clr {t el : TypeId} {x : Operand} {cx : Opd} {sz : Nat} {z : List AV} (ho : o.op = .call { callee := .builtin .clear, args := #[x], argTypes := #[t] }) (hu : P.underlying t = some (.slice el)) (hsz : cSize P el = some sz) (hz : cZero P el = some z) (hx : cOpd x = some cx)
    (hr : Rel P W0 m s w) (he : EnvOK W0 m n a e) (h : clrA s sz z (ev e cx) = some s') : Done P W0 m s w s' und o a := by
  have hvx := opd_V he hx
  have none_ : ∀ ad l c, a.eval x = .slice ad l c → (ad = none ∨ l = 0) → Done P W0 m s w s und o a := by
    intro ad l c h1 h2
    refine .value (v := .tuple #[]) ?_ (.refl hr) (V.und W0 m)
    rcases h2 with rfl | rfl
    · simp [execOp, ho, resolve, invoke, builtin, Builtin.clear_, run_underlying hu, h1]
    · cases ad <;> simp [execOp, ho, resolve, invoke, builtin, Builtin.clear_, run_underlying hu, h1]
  unfold clrA at h
  split at h
  · rename_i heq
    rw [heq] at hvx
    obtain rfl := Option.some.inj h
    exact none_ _ _ _ hvx.inv_nilS (.inl rfl)
  · rename_i heq
    rw [heq] at hvx
    obtain rfl := Option.some.inj h
    obtain ⟨ad, h1⟩ := hvx.inv_emp
    exact none_ _ _ _ h1 (.inr rfl)
  · rename_i heq
    rw [heq] at hvx
    obtain rfl := Option.some.inj h
    obtain ⟨ad, cap, e', h1, _⟩ := hvx.inv_sl
    exact none_ _ _ _ h1 (.inr rfl)
  · rename_i rr i0 k z0 heq
    rw [heq] at hvx
    obtain ⟨off, cp, pl, h1, ⟨hm, hp⟩, hcap, hn, ha, hE⟩ := hvx.inv_own
    split at h
    · rename_i hk
      obtain rfl := Option.some.inj h
      exact none_ _ _ _ h1 (.inr hk)
    · rename_i hk
      simp only [Option.bind_eq_bind] at h
      obtain ⟨row, hrow, h⟩ := Option.bind_eq_some_iff.mp h
      split at h
      case isFalse => cases h
      rename_i hc
      obtain ⟨c1, c2, c3, c4, c5⟩ := hc
      obtain rfl := Option.some.inj h
      obtain ⟨inf, zv, c, y1, y2, y3, y4, y5, y6, y7⟩ := cZero_ok hz
      subst y4
      have hzV := (constAV_V (W0 := W0) (m := m) y3).cells
      have hR := (hr.row rr pl row hm hrow).cs hp
      obtain ⟨arr, fz, g1, g2, g3, g4, gf⟩ := hR.ex
      have e1 := hR.e
      have hoff : off = i0 * sz := by rw [ha (.inl (by omega)), e1, c3]
      subst hoff
      rcases Nat.eq_zero_or_pos sz with hs0 | hs0
      · -- cells of no size: nothing is written
        subst hs0
        have hz0 : zv.cells.size = 0 := by rw [hzV.1, c4]
        have hzc : Builtin.zeroCells zv.cells k = #[] := by apply Array.eq_empty_of_size_eq_zero; rw [size_zeroCells, hz0, Nat.mul_zero]
        refine Done.value (v := .tuple #[]) (w' := w) (m' := m) ?_ ?_ (V.und W0 m)
        · simp [execOp, ho, resolve, invoke, builtin, Builtin.clear_, run_underlying hu, h1, zeroValue, typeInfo, y1, y2, hzc, storeCells]
        · have hz' : cells c = [] := List.eq_nil_of_length_eq_zero c4
          have emp_ : ∀ x ∈ row.els, x = ([] : List AV) := by
            intro x hx
            obtain ⟨i, hi⟩ := List.mem_iff_getElem?.mp hx
            have := (hR.szs i x hi).1
            exact List.eq_nil_of_length_eq_zero (by omega)
          have : ({ row with els := row.els.take i0 ++ List.replicate k (cells c) ++ row.els.drop (i0 + k) } : Row) = row := by
            have h2 : row.els.take i0 ++ List.replicate k (cells c) ++ row.els.drop (i0 + k) = row.els := by
              have h3 : row.els = List.replicate row.els.length [] := List.eq_replicate_iff.mpr ⟨rfl, emp_⟩
              rw [h3, hz']
              simp only [List.take_replicate, List.drop_replicate, List.replicate_append_replicate]
              congr 1
              omega
            rw [h2]
          rw [this]
          exact After.store hr hm hp hrow c5 rfl rfl rfl arr ⟨rfl, rfl, rfl, rfl⟩ (fun _ _ => rfl) g1 gf g2 hR.szs (by rw [← e1]; exact g4)
      obtain ⟨z1, z2⟩ := zero_cells (W0 := W0) (m := m) k ⟨hzV.1, hzV.2⟩ c4 hs0
      have hzl : (Builtin.zeroCells zv.cells k).toList.length = k * sz := by rw [Array.length_toList, z1]
      have hbound : i0 * sz + (Builtin.zeroCells zv.cells k).toList.length ≤ arr.size := by
        rw [hzl, ← g2, ← Nat.add_mul, e1, c3]
        exact Nat.mul_le_mul_right _ (by omega)
      have h1cell : ∀ u ∈ (Builtin.zeroCells zv.cells k).toList, u.oneCell' = true := by
        intro u hu'
        obtain ⟨j, hj⟩ := List.mem_iff_getElem?.mp hu'
        have hlt := (List.getElem?_eq_some_iff.mp hj).1
        rw [hzl] at hlt
        have hd : j / sz < k := (Nat.div_lt_iff_lt_mul hs0).mpr hlt
        have hmd : j % sz < sz := Nat.mod_lt _ hs0
        obtain ⟨v, q1, q2⟩ := z2 (j / sz) (j % sz) (cells c)[j % sz] hd (by simp)
        rw [show j / sz * sz + j % sz = j by rw [Nat.mul_comm]; exact Nat.div_add_mod j sz, ← Array.getElem?_toList, hj] at q1
        obtain rfl := Option.some.inj q1
        exact q2.one (List.all_eq_true.mp y6 _ (List.getElem_mem (by omega)))
      have hst := run_storeCells_cells (P := P) pl.blk (i0 * sz) (Builtin.zeroCells zv.cells k).toList 0 w (by
          intro j hj
          simp only [World.cell?, g1, Nat.add_zero]
          rw [Array.getElem?_eq_getElem (by omega)]; rfl) (by
          intro j hj
          simp only [World.frozen?, g1]
          exact gf.at_ (by omega)) h1cell
      simp only [Nat.add_zero] at hst
      refine Done.value (v := .tuple #[]) (w' := w.setCells pl.blk (i0 * sz) (Builtin.zeroCells zv.cells k).toList) (m' := m) ?_ ?_ (V.und W0 m)
      · obtain ⟨k', rfl⟩ : ∃ k', k = k' + 1 := ⟨k - 1, by omega⟩
        simp [execOp, ho, resolve, invoke, builtin, Builtin.clear_, run_underlying hu, h1, zeroValue, typeInfo, y1, y2, hst]
      · have hlr : (row.els.take i0 ++ List.replicate k (cells c) ++ row.els.drop (i0 + k)).length = row.els.length := by
          simp only [List.length_append, List.length_take, List.length_replicate, List.length_drop]; omega
        have hget : ∀ j, (row.els.take i0 ++ List.replicate k (cells c) ++ row.els.drop (i0 + k))[j]? = if j < i0 then row.els[j]? else if j < i0 + k then some (cells c) else row.els[j]? := by
          intro j
          by_cases k1 : j < i0
          · rw [if_pos k1, List.append_assoc, List.getElem?_append_left (by simp; omega), List.getElem?_take, if_pos k1]
          · rw [if_neg k1]
            by_cases k2 : j < i0 + k
            · rw [if_pos k2, List.append_assoc, List.getElem?_append_right (by simp; omega), List.length_take, Nat.min_eq_left (by omega), List.getElem?_append_left (by simp; omega), List.getElem?_replicate, if_pos (by omega)]
            · rw [if_neg k2, List.getElem?_append_right (by simp; omega), List.getElem?_drop]
              simp only [List.length_append, List.length_take, List.length_replicate, Nat.min_eq_left (show i0 ≤ row.els.length by omega)]
              congr 1
              omega
        refine After.store hr hm hp hrow c5 rfl rfl hlr _ (setCells_rest _ _ _ _) (fun k hk => setCells_far _ _ _ w k hk) (setCells_row _ _ w arr g1 hbound) ?_ ?_ ?_ ?_
        · have : (arr.toList.take (i0 * sz) ++ (Builtin.zeroCells zv.cells k).toList ++ arr.toList.drop (i0 * sz + (Builtin.zeroCells zv.cells k).toList.length)).toArray.size = arr.size := by
            simp only [List.size_toArray, List.length_append, List.length_take, List.length_drop, Array.length_toList] at hbound ⊢
            omega
          rw [this]; exact gf
        · rw [g2]
          simp only [List.size_toArray, List.length_append, List.length_take, List.length_drop, Array.length_toList] at hbound ⊢
          omega
        · intro j x hj
          rw [hget] at hj
          split at hj
          · exact hR.szs j x hj
          · split at hj
            · obtain rfl := Option.some.inj hj
              refine ⟨by rw [c3]; exact c4, fun q b hq => List.all_eq_true.mp y6 b (List.mem_of_getElem? hq)⟩
            · exact hR.szs j x hj
        · intro j x q b hj hq
          have hA : (arr.toList.take (i0 * sz) ++ (Builtin.zeroCells zv.cells k).toList ++ arr.toList.drop (i0 * sz + (Builtin.zeroCells zv.cells k).toList.length)).toArray[j * row.sz + q]? =
              if j * sz + q < i0 * sz then arr[j * sz + q]? else if j * sz + q < i0 * sz + k * sz then (Builtin.zeroCells zv.cells k)[j * sz + q - i0 * sz]? else arr[j * sz + q]? := by
            rw [List.getElem?_toArray, c3, hzl]
            have hal := Array.length_toList (xs := arr)
            by_cases k1 : j * sz + q < i0 * sz
            · rw [if_pos k1, List.append_assoc, List.getElem?_append_left (by simp; omega), List.getElem?_take, if_pos k1, Array.getElem?_toList]
            · rw [if_neg k1]
              by_cases k2 : j * sz + q < i0 * sz + k * sz
              · rw [if_pos k2, List.append_assoc, List.getElem?_append_right (by simp; omega), List.length_take, Nat.min_eq_left (by omega), List.getElem?_append_left (by omega), Array.getElem?_toList]
              · rw [if_neg k2, List.getElem?_append_right (by simp; omega), List.getElem?_drop, Array.getElem?_toList]
                simp only [List.length_append, List.length_take]
                rw [hzl, Nat.min_eq_left (by omega)]
                congr 1
                omega
          rw [hA]
          rw [hget] at hj
          split at hj
          · rename_i k1
            have hql : q < sz := by rw [← c3, ← (hR.szs j x hj).1]; exact (List.getElem?_eq_some_iff.mp hq).1
            have : (j + 1) * sz ≤ i0 * sz := Nat.mul_le_mul_right _ k1
            rw [Nat.add_mul] at this
            rw [if_pos (by omega)]
            have := g4 j x q b hj hq
            rw [e1, c3] at this; exact this
          · rename_i k1
            have hm1 : i0 * sz ≤ j * sz := Nat.mul_le_mul_right _ (by omega)
            rw [if_neg (by omega)]
            split at hj
            · rename_i k2
              obtain rfl := Option.some.inj hj
              have hql : q < sz := by rw [← c4]; exact (List.getElem?_eq_some_iff.mp hq).1
              have : (j + 1) * sz ≤ (i0 + k) * sz := Nat.mul_le_mul_right _ k2
              rw [Nat.add_mul, Nat.add_mul] at this
              rw [if_pos (by omega)]
              obtain ⟨v, q1, q2⟩ := z2 (j - i0) q b (by omega) hq
              refine ⟨v, ?_, q2⟩
              rw [← q1, Nat.sub_mul]
              congr 1
              omega
            · rename_i k2
              have : (i0 + k) * sz ≤ j * sz := Nat.mul_le_mul_right _ (by omega)
              rw [Nat.add_mul] at this
              rw [if_neg (by omega)]
              have := g4 j x q b hj hq
              rw [e1, c3] at this; exact this
  · cases h
end
end Go.VI

