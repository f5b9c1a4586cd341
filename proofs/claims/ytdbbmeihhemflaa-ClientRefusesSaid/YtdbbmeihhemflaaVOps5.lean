/- Each operation, on related values: make, append, bytes to strings, min and max. No statement of the seat is proved here. -/
import Derived.Test.YtdbbmeihhemflaaVOps4
import Derived.IntWalk
import Derived.Laws.BytesString
import Derived.ArgAppend
import Derived.Lib.ConvBytes
namespace Go.VI
open Go Go.RowKit

section
variable {P : Program} {W0 : World} {m m' : PM} {s s' : Mem} {w w' : World} {n : Nat} {a : Act} {e : Env} {o : Oper} {r : AV}

theorem sameOpd_eval {x y : Operand} (h : sameOpd x y = true) (a : Act) : a.eval x = a.eval y := by
  unfold sameOpd at h
  split at h
  · simp at h; subst h; rfl
  · simp at h; subst h; rfl
  · cases h

theorem roomOk_iff {k b : Nat} (h : roomOk k b = true) : k ≤ 9223372036854775807 ∧ k * b ≤ 140737488355328 := by
  simp only [roomOk, Bool.and_eq_true, Nat.ble_eq] at h
  exact h

theorem op_mkS {t el : TypeId} {x y : Operand} {cx : Opd} {sz by_ : Nat} {z : List AV} {k : Int} (ho : o.op = .makeSlice t x y) (hu : P.underlying t = some (.slice el)) (hsz : cSize P el = some sz) (hby : cBytes P el = some by_) (hz : cZero P el = some z) (hs : sameOpd x y = true) (h0 : 0 < sz)
    (hx : cOpd x = some cx) (hr : Rel W0 m s w) (he : EnvOK W0 m n a e) (hf : m s.next = none) (hk : ev e cx = .int .i64 k) (hk0 : 0 ≤ k) (hroom : roomOk k.toNat by_ = true) :
    Done P W0 m s w (s.push ⟨el, sz, List.replicate k.toNat z⟩) (.own s.next 0 k.toNat sz) o a := by
  obtain ⟨inf, zv, c, h1, h2, h3, h4, h5, h6, h7⟩ := cZero_ok hz
  subst h4
  have hzV := (constAV_V (W0 := W0) (m := m) h3).cells
  obtain ⟨inf', h1', hsz'⟩ := info_of_cSize hsz
  rw [h1] at h1'
  obtain rfl := Option.some.inj h1'
  have hb' : inf.bytes = by_ := by simp only [cBytes, h1, Option.map_some] at hby; exact Option.some.inj hby
  obtain ⟨r1, r2⟩ := roomOk_iff hroom
  have hv := opd_V he hx
  rw [hk] at hv
  have hev := hv.inv_int
  have hev2 : a.eval y = .int .i64 k := by rw [← sameOpd_eval hs]; exact hev
  have hF := flat_zero (W0 := W0) (m := m) (z := zv.cells) (az := cells c) (sz := sz) k.toNat ⟨hzV.1, hzV.2⟩ (by rw [h5, hsz']) h6 h0
  obtain ⟨q1, q2, q3⟩ := hF
  have hlen : (List.replicate k.toNat (cells c)).length = k.toNat := by simp
  obtain ⟨m', hA, hV⟩ := newRow_ok (ty := el) (els := List.replicate k.toNat (cells c)) (cap := k.toNat) hr hf (w.alloc (.cells ((Array.range (k.toNat * sz)).map (zv.cells[· % zv.cells.size]!)) el)) (below_push w _) (heap_alloc_new w _) (by simp only [maxLen]; omega) (by simp) (by simp) q2 q3
  rw [hlen] at hV
  refine .value (w' := w.alloc (.cells ((Array.range (k.toNat * sz)).map (zv.cells[· % zv.cells.size]!)) el)) ?_ hA hV
  have hw : IntKind.i64.wrap k = k := IntWalk.i64_in _ ⟨by omega, by omega⟩
  have hbytes : ¬ ((281474976710656 : Int) < inf.bytes * k) := by
    obtain ⟨kk, hkk⟩ : ∃ kk : Nat, k = (kk : Int) := ⟨k.toNat, by omega⟩
    have e0 : k.toNat = kk := by omega
    rw [e0, Nat.mul_comm] at r2
    rw [hb', hkk, ← Int.natCast_mul]
    omega
  by_cases hzero : k.toNat * sz = 0
  · have hk00 : k.toNat = 0 := by
      rcases Nat.mul_eq_zero.mp hzero with h | h
      · exact h
      · omega
    have hkk : k = 0 := by omega
    subst hkk
    have hr0 : ∀ {β : Type} (f : Nat → β), Array.map f (Array.range 0) = #[] := fun f => Array.eq_empty_of_size_eq_zero (by simp)
    simp [execOp, ho, Instr.makeSlice, run_underlying hu, hev, hev2, asInt, asIntOf, typeInfo, h1, hw, run_cSize hsz, newRow, hr0]
  · have c1 : ¬ (k < 0) := by omega
    have c2 : ¬ (k < k) := by omega
    have c3 := hbytes
    simp [execOp, ho, Instr.makeSlice, run_underlying hu, hev, hev2, asInt, asIntOf, typeInfo, h1, hw, run_cSize hsz, newRow, c1, c3, zeroValue, h2]
    intro h
    exact absurd h hzero

theorem news_ok {ad : Addr} {e' : Nat} {xs : List (List AV)} {sz : Nat} (hs : 0 < sz) (hu : uni sz xs = true) (hel : ∀ (i : Nat) (x : List AV), xs[i]? = some x → x.length = e')
    (hc : ∀ (i : Nat) (x : List AV) (q : Nat) (c : AV), xs[i]? = some x → x[q]? = some c → isCell c = true ∧ ∃ u, w.cell? (ad.add (i * e' + q)) = some u ∧ V W0 m u c) :
    ∃ news : List Value, news.length = xs.length * sz ∧ (∀ j u, news[j]? = some u → w.cell? (ad.add j) = some u) ∧ (∀ u ∈ news, u.oneCell' = true) ∧
      ∀ (i : Nat) (x : List AV) (q : Nat) (c : AV), xs[i]? = some x → x[q]? = some c → ∃ u, news[i * sz + q]? = some u ∧ V W0 m u c := by
  have hus : ∀ (i : Nat) (x : List AV), xs[i]? = some x → x.length = sz := by
    intro i x hi
    have := List.all_eq_true.mp hu x (List.mem_of_getElem? hi)
    simpa using this
  have hcc : ∀ (i : Nat) (x : List AV) (q : Nat) (c : AV), xs[i]? = some x → x[q]? = some c → isCell c = true ∧ ∃ u, w.cell? (ad.add (i * sz + q)) = some u ∧ V W0 m u c := by
    intro i x q c hi hq
    have := hc i x q c hi hq
    rw [← hel i x hi, hus i x hi] at this
    exact this
  have at_ : ∀ j, j < xs.length * sz → ∃ x c, xs[j / sz]? = some x ∧ x[j % sz]? = some c := by
    intro j hj
    have h1 : j / sz < xs.length := (Nat.div_lt_iff_lt_mul hs).mpr hj
    have h2 : j % sz < sz := Nat.mod_lt _ hs
    have h3 : xs[j / sz]? = some xs[j / sz] := List.getElem?_eq_getElem h1
    have h4 := hus _ _ h3
    exact ⟨_, _, h3, List.getElem?_eq_getElem (by omega)⟩
  have dm : ∀ j, j / sz * sz + j % sz = j := fun j => by rw [Nat.mul_comm]; exact Nat.div_add_mod j sz
  have val : ∀ j, j < xs.length * sz → ∃ u, w.cell? (ad.add j) = some u ∧ u.oneCell' = true := by
    intro j hj
    obtain ⟨x, c, h1, h2⟩ := at_ j hj
    obtain ⟨g1, u, g2, g3⟩ := hcc _ _ _ _ h1 h2
    rw [dm] at g2
    exact ⟨u, g2, g3.one g1⟩
  refine ⟨(List.range (xs.length * sz)).map fun j => (w.cell? (ad.add j)).getD undef, by simp, ?_, ?_, ?_⟩
  · intro j u hj
    rw [List.getElem?_map] at hj
    obtain ⟨k, hk, rfl⟩ := Option.map_eq_some_iff.mp hj
    have hkl : j < xs.length * sz := by have := (List.getElem?_eq_some_iff.mp hk).1; simpa using this
    have : k = j := by rw [List.getElem?_range hkl] at hk; exact (Option.some.inj hk).symm
    subst this
    obtain ⟨u, hu', _⟩ := val k hkl
    rw [hu']; rfl
  · intro u hu'
    obtain ⟨k, hk, rfl⟩ := List.mem_map.mp hu'
    obtain ⟨u, hu2, h1⟩ := val k (by simpa using hk)
    rw [hu2]; exact h1
  · intro i x q c hi hq
    obtain ⟨_, u, g2, g3⟩ := hcc i x q c hi hq
    have hil := (List.getElem?_eq_some_iff.mp hi).1
    have hql := (List.getElem?_eq_some_iff.mp hq).1
    rw [hus i x hi] at hql
    have hb : (i + 1) * sz ≤ xs.length * sz := Nat.mul_le_mul_right _ hil
    rw [Nat.add_mul] at hb
    refine ⟨u, ?_, g3⟩
    rw [List.getElem?_map, List.getElem?_range (by omega)]
    simp only [Option.map_some, g2, Option.getD_some]

theorem below_grow (w : World) (ob : Obj) : Below w.heap.size w (w.drew.alloc ob) := (Below.refl _ w).drew.alloc (Nat.le_refl _) ob

theorem grown_cells {zs : Array Value} {news olds : List Value} {sz k cap : Nat} (hzs : zs.size = sz) (hk : olds.length + news.length = k * sz) (hcap : k ≤ cap) :
    (olds.toArray ++ news.toArray ++ Builtin.zeroCells zs (cap - k)).size = cap * sz := by
  simp only [Array.size_append, List.size_toArray, size_zeroCells, hzs, hk, ← Nat.add_mul]
  congr 1
  omega

theorem op_app {t el : TypeId} {x y : Operand} {cx cy : Opd} {sz by_ : Nat} {z : List AV} (hop : o.op = .call { callee := .builtin .append, args := #[x, y], argTypes := #[t, t] }) (hu : P.underlying t = some (.slice el)) (hsz : cSize P el = some sz) (hby : cBytes P el = some by_) (hz : cZero P el = some z) (h0 : 0 < sz)
    (hx : cOpd x = some cx) (hy : cOpd y = some cy) (hr : Rel W0 m s w) (he : EnvOK W0 m n a e) (hf : Fresh m s s') (h : stepOp (fun _ _ _ => none) (.app el sz by_ cx cy) e s = some (r, s')) : Done P W0 m s w s' r o a := by
  obtain ⟨inf, zv, c, h1, h2, h3, h4, h5, h6, h7⟩ := cZero_ok hz
  obtain ⟨inf', h1', hsz'⟩ := info_of_cSize hsz
  rw [h1] at h1'
  obtain rfl := Option.some.inj h1'
  have hb' : inf.bytes = by_ := by simp only [cBytes, h1, Option.map_some] at hby; exact Option.some.inj hby
  have hvx := opd_V he hx
  have hvy := opd_V he hy
  simp only [stepOp, Option.bind_eq_bind] at h
  obtain ⟨ys, hys, h⟩ := Option.bind_eq_some_iff.mp h
  split at h
  case isFalse => cases h
  rename_i hun
  have hread := read_told hr hvy hys
  have run1 : ∀ v w1, (Builtin.append_ #[t, t] o.type #[a.eval x, a.eval y]).run P w = .ok v w1 → (execOp a.eval o).run P w = .ok (.value v) w1 := by
    intro v w1 hh
    simp only [execOp, hop, resolve, invoke, builtin, Sem.run_bind, Sem.run_pure, Result.andThen_ok, List.map_toArray, List.map_cons, List.map_nil, hh]
  split at h
  · -- to what is empty
    rename_i hxn
    rw [hxn] at hvx
    obtain ⟨ax, hxe⟩ := hvx.inv_emp
    split at h
    · rename_i hnil
      obtain ⟨rfl, rfl⟩ := Prod.mk.inj (Option.some.inj h)
      subst hnil
      refine .pure (v := .slice (some ax) 0 0) (run1 _ _ ?_) hr (.emp ax)
      rw [hxe]
      rcases hread with ⟨hy1, _⟩ | ⟨ad, cap, e', hy1, _, _⟩
      · rw [hy1]; simp [Builtin.append_, run_underlying hu, sizeOf, typeInfo, h1, Builtin.lenOf, Builtin.firstCells, storeCells]
      · rw [hy1]; simp [Builtin.append_, run_underlying hu, sizeOf, typeInfo, h1, Builtin.lenOf, Builtin.firstCells, loadCells, loadCellsFrom, storeCells]
    · rename_i hnn
      split at h
      · rename_i hroom
        obtain ⟨rfl, rfl⟩ := Prod.mk.inj (Option.some.inj h)
        obtain ⟨r1, r2⟩ := roomOk_iff hroom
        rcases hread with ⟨_, hy2⟩ | ⟨ad, cap, e', hy1, hel, hcell⟩
        · exact absurd hy2 hnn
        · obtain ⟨news, n1, n2, n3, n4⟩ := news_ok h0 hun hel hcell
          have hpos : 0 < ys.length := List.length_pos_iff.mpr hnn
          have hrun := run_append_grow (P := P) w t o.type el inf zv hu h1 h2 ax 0 0 [] (by simp) (by simp) ad ys.length cap news (by rw [hsz']; exact n1) n2 (by omega) (by omega) (growslice_fits (by omega) (by rw [hb', Nat.zero_add]; omega))
          simp only [Nat.zero_add, Array.empty_append] at hrun
          have hcg : ys.length ≤ grownCap w ys.length 0 el := grownCap_ge w _ _ _
          have hmx : ys.length ≤ maxLen := by simp only [maxLen]; omega
          have hsize := grown_cells (zs := zv.cells) (news := news) (olds := []) (sz := sz) (k := ys.length) (cap := grownCap w ys.length 0 el) (by rw [h7, hsz']) (by simpa using n1) hcg
          simp only [Array.empty_append] at hsize
          obtain ⟨m', hA, hV⟩ := newRow_ok (ty := el) (sz := sz) (els := ys) (cap := grownCap w ys.length 0 el) (c := news.toArray ++ Builtin.zeroCells zv.cells (grownCap w ys.length 0 el - ys.length)) hr (hf _ (Nat.le_refl _) (by rw [Mem.next_push]; omega)) (w.drew.alloc (.cells (news.toArray ++ Builtin.zeroCells zv.cells (grownCap w ys.length 0 el - ys.length)) el)) (below_grow w _) (heap_alloc_new w.drew _) (grownCap_le_maxLen w _ _ _ hmx) hcg (by simpa using hsize.symm) (by
              intro i x hi
              have := List.all_eq_true.mp hun x (List.mem_of_getElem? hi)
              refine ⟨by simpa using this, fun q y hq => (hcell i x q y hi hq).1⟩) (by
              intro i x q y hi hq
              obtain ⟨u, g1, g2⟩ := n4 i x q y hi hq
              refine ⟨u, ?_, g2⟩
              rw [Array.getElem?_append_left (by simpa using (List.getElem?_eq_some_iff.mp g1).1), List.getElem?_toArray]; exact g1)
          refine .value (run1 _ _ ?_) hA hV
          rw [hxe, hy1]
          exact hrun
      · cases h
  · -- to nil
    rename_i hxn
    rw [hxn] at hvx
    have hxe := hvx.inv_nilS
    split at h
    · rename_i hnil
      obtain ⟨rfl, rfl⟩ := Prod.mk.inj (Option.some.inj h)
      subst hnil
      refine .pure (v := .slice none 0 0) (run1 _ _ ?_) hr .nilS
      rw [hxe]
      rcases hread with ⟨hy1, _⟩ | ⟨ad, cap, e', hy1, _, _⟩
      · rw [hy1]; simp [Builtin.append_, run_underlying hu, sizeOf, typeInfo, h1, Builtin.lenOf, Builtin.firstCells]
      · rw [hy1]; simp [Builtin.append_, run_underlying hu, sizeOf, typeInfo, h1, Builtin.lenOf, Builtin.firstCells, loadCells, loadCellsFrom]
    · rename_i hnn
      split at h
      · rename_i hroom
        obtain ⟨rfl, rfl⟩ := Prod.mk.inj (Option.some.inj h)
        obtain ⟨r1, r2⟩ := roomOk_iff hroom
        rcases hread with ⟨_, hy2⟩ | ⟨ad, cap, e', hy1, hel, hcell⟩
        · exact absurd hy2 hnn
        · obtain ⟨news, n1, n2, n3, n4⟩ := news_ok h0 hun hel hcell
          have hpos : 0 < ys.length := List.length_pos_iff.mpr hnn
          have hrun := run_append_nil (P := P) w t o.type el inf zv hu h1 h2 ad ys.length cap news (by rw [hsz']; exact n1) n2 hpos (by omega) (by rw [hb']; omega)
          have hcg : ys.length ≤ grownCap w ys.length 0 el := grownCap_ge w _ _ _
          have hmx : ys.length ≤ maxLen := by simp only [maxLen]; omega
          have hsize := grown_cells (zs := zv.cells) (news := news) (olds := []) (sz := sz) (k := ys.length) (cap := grownCap w ys.length 0 el) (by rw [h7, hsz']) (by simpa using n1) hcg
          simp only [Array.empty_append] at hsize
          obtain ⟨m', hA, hV⟩ := newRow_ok (ty := el) (sz := sz) (els := ys) (cap := grownCap w ys.length 0 el) (c := news.toArray ++ Builtin.zeroCells zv.cells (grownCap w ys.length 0 el - ys.length)) hr (hf _ (Nat.le_refl _) (by rw [Mem.next_push]; omega)) (w.drew.alloc (.cells (news.toArray ++ Builtin.zeroCells zv.cells (grownCap w ys.length 0 el - ys.length)) el)) (below_grow w _) (heap_alloc_new w.drew _) (grownCap_le_maxLen w _ _ _ hmx) hcg (by simpa using hsize.symm) (by
              intro i x hi
              have := List.all_eq_true.mp hun x (List.mem_of_getElem? hi)
              refine ⟨by simpa using this, fun q y hq => (hcell i x q y hi hq).1⟩) (by
              intro i x q y hi hq
              obtain ⟨u, g1, g2⟩ := n4 i x q y hi hq
              refine ⟨u, ?_, g2⟩
              rw [Array.getElem?_append_left (by simpa using (List.getElem?_eq_some_iff.mp g1).1), List.getElem?_toArray]; exact g1)
          refine .value (run1 _ _ ?_) hA hV
          rw [hxe, hy1]
          exact hrun
      · cases h
  · -- to a row of its own
    rename_i rr i0 k z0 hxo
    rw [hxo] at hvx
    obtain ⟨row, hrow, h⟩ := Option.bind_eq_some_iff.mp h
    split at h
    · rename_i hh
      obtain ⟨c1, c2, c3, c4, c5, c6⟩ := hh
      obtain ⟨rfl, rfl⟩ := Prod.mk.inj (Option.some.inj h)
      subst c1
      obtain ⟨r1, r2⟩ := roomOk_iff c6
      obtain ⟨off, cp, pl, hx1, hm, hcp, hkn, ha, _⟩ := hvx.inv_own
      have hoff : off = 0 := by rw [ha (.inr rfl), Nat.zero_mul]
      subst hoff
      have hkn2 : k ≤ pl.cap := by omega
      have hR := hr.row rr pl row hm hrow
      obtain ⟨arr, fz, g1, g2, g3, g4, gf⟩ := hR.ex
      have hE := hR.e
      have hT := hR.ty
      have hrlt := hr.wf.lt hrow
      have hfn : m s.next = none := hf _ (Nat.le_refl _) (by rw [Mem.next_push, Mem.next_put]; omega)
      have hlt : (row.els.take k).length = k := by simp; omega
      -- the elements of what comes
      have hels : ∀ (i : Nat) (x : List AV), (row.els.take k ++ ys)[i]? = some x → (i < k ∧ row.els[i]? = some x) ∨ (k ≤ i ∧ ys[i - k]? = some x) := by
        intro i x hi
        by_cases hik : i < k
        · rw [List.getElem?_append_left (by omega), List.getElem?_take, if_pos hik] at hi
          exact .inl ⟨hik, hi⟩
        · rw [List.getElem?_append_right (by omega), hlt] at hi
          exact .inr ⟨by omega, hi⟩
      rcases hread with ⟨hy1, hy2⟩ | ⟨ad, cap, e', hy1, hel, hcell⟩
      · subst hy2
        have hA := After.rebind (w1 := w) hr hfn hm hrow c5 (row' := ⟨el, sz, row.els.take k ++ []⟩) c3.symm c4.symm (by simp; omega) arr ⟨rfl, rfl, rfl, rfl⟩ (fun _ _ => rfl) g1 gf g2 (by
            intro i x hi
            rcases hels i x hi with ⟨_, hi⟩ | ⟨_, hi⟩
            · exact hR.szs i x hi
            · simp at hi) (by
            intro i x q y hi hq
            rcases hels i x hi with ⟨_, hi⟩ | ⟨_, hi⟩
            · rw [← hE]; exact g4 i x q y hi hq
            · simp at hi)
        refine .value (run1 (.slice (some ⟨pl.blk, 0, none⟩) k cp) w ?_) hA (V.own' (off := 0) (i := 0) (cp := cp) (pl := pl) (upd_same _ _ _) (by omega) (by simpa using hkn) (by intro _; simp) (hE.trans c4))
        rw [hx1, hy1]
        simp [Builtin.append_, run_underlying hu, sizeOf, typeInfo, h1, Builtin.lenOf, Builtin.firstCells, hkn, storeCells]
      · obtain ⟨news, n1, n2, n3, n4⟩ := news_ok h0 hun hel hcell
        have hsize : arr.size = pl.cap * sz := by rw [← g2, hE, c4]
        have hyu : ∀ (i : Nat) (x : List AV), ys[i]? = some x → x.length = sz ∧ ∀ (q : Nat) (y : AV), x[q]? = some y → isCell y = true := by
          intro i x hi
          have := List.all_eq_true.mp hun x (List.mem_of_getElem? hi)
          exact ⟨by simpa using this, fun q y hq => (hcell i x q y hi hq).1⟩
        have hszs : ∀ (i : Nat) (x : List AV), (row.els.take k ++ ys)[i]? = some x → x.length = sz ∧ ∀ (q : Nat) (y : AV), x[q]? = some y → isCell y = true := by
          intro i x hi
          rcases hels i x hi with ⟨_, hi⟩ | ⟨_, hi⟩
          · rw [← c4]; exact hR.szs i x hi
          · exact hyu _ x hi
        have hkc : k * sz ≤ pl.cap * sz := Nat.mul_le_mul_right _ hkn2
        have hol : (arr.toList.take (k * sz)).length = k * sz := by rw [List.length_take, Array.length_toList, hsize]; omega
        by_cases hfit : k + ys.length ≤ cp
        · have hmul : (k + ys.length) * sz ≤ pl.cap * sz := Nat.mul_le_mul_right _ (by omega)
          have hmul' := hmul
          rw [Nat.add_mul] at hmul'
          have hbd : k * sz + news.length ≤ arr.size := by rw [n1, hsize]; omega
          have hrun := run_append_room_cells (P := P) (w := w) t o.type el inf hu h1 pl.blk 0 k cp ad ys.length cap news (by rw [hsz']; exact n1) n2 n3 hfit (by
              intro j hj
              rw [hsz']
              simp only [World.cell?, g1]
              rw [Array.getElem?_eq_getElem (by omega)]; rfl) (by
              intro j hj
              rw [hsz']
              simp only [World.frozen?, g1]
              exact gf.at_ (by omega))
          rw [hsz', Nat.zero_add] at hrun
          have hA := After.rebind (w1 := w.setCells pl.blk (k * sz) news) hr hfn hm hrow c5 (row' := ⟨el, sz, row.els.take k ++ ys⟩) c3.symm c4.symm (by simp; omega)
            (arr.toList.take (k * sz) ++ news ++ arr.toList.drop (k * sz + news.length)).toArray (setCells_rest _ _ _ _) (fun j hj => setCells_far _ _ _ w j hj) (setCells_row _ _ w arr g1 hbd) (by
              have : (arr.toList.take (k * sz) ++ news ++ arr.toList.drop (k * sz + news.length)).toArray.size = arr.size := by
                simp only [List.size_toArray, List.length_append, List.length_take, List.length_drop, Array.length_toList]
                omega
              rw [this]; exact gf) (by
              rw [g2]
              simp only [List.size_toArray, List.length_append, List.length_take, List.length_drop, Array.length_toList]
              omega) (by rw [c4]; exact hszs) (by
              intro i x q y hi hq
              have hql : q < sz := by rw [← (hszs i x hi).1]; exact (List.getElem?_eq_some_iff.mp hq).1
              rw [c4, List.getElem?_toArray]
              rcases hels i x hi with ⟨hik, hi⟩ | ⟨hik, hi⟩
              · have hb2 : (i + 1) * sz ≤ k * sz := Nat.mul_le_mul_right _ hik
                rw [Nat.add_mul] at hb2
                obtain ⟨u, q1, q2⟩ := g4 i x q y hi hq
                refine ⟨u, ?_, q2⟩
                rw [List.append_assoc, List.getElem?_append_left (by rw [List.length_take, Array.length_toList]; omega), List.getElem?_take, if_pos (by omega), Array.getElem?_toList]
                rw [hE, c4] at q1; exact q1
              · obtain ⟨u, q1, q2⟩ := n4 _ x q y hi hq
                refine ⟨u, ?_, q2⟩
                have hnl := (List.getElem?_eq_some_iff.mp q1).1
                have hb2 : i * sz = k * sz + (i - k) * sz := by rw [← Nat.add_mul]; congr 1; omega
                rw [List.append_assoc, List.getElem?_append_right (by rw [hol]; omega), hol, List.getElem?_append_left (by omega)]
                rw [← q1]; congr 1; omega)
          refine .value (run1 _ _ ?_) hA (V.own' (off := 0) (i := 0) (cp := cp) (pl := pl) (upd_same _ _ _) (by omega) hfit (by intro _; simp) (hE.trans c4))
          rw [hx1, hy1]
          exact hrun
        · have hcells : ∀ j u, (arr.toList.take (k * sz))[j]? = some u → w.cell? ((⟨pl.blk, 0, none⟩ : Addr).add j) = some u := by
            intro j u hj
            rw [List.getElem?_take] at hj
            split at hj
            · rw [add_addr]
              simp only [World.cell?, g1]
              rw [Array.getElem?_toList] at hj
              simpa using hj
            · cases hj
          have hneed : cp < k + ys.length := by omega
          have hrun := run_append_grow (P := P) w t o.type el inf zv hu h1 h2 ⟨pl.blk, 0, none⟩ k cp (arr.toList.take (k * sz)) (by rw [hsz']; exact hol) hcells ad ys.length cap news (by rw [hsz']; exact n1) n2 hneed (by omega) (growslice_fits hneed (by rw [hb']; exact r2))
          have hkill := After.kill hr hrlt c5
          have hcg : k + ys.length ≤ grownCap w (k + ys.length) cp el := grownCap_ge w _ _ _
          have hmx : k + ys.length ≤ maxLen := by simp only [maxLen]; omega
          have hsize2 := grown_cells (zs := zv.cells) (news := news) (olds := arr.toList.take (k * sz)) (sz := sz) (k := k + ys.length) (cap := grownCap w (k + ys.length) cp el) (by rw [h7, hsz']) (by rw [hol, n1, Nat.add_mul]) hcg
          have hlen2 : (row.els.take k ++ ys).length = k + ys.length := by rw [List.length_append, hlt]
          obtain ⟨m', hA, hV⟩ := newRow_ok (ty := el) (sz := sz) (els := row.els.take k ++ ys) (cap := grownCap w (k + ys.length) cp el) (c := (arr.toList.take (k * sz)).toArray ++ news.toArray ++ Builtin.zeroCells zv.cells (grownCap w (k + ys.length) cp el - (k + ys.length))) hkill.rel (by rw [Mem.next_put]; exact hfn) (w.drew.alloc (.cells ((arr.toList.take (k * sz)).toArray ++ news.toArray ++ Builtin.zeroCells zv.cells (grownCap w (k + ys.length) cp el - (k + ys.length))) el)) (below_grow w _) (heap_alloc_new w.drew _) (grownCap_le_maxLen w _ _ _ hmx) (by rw [hlen2]; exact hcg) hsize2.symm hszs (by
              intro i x q y hi hq
              have hql : q < sz := by rw [← (hszs i x hi).1]; exact (List.getElem?_eq_some_iff.mp hq).1
              rcases hels i x hi with ⟨hik, hi⟩ | ⟨hik, hi⟩
              · have hb2 : (i + 1) * sz ≤ k * sz := Nat.mul_le_mul_right _ hik
                rw [Nat.add_mul] at hb2
                obtain ⟨u, q1, q2⟩ := g4 i x q y hi hq
                refine ⟨u, ?_, q2⟩
                rw [Array.append_assoc, Array.getElem?_append_left (by rw [List.size_toArray]; omega), List.getElem?_toArray, List.getElem?_take, if_pos (by omega), Array.getElem?_toList]
                rw [hE, c4] at q1; exact q1
              · obtain ⟨u, q1, q2⟩ := n4 _ x q y hi hq
                refine ⟨u, ?_, q2⟩
                have hnl := (List.getElem?_eq_some_iff.mp q1).1
                have hb2 : i * sz = k * sz + (i - k) * sz := by rw [← Nat.add_mul]; congr 1; omega
                rw [Array.append_assoc, Array.getElem?_append_right (by rw [List.size_toArray]; omega), List.size_toArray, hol, Array.getElem?_append_left (by rw [List.size_toArray]; omega), List.getElem?_toArray]
                rw [← q1]; congr 1; omega)
          have hst := Step.put hr.wf hrlt c5 none (fun _ => rfl)
          refine .value (run1 _ _ ?_) (After.trans hst (Step.push hst.wf _) hkill hA) (by rw [hlen2] at hV; exact hV)
          rw [hx1, hy1]
          exact hrun
    · cases h
  · cases h

theorem below_bytes (w : World) (el : TypeId) (b : ByteArray) : Below w.heap.size w (Lib.bytesWorld w el b) := by
  refine ⟨rfl, rfl, rfl, by rw [Lib.bytesWorld_size]; omega, fun k hk => Lib.bytesWorld_at_old w el b k hk⟩

theorem op_toBytes {t u el : TypeId} {x : Operand} {cx : Opd} {bs : List UInt8} (ho : o.op = .convert t u x) (ht : P.underlying t = some .string) (hu : P.underlying u = some (.slice el)) (hel : P.underlying el = some (.int .u8)) (hx : cOpd x = some cx) (hr : Rel W0 m s w) (he : EnvOK W0 m n a e) (hf : m s.next = none)
    (h1 : ev e cx = .str bs) (h2 : bs.length ≤ 140737488355328) : Done P W0 m s w (s.push ⟨el, 1, bs.map fun c => [.int .u8 c.toNat]⟩) (.own s.next 0 bs.length 1) o a := by
  have hv := opd_V he hx
  rw [h1] at hv
  obtain ⟨b, hb, rfl⟩ := hv.inv_str
  have hsize : b.size = b.data.toList.length := by rw [Array.length_toList]; rfl
  have hlen : (b.data.toList.map fun c => [AV.int .u8 c.toNat]).length = b.data.toList.length := by simp
  have hcg : b.size ≤ grownCap w b.size 0 el := grownCap_ge w _ _ _
  have hcells : (Lib.bytesCells w el b).size = grownCap w b.size 0 el := by
    have : b.data.size = b.size := rfl
    simp only [Lib.bytesCells, Array.size_append, Array.size_map, Array.size_replicate, this]
    omega
  obtain ⟨m', hA, hV⟩ := newRow_fz (ty := el) (sz := 1) (cap := grownCap w b.size 0 el) (c := Lib.bytesCells w el b) (els := b.data.toList.map fun c => [AV.int .u8 c.toNat]) hr hf (Lib.bytesWorld w el b) (below_bytes w el b) (Lib.bytesWorld_at_new w el b) (.inr (Nat.le_refl _)) (grownCap_le_maxLen w _ _ _ (by simp only [maxLen]; omega)) (by rw [hlen, ← hsize]; exact hcg) (by rw [hcells, Nat.mul_one]) (by
      intro i y hi
      rw [List.getElem?_map] at hi
      obtain ⟨c, _, rfl⟩ := Option.map_eq_some_iff.mp hi
      refine ⟨rfl, ?_⟩
      intro q z hq
      match q with
      | 0 => simp at hq; subst hq; rfl
      | q + 1 => simp at hq) (by
      intro i y q z hi hq
      rw [List.getElem?_map] at hi
      obtain ⟨c, hc, rfl⟩ := Option.map_eq_some_iff.mp hi
      match q with
      | q + 1 => simp at hq
      | 0 =>
        simp at hq
        subst hq
        rw [Array.getElem?_toList] at hc
        have hlt := (Array.getElem?_eq_some_iff.mp hc).1
        refine ⟨.int .u8 c.toNat, ?_, .int _ _⟩
        simp only [Lib.bytesCells, Nat.mul_one, Nat.add_zero]
        rw [Array.getElem?_append_left (by simpa using hlt), Array.getElem?_map, hc]
        rfl)
  rw [hlen] at hV
  refine .value (w' := Lib.bytesWorld w el b) ?_ hA hV
  have hrun := Lib.run_convert_string_bytes (P := P) w t u el b ht hu hel
  rw [← hsize]
  generalize Lib.bytesWorld w el b = w1 at hrun ⊢
  generalize grownCap w b.size 0 el = g at hrun ⊢
  generalize b.size = z at hrun ⊢
  simp only [execOp, ho, hb, Sem.run_bind, hrun, Result.andThen_ok, Sem.run_pure]

theorem op_toStr {t u el : TypeId} {x : Operand} {cx : Opd} {es : List (List AV)} {bs : List UInt8} (ho : o.op = .convert t u x) (hd : P.underlying t = some (.slice el)) (hel : P.underlying el = some (.int .u8)) (hu : P.underlying u = some .string) (hx : cOpd x = some cx) (hr : Rel W0 m s w) (he : EnvOK W0 m n a e)
    (h1 : readAll s (ev e cx) = some es) (h2 : es.mapM byteOf = some bs) : Done P W0 m s w s (.str bs) o a := by
  have hv := opd_V he hx
  have hby : ∀ c b, byteOf c = some b → ∃ z, c = [.int .u8 z] ∧ b = UInt8.ofNat z.toNat := by
    intro c b hc
    unfold byteOf at hc
    split at hc
    · exact ⟨_, rfl, (Option.some.inj hc).symm⟩
    · cases hc
  obtain ⟨hl, hall⟩ := mapM_some h2
  have huni : uni 1 es = true := by
    apply List.all_eq_true.mpr
    intro c hc
    obtain ⟨i, hi⟩ := List.mem_iff_getElem?.mp hc
    have hlt := (List.getElem?_eq_some_iff.mp hi).1
    obtain ⟨z, rfl, _⟩ := hby _ _ (hall i c bs[i] hi (by simp))
    simp
  have key : ∃ ad l c, ∃ b : ByteArray, a.eval x = .slice ad l c ∧ (Conv.bytesToString (.slice ad l c)).run P w = .ok (.string b) w ∧ b.data.toList = bs := by
    rcases read_told hr hv h1 with ⟨hy1, hy2⟩ | ⟨ad, cap, e', hy1, hel', hcell⟩
    · subst hy2
      simp at hl
      have : bs = [] := List.eq_nil_of_length_eq_zero hl.symm
      subst this
      refine ⟨_, _, _, ByteArray.empty, hy1, by simp [Conv.bytesToString], rfl⟩
    · obtain ⟨news, n1, n2, n3, n4⟩ := news_ok (W0 := W0) (m := m) (by omega : 0 < 1) huni hel' hcell
      let ns : List Int := es.map fun c => match c with | [.int .u8 z] => z | _ => 0
      have hns : news = ns.map (Value.int .u8) := by
        apply List.ext_getElem?
        intro i
        by_cases hi : i < es.length
        · have he1 : es[i]? = some es[i] := List.getElem?_eq_getElem hi
          obtain ⟨z, hz, _⟩ := hby _ _ (hall i es[i] bs[i] he1 (by simp))
          obtain ⟨uu, g1, g2⟩ := n4 i es[i] 0 (.int .u8 z) he1 (by rw [hz]; rfl)
          have := g2.inv_int
          subst this
          simp only [Nat.mul_one, Nat.add_zero] at g1
          rw [g1]
          simp [ns, he1, hz]
        · rw [List.getElem?_eq_none (by omega), List.getElem?_eq_none (by simp [ns]; omega)]
      have hload : (loadCells ad es.length).run P w = .ok (ns.map (Value.int .u8)).toArray w := by
        have := run_loadCells_list (P := P) w ad news n2
        rw [n1, Nat.mul_one] at this
        rw [this, hns]
      refine ⟨_, _, _, _, hy1, run_bytesToString w _ _ _ ns hload, ?_⟩
      have fold : ∀ (l : List Int) (acc : ByteArray), (l.foldl (fun r n => r.push (UInt8.ofNat n.toNat)) acc).data.toList = acc.data.toList ++ l.map fun n => UInt8.ofNat n.toNat := by
        intro l
        induction l with
        | nil => intro acc; simp
        | cons z l ih => intro acc; simp only [List.foldl_cons, ih, List.map_cons]; simp [ByteArray.push]
      rw [fold]
      simp only [ByteArray.empty]
      apply List.ext_getElem?
      intro i
      by_cases hi : i < es.length
      · have he1 : es[i]? = some es[i] := List.getElem?_eq_getElem hi
        have hb1 : bs[i]? = some bs[i] := List.getElem?_eq_getElem (by omega)
        obtain ⟨z, hz, hz2⟩ := hby _ _ (hall i es[i] bs[i] he1 hb1)
        rw [hb1, hz2]
        simp [ns, he1, hz]
      · rw [List.getElem?_eq_none (by simp [ns]; omega), List.getElem?_eq_none (by omega)]
  obtain ⟨ad, l, c, b, hx1, hb, hb2⟩ := key
  refine .pure (v := .string b) ?_ hr (by rw [← hb2]; exact .str b)
  simp [hx1, execOp, ho, convert, run_underlying hd, run_underlying hu, run_underlying hel, hb]

end
end Go.VI
