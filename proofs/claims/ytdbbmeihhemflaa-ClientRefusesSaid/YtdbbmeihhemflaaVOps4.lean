/- Each operation, on related values: what makes memory. No statement of the seat is proved here. -/
import Derived.Test.YtdbbmeihhemflaaVOps3
namespace Go.VI
open Go Go.RowKit

section
variable {P : Program} {W0 : World} {m m' : PM} {s s' : Mem} {w w' : World} {n : Nat} {a : Act} {e : Env} {o : Oper} {r : AV}

theorem fill1 (off : Nat) : ∀ (v : List Value) (i : Nat) (cs : Array Value),
    ((v.zipIdx i).foldl (fun (cs : Array Value) (p : Value × Nat) => cs.setIfInBounds (off + p.2) p.1) cs).size = cs.size ∧
    ∀ k, ((v.zipIdx i).foldl (fun (cs : Array Value) (p : Value × Nat) => cs.setIfInBounds (off + p.2) p.1) cs)[k]? = if off + i ≤ k ∧ k < off + i + v.length ∧ k < cs.size then v[k - (off + i)]? else cs[k]? := by
  intro v
  induction v with
  | nil => intro i cs; refine ⟨rfl, ?_⟩; intro k; rw [if_neg (by simp; omega)]; rfl
  | cons x v ih =>
    intro i cs
    simp only [List.zipIdx_cons, List.foldl_cons]
    obtain ⟨h1, h2⟩ := ih (i + 1) (cs.setIfInBounds (off + i) x)
    refine ⟨by rw [h1]; simp, ?_⟩
    intro k
    rw [h2 k]
    simp only [Array.size_setIfInBounds, List.length_cons]
    by_cases c1 : off + (i + 1) ≤ k ∧ k < off + (i + 1) + v.length ∧ k < cs.size
    · rw [if_pos c1, if_pos (by omega)]
      have : k - (off + i) = (k - (off + (i + 1))) + 1 := by omega
      rw [this, List.getElem?_cons_succ]
    · rw [if_neg c1]
      by_cases c2 : k = off + i
      · subst c2
        by_cases c3 : off + i < cs.size
        · rw [if_pos (by omega)]
          simp [c3]
        · rw [if_neg (by omega)]
          rw [Array.getElem?_eq_none (by simp; omega), Array.getElem?_eq_none (by omega)]
      · have c2' : ¬ off + i = k := fun h => c2 h.symm
        rw [if_neg (by omega), Array.getElem?_setIfInBounds, if_neg c2']

theorem fillA (off : Nat) (v cs : Array Value) : (v.zipIdx.foldl (fun (cs : Array Value) (p : Value × Nat) => cs.setIfInBounds (off + p.2) p.1) cs).size = cs.size ∧
    ∀ k, (v.zipIdx.foldl (fun (cs : Array Value) (p : Value × Nat) => cs.setIfInBounds (off + p.2) p.1) cs)[k]? = if off ≤ k ∧ k < off + v.size ∧ k < cs.size then v[k - off]? else cs[k]? := by
  have h := fill1 off v.toList 0 cs
  rw [← Array.foldl_toList, Array.toList_zipIdx]
  simpa using h

theorem VL_put {cs v : Array Value} {acs av : List AV} {off : Nat} (h : VL W0 m cs acs) (hv : VL W0 m v av) (hle : off + av.length ≤ acs.length) :
    VL W0 m (v.zipIdx.foldl (fun (cs : Array Value) (p : Value × Nat) => cs.setIfInBounds (off + p.2) p.1) cs) (putCells acs off av) := by
  obtain ⟨h1, h2⟩ := fillA off v cs
  refine ⟨by rw [h1, putCells_len _ _ _ hle]; exact h.1, ?_⟩
  intro i x c hx hc
  rw [h2] at hx
  rw [putCells_get _ _ _ hle] at hc
  have e1 := h.1
  have e2 := hv.1
  by_cases c1 : i < off
  · rw [if_neg (by omega)] at hx
    rw [if_pos c1] at hc
    exact h.2 i x c hx hc
  · rw [if_neg c1] at hc
    by_cases c2 : i < off + av.length
    · rw [if_pos c2] at hc
      rw [if_pos (by omega)] at hx
      exact hv.2 _ x c hx hc
    · rw [if_neg c2] at hc
      rw [if_neg (by omega)] at hx
      exact h.2 i x c hx hc

theorem build_ok (he : EnvOK W0 m n a e) (fs : Array Field) (places : Array (Nat × Nat)) (hp : ∀ (i : Nat) (f : Field), fs[i]? = some f → ∀ sz, cSize P f.type = some sz → places[i]? = some (f.offset, sz)) :
    ∀ (ps : List (Nat × Operand)) (cps : List (Nat × Nat × Opd)) (cells : Array Value) (acs racs : List AV), cParts P fs ps = some cps → VL W0 m cells acs → (∀ (i : Nat) (c : AV), acs[i]? = some c → isCell c = true) → fillParts e cps acs = some racs →
      ∃ rc, Instr.fill (places[·]?) cells (ps.map fun p => (p.1, a.eval p.2)) = some rc ∧ VL W0 m rc racs ∧ (∀ (i : Nat) (c : AV), racs[i]? = some c → isCell c = true) := by
  intro ps
  induction ps with
  | nil =>
    intro cps cells acs racs hc hV hcl h
    simp [cParts] at hc
    subst hc
    simp only [fillParts] at h
    obtain rfl := Option.some.inj h
    exact ⟨cells, rfl, hV, hcl⟩
  | cons p ps ih =>
    intro cps cells acs racs hc hV hcl h
    simp only [cParts, List.mapM_cons, Option.pure_def, Option.bind_eq_bind] at hc
    obtain ⟨q, hq, hc⟩ := Option.bind_eq_some_iff.mp hc
    obtain ⟨qs, hqs, hc⟩ := Option.bind_eq_some_iff.mp hc
    obtain rfl := Option.some.inj hc
    obtain ⟨f, hf, hq⟩ := Option.bind_eq_some_iff.mp hq
    obtain ⟨sz, hsz, hq⟩ := Option.bind_eq_some_iff.mp hq
    obtain ⟨x, hx, hq⟩ := Option.bind_eq_some_iff.mp hq
    obtain rfl := Option.some.inj hq
    simp only [fillParts] at h
    split at h
    · rename_i hh
      obtain ⟨h1, h2, h3⟩ := hh
      have hvx := opd_V he hx
      have hvc := hvx.cells
      have hpl := hp _ _ hf _ hsz
      have hput := VL_put (off := f.offset) hV ⟨hvc.1, hvc.2⟩ (by omega)
      obtain ⟨rc, g1, g2, g3⟩ := ih qs _ _ racs (by simpa [cParts] using hqs) hput (by
        intro i c hi
        rw [putCells_get _ _ _ (by omega)] at hi
        split at hi
        · exact hcl _ _ hi
        · split at hi
          · exact List.all_eq_true.mp h3 c (List.mem_of_getElem? hi)
          · exact hcl _ _ hi) h
      refine ⟨rc, ?_, g2, g3⟩
      simp only [List.map_cons, Instr.fill, hpl]
      have e1 := hV.1
      have e2 := hvc.1
      rw [if_neg (by simp only [ne_eq, Bool.or_eq_true, decide_eq_true_eq, not_or, Decidable.not_not]; omega)]
      exact g1
    · cases h

theorem op_build {t : TypeId} {ps : Array (Nat × Operand)} {fs : Array Field} {z : List AV} {cps : List (Nat × Nat × Opd)} {racs : List AV} (ho : o.op = .build t ps) (hu : P.underlying t = some (.struct fs)) (hz : cZero P t = some z) (hps : cParts P fs ps.toList = some cps)
    (hall : ∀ (i : Nat) (f : Field), fs[i]? = some f → ∃ sz, cSize P f.type = some sz)
    (hr : Rel W0 m s w) (he : EnvOK W0 m n a e) (h : fillParts e cps z = some racs) : Done P W0 m s w s (.agg racs) o a := by
  obtain ⟨inf, zv, c, h1, h2, h3, h4, h5, h6, h7⟩ := cZero_ok hz
  subst h4
  have hzV := (constAV_V (W0 := W0) (m := m) h3).cells
  have hmap : ∃ places : Array (Nat × Nat), (fs.mapM (fun f => do pure (f.offset, ← sizeOf f.type) : Field → Sem (Nat × Nat))).run P w = .ok places w ∧ ∀ (i : Nat) (f : Field), fs[i]? = some f → ∀ sz, cSize P f.type = some sz → places[i]? = some (f.offset, sz) := by
    have key : ∀ (l : List Field), (∀ (i : Nat) (f : Field), l[i]? = some f → ∃ sz, cSize P f.type = some sz) → ∃ ps : List (Nat × Nat), (l.mapM (fun f => do pure (f.offset, ← sizeOf f.type) : Field → Sem (Nat × Nat))).run P w = .ok ps w ∧ ∀ (i : Nat) (f : Field), l[i]? = some f → ∀ sz, cSize P f.type = some sz → ps[i]? = some (f.offset, sz) := by
      intro l
      induction l with
      | nil => intro _; exact ⟨[], by simp, by simp⟩
      | cons f l ih =>
        intro hl
        obtain ⟨sz, hsz⟩ := hl 0 f rfl
        obtain ⟨ps, g1, g2⟩ := ih (fun i f h => hl (i + 1) f (by simpa using h))
        refine ⟨(f.offset, sz) :: ps, by simp only [List.mapM_cons, Sem.run_bind, run_cSize hsz, Result.andThen_ok, Sem.run_pure, g1], ?_⟩
        intro i g hg sz' hsz'
        match i with
        | 0 =>
          simp at hg
          subst hg
          rw [hsz] at hsz'
          obtain rfl := Option.some.inj hsz'
          rfl
        | i + 1 => simp at hg; simpa using g2 i g hg sz' hsz'
    obtain ⟨ps, g1, g2⟩ := key fs.toList (fun i f h => hall i f (by simpa using h))
    refine ⟨ps.toArray, ?_, fun i f h sz hs => by simpa using g2 i f (by simpa using h) sz hs⟩
    rw [Array.mapM_eq_mapM_toList]
    simp only [Sem.run_map, g1, Result.andThen_ok]
  obtain ⟨places, g1, g2⟩ := hmap
  obtain ⟨rc, q1, q2, q3⟩ := build_ok he fs places g2 ps.toList cps zv.cells _ racs hps ⟨hzV.1, hzV.2⟩ (fun i c hi => List.all_eq_true.mp h6 c (List.mem_of_getElem? hi)) h
  refine .pure (v := .agg rc) ?_ hr (.agg rc racs q2.1 q3 q2.2)
  have q1' : Instr.fill (places[·]?) zv.cells (ps.map fun p => (p.1, a.eval p.2)).toList = some rc := by rw [Array.toList_map]; exact q1
  simp only [execOp, ho, Instr.build, zeroValue, typeInfo, Sem.run_bind, run_program, Result.andThen_ok, h1, h2, Sem.run_pure, run_underlying hu, g1]
  rw [q1']
  rfl

/-- A row's elements, one behind the other. -/
def Flat (W0 : World) (m : PM) (sz : Nat) (c : Array Value) (els : List (List AV)) : Prop :=
  c.size = els.length * sz ∧ (∀ (i : Nat) (x : List AV), els[i]? = some x → x.length = sz ∧ ∀ (q : Nat) (y : AV), x[q]? = some y → isCell y = true) ∧
  ∀ (i : Nat) (x : List AV) (q : Nat) (y : AV), els[i]? = some x → x[q]? = some y → ∃ v, c[i * sz + q]? = some v ∧ V W0 m v y

theorem flat_zero {z : Array Value} {az : List AV} {sz : Nat} (k : Nat) (hz : VL W0 m z az) (hl : az.length = sz) (hc : az.all isCell = true) (_hs : 0 < sz) :
    Flat W0 m sz ((Array.range (k * sz)).map (z[· % z.size]!)) (List.replicate k az) := by
  refine ⟨by simp, ?_, ?_⟩
  · intro i x hi
    rw [List.getElem?_replicate] at hi
    split at hi
    · obtain rfl := Option.some.inj hi
      exact ⟨hl, fun q y hq => List.all_eq_true.mp hc y (List.mem_of_getElem? hq)⟩
    · cases hi
  · intro i x q y hi hq
    rw [List.getElem?_replicate] at hi
    split at hi
    · rename_i hik
      obtain rfl := Option.some.inj hi
      have hq' := (List.getElem?_eq_some_iff.mp hq).1
      have hzs := hz.1
      have hlt : i * sz + q < k * sz := by
        have : (i + 1) * sz ≤ k * sz := Nat.mul_le_mul_right _ hik
        rw [Nat.add_mul] at this
        omega
      have hmod : (i * sz + q) % z.size = q := by
        rw [hzs, hl, Nat.mul_comm, Nat.mul_add_mod, Nat.mod_eq_of_lt (by omega)]
      refine ⟨z[q]!, ?_, ?_⟩
      · simp [hlt, hmod]
      · exact hz.2 q _ y (by rw [getElem!_pos z q (by omega)]; simp) hq
    · cases hi

theorem flat_set {c v : Array Value} {els : List (List AV)} {av : List AV} {sz i : Nat} (h : Flat W0 m sz c els) (hv : VL W0 m v av) (hl : av.length = sz) (hc : av.all isCell = true) (hi : i < els.length) :
    Flat W0 m sz (v.zipIdx.foldl (fun (cs : Array Value) (p : Value × Nat) => cs.setIfInBounds (i * sz + p.2) p.1) c) (els.set i av) := by
  obtain ⟨h1, h2, h3⟩ := h
  obtain ⟨g1, g2⟩ := fillA (i * sz) v c
  have hvs := hv.1
  refine ⟨by rw [g1, h1]; simp, ?_, ?_⟩
  · intro j x hj
    by_cases e : i = j
    · subst e
      rw [List.getElem?_set_self hi] at hj
      obtain rfl := Option.some.inj hj
      exact ⟨hl, fun q y hq => List.all_eq_true.mp hc y (List.mem_of_getElem? hq)⟩
    · rw [List.getElem?_set_ne e] at hj
      exact h2 j x hj
  · intro j x q y hj hq
    by_cases e : i = j
    · subst e
      rw [List.getElem?_set_self hi] at hj
      obtain rfl := Option.some.inj hj
      have hq' := (List.getElem?_eq_some_iff.mp hq).1
      have hb : (i + 1) * sz ≤ els.length * sz := Nat.mul_le_mul_right _ hi
      rw [Nat.add_mul] at hb
      rw [g2, if_pos (by omega)]
      have hlt : q < v.size := by omega
      refine ⟨v[q], by simp [hlt], hv.2 q _ y (by simp) hq⟩
    · rw [List.getElem?_set_ne e] at hj
      obtain ⟨u, hu, hV⟩ := h3 j x q y hj hq
      refine ⟨u, ?_, hV⟩
      have hq' := (List.getElem?_eq_some_iff.mp hq).1
      have hxl := (h2 j x hj).1
      rw [g2, if_neg]
      · exact hu
      · rcases Nat.lt_or_gt_of_ne e with hlt | hgt
        · have : (i + 1) * sz ≤ j * sz := Nat.mul_le_mul_right _ hlt
          rw [Nat.add_mul] at this
          omega
        · have : (j + 1) * sz ≤ i * sz := Nat.mul_le_mul_right _ hgt
          rw [Nat.add_mul] at this
          omega

theorem lit_ok (he : EnvOK W0 m n a e) (sz : Nat) : ∀ (ps : List (Nat × Operand)) (cps : List (Nat × Opd)) (c : Array Value) (els rels : List (List AV)), cLits ps = some cps → Flat W0 m sz c els → fillLit sz e cps els = some rels →
    ∃ rc, Instr.fill (fun i => some (i * sz, sz)) c (ps.map fun p => (p.1, a.eval p.2)) = some rc ∧ Flat W0 m sz rc rels ∧ rels.length = els.length := by
  intro ps
  induction ps with
  | nil =>
    intro cps c els rels hc hF h
    simp [cLits] at hc
    subst hc
    simp only [fillLit] at h
    obtain rfl := Option.some.inj h
    exact ⟨c, rfl, hF, rfl⟩
  | cons p ps ih =>
    intro cps c els rels hc hF h
    simp only [cLits, List.mapM_cons, Option.pure_def, Option.bind_eq_bind] at hc
    obtain ⟨q, hq, hc⟩ := Option.bind_eq_some_iff.mp hc
    obtain ⟨qs, hqs, hc⟩ := Option.bind_eq_some_iff.mp hc
    obtain rfl := Option.some.inj hc
    obtain ⟨x, hx, hq⟩ := Option.bind_eq_some_iff.mp hq
    obtain rfl := Option.some.inj hq
    simp only [fillLit] at h
    split at h
    · rename_i hh
      obtain ⟨h1, h2, h3⟩ := hh
      have hvc := (opd_V he hx).cells
      have hF' := flat_set hF ⟨hvc.1, hvc.2⟩ h1 h3 h2
      obtain ⟨rc, g1, g2, g3⟩ := ih qs _ _ rels (by simpa [cLits] using hqs) hF' h
      refine ⟨rc, ?_, g2, by rw [g3]; simp⟩
      simp only [List.map_cons, Instr.fill]
      have e1 := hF.1
      have e2 := hvc.1
      have hb : (p.1 + 1) * sz ≤ els.length * sz := Nat.mul_le_mul_right _ h2
      rw [Nat.add_mul] at hb
      rw [if_neg (by simp only [ne_eq, Bool.or_eq_true, decide_eq_true_eq, not_or, Decidable.not_not]; omega)]
      exact g1
    · cases h

/-- A new row of so many elements, a mark behind it. -/
theorem newRow_fz (hr : Rel W0 m s w) (hf : m s.next = none) {ty sz cap : Nat} {c : Array Value} {els : List (List AV)} (w1 : World) (hb : Below w.heap.size w w1) {fz : Nat × Nat} (hg : w1.heap[w.heap.size]? = some (.cells c ty fz)) (hfz : Cold fz c.size) (hcap : cap ≤ maxLen) (hl : els.length ≤ cap) (hc : cap * sz = c.size)
    (hsz : ∀ (i : Nat) (x : List AV), els[i]? = some x → x.length = sz ∧ ∀ (q : Nat) (y : AV), x[q]? = some y → isCell y = true)
    (hv : ∀ (i : Nat) (x : List AV) (q : Nat) (y : AV), els[i]? = some x → x[q]? = some y → ∃ v, c[i * sz + q]? = some v ∧ V W0 m v y) :
    ∃ m', After W0 m s w m' (s.push ⟨ty, sz, els⟩) w1 ∧ V W0 m' (.slice (some ⟨w.heap.size, 0, none⟩) els.length cap) (.own s.next 0 els.length sz) := by
  refine ⟨upd m s.next ⟨ty, w.heap.size, cap, sz⟩, After.push hr hf ⟨ty, sz, els⟩ c cap hb hg hfz hc hcap hl hsz hv, ?_⟩
  exact .own 0 _ cap _ 0 ⟨ty, w.heap.size, cap, sz⟩ (upd_same _ _ _) (by simp) hl (by intro _; simp)

/-- A new row of so many elements. -/
theorem newRow_ok (hr : Rel W0 m s w) (hf : m s.next = none) {ty sz cap : Nat} {c : Array Value} {els : List (List AV)} (w1 : World) (hb : Below w.heap.size w w1) (hg : w1.heap[w.heap.size]? = some (.cells c ty (0, 0))) (hcap : cap ≤ maxLen) (hl : els.length ≤ cap) (hc : cap * sz = c.size)
    (hsz : ∀ (i : Nat) (x : List AV), els[i]? = some x → x.length = sz ∧ ∀ (q : Nat) (y : AV), x[q]? = some y → isCell y = true)
    (hv : ∀ (i : Nat) (x : List AV) (q : Nat) (y : AV), els[i]? = some x → x[q]? = some y → ∃ v, c[i * sz + q]? = some v ∧ V W0 m v y) :
    ∃ m', After W0 m s w m' (s.push ⟨ty, sz, els⟩) w1 ∧ V W0 m' (.slice (some ⟨w.heap.size, 0, none⟩) els.length cap) (.own s.next 0 els.length sz) := by
  refine ⟨upd m s.next ⟨ty, w.heap.size, cap, sz⟩, After.push hr hf ⟨ty, sz, els⟩ c cap hb hg (.inl rfl) hc hcap hl hsz hv, ?_⟩
  exact .own 0 _ cap _ 0 ⟨ty, w.heap.size, cap, sz⟩ (upd_same _ _ _) (by simp) hl (by intro _; simp)

theorem op_lit {t el : TypeId} {len : Nat} {ps : Array (Nat × Operand)} {sz : Nat} {z : List AV} {cps : List (Nat × Opd)} {els : List (List AV)} (ho : o.op = .buildSlice t len ps) (hu : P.underlying t = some (.slice el)) (hsz : cSize P el = some sz) (hz : cZero P el = some z) (hps : cLits ps.toList = some cps)
    (h0 : 0 < sz) (hle : len * sz ≤ 16777216) (hr : Rel W0 m s w) (he : EnvOK W0 m n a e) (hf : m s.next = none) (h : fillLit sz e cps (List.replicate len z) = some els) : Done P W0 m s w (s.push ⟨el, sz, els⟩) (litV s.next len sz) o a := by
  obtain ⟨inf, zv, c, h1, h2, h3, h4, h5, h6, h7⟩ := cZero_ok hz
  subst h4
  have hzV := (constAV_V (W0 := W0) (m := m) h3).cells
  obtain ⟨inf', h1', hs⟩ := info_of_cSize hsz
  rw [h1] at h1'
  obtain rfl := Option.some.inj h1'
  have hF := flat_zero (W0 := W0) (m := m) (z := zv.cells) (az := cells c) (sz := sz) len ⟨hzV.1, hzV.2⟩ (by rw [h5, hs]) h6 h0
  obtain ⟨rc, g1, g2, g3⟩ := lit_ok he sz ps.toList cps _ _ els hps hF h
  obtain ⟨q1, q2, q3⟩ := g2
  have hlen : els.length = len := by rw [g3]; simp
  have hmx : els.length ≤ maxLen := by
    have : len * 1 ≤ len * sz := Nat.mul_le_mul_left _ h0
    simp only [maxLen]; omega
  obtain ⟨m', hA, hV⟩ := newRow_ok (els := els) (cap := els.length) hr hf (w.alloc (.cells rc el)) (below_push w _) (heap_alloc_new w _) hmx (Nat.le_refl _) q1.symm q2 q3
  rw [hlen] at hV
  have hV' : V W0 m' (.slice (some ⟨w.heap.size, 0, none⟩) len len) (litV s.next len sz) := by
    unfold litV
    split
    · rename_i hb0
      obtain rfl := Nat.eq_of_beq_eq_true hb0
      exact .emp _
    · exact hV
  refine .value (w' := w.alloc (.cells rc el)) ?_ hA hV'
  have g1' : Instr.fill (fun i => some (i * sz, sz)) ((Array.range (len * sz)).map (zv.cells[· % zv.cells.size]!)) (ps.map fun p => (p.1, a.eval p.2)).toList = some rc := by rw [Array.toList_map]; exact g1
  by_cases hzero : len * sz = 0
  · have hl0 : len = 0 := by
      rcases Nat.mul_eq_zero.mp hzero with h | h
      · exact h
      · omega
    subst hl0
    have hr0 : ∀ {β : Type} (f : Nat → β), Array.map f (Array.range 0) = #[] := fun f => Array.eq_empty_of_size_eq_zero (by simp)
    simp only [Nat.zero_mul, hr0] at g1'
    simp [execOp, ho, Instr.buildSlice, run_underlying hu, run_cSize hsz, newRow, hr0]
    rw [show (Array.map (fun p => (p.1, a.eval p.2)) ps).toList = ps.toList.map (fun p => (p.1, a.eval p.2)) from Array.toList_map] at g1'
    rw [g1']
    simp
  · have hn : ¬ (16777216 < len * sz) := by omega
    simp [execOp, ho, Instr.buildSlice, run_underlying hu, run_cSize hsz, newRow, hn, hzero, zeroValue, typeInfo, h1, h2]
    rw [show (Array.map (fun p => (p.1, a.eval p.2)) ps).toList = ps.toList.map (fun p => (p.1, a.eval p.2)) from Array.toList_map] at g1'
    rw [g1']
    simp

end
end Go.VI
