/- Regions whose order is drawn: whatever is drawn, the text's run tells it. No statement of the seat is proved here. -/
import Derived.Test.YtdbbmeihhemflaaVDraw
namespace Go.VI
open Go Go.RowKit

section
variable {P : Program} {W0 : World} {n : Nat} {call : CallF} {ops : Array Oper} {cs : List COper} {E : Nat → Env} {S : Nat → Mem} {R : Nat → AV} {m0 : PM} {w0 : World}

structure DInv (W0 : World) (n : Nat) (ops : Array Oper) (cs : List COper) (E : Nat → Env) (S : Nat → Mem) (R : Nat → AV) (m0 : PM) (w0 : World) (L : Array Bool) (a : Act) (w : World) : Prop where
  size : L.size = ops.size
  closed : Closed ops L
  ex : ∃ (m : PM) (k : Nat), k ≤ ops.size ∧ (k = ops.size ∨ L[k]? = some false) ∧
    (∀ (i : Nat) (co : COper), i < k → cs[i]? = some co → co.up = false → L[i]? = some true) ∧
    (∀ i, k ≤ i → i < ops.size → inertAt ops i = false → L[i]? = some false) ∧ (∀ (co : COper), cs[k]? = some co → co.up = false) ∧
    Rel W0 m (S k) w ∧ (∀ i, i < ops.size → L[i]? = some false → Fresh m (S i) (S (i + 1))) ∧
    EnvOK W0 m n a (envL cs R L (E 0) cs.length) ∧
    (∀ r, (r < (S 0).next ∨ (S ops.size).next ≤ r) → m r = m0 r) ∧
    (∀ b, b < w0.heap.size → w.heap[b]? = w0.heap[b]? ∨ ∃ r pl, m0 r = some pl ∧ pl.blk = b ∧ (S 0).floor ≤ r ∧ r < (S 0).next ∧ ((S 0).get r).isSome = true) ∧
    (∀ r pl, (S 0).next ≤ r → r < (S ops.size).next → m r = some pl → w0.heap.size ≤ pl.blk ∨ ∃ r0 pl0, m0 r0 = some pl0 ∧ pl0.blk = pl.blk ∧ (S 0).floor ≤ r0 ∧ r0 < (S 0).next ∧ ((S 0).get r0).isSome = true) ∧
    w0.heap.size ≤ w.heap.size

theorem L_set {L : Array Bool} {i j : Nat} (hi : i < L.size) : (L.setIfInBounds i true)[j]? = if i = j then some true else L[j]? := by
  rw [Array.getElem?_setIfInBounds]
  split
  · rename_i h; subst h; simp
  · rfl

theorem envL_set (hO : Once cs) {L : Array Bool} {i : Nat} {p : COper} {e : Env} (hL : L.size = cs.length) (hp : cs[i]? = some p) (_hi : L[i]? = some false) (t : Nat) :
    (envL cs R (L.setIfInBounds i true) e cs.length).get t = (putO (envL cs R L e cs.length) p.dst (R i)).get t := by
  have hlt : i < cs.length := (List.getElem?_eq_some_iff.mp hp).1
  have hg : ∀ j, (L.setIfInBounds i true).getD j false = if i = j then true else L.getD j false := by
    intro j
    rw [Array.getD_eq_getD_getElem?, Array.getD_eq_getD_getElem?, L_set (by omega)]
    split <;> rfl
  obtain ⟨a1, a2⟩ := envL_get hO (R := R) (L := L.setIfInBounds i true) (e := e) t cs.length (Nat.le_refl _)
  obtain ⟨b1, b2⟩ := envL_get hO (R := R) (L := L) (e := e) t cs.length (Nat.le_refl _)
  rw [putO_get]
  by_cases hd : p.dst = some t
  · rw [if_pos hd]
    exact a1 i p hlt hp hd (by rw [hg]; simp)
  · rw [if_neg hd]
    by_cases hex : ∃ (j : Nat) (q : COper), cs[j]? = some q ∧ q.dst = some t ∧ L.getD j false = true
    · obtain ⟨j, q, h1, h2, h3⟩ := hex
      have hj := (List.getElem?_eq_some_iff.mp h1).1
      rw [a1 j q hj h1 h2 (by rw [hg]; split <;> first | rfl | exact h3), b1 j q hj h1 h2 h3]
    · rw [a2, b2]
      · intro j q _ h1 h2
        cases h : L.getD j false with
        | false => rfl
        | true => exact absurd ⟨j, q, h1, h2, h⟩ hex
      · intro j q _ h1 h2
        rw [hg]
        split
        · rename_i hij
          subst hij
          rw [hp] at h1
          obtain rfl := Option.some.inj h1
          exact absurd h2 hd
        · cases h : L.getD j false with
          | false => rfl
          | true => exact absurd ⟨j, q, h1, h2, h⟩ hex

theorem EnvOK.get_congr {W0 : World} {m : PM} {n : Nat} {a : Act} {e e' : Env} (h : EnvOK W0 m n a e) (hg : ∀ t, e'.get t = e.get t) : EnvOK W0 m n a e' :=
  ⟨h.size, h.defers, fun t => by rw [hg]; exact h.get t⟩

theorem inertC_step {call : CallF} {c : COp} {e : Env} {s s' : Mem} {r : AV} (hi : inertC c = true) (h : stepOp call c e s = some (r, s')) : s' = s ∧ ∀ s2, stepOp call c e s2 = some (r, s2) := by
  have fin : ∀ (x : Option AV), (x.map fun v => (v, s)) = some (r, s') → s' = s ∧ ∀ s2 : Mem, (x.map fun v => (v, s2)) = some (r, s2) := by
    intro x h
    obtain ⟨v, rfl, h2⟩ := Option.map_eq_some_iff.mp h
    obtain ⟨rfl, rfl⟩ := Prod.mk.inj h2
    exact ⟨rfl, fun _ => rfl⟩
  have one : ∀ (v : AV), some (v, s) = some (r, s') → s' = s ∧ ∀ s2 : Mem, some (v, s2) = some (r, s2) := by
    intro v h
    obtain ⟨rfl, rfl⟩ := Prod.mk.inj (Option.some.inj h)
    exact ⟨rfl, fun _ => rfl⟩
  cases c <;> first | (simp [inertC] at hi; done) | skip
  all_goals clear hi
  case mv => exact one _ h
  case ifc => exact one _ h
  case fn => exact one _ h
  case beq => simp only [stepOp] at h ⊢; cases hq : eqA _ _ _ <;> simp only [hq] at h ⊢ <;> first | (cases h; done) | exact one _ h
  case len => simp only [stepOp] at h ⊢; cases hq : lenA _ _ <;> simp only [hq] at h ⊢ <;> first | (cases h; done) | exact one _ h
  case build => simp only [stepOp] at h ⊢; cases hq : fillParts _ _ _ <;> simp only [hq] at h ⊢ <;> first | (cases h; done) | exact one _ h
  case pick => simp only [stepOp] at h ⊢; split at h <;> first | (cases h; done) | exact one _ h
  case nilCheck => simp only [stepOp] at h ⊢; split at h <;> first | (cases h; done) | exact one _ h
  case fieldAddr => simp only [stepOp] at h ⊢; split at h <;> first | (cases h; done) | exact one _ h
  case ibin => simp only [stepOp] at h ⊢; split at h <;> first | (cases h; done) | exact fin _ h
  case sbin => simp only [stepOp] at h ⊢; split at h <;> first | (cases h; done) | exact fin _ h
  case un => simp only [stepOp] at h ⊢; split at h <;> first | (cases h; done) | exact one _ h
  case ext => simp only [stepOp] at h ⊢; split at h <;> first | (cases h; done) | exact fin _ h
  case mnmx => simp only [stepOp] at h ⊢; split at h <;> first | (cases h; done) | exact fin _ h
  case cutS =>
    simp only [stepOp, Option.bind_eq_bind] at h ⊢
    obtain ⟨l, hl, h⟩ := Option.bind_eq_some_iff.mp h
    obtain ⟨k, hk, h⟩ := Option.bind_eq_some_iff.mp h
    simp only [hl, hk, Option.bind_some]
    split at h
    · split at h
      · rename_i hc; simp only [if_pos hc]; exact one _ h
      · cases h
    · split at h
      · rename_i hc; simp only [if_pos hc]; exact one _ h
      · cases h
    · split at h
      · rename_i hc; simp only [if_pos hc]; exact one _ h
      · cases h
    · split at h
      · rename_i hc; simp only [if_pos hc]; exact one _ h
      · cases h
    · cases h
  case cutT =>
    simp only [stepOp, Option.bind_eq_bind] at h ⊢
    obtain ⟨l, hl, h⟩ := Option.bind_eq_some_iff.mp h
    obtain ⟨k, hk, h⟩ := Option.bind_eq_some_iff.mp h
    simp only [hl, hk, Option.bind_some]
    split at h
    · split at h
      · rename_i hc; simp only [if_pos hc]; exact one _ h
      · cases h
    · cases h
  case cut3 => simp only [stepOp] at h ⊢; exact fin _ h
  case ixA => simp only [stepOp] at h ⊢; exact fin _ h
  case atP => simp only [stepOp] at h ⊢; exact fin _ h
  case field =>
    simp only [stepOp, Option.bind_eq_bind] at h ⊢
    split at h
    · obtain ⟨l, hl, h⟩ := Option.bind_eq_some_iff.mp h
      obtain ⟨k, hk, h⟩ := Option.bind_eq_some_iff.mp h
      simp only [hl, hk, Option.bind_some]
      exact one _ h
    · cases h
  case at_ =>
    simp only [stepOp, Option.bind_eq_bind] at h ⊢
    split at h
    · obtain ⟨l, hl, h⟩ := Option.bind_eq_some_iff.mp h
      simp only [hl, Option.bind_some]
      split at h
      · obtain ⟨k, hk, h⟩ := Option.bind_eq_some_iff.mp h
        simp only [hk, Option.bind_some]
        split at h
        · rename_i hc; simp only [if_pos hc]; exact one _ h
        · cases h
      · split at h
        · rename_i hc; simp only [if_pos hc]; exact one _ h
        · cases h
      · cases h
    · cases h
  case atT =>
    simp only [stepOp, Option.bind_eq_bind] at h ⊢
    split at h
    · obtain ⟨l, hl, h⟩ := Option.bind_eq_some_iff.mp h
      obtain ⟨k, hk, h⟩ := Option.bind_eq_some_iff.mp h
      simp only [hl, hk, Option.bind_some]
      exact one _ h
    · cases h

/-- An operation that sees no more than its own row, and is hidden from another one. -/
def Late (P : Program) (n : Nat) (ops : Array Oper) (j : Nat) (co : COper) : Prop := ∃ x, lateOk P n ops j = some x ∧ x ∈ co.hide

/-- An operation that comes at its place. -/
theorem total_of_up (hall : ∀ (i : Nat) (o : Oper) (co : COper), ops[i]? = some o → cs[i]? = some co → ∃ u, (ups P n ops true)[i]? = some u ∧ cOper P n ops u o = some co) {i : Nat} {o : Oper} {co : COper} (ho : ops[i]? = some o) (hc : cs[i]? = some co) (hu : co.up = false) :
    inertAt ops i = false ∧ (∀ j, j < i → inertAt ops j = false → ((Region.before ops).getD i 0).testBit j = true ∨ Late P n ops j co) ∧ ∀ j, i < j → j < ops.size → inertAt ops j = false → ((Region.before ops).getD j 0).testBit i = true := by
  obtain ⟨u, h1, h2⟩ := hall i o co ho hc
  obtain ⟨_, _, ⟨p3, p5⟩, _⟩ := cOper_parts h2
  rw [p3] at hu
  have hi : i < ops.size := (Array.getElem?_eq_some_iff.mp ho).1
  simp only [ups, if_true] at h1
  rw [List.getElem?_map, List.getElem?_range hi, Option.map_some] at h1
  have h1 := Option.some.inj h1
  split at h1
  · subst h1; cases hu
  rename_i hni
  have hni : inertAt ops i = false := by simpa using hni
  split at h1
  · rename_i ht
    unfold total at ht
    have ht := List.all_eq_true.mp ht
    refine ⟨hni, fun j hj hj3 => .inl ?_, fun j hj hj2 hj3 => ?_⟩
    · have := ht j (by simp; omega)
      simpa [hj, hj3] using this
    · have := ht j (by simpa using hj2)
      have hn : ¬ j < i := by omega
      simpa [hn, hj, hj3] using this
  · rw [ho] at h1
    simp only at h1
    split at h1
    · split at h1
      · rename_i l hl
        subst h1
        unfold totalL at hl
        split at hl
        · rename_i ha
          have ha := List.all_eq_true.mp ha
          refine ⟨hni, fun j hj hj3 => ?_, fun j hj hj2 hj3 => ?_⟩
          · cases hb : ((Region.before ops).getD i 0).testBit j with
            | true => exact .inl rfl
            | false =>
              right
              have hm : j ∈ lates ops (Region.before ops) i := by
                simp only [lates, List.mem_filter, List.mem_range, hj3, hb]
                exact ⟨hj, rfl⟩
              obtain ⟨k, hk⟩ := List.mem_iff_getElem?.mp hm
              obtain ⟨g1, g2⟩ := mapM_some hl
              have hlt : k < l.length := by
                have := (List.getElem?_eq_some_iff.mp hk).1
                omega
              have := g2 k j _ hk (List.getElem?_eq_getElem hlt)
              exact ⟨_, this, by rw [p5]; exact List.getElem_mem hlt⟩
          · have := ha j (by simpa using hj2)
            have hn : ¬ j ≤ i := by omega
            simpa [hn, hj3, Nat.ble_eq] using this
        · cases hl
      · subst h1; cases hu
    · subst h1; cases hu

theorem up_of_inert (hall : ∀ (i : Nat) (o : Oper) (co : COper), ops[i]? = some o → cs[i]? = some co → ∃ u, (ups P n ops true)[i]? = some u ∧ cOper P n ops u o = some co) {i : Nat} {o : Oper} {co : COper} (ho : ops[i]? = some o) (hc : cs[i]? = some co) (hi : inertAt ops i = true) : co.up = true := by
  obtain ⟨u, h1, h2⟩ := hall i o co ho hc
  obtain ⟨_, _, ⟨p3, _⟩, _⟩ := cOper_parts h2
  have hlt : i < ops.size := (Array.getElem?_eq_some_iff.mp ho).1
  simp only [ups, if_true] at h1
  rw [List.getElem?_map, List.getElem?_range hlt, Option.map_some, if_pos hi] at h1
  rw [p3, ← Option.some.inj h1]

/-- What neither reads nor writes the memory runs anywhere alike. -/
theorem inert_step {n : Nat} {u : Bool × List Opd} {o : Oper} {co : COper} {rs : List Nat} {e : Env} {s s' : Mem} {r : AV} (hup : co.up = true) (hc : cOper P n ops u o = some co) (hi : inertO o.op = true) (h : valR call co rs e s = some (r, s')) : s' = s ∧ ∀ s2, valR call co rs e s2 = some (r, s2) := by
  have hk := cOper_inert hc hi
  have key : ∀ (s s' : Mem) (r : AV), stepOp call co.op e s = some (r, s') → s' = s ∧ ∀ s2, stepOp call co.op e s2 = some (r, s2) := by
    intro s s' r h
    exact inertC_step hk h
  unfold valR at h ⊢
  split at h
  · rename_i hw
    simp only [hw, if_true]
    try simp only at h
    obtain ⟨⟨r1, s1⟩, h1, h2⟩ := Option.map_eq_some_iff.mp h
    obtain ⟨rfl, rfl⟩ := Prod.mk.inj h2
    obtain ⟨k1, k2⟩ := key _ _ _ h1
    refine ⟨by rw [k1], fun s2 => ?_⟩
    simp only [hup, if_true, k2, Option.map_some]
  · rename_i hw
    obtain ⟨rfl, rfl⟩ := Prod.mk.inj (Option.some.inj h)
    exact ⟨rfl, fun s2 => by simp [hw]⟩

/-- A read, or a row made, where some rows are hidden. -/
theorem float_step {co : COper} {rs hs : List Nat} {e : Env} {s s' : Mem} {r : AV} (hup : co.up = true) (hfl : floatC co.op = true) (hld : ∀ agg sz a q, co.op = .load agg sz a → wantedA co e = true → rowOf (ev e a) = some q → q ∉ hs) (hlt : ∀ q ∈ hs, q < s.next) (h : valR call co rs e s = some (r, s')) :
    ∃ s2, valR call co rs e (s.hide hs) = some (r, s2) ∧ s2.next = s'.next ∧ s2.floor = s'.floor ∧ (∀ q, s2.get q = if q ∈ hs then none else s'.get q) ∧
      ((∃ agg sz a, co.op = .load agg sz a) ∨ (wantedA co e = false) ∨ (s'.next = s.next + 1 ∧ rowOf r = some s.next)) ∧ ((∃ agg sz a, co.op = .load agg sz a) ∨ wantedA co e = false → s' = s) := by
  have hn : (s.hide hs).next = s.next := next_hide hs s
  have hf : (s.hide hs).floor = s.floor := floor_hide hs s
  -- a row made
  have push : ∀ x : Row, ∀ q, ((s.hide hs).push x).get q = if q ∈ hs then none else (s.push x).get q := by
    intro x q
    rw [Mem.get_push, Mem.get_push, hn, get_hide]
    by_cases h1 : q = s.next
    · rw [if_pos h1, if_pos h1]
      by_cases h2 : q ∈ hs
      · have := hlt q h2; omega
      · rw [if_neg h2]
    · rw [if_neg h1, if_neg h1]
  unfold valR at h ⊢
  by_cases hw : wantedA co e = true
  · rw [if_pos hw, if_pos hup] at h ⊢
    obtain ⟨⟨v, s1⟩, h1, h2⟩ := Option.map_eq_some_iff.mp h
    obtain ⟨rfl, rfl⟩ := Prod.mk.inj h2
    clear h h2
    -- what makes a row
    have made : ∀ (x : Row) (val : Nat → AV), (∀ M : Mem, stepOp call co.op e M = some (val M.next, M.push x)) → (∀ n, rowOf (val n) = some n) → (¬ ∃ agg sz a, co.op = .load agg sz a) →
        ∃ s2, Option.map (fun p => (p.1, ({ p.2 with floor := (s.hide hs).floor } : Mem))) (stepOp call co.op e { s.hide hs with floor := (s.hide hs).next }) = some (v, s2) ∧ s2.next = ({ s1 with floor := s.floor } : Mem).next ∧ s2.floor = s.floor ∧ (∀ q, s2.get q = if q ∈ hs then none else ({ s1 with floor := s.floor } : Mem).get q) ∧
          ((∃ agg sz a, co.op = .load agg sz a) ∨ (wantedA co e = false) ∨ (({ s1 with floor := s.floor } : Mem).next = s.next + 1 ∧ rowOf v = some s.next)) ∧ ((∃ agg sz a, co.op = .load agg sz a) ∨ wantedA co e = false → ({ s1 with floor := s.floor } : Mem) = s) := by
      intro x val hM hv hno
      rw [hM] at h1
      obtain ⟨rfl, rfl⟩ := Prod.mk.inj (Option.some.inj h1)
      refine ⟨{ (s.hide hs).push x with floor := (s.hide hs).floor }, ?_, ?_, hf, push x, .inr (.inr ⟨rfl, hv _⟩), ?_⟩
      · rw [hM]
        show some (val (s.hide hs).next, _) = _
        rw [hn]; rfl
      · show (s.hide hs).next + 1 = s.next + 1; rw [hn]
      · rintro (h | h)
        · exact absurd h hno
        · rw [hw] at h; cases h
    cases hop : co.op <;> rw [hop] at hfl <;> simp only [floatC] at hfl <;> first | (cases hfl; done) | skip
    case new ty cs =>
      rw [hop] at made h1
      exact made ⟨ty, cs.length, [cs]⟩ (fun n => .ptr n 0 0) (fun M => rfl) (fun n => rfl) (by rintro ⟨_, _, _, h⟩; cases h)
    case box ty x =>
      rw [hop] at made h1
      have hc : (cells (ev e x)).all isCell = true := by
        simp only [stepOp] at h1
        split at h1
        · assumption
        · cases h1
      exact made ⟨ty, (cells (ev e x)).length, [cells (ev e x)]⟩ (fun n => .ptr n 0 0) (fun M => by simp only [stepOp]; rw [if_pos hc]) (fun n => rfl) (by rintro ⟨_, _, _, h⟩; cases h)
    case lit ty sz zero len parts =>
      rw [hop] at made h1
      have hlen : len ≠ 0 := by
        intro h; subst h; simp at hfl
      cases hfi : fillLit sz e parts (List.replicate len zero) with
      | none => simp only [stepOp, hfi, Option.map_none] at h1; cases h1
      | some es =>
        exact made ⟨ty, sz, es⟩ (fun n => litV n len sz) (fun M => by simp only [stepOp, hfi, Option.map_some]) (fun n => by simp only [litV]; cases len with | zero => exact absurd rfl hlen | succ k => rfl) (by rintro ⟨_, _, _, h⟩; cases h)
    case load agg sz a =>
      rw [hop] at h1
      simp only [stepOp] at h1 ⊢
      obtain ⟨x, h3, h4⟩ := Option.map_eq_some_iff.mp h1
      obtain ⟨rfl, rfl⟩ := Prod.mk.inj h4
      have hl : loadA { s.hide hs with floor := (s.hide hs).next } agg sz (ev e a) = some x := by
        rw [← h3]
        cases hv : ev e a <;> first | rfl | skip
        rename_i q i o
        have hq := hld agg sz a q hop hw (by rw [hv]; rfl)
        have hg : ({ s.hide hs with floor := (s.hide hs).next } : Mem).get q = ({ s with floor := s.next } : Mem).get q := by
          show (s.hide hs).get q = s.get q
          rw [get_hide, if_neg hq]
        simp only [loadA, hg]
      exact ⟨s.hide hs, by rw [hl]; rfl, hn, hf, fun q => get_hide hs s q, .inl ⟨_, _, _, rfl⟩, fun _ => rfl⟩
  · rw [if_neg hw] at h ⊢
    obtain ⟨rfl, rfl⟩ := Prod.mk.inj (Option.some.inj h)
    exact ⟨_, rfl, hn, hf, fun q => get_hide hs s q, .inr (.inl (by simpa using hw)), fun _ => rfl⟩

theorem next_bar : ∀ (d k : Nat), k + d = ops.size → ∃ k', k ≤ k' ∧ k' ≤ ops.size ∧ (∀ j co, k ≤ j → j < k' → cs[j]? = some co → co.up = true) ∧ (k' = ops.size ∨ ∃ co, cs[k']? = some co ∧ co.up = false) := by
  intro d
  induction d with
  | zero => intro k hk; exact ⟨k, Nat.le_refl _, by omega, fun j co h1 h2 => by omega, .inl (by omega)⟩
  | succ d ih =>
    intro k hk
    cases hc : cs[k]? with
    | none =>
      obtain ⟨k', h1, h2, h3, h4⟩ := ih (k + 1) (by omega)
      refine ⟨k', by omega, h2, ?_, h4⟩
      intro j co h5 h6 h7
      by_cases hjk : j = k
      · subst hjk; rw [hc] at h7; cases h7
      · exact h3 j co (by omega) h6 h7
    | some co =>
      cases hu : co.up with
      | false => exact ⟨k, Nat.le_refl _, by omega, fun j co h1 h2 => by omega, .inr ⟨co, hc, hu⟩⟩
      | true =>
        obtain ⟨k', h1, h2, h3, h4⟩ := ih (k + 1) (by omega)
        refine ⟨k', by omega, h2, ?_, h4⟩
        intro j co' h5 h6 h7
        by_cases hjk : j = k
        · subst hjk; rw [hc] at h7; obtain rfl := Option.some.inj h7; exact hu
        · exact h3 j co' (by omega) h6 h7

theorem draw_step (hC : CallOK P W0 call) (hcs : cs.length = ops.size) (hall : ∀ (i : Nat) (o : Oper) (co : COper), ops[i]? = some o → cs[i]? = some co → ∃ u, (ups P n ops true)[i]? = some u ∧ cOper P n ops u o = some co)
    (hE : edgesOk ops = true) (hR : readsOk (Region.before ops) cs = true) (hT : Traj call cs E S R) (h0 : WfM (S 0)) {L : Array Bool} {a : Act} {w : World} {Q : Exit → Act → World → Prop}
    (hD : DInv W0 n ops cs E S R m0 w0 L a w) {i : Nat} {o : Oper} (ho : ops[i]? = some o) (hi : L[i]? = some false) (hw : ∀ e ∈ o.after.toList, Region.binds .any e = true → L[e.on]? = some true) :
    wpOp P ops Q i (fun a' w' => DInv W0 n ops cs E S R m0 w0 (L.setIfInBounds i true) a' w') a w := by
  obtain ⟨hsz, hcl, m, k, hk, hkL, hbar, hgt, hkup, hrel, hfr, henv, hsame, hframe, hfresh, hsize⟩ := hD
  obtain ⟨hO, hrd⟩ := reads_parts hR
  have hin : i < ops.size := (Array.getElem?_eq_some_iff.mp ho).1
  have hco : cs[i]? = some cs[i] := List.getElem?_eq_getElem (by omega)
  obtain ⟨u, hu, hc⟩ := hall i o _ ho hco
  have hbef := closed_bef hE hcl i o ho hw
  have haft : ∀ j, ((Region.before ops).getD j 0).testBit i = true → j < cs.length → L.getD j false = false := by
    intro j hb hj
    cases hl : L[j]? with
    | none => rw [Array.getD_eq_getD_getElem?, hl]; rfl
    | some b =>
      cases b with
      | false => rw [Array.getD_eq_getD_getElem?, hl]; rfl
      | true =>
        have hoj : ops[j]? = some (ops[j]'(by omega)) := by simp
        have := (closed_bef hE hcl j _ hoj (fun e he hbd => hcl j _ hoj hl e he hbd) i hb).1
        rw [hi] at this; cases this
  have hval := (hT.step i _ hco).1
  have hstep := (valO_step hC.step (traj_wf hC.step hT h0 i (by omega)) hval)
  replace hval : valR call cs[i] (hideRows (E i) cs[i].hide) (envL cs R L (E 0) cs.length) (S i) = some (R i, S (i + 1)) := by
    rw [← valR_congr (reads_same hO hrd hT hco (by omega) hbef haft)]; exact hval
  have hnext0 := (traj_to hC.step hT h0 (Nat.zero_le i) (by omega)).next
  have hnextn := (traj_to hC.step hT h0 (show i + 1 ≤ ops.size by omega) (by omega)).next
  have hfloor := (traj_to hC.step hT h0 (Nat.zero_le i) (by omega)).floor
  have hin1 := hstep.1.next
  have hLi : i < L.size := by omega
  have hset := fun j => L_set (L := L) (i := i) (j := j) hLi
  have hclosed' : Closed ops (L.setIfInBounds i true) := by
    intro j o' hj hl e he hb
    rw [hset]
    split
    · rfl
    · rename_i hne
      rw [hset] at hl
      split at hl
      · rename_i hij
        subst hij
        rw [ho] at hj
        obtain rfl := Option.some.inj hj
        exact hw e he hb
      · exact hcl j o' hj hl e he hb
  have hLenv : ∀ t, (envL cs R (L.setIfInBounds i true) (E 0) cs.length).get t = (putO (envL cs R L (E 0) cs.length) cs[i].dst (R i)).get t := envL_set hO (by omega) hco hi
  obtain ⟨p1, p2, p3, p4⟩ := cOper_parts hc
  cases hiner : inertAt ops i with
  | true =>
    have hio : inertO o.op = true := by simpa [inertAt, ho] using hiner
    obtain ⟨hSS, hany⟩ := inert_step (up_of_inert hall ho hco hiner) hc hio hval
    have hvk := hany (S k)
    refine oper_ok hC ho hc hvk hrel (fun r q1 q2 => absurd q2 (by omega)) henv ?_
    intro v m' w' hA hupf hupb hV
    have hmm : ∀ r, m' r = m r := fun r => hA.same r (by omega)
    have hsub : ∀ r pl, m r = some pl → m' r = some pl := fun r pl h => by rw [hmm]; exact h
    have hfloork := (traj_to hC.step hT h0 (Nat.zero_le k) (by omega)).floor
    have hnextk := (traj_to hC.step hT h0 (show k ≤ ops.size by omega) (by omega)).next
    refine ⟨by simp [hsz], hclosed', m', k, hk, ?_, ?_, ?_, hkup, hA.rel, ?_, ?_, ?_, ?_, ?_, Nat.le_trans hsize hA.size⟩
    · rcases hkL with h | h
      · exact .inl h
      · by_cases hkn : k = ops.size
        · exact .inl hkn
        · right
          rw [hset, if_neg, h]
          rintro rfl
          have hkc : cs[i]? = some cs[i] := hco
          have ht := (total_of_up hall ho hkc (hkup _ hkc)).1
          rw [hiner] at ht; cases ht
    · intro j co h1 h2 h3
      rw [hset]
      split
      · rfl
      · exact hbar j co h1 h2 h3
    · intro j h1 h2 h3
      rw [hset, if_neg]
      · exact hgt j h1 h2 h3
      · rintro rfl; rw [hiner] at h3; cases h3
    · intro j hj hjL
      rw [hset] at hjL
      split at hjL
      · cases hjL
      intro r h1 h2
      rw [hmm]; exact hfr j hj hjL r h1 h2
    · have := (henv.mono hsub).put (d := o.dst) p4 hV
      rw [← p2] at this
      have h2 := this.get_congr hLenv
      rw [p2] at h2
      exact h2
    · intro r hr
      rw [hmm]; exact hsame r hr
    · intro b hb
      rcases hA.frame b (Nat.lt_of_lt_of_le hb hsize) with h | ⟨r, pl, h1, h2, h3, h4, h5⟩
      · rw [h]; exact hframe b hb
      · right
        by_cases hr : r < (S 0).next
        · exact ⟨r, pl, by rw [← hsame r (.inl hr)]; exact h1, h2, hfloork ▸ h3, hr, (traj_to hC.step hT h0 (Nat.zero_le k) (by omega)).live hr h5⟩
        · rcases hfresh r pl (by omega) (by omega) h1 with h | ⟨r0, pl0, q1, q2, q3, q4⟩
          · omega
          · exact ⟨r0, pl0, q1, q2.trans h2, q3, q4⟩
    · intro r pl h1 h2 h3
      rw [hmm] at h3
      exact hfresh r pl h1 h2 h3
  | false =>
  have hnotk : ¬ k < i := by
    intro hlt
    have hko : ops[k]? = some ops[k] := by simp
    have hkc : cs[k]? = some cs[k] := List.getElem?_eq_getElem (by omega)
    have ht := (total_of_up hall hko hkc (hkup _ hkc)).2.2 i hlt hin hiner
    have := (hbef k ht).1
    rcases hkL with h | h
    · omega
    · rw [h] at this; cases this
  -- the rows that there are where operation i has its turn
  have relAt : i ≤ k → (∀ j co, i ≤ j → j < k → cs[j]? = some co → co.up = true) → Rel W0 m (S i) w := by
    intro hik hups
    have hup := traj_up hC.step hT h0 (k - i) i (by omega) (fun j co h1 h2 h3 => hups j co h1 (by omega) h3)
    rw [show i + (k - i) = k by omega] at hup
    have hwf := traj_wf hC.step hT h0 i (by omega)
    have tr : ∀ r row, (S i).get r = some row → (S k).get r = some row := by
      intro r row h
      rw [hup r (hwf.lt h)]; exact h
    exact ⟨hrel.below, hwf, fun r pl row h1 h2 => hrel.row r pl row h1 (tr r row h2), hrel.blk, fun r r' pl pl' row row' h1 h2 h3 h4 h5 => hrel.inj r r' pl pl' row row' h1 h2 (tr _ _ h3) (tr _ _ h4) h5⟩
  have hik : i ≤ k := by omega
  -- a barrier between that has had its turn: this one is late
  have late : ∀ j co, i ≤ j → j < k → cs[j]? = some co → co.up = true ∨ Late P n ops i co := by
    intro j co h1 h2 h3
    cases hu4 : co.up with
    | true => exact .inl rfl
    | false =>
      right
      have hjL := hbar j co h2 h3 hu4
      have hne : i ≠ j := by
        rintro rfl
        rw [hi] at hjL; cases hjL
      have hjo : ops[j]? = some ops[j] := by have := (List.getElem?_eq_some_iff.mp h3).1; simp
      rcases (total_of_up hall hjo h3 hu4).2.1 i (by omega) hiner with ht | ht
      · exfalso
        have := (closed_bef hE hcl j _ hjo (hcl j _ hjo hjL) i ht).1
        rw [hi] at this; cases this
      · exact ht
  by_cases hallup : ∀ j co, i ≤ j → j < k → cs[j]? = some co → co.up = true
  case neg =>
    have hex : ∃ j co, i ≤ j ∧ j < k ∧ cs[j]? = some co ∧ co.up = false := by
      apply Classical.byContradiction
      intro hno
      apply hallup
      intro j co h1 h2 h3
      cases hu : co.up with
      | true => rfl
      | false => exact absurd ⟨j, co, h1, h2, h3, hu⟩ hno
    obtain ⟨j0, co0, hj1, hj2, hj3, hj4⟩ := hex
    have hlt : i < k := by omega
    have hup : cs[i].up = true := by
      cases hu : cs[i].up with
      | true => rfl
      | false => have := hbar i _ hlt hco hu; rw [hi] at this; cases this
    obtain ⟨x, hx, _⟩ := (late j0 co0 hj1 hj2 hj3).resolve_left (by rw [hj4]; simp)
    have hlate : ∀ j co, i ≤ j → j < k → cs[j]? = some co → co.up = true ∨ x ∈ co.hide := by
      intro j co h1 h2 h3
      rcases late j co h1 h2 h3 with h | ⟨y, hy, hm⟩
      · exact .inl h
      · rw [hx] at hy; obtain rfl := Option.some.inj hy; exact .inr hm
    obtain ⟨hflo, hopd, hste⟩ : floatC cs[i].op = true ∧ floatOpd cs[i] = some x ∧ steady ops i cs[i].op = true := by
      have hl := hx
      unfold lateOk at hl
      rw [ho] at hl
      simp only at hl
      split at hl
      · rename_i c2 hc2
        obtain ⟨q1, q2, _, _⟩ := cOper_parts hc2
        rw [p1] at q1
        have e1 : cs[i].op = c2.op := Option.some.inj q1
        have e2 : cs[i].dst = c2.dst := p2.trans q2.symm
        split at hl
        · rename_i hf2
          split at hl
          · rename_i y hy
            split at hl
            · rename_i hs2
              obtain rfl := Option.some.inj hl
              rw [e1]
              refine ⟨hf2, ?_, hs2⟩
              unfold floatOpd at hy ⊢
              rw [e1, e2]; exact hy
            · cases hl
          · cases hl
        · cases hl
      · cases hl
    have hwfi := traj_wf hC.step hT h0 i (by omega)
    have hwk := traj_wf hC.step hT h0 k (by omega)
    have hnik := (traj_to hC.step hT h0 (show i ≤ k by omega) (by omega)).next
    have hni1k := (traj_to hC.step hT h0 (show i + 1 ≤ k by omega) (by omega)).next
    -- the row that it reads stays
    have loads : ∀ agg sz a q, cs[i].op = .load agg sz a → rowOf (ev (E i) a) = some q → q < (S i).next → (S k).get q = (S i).get q := by
      intro agg sz a q h1 h2 h3
      have hxa : x = a := by
        unfold floatOpd at hopd; rw [h1] at hopd; exact (Option.some.inj hopd).symm
      have := traj_keep hC.step hT h0 q (k - i) i (by omega) h3 (by
        intro j co g1 g2 g3
        rcases hlate j co g1 (by omega) g3 with h | h
        · exact .inl h
        · right
          refine mem_hideRows h ?_
          rw [hxa]
          have : ev (E j) a = ev (E i) a := by
            refine ev_congr fun t ht => ?_
            cases a with
            | c v => simp [otmp] at ht
            | t t2 =>
              simp only [otmp, List.mem_singleton] at ht
              subst ht
              rw [h1] at hste
              simp only [steady] at hste
              have hno : ∀ k2 co2, i ≤ k2 → cs[k2]? = some co2 → co2.dst ≠ some t := by
                intro k2 co2 g4 g5 g6
                have hk2 : k2 < ops.size := by have := (List.getElem?_eq_some_iff.mp g5).1; omega
                have g7 := List.all_eq_true.mp hste k2 (by simpa using hk2)
                have hok : ops[k2]? = some ops[k2] := by simp
                obtain ⟨u2, _, g8⟩ := hall k2 _ _ hok g5
                have g9 := (cOper_parts g8).2.1
                rw [hok] at g7
                simp only [← g9, g6] at g7
                have hnb : Nat.blt k2 i = false := by
                  cases hb : Nat.blt k2 i with
                  | false => rfl
                  | true => rw [Nat.blt_eq] at hb; omega
                rw [hnb] at g7
                simp at g7
              have := (traj_env hO hT t j (by omega))
              by_cases hw2 : ∃ k2 p2, k2 < i ∧ cs[k2]? = some p2 ∧ p2.dst = some t
              · obtain ⟨k2, p2, w1, w2, w3⟩ := hw2
                rw [(traj_env hO hT t j (by omega)).1 k2 p2 (by omega) w2 w3, (traj_env hO hT t i (by omega)).1 k2 p2 w1 w2 w3]
              · rw [(traj_env hO hT t j (by omega)).2 (fun k2 p2 w1 w2 w3 => by
                    by_cases hk2 : k2 < i
                    · exact hw2 ⟨k2, p2, hk2, w2, w3⟩
                    · exact hno k2 p2 (by omega) w2 w3),
                  (traj_env hO hT t i (by omega)).2 (fun k2 p2 w1 w2 w3 => hw2 ⟨k2, p2, w1, w2, w3⟩)]
          rw [this]; exact h2)
      rw [show i + (k - i) = k by omega] at this
      exact this
    -- the row that it makes stays
    have makes : ∀ q, (¬ ∃ agg sz a, cs[i].op = .load agg sz a) → rowOf (R i) = some q → q < (S (i + 1)).next → (S k).get q = (S (i + 1)).get q := by
      intro q h1 h2 h3
      have hxd : ∃ d, cs[i].dst = some d ∧ x = .t d := by
        unfold floatOpd at hopd
        split at hopd
        · rename_i agg sz a hl; exact absurd ⟨agg, sz, a, hl⟩ h1
        · obtain ⟨d, q1, q2⟩ := Option.map_eq_some_iff.mp hopd
          exact ⟨d, q1, q2.symm⟩
      obtain ⟨d, hd, rfl⟩ := hxd
      have := traj_keep hC.step hT h0 q (k - (i + 1)) (i + 1) (by omega) h3 (by
        intro j co g1 g2 g3
        rcases hlate j co (by omega) (by omega) g3 with h | h
        · exact .inl h
        · right
          refine mem_hideRows h ?_
          show rowOf ((E j).get d) = some q
          rw [(traj_env hO hT d j (by omega)).1 i _ (by omega) hco hd]; exact h2)
      rw [show i + 1 + (k - (i + 1)) = k by omega] at this
      exact this
    -- the memory where it has its turn
    obtain ⟨hs, hhs⟩ : ∃ hs : List Nat, ∀ q, q ∈ hs ↔ q < (S i).next ∧ (S k).get q ≠ (S i).get q := by
      refine ⟨(List.range (S i).next).filter fun q => @decide ((S k).get q ≠ (S i).get q) (Classical.propDecidable _), fun q => ?_⟩
      simp only [List.mem_filter, List.mem_range, decide_eq_true_eq]
    have hrelT : Rel W0 m ((S i).hide hs) w := by
      have lv : ∀ r row, ((S i).hide hs).get r = some row → (S k).get r = some row := by
        intro r row h
        rw [get_hide] at h
        split at h
        · cases h
        · rename_i hm
          have hr := hwfi.lt h
          rw [hhs] at hm
          have : (S k).get r = (S i).get r := Classical.byContradiction fun hc => hm ⟨hr, hc⟩
          rw [this]; exact h
      exact ⟨hrel.below, hwfi.hide hs, fun r pl row h1 h2 => hrel.row r pl row h1 (lv r row h2), hrel.blk, fun r r' pl pl' row row' h1 h2 h3 h4 h5 => hrel.inj r r' pl pl' row row' h1 h2 (lv _ _ h3) (lv _ _ h4) h5⟩
    have hreads := reads_same hO hrd hT hco (by omega) hbef haft
    obtain ⟨s2, hs2, hn2, hf2, hg2, hkind, hsm⟩ := float_step (hs := hs) hup hflo (by
      intro agg sz a q h1 _ h2 hm
      obtain ⟨g1, g2⟩ := (hhs q).mp hm
      have : ev (envL cs R L (E 0) cs.length) a = ev (E i) a := (ev_congr fun t ht => hreads t (by simp only [creads, h1, ctmps, List.mem_append]; exact .inl ht)).symm
      rw [this] at h2
      exact g2 (loads agg sz a q h1 h2 g1)) (fun q hq => ((hhs q).mp hq).1) hval
    have hTn : ((S i).hide hs).next = (S i).next := next_hide hs _
    have hTf : ((S i).hide hs).floor = (S i).floor := floor_hide hs _
    refine oper_ok hC ho hc hs2 hrelT (fun q g1 g2 => hfr i hin hi q (by omega) (by omega)) henv ?_
    intro v m' w' hA hupf hupb hV
    have fsame : ∀ r, (r < (S i).next ∨ (S (i + 1)).next ≤ r) → m' r = m r := fun r hr => hA.same r (by rw [hTn, hn2]; exact hr)
    have hsub : ∀ r pl, m r = some pl → m' r = some pl := by
      intro r pl hr
      by_cases h1 : (S i).next ≤ r ∧ r < (S (i + 1)).next
      · have := hfr i hin hi r h1.1 h1.2; rw [this] at hr; cases hr
      · rw [fsame r (by omega)]; exact hr
    -- a new row
    have newrow : ∀ r pl row, m' r = some pl → (S k).get r = some row → (S i).next ≤ r → r < (S (i + 1)).next → r = (S i).next ∧ s2.get r = some row := by
      intro r pl row h1 h2 h3 h4
      rcases hkind with h | h | ⟨h, hro⟩
      · have := hsm (.inl h); rw [this] at h4; omega
      · have := hsm (.inr h); rw [this] at h4; omega
      · have hr : r = (S i).next := by omega
        refine ⟨hr, ?_⟩
        have hnl : ¬ ∃ agg sz a, cs[i].op = .load agg sz a := by
          intro hl
          have := hsm (.inl hl); rw [this] at h; omega
        rw [hg2, if_neg (by rw [hhs]; omega), ← makes r hnl (by rw [hr]; exact hro) h4]
        exact h2
    have oldrow : ∀ r pl, m' r = some pl → ¬ ((S i).next ≤ r ∧ r < (S (i + 1)).next) → m r = some pl := by
      intro r pl h1 h2
      rw [← fsame r (by omega)]; exact h1
    have hrel' : Rel W0 m' (S k) w' := by
      refine ⟨hA.rel.below, hwk, ?_, hA.rel.blk, ?_⟩
      · intro r pl row h1 h2
        by_cases h3 : (S i).next ≤ r ∧ r < (S (i + 1)).next
        · exact hA.rel.row r pl row h1 (newrow r pl row h1 h2 h3.1 h3.2).2
        · have h4 := oldrow r pl h1 h3
          exact (hrel.row r pl row h4 h2).mono hsub (hupf hup _ (hrel.blk r pl h4).2)
      · intro r r' pl pl' row row' h1 h2 h3 h4 h5
        by_cases a1 : (S i).next ≤ r ∧ r < (S (i + 1)).next <;> by_cases a2 : (S i).next ≤ r' ∧ r' < (S (i + 1)).next
        · rw [(newrow r pl row h1 h3 a1.1 a1.2).1, (newrow r' pl' row' h2 h4 a2.1 a2.2).1]
        · exfalso
          have b1 := hupb hup r pl (by omega) (by omega) h1
          have b2 := (hrel.blk r' pl' (oldrow r' pl' h2 a2)).2
          omega
        · exfalso
          have b1 := hupb hup r' pl' (by omega) (by omega) h2
          have b2 := (hrel.blk r pl (oldrow r pl h1 a1)).2
          omega
        · exact hrel.inj r r' pl pl' row row' (oldrow r pl h1 a1) (oldrow r' pl' h2 a2) h3 h4 h5
    refine ⟨by simp [hsz], hclosed', m', k, hk, ?_, ?_, ?_, hkup, hrel', ?_, ?_, ?_, ?_, ?_, Nat.le_trans hsize hA.size⟩
    · rcases hkL with h | h
      · exact .inl h
      · right; rw [hset, if_neg (by omega)]; exact h
    · intro j co h1 h2 h3
      rw [hset]
      split
      · rfl
      · exact hbar j co h1 h2 h3
    · intro j h1 h2 h3
      rw [hset, if_neg (by omega)]
      exact hgt j h1 h2 h3
    · intro j hj hjL
      rw [hset] at hjL
      split at hjL
      · cases hjL
      rename_i hne
      intro r h1 h2
      have hr : r < (S i).next ∨ (S (i + 1)).next ≤ r := by
        by_cases hji : j < i
        · left
          have := (traj_to hC.step hT h0 (show j + 1 ≤ i by omega) (by omega)).next
          omega
        · right
          have := (traj_to hC.step hT h0 (show i + 1 ≤ j by omega) (by omega)).next
          omega
      rw [fsame r hr]
      exact hfr j hj hjL r h1 h2
    · have := (henv.mono hsub).put (d := o.dst) p4 hV
      rw [← p2] at this
      have h2 := this.get_congr hLenv
      rw [p2] at h2
      exact h2
    · intro r hr
      rw [fsame r (by omega)]
      exact hsame r hr
    · intro b hb
      rw [hupf hup b (by omega)]
      exact hframe b hb
    · intro r pl h1 h2 h3
      by_cases hr : (S i).next ≤ r ∧ r < (S (i + 1)).next
      · left
        have := hupb hup r pl (by omega) (by omega) h3
        omega
      · rw [fsame r (by omega)] at h3
        exact hfresh r pl h1 h2 h3
  case pos =>
  have allup := hallup
  have hreli := relAt hik allup
  refine oper_ok hC ho hc hval hreli (hfr i hin hi) henv ?_
  intro v m' w' hA hupf hupb hV
  have hsub := hA.sub (hfr i hin hi)
  -- which barrier comes next
  obtain ⟨k', hk1, hk2, hk3, hk4⟩ := next_bar (ops := ops) (cs := cs) (ops.size - (if i = k then k + 1 else k)) (if i = k then k + 1 else k) (by split <;> omega)
  have hkeq : i < k → k' = k := by
    intro hlt
    rw [if_neg (by omega)] at hk1 hk3
    by_cases hkk : k' = k
    · exact hkk
    · exfalso
      have hkn : k < ops.size := by omega
      have hkc : cs[k]? = some cs[k] := List.getElem?_eq_getElem (by omega)
      have h1 := hk3 k _ (Nat.le_refl _) (by omega) hkc
      rw [hkup _ hkc] at h1; cases h1
  have upS : ∀ j co, i + 1 ≤ j → j < k' → cs[j]? = some co → co.up = true := by
    intro j co h1 h2 h3
    by_cases hlt : i < k
    · rw [hkeq hlt] at h2; exact allup j co (by omega) h2 h3
    · have : i = k := by omega
      rw [if_pos this] at hk3
      exact hk3 j co (by omega) h2 h3
  have hik' : i + 1 ≤ k' := by
    by_cases hlt : i < k
    · rw [hkeq hlt]; omega
    · have : i = k := by omega
      rw [if_pos this] at hk1; omega
  have hupk := traj_up hC.step hT h0 (k' - (i + 1)) (i + 1) (by omega) (fun j co h1 h2 h3 => upS j co h1 (by omega) h3)
  rw [show i + 1 + (k' - (i + 1)) = k' by omega] at hupk
  have hwf' := traj_wf hC.step hT h0 k' (by omega)
  have hwf1 := traj_wf hC.step hT h0 (i + 1) (by omega)
  have hnk := (traj_to hC.step hT h0 hik' (by omega)).next
  -- a row of the memory behind: where it comes from
  have cases_ : ∀ r pl row, m' r = some pl → (S k').get r = some row → (r < (S (i + 1)).next ∧ (S (i + 1)).get r = some row) ∨ (i < k ∧ (S (i + 1)).next ≤ r ∧ m r = some pl ∧ (S k).get r = some row) := by
    intro r pl row h1 h2
    by_cases hr : r < (S (i + 1)).next
    · left
      refine ⟨hr, ?_⟩
      rw [← hupk r hr]; exact h2
    · right
      have hm : m r = some pl := by rw [← hA.same r (.inr (by omega))]; exact h1
      by_cases hlt : i < k
      · exact ⟨hlt, by omega, hm, by rw [hkeq hlt] at h2; exact h2⟩
      · exfalso
        have hieq : i = k := by omega
        -- r belongs to an operation that has not had its turn
        have hrk : r < (S k').next := hwf'.lt h2
        have : ∃ j, i + 1 ≤ j ∧ j < k' ∧ (S j).next ≤ r ∧ r < (S (j + 1)).next := by
          have : ∀ d, i + 1 + d ≤ k' → r < (S (i + 1 + d)).next → ∃ j, i + 1 ≤ j ∧ j < i + 1 + d ∧ (S j).next ≤ r ∧ r < (S (j + 1)).next := by
            intro d
            induction d with
            | zero => intro _ h; exact absurd h (by rw [Nat.add_zero]; omega)
            | succ d ih =>
              intro hd h
              by_cases hlt2 : r < (S (i + 1 + d)).next
              · obtain ⟨j, q1, q2, q3, q4⟩ := ih (by omega) hlt2
                exact ⟨j, q1, by omega, q3, q4⟩
              · exact ⟨i + 1 + d, by omega, by omega, by omega, by rw [show i + 1 + d + 1 = i + 1 + (d + 1) by omega]; exact h⟩
          obtain ⟨j, q1, q2, q3, q4⟩ := this (k' - (i + 1)) (by omega) (by rw [show i + 1 + (k' - (i + 1)) = k' by omega]; exact hrk)
          exact ⟨j, q1, by omega, q3, q4⟩
        obtain ⟨j, q1, q2, q3, q4⟩ := this
        cases hjn : inertAt ops j with
        | true =>
          have hjo : ops[j]? = some ops[j] := by simp
          have hjc : cs[j]? = some cs[j] := List.getElem?_eq_getElem (by omega)
          obtain ⟨u', hu', hc'⟩ := hall j _ _ hjo hjc
          have := (inert_step (up_of_inert hall hjo hjc hjn) hc' (by simpa [inertAt, hjo] using hjn) (hT.step j _ hjc).1).1
          rw [this] at q4; omega
        | false =>
        have hjL := hgt j (by omega) (by omega) hjn
        have := hfr j (by omega) hjL r q3 q4
        rw [this] at hm; cases hm
  have hAi := hA.rel
  have hrel' : Rel W0 m' (S k') w' := by
    refine ⟨hAi.below, hwf', ?_, hAi.blk, ?_⟩
    · intro r pl row h1 h2
      rcases cases_ r pl row h1 h2 with ⟨_, h3⟩ | ⟨hlt, h3, h4, h5⟩
      · exact hAi.row r pl row h1 h3
      · have hup : cs[i].up = true := allup i _ (Nat.le_refl _) hlt hco
        exact (hrel.row r pl row h4 h5).mono hsub (hupf hup _ (hrel.blk r pl h4).2)
    · intro r r' pl pl' row row' h1 h2 h3 h4 h5
      -- old rows and new ones lie apart
      have oldnew : ∀ q pl1 q2 pl2 row2, i < k → m' q = some pl1 → q < (S (i + 1)).next → (S i).next ≤ q → m q2 = some pl2 → (S k).get q2 = some row2 → pl1.blk ≠ pl2.blk := by
        intro q pl1 q2 pl2 row2 hlt g1 g2 g3 g4 g5
        have hup : cs[i].up = true := allup i _ (Nat.le_refl _) hlt hco
        have := hupb hup q pl1 g3 g2 g1
        have := (hrel.blk q2 pl2 g4).2
        omega
      have lowOld : ∀ q pl1 row1, i < k → m' q = some pl1 → q < (S (i + 1)).next → (S (i + 1)).get q = some row1 → ¬ (S i).next ≤ q → m q = some pl1 ∧ (S k).get q = some row1 := by
        intro q pl1 row1 hlt g1 g2 g3 g4
        have hup : cs[i].up = true := allup i _ (Nat.le_refl _) hlt hco
        refine ⟨by rw [← hA.same q (.inl (by omega))]; exact g1, ?_⟩
        rw [← hkeq hlt, hupk q g2]; exact g3
      rcases cases_ r pl row h1 h3 with ⟨a1, a2⟩ | ⟨hlt, a1, a2, a3⟩
      · rcases cases_ r' pl' row' h2 h4 with ⟨b1, b2⟩ | ⟨hlt, b1, b2, b3⟩
        · exact hAi.inj r r' pl pl' row row' h1 h2 a2 b2 h5
        · by_cases hq : (S i).next ≤ r
          · exact absurd h5 (oldnew r pl r' pl' row' hlt h1 a1 hq b2 b3)
          · obtain ⟨c1, c2⟩ := lowOld r pl row hlt h1 a1 a2 hq
            exact hrel.inj r r' pl pl' row row' c1 b2 c2 b3 h5
      · rcases cases_ r' pl' row' h2 h4 with ⟨b1, b2⟩ | ⟨_, b1, b2, b3⟩
        · by_cases hq : (S i).next ≤ r'
          · exact absurd h5.symm (oldnew r' pl' r pl row hlt h2 b1 hq a2 a3)
          · obtain ⟨c1, c2⟩ := lowOld r' pl' row' hlt h2 b1 b2 hq
            exact hrel.inj r r' pl pl' row row' a2 c1 a3 c2 h5
        · exact hrel.inj r r' pl pl' row row' a2 b2 a3 b3 h5
  refine ⟨by simp [hsz], hclosed', m', k', hk2, ?_, ?_, ?_, ?_, hrel', ?_, ?_, ?_, ?_, ?_, Nat.le_trans hsize hA.size⟩
  · by_cases hlt : i < k
    · rw [hkeq hlt]
      rcases hkL with h | h
      · exact .inl h
      · right; rw [hset, if_neg (by omega)]; exact h
    · by_cases hkn : k' = ops.size
      · exact .inl hkn
      · right
        rw [hset, if_neg (by omega)]
        refine hgt k' (by omega) (by omega) ?_
        rcases hk4 with h | ⟨co', h1, h2⟩
        · omega
        · have hko : ops[k']? = some ops[k'] := by have := (List.getElem?_eq_some_iff.mp h1).1; simp
          exact (total_of_up hall hko h1 h2).1
  · intro j co h1 h2 h3
    rw [hset]
    split
    · rfl
    · rename_i hne
      by_cases hlt : i < k
      · rw [hkeq hlt] at h1; exact hbar j co h1 h2 h3
      · have hieq : i = k := by omega
        by_cases hjk : j < k
        · exact hbar j co hjk h2 h3
        · have := upS j co (by omega) h1 h2
          rw [this] at h3; cases h3
  · intro j h1 h2 h3
    rw [hset, if_neg (by omega)]
    exact hgt j (by omega) h2 h3
  · intro co hcc
    rcases hk4 with h | ⟨co', h1, h2⟩
    · rw [h, ← hcs, List.getElem?_eq_none (Nat.le_refl _)] at hcc; cases hcc
    · rw [h1] at hcc; obtain rfl := Option.some.inj hcc; exact h2
  · intro j hj hjL
    rw [hset] at hjL
    split at hjL
    · cases hjL
    rename_i hne
    intro r h1 h2
    have hr : r < (S i).next ∨ (S (i + 1)).next ≤ r := by
      by_cases hji : j < i
      · left
        have := (traj_to hC.step hT h0 (show j + 1 ≤ i by omega) (by omega)).next
        omega
      · right
        have := (traj_to hC.step hT h0 (show i + 1 ≤ j by omega) (by omega)).next
        omega
    rw [hA.same r hr]
    exact hfr j hj hjL r h1 h2
  · have := (henv.mono hsub).put (d := o.dst) p4 hV
    rw [← p2] at this
    have h2 := this.get_congr hLenv
    rw [p2] at h2
    exact h2
  · intro r hr
    rw [hA.same r (by omega)]
    exact hsame r hr
  · intro b hb
    rcases hA.frame b (Nat.lt_of_lt_of_le hb hsize) with h | ⟨r, pl, h1, h2, h3, h4, h5⟩
    · rw [h]; exact hframe b hb
    · right
      by_cases hr : r < (S 0).next
      · exact ⟨r, pl, by rw [← hsame r (.inl hr)]; exact h1, h2, hfloor ▸ h3, hr, (traj_to hC.step hT h0 (Nat.zero_le i) (by omega)).live hr h5⟩
      · rcases hfresh r pl (by omega) (by omega) h1 with h | ⟨r0, pl0, q1, q2, q3, q4⟩
        · omega
        · exact ⟨r0, pl0, q1, q2.trans h2, q3, q4⟩
  · intro r pl h1 h2 h3
    by_cases hr : (S i).next ≤ r ∧ r < (S (i + 1)).next
    · rcases hA.fresh r pl hr.1 hr.2 h3 with h | ⟨r0, pl0, q1, q2, q3, q4, q5⟩
      · exact .inl (Nat.le_trans hsize h)
      · by_cases hr0 : r0 < (S 0).next
        · exact .inr ⟨r0, pl0, by rw [← hsame r0 (.inl hr0)]; exact q1, q2, hfloor ▸ q3, hr0, (traj_to hC.step hT h0 (Nat.zero_le i) (by omega)).live hr0 q5⟩
        · rcases hfresh r0 pl0 (by omega) (by omega) q1 with h | ⟨r1, pl1, g1, g2, g3, g4⟩
          · exact .inl (q2 ▸ h)
          · exact .inr ⟨r1, pl1, g1, g2.trans q2, g3, g4⟩
    · rw [hA.same r (by omega)] at h3
      exact hfresh r pl h1 h2 h3

theorem mem_ready {L : Array Bool} {i : Nat} (h : i ∈ Region.ready .any ops L) (hsz : L.size = ops.size) : ∃ o, ops[i]? = some o ∧ L[i]? = some false ∧ ∀ e ∈ o.after.toList, Region.binds .any e = true → L[e.on]? = some true := by
  unfold Region.ready at h
  rw [List.mem_filter] at h
  obtain ⟨h1, h2⟩ := h
  have hi : i < ops.size := by simpa using h1
  have ho : ops[i]? = some ops[i] := by simp
  rw [ho] at h2
  simp only [Bool.and_eq_true, Option.map_some, Option.getD_some] at h2
  refine ⟨_, ho, ?_, ?_⟩
  · have hl : L[i]? = some L[i] := by simp
    have := h2.1
    rw [Array.getD_eq_getD_getElem?, hl] at this
    rw [hl]
    simpa using this
  · intro e he hb
    have := Array.all_eq_true'.mp h2.2 e (by simpa using he)
    simp only [hb, Bool.not_true, Bool.false_or] at this
    rw [Array.getD_eq_getD_getElem?] at this
    cases hx : L[e.on]? with
    | none => rw [hx] at this; simp at this
    | some x => rw [hx] at this; simp at this; rw [this]

theorem ready_of {L : Array Bool} {i : Nat} {o : Oper} (ho : ops[i]? = some o) (hi : L[i]? = some false) (hw : ∀ e ∈ o.after.toList, Region.binds .any e = true → L[e.on]? = some true) : i ∈ Region.ready .any ops L := by
  unfold Region.ready
  rw [List.mem_filter]
  refine ⟨by simpa using (Array.getElem?_eq_some_iff.mp ho).1, ?_⟩
  rw [ho]
  simp only [Bool.and_eq_true, Option.map_some, Option.getD_some]
  refine ⟨by rw [Array.getD_eq_getD_getElem?, hi]; rfl, ?_⟩
  apply Array.all_eq_true'.mpr
  intro e he
  cases hb : Region.binds .any e with
  | false => rfl
  | true =>
    have := hw e (by simpa using he) hb
    rw [Array.getD_eq_getD_getElem?, this]; rfl

theorem all_listed {L : Array Bool} (hE : edgesOk ops = true) (hsz : L.size = ops.size) (h : Region.ready .any ops L = []) : ∀ i, i < ops.size → L[i]? = some true := by
  intro i
  induction i using Nat.strongRecOn with
  | _ i ih =>
    intro hi
    have hl : L[i]? = some L[i] := by simp
    cases hv : L[i] with
    | true => rw [hl, hv]
    | false =>
      exfalso
      have ho : ops[i]? = some ops[i] := by simp
      have hmem : i ∈ Region.ready .any ops L := by
        refine ready_of ho (by rw [hl, hv]) ?_
        intro e he hb
        have h1 := List.all_eq_true.mp hE (ops[i], i) (by
          rw [List.mem_iff_getElem?]
          exact ⟨i, by rw [List.getElem?_zipIdx, Array.getElem?_toList, ho]; simp⟩)
        have h2 := List.all_eq_true.mp h1 e he
        have hlt : e.on < i := by simpa [hb, Nat.blt_eq] using h2
        exact ih e.on hlt (by omega)
      rw [h] at hmem
      simp at hmem

theorem draw_any (hC : CallOK P W0 call) (hcs : cs.length = ops.size) (hall : ∀ (i : Nat) (o : Oper) (co : COper), ops[i]? = some o → cs[i]? = some co → ∃ u, (ups P n ops true)[i]? = some u ∧ cOper P n ops u o = some co)
    (hE : edgesOk ops = true) (hR : readsOk (Region.before ops) cs = true) (hT : Traj call cs E S R) (h0 : WfM (S 0)) {Q : Exit → Act → World → Prop}
    (hQ : ∀ a' m' w', After W0 m0 (S 0) w0 m' (S ops.size) w' → EnvOK W0 m' n a' (E ops.size) → Q .normal a' w') :
    ∀ (fuel : Nat) (L : Array Bool) (a : Act) (w : World), DInv W0 n ops cs E S R m0 w0 L a w → L.toList.count false ≤ fuel → wpAny P .any ops Q fuel L a w := by
  have fin : ∀ (L : Array Bool) (a : Act) (w : World), DInv W0 n ops cs E S R m0 w0 L a w → Region.ready .any ops L = [] → Q .normal a w := by
    intro L a w hD hr
    have hl := all_listed hE hD.size hr
    obtain ⟨hsz, hcl, m, k, hk, hkL, hbar, hgt, hkup, hrel, hfr, henv, hsame, hframe, hfresh, hsize⟩ := hD
    have hkn : k = ops.size := by
      rcases hkL with h | h
      · exact h
      · by_cases hlt : k < ops.size
        · rw [hl k hlt] at h; cases h
        · omega
    subst hkn
    refine hQ a m w ⟨hrel, hsame, hframe, hfresh, hsize⟩ ?_
    obtain ⟨hO, _⟩ := reads_parts hR
    refine henv.get_congr ?_
    intro t
    by_cases hex : ∃ (j : Nat) (q : COper), cs[j]? = some q ∧ q.dst = some t
    · obtain ⟨j, q, h1, h2⟩ := hex
      have hj := (List.getElem?_eq_some_iff.mp h1).1
      rw [(traj_env hO hT t ops.size (by omega)).1 j q (by omega) h1 h2, (envL_get hO t cs.length (Nat.le_refl _)).1 j q hj h1 h2 (by rw [Array.getD_eq_getD_getElem?, hl j (by omega)]; rfl)]
    · rw [(traj_env hO hT t ops.size (by omega)).2 (fun j q _ h1 h2 => hex ⟨j, q, h1, h2⟩), (envL_get hO t cs.length (Nat.le_refl _)).2 (fun j q _ h1 h2 => absurd ⟨j, q, h1, h2⟩ hex)]
  intro fuel
  induction fuel with
  | zero =>
    intro L a w hD hc
    have hnil : Region.ready .any ops L = [] := by
      apply List.eq_nil_iff_forall_not_mem.mpr
      intro i hi
      obtain ⟨o, h1, h2, _⟩ := mem_ready hi hD.size
      have : false ∈ L.toList := by
        rw [List.mem_iff_getElem?]
        exact ⟨i, by rw [Array.getElem?_toList]; exact h2⟩
      have := List.count_pos_iff.mpr this
      omega
    exact ⟨hnil, fin L a w hD hnil⟩
  | succ fuel ih =>
    intro L a w hD hc
    refine ⟨fin L a w hD, ?_⟩
    intro i hi
    obtain ⟨o, h1, h2, h3⟩ := mem_ready hi hD.size
    refine wpOp_mono ?_ (draw_step hC hcs hall hE hR hT h0 hD h1 h2 h3)
    intro a' w' hD'
    refine ih _ _ _ hD' ?_
    have hil : i < L.size := (Array.getElem?_eq_some_iff.mp h2).1
    have hval : L.toList[i]'(by simpa using hil) = false := by
      have := (Array.getElem?_eq_some_iff.mp h2).2
      simpa using this
    rw [Array.toList_setIfInBounds, List.count_set (by simpa using hil), hval]
    simp
    have : false ∈ L.toList := by
      rw [List.mem_iff_getElem?]
      exact ⟨i, by rw [Array.getElem?_toList]; exact h2⟩
    have := List.count_pos_iff.mpr this
    simp at hc ⊢
    omega

theorem region_draw (hC : CallOK P W0 call) {m : PM} {s s' : Mem} {w : World} {a : Act} {e e' : Env} {id : Nat} (hcr : cRegion P n ops true = some cs) (hs : opsA call cs e s = some (e', s')) (hr : Rel W0 m s w) (hf : Fresh m s s') (he : EnvOK W0 m n a e) {Q : Exit → Act → World → Prop}
    (hQ : ∀ a' m' w', After W0 m s w m' s' w' → EnvOK W0 m' n a' e' → Q .normal a' w') : (Code.region id ops true).wp P Q a w := by
  obtain ⟨h1, h2, h3⟩ := cRegion_parts hcr
  obtain ⟨h3, h4, h5⟩ := h3 rfl
  obtain ⟨E, S, R, hT, e1, e2, e3, e4⟩ := traj_of cs e e' s s' hs
  subst e1 e2 e3 e4
  rw [h1] at hQ hf
  refine wp_region_any h3 ?_
  obtain ⟨k, hk1, hk2, hk3, hk4⟩ := next_bar (ops := ops) (cs := cs) ops.size 0 (by omega)
  have hup := traj_up hC.step hT hr.wf k 0 (by omega) (fun j co q1 q2 q3 => hk3 j co q1 (by omega) q3)
  rw [Nat.zero_add] at hup
  have hwk := traj_wf hC.step hT hr.wf k (by omega)
  have hLi : ∀ (i : Nat), i < ops.size → (Array.replicate ops.size false)[i]? = some false := by intro i hi; simp [hi]
  have hrep : ∀ (i : Nat), (Array.replicate ops.size false)[i]? ≠ some true := by
    intro i h
    rw [Array.getElem?_replicate] at h
    split at h <;> cases h
  have hb0 : Below w.heap.size w { w with drawn := w.drawn + 1 } := (Below.refl _ w).drew
  -- the rows that are there
  have none_ : ∀ r, (S 0).next ≤ r → r < (S ops.size).next → m r = none := fun r q1 q2 => hf r q1 q2
  have tr : ∀ r pl row, m r = some pl → (S k).get r = some row → (S 0).get r = some row := by
    intro r pl row q1 q2
    by_cases hr0 : r < (S 0).next
    · rw [← hup r hr0]; exact q2
    · exfalso
      have h6 := hwk.lt q2
      have h7 := (traj_to hC.step hT hr.wf hk2 (by omega)).next
      rw [none_ r (by omega) (by omega)] at q1; cases q1
  refine draw_any (m0 := m) (w0 := w) hC h1 h2 h4 h5 hT hr.wf hQ ops.size _ a _ ⟨by simp, ?_, m, k, hk2, ?_, ?_, ?_, ?_, ?_, ?_, ?_, fun _ _ => rfl, ?_, ?_, Nat.le_refl _⟩ (by simp)
  · intro i o ho hl; exact absurd hl (hrep i)
  · rcases hk4 with h | ⟨co, q1, q2⟩
    · exact .inl h
    · have := (List.getElem?_eq_some_iff.mp q1).1
      exact .inr (hLi k (by omega))
  · intro i co q1 q2 q3
    have := hk3 i co (Nat.zero_le _) q1 q2
    rw [this] at q3; cases q3
  · intro i _ hi _; exact hLi i hi
  · intro co hcc
    rcases hk4 with h | ⟨co', q1, q2⟩
    · rw [h, ← h1, List.getElem?_eq_none (Nat.le_refl _)] at hcc; cases hcc
    · rw [q1] at hcc; obtain rfl := Option.some.inj hcc; exact q2
  · refine ⟨hr.below.trans (hb0.mono hr.below.size), hwk, ?_, hr.blk, ?_⟩
    · intro r pl row q1 q2
      exact (hr.row r pl row q1 (tr r pl row q1 q2)).mono (fun _ _ h => h) rfl
    · intro r r' pl pl' row row' q1 q2 q3 q4 q5
      exact hr.inj r r' pl pl' row row' q1 q2 (tr _ _ _ q1 q3) (tr _ _ _ q2 q4) q5
  · intro i hi _ r q1 q2
    have h6 := (traj_to hC.step hT hr.wf (Nat.zero_le i) (by omega)).next
    have h7 := (traj_to hC.step hT hr.wf (show i + 1 ≤ ops.size by omega) (by omega)).next
    exact none_ r (by omega) (by omega)
  · refine he.get_congr ?_
    intro t
    refine (envL_get (reads_parts h5).1 t cs.length (Nat.le_refl _)).2 ?_
    intro i p _ _ _
    rw [Array.getD_eq_getD_getElem?, Array.getElem?_replicate]
    split <;> rfl
  · intro b _; exact .inl rfl
  · intro r pl q1 q2 q3
    rw [none_ r q1 q2] at q3; cases q3

end
end Go.VI
