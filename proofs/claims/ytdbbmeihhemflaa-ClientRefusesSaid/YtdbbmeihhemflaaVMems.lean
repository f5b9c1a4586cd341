/- Steps of the memory of rows and what the machine's memory does beside them. No statement of the seat is proved here. -/
import Derived.Test.YtdbbmeihhemflaaVRel
namespace Go.VI
open Go Go.RowKit

def upd (m : PM) (r : Nat) (pl : Pl) : PM := fun j => if j = r then some pl else m j

theorem upd_same (m : PM) (r : Nat) (pl : Pl) : upd m r pl r = some pl := by simp [upd]
theorem upd_other (m : PM) {r j : Nat} (pl : Pl) (h : j ≠ r) : upd m r pl j = m j := by simp [upd, h]

theorem Step.push {s : Mem} (h : WfM s) (x : Row) : Step s (s.push x) := by
  refine ⟨Nat.le_succ _, rfl, ?_, ⟨Nat.le_succ_of_le h.floor, ?_⟩, fun r hr hn => by rw [Mem.get_push, if_neg (by omega)]; exact hn⟩
  · intro r hr
    rw [Mem.get_push, if_neg (by have := h.floor; omega)]
  · intro r hr
    rw [Mem.next_push] at hr
    rw [Mem.get_push, if_neg (by omega)]
    exact h.none r (by omega)

theorem Step.put {s : Mem} (h : WfM s) {r : Nat} (hr : r < s.next) (hf : s.floor ≤ r) (x : Option Row) (hx : s.get r = none → x = none) : Step s (s.put r x) := by
  refine ⟨Nat.le_refl _, rfl, ?_, ⟨h.floor, ?_⟩, fun j _ hn => ?_⟩
  · intro j hj
    rw [Mem.get_put, if_neg (by omega)]
  · intro j hj
    rw [Mem.next_put] at hj
    rw [Mem.get_put, if_neg (by omega)]
    exact h.none j hj
  · rw [Mem.get_put]
    split
    · rename_i e; subst e; exact hx hn
    · exact hn

theorem WfM.lt {s : Mem} (h : WfM s) {r : Nat} {row : Row} (hr : s.get r = some row) : r < s.next := by
  apply Nat.lt_of_not_le
  intro hle
  rw [h.none r hle] at hr
  cases hr

theorem RowOK.mono {W0 : World} {m m' : PM} {w w' : World} {pl : Pl} {row : Row} (h : RowOK W0 m w pl row) (hm : ∀ r pl, m r = some pl → m' r = some pl) (hw : w'.heap[pl.blk]? = w.heap[pl.blk]?) : RowOK W0 m' w' pl row := by
  obtain ⟨c, f, h1, h2, h3, h4, h5⟩ := h.ex
  refine ⟨⟨c, f, by rw [hw]; exact h1, h2, h3, ?_, h5⟩, h.ty, h.e, h.len, h.szs⟩
  intro i x o a hi ho
  obtain ⟨v, hv, hV⟩ := h4 i x o a hi ho
  exact ⟨v, hv, hV.mono hm⟩

/-! Cells that are stored, one after the other. -/
theorem setCell_heap (w : World) {g o : Nat} {v : Value} {cur : Array Value} {e : TypeId} {f : Nat × Nat} (hg : w.heap[g]? = some (.cells cur e f)) : (w.setCell ⟨g, o, none⟩ v).heap[g]? = some (.cells (cur.setIfInBounds o v) e f) := by
  have hlt : g < w.heap.size := (Array.getElem?_eq_some_iff.1 hg).1
  have hv : w.heap[g] = .cells cur e f := (Array.getElem?_eq_some_iff.1 hg).2
  unfold World.setCell
  rw [Array.getElem?_eq_getElem (by simpa using hlt), Array.getElem_modify]
  simp [hv]
theorem setCell_far (w : World) {g o k : Nat} {v : Value} (h : k ≠ g) : (w.setCell ⟨g, o, none⟩ v).heap[k]? = w.heap[k]? := by
  simp [World.setCell, Array.getElem?_modify, Ne.symm h]
theorem setCells_far (g : Nat) : ∀ (vs : List Value) (o : Nat) (w : World) (k : Nat), k ≠ g → (w.setCells g o vs).heap[k]? = w.heap[k]?
  | [], _, _, _, _ => rfl
  | v :: vs, o, w, k, h => by
    rw [World.setCells, setCells_far g vs (o + 1) _ k h, setCell_far w h]
theorem setCells_rest (g : Nat) : ∀ (vs : List Value) (o : Nat) (w : World), (w.setCells g o vs).os = w.os ∧ (w.setCells g o vs).tape = w.tape ∧ (w.setCells g o vs).output = w.output ∧ (w.setCells g o vs).heap.size = w.heap.size
  | [], _, _ => ⟨rfl, rfl, rfl, rfl⟩
  | v :: vs, o, w => by
    rw [World.setCells]
    obtain ⟨h1, h2, h3, h4⟩ := setCells_rest g vs (o + 1) (w.setCell ⟨g, o, none⟩ v)
    exact ⟨h1, h2, h3, by rw [h4]; simp [World.setCell]⟩
theorem setCells_row {g : Nat} {e : TypeId} {f : Nat × Nat} : ∀ (vs : List Value) (o : Nat) (w : World) (cur : Array Value), w.heap[g]? = some (.cells cur e f) → o + vs.length ≤ cur.size →
    (w.setCells g o vs).heap[g]? = some (.cells (cur.toList.take o ++ vs ++ cur.toList.drop (o + vs.length)).toArray e f)
  | [], o, w, cur, hg, _ => by simp [World.setCells, hg]
  | v :: vs, o, w, cur, hg, hl => by
    simp only [List.length_cons] at hl
    rw [World.setCells, setCells_row vs (o + 1) _ _ (setCell_heap w hg) (by simp; omega)]
    congr 2
    have h1 : (cur.toList.set o v).take (o + 1) = cur.toList.take o ++ [v] := by
      rw [List.take_add_one, List.take_set_of_le (Nat.le_refl _), List.getElem?_set_self (by simp; omega)]
      rfl
    have h2 : (cur.toList.set o v).drop (o + 1 + vs.length) = cur.toList.drop (o + 1 + vs.length) := List.drop_set_of_lt (by omega)
    rw [Array.toList_setIfInBounds, h1, h2]
    simp only [List.length_cons, List.append_assoc, List.cons_append, List.nil_append]
    rw [show o + 1 + vs.length = o + (vs.length + 1) by omega]

/-- A new block and a new row. -/
theorem After.push {W0 : World} {m : PM} {s : Mem} {w w1 : World} (h : Rel W0 m s w) (hf : m s.next = none) (row : Row) (c : Array Value) (cap : Nat)
    (hb : Below w.heap.size w w1) {fz : Nat × Nat} (hg : w1.heap[w.heap.size]? = some (.cells c row.ty fz)) (hfz : Cold fz c.size) (hc : cap * row.sz = c.size) (hcap : cap ≤ maxLen) (hl : row.els.length ≤ cap)
    (hsz : ∀ (i : Nat) (x : List AV), row.els[i]? = some x → x.length = row.sz ∧ ∀ (o : Nat) (a : AV), x[o]? = some a → isCell a = true)
    (hv : ∀ (i : Nat) (x : List AV) (o : Nat) (a : AV), row.els[i]? = some x → x[o]? = some a → ∃ v, c[i * row.sz + o]? = some v ∧ V W0 m v a) :
    After W0 m s w (upd m s.next ⟨row.ty, w.heap.size, cap, row.sz⟩) (s.push row) w1 := by
  have hsub : ∀ r pl, m r = some pl → upd m s.next ⟨row.ty, w.heap.size, cap, row.sz⟩ r = some pl := by
    intro r pl hr
    by_cases e : r = s.next
    · subst e; rw [hf] at hr; cases hr
    · rw [upd_other _ _ e]; exact hr
  have hlt : w.heap.size < w1.heap.size := (Array.getElem?_eq_some_iff.mp hg).1
  refine ⟨⟨?_, (Step.push h.wf row).wf, ?_, ?_, ?_⟩, ?_, ?_, ?_, hb.size⟩
  · exact h.below.trans (hb.mono h.below.size)
  · intro r pl rw' hr hget
    rw [Mem.get_push] at hget
    by_cases e : r = s.next
    · rw [if_pos e] at hget
      obtain rfl := Option.some.inj hget
      subst e
      rw [upd_same] at hr
      obtain rfl := Option.some.inj hr
      refine ⟨⟨c, fz, hg, hc, hcap, ?_, hfz⟩, rfl, rfl, hl, hsz⟩
      intro i x o a hi ho
      obtain ⟨v, h1, h2⟩ := hv i x o a hi ho
      exact ⟨v, h1, h2.mono hsub⟩
    · rw [if_neg e] at hget
      rw [upd_other _ _ e] at hr
      exact (h.row r pl rw' hr hget).mono hsub (hb.block _ (h.blk r pl hr).2)
  · intro r pl hr
    by_cases e : r = s.next
    · subst e
      rw [upd_same] at hr
      obtain rfl := Option.some.inj hr
      exact ⟨h.below.size, hlt⟩
    · rw [upd_other _ _ e] at hr
      exact ⟨(h.blk r pl hr).1, Nat.lt_of_lt_of_le (h.blk r pl hr).2 hb.size⟩
  · intro r r' pl pl' ro ro' hr hr' hg1 hg2 hbb
    rw [Mem.get_push] at hg1 hg2
    by_cases e : r = s.next
    · by_cases e' : r' = s.next
      · rw [e, e']
      · exfalso
        rw [upd_other _ _ e'] at hr'
        subst e
        rw [upd_same] at hr
        obtain rfl := Option.some.inj hr
        have := (h.blk r' pl' hr').2
        simp only at hbb
        omega
    · by_cases e' : r' = s.next
      · exfalso
        rw [upd_other _ _ e] at hr
        subst e'
        rw [upd_same] at hr'
        obtain rfl := Option.some.inj hr'
        have := (h.blk r pl hr).2
        simp only at hbb
        omega
      · rw [if_neg e] at hg1
        rw [if_neg e'] at hg2
        rw [upd_other _ _ e] at hr
        rw [upd_other _ _ e'] at hr'
        exact h.inj r r' pl pl' ro ro' hr hr' hg1 hg2 hbb
  · intro r hr
    rw [Mem.next_push] at hr
    exact upd_other _ _ (by omega)
  · intro b hbk
    exact .inl (hb.block b hbk)
  · intro r pl h1 h2 hr
    rw [Mem.next_push] at h2
    obtain rfl : r = s.next := by omega
    rw [upd_same] at hr
    obtain rfl := Option.some.inj hr
    exact .inl (Nat.le_refl _)

/-- A row that nobody looks at any more. -/
theorem After.kill {W0 : World} {m : PM} {s : Mem} {w : World} (h : Rel W0 m s w) {r : Nat} (hr : r < s.next) (hf : s.floor ≤ r) : After W0 m s w m (s.put r none) w := by
  refine ⟨⟨h.below, (Step.put h.wf hr hf none (fun _ => rfl)).wf, ?_, h.blk, ?_⟩, fun _ _ => rfl, fun _ _ => .inl rfl, ?_, Nat.le_refl _⟩
  · intro j pl row hj hget
    rw [Mem.get_put] at hget
    by_cases e : j = r
    · rw [if_pos e] at hget; cases hget
    · rw [if_neg e] at hget; exact h.row j pl row hj hget
  · intro j j' pl pl' ro ro' h1 h2 h3 h4 h5
    rw [Mem.get_put] at h3 h4
    by_cases e : j = r
    · rw [if_pos e] at h3; cases h3
    · by_cases e' : j' = r
      · rw [if_pos e'] at h4; cases h4
      · rw [if_neg e] at h3
        rw [if_neg e'] at h4
        exact h.inj j j' pl pl' ro ro' h1 h2 h3 h4 h5
  · intro j pl h1 h2
    rw [Mem.next_put] at h2
    omega

/-- A row is written. -/
theorem After.store {W0 : World} {m : PM} {s : Mem} {w w1 : World} (h : Rel W0 m s w) {r : Nat} {pl : Pl} {row row' : Row} (hm : m r = some pl) (hget : s.get r = some row) (hf : s.floor ≤ r)
    (hty : row'.ty = row.ty) (hsz' : row'.sz = row.sz) (hlen : row'.els.length = row.els.length) (c : Array Value)
    (hw : w1.os = w.os ∧ w1.tape = w.tape ∧ w1.output = w.output ∧ w1.heap.size = w.heap.size) (ho : ∀ k, k ≠ pl.blk → w1.heap[k]? = w.heap[k]?)
    {fz : Nat × Nat} (hg : w1.heap[pl.blk]? = some (.cells c pl.ty fz)) (hfz : Cold fz c.size) (hc : pl.cap * pl.e = c.size)
    (hsz : ∀ (i : Nat) (x : List AV), row'.els[i]? = some x → x.length = row.sz ∧ ∀ (o : Nat) (a : AV), x[o]? = some a → isCell a = true)
    (hv : ∀ (i : Nat) (x : List AV) (o : Nat) (a : AV), row'.els[i]? = some x → x[o]? = some a → ∃ v, c[i * row.sz + o]? = some v ∧ V W0 m v a) :
    After W0 m s w m (s.put r (some row')) w1 := by
  have hrow := h.row r pl row hm hget
  have hr := h.wf.lt hget
  have hblk := h.blk r pl hm
  refine ⟨⟨?_, (Step.put h.wf hr hf _ (fun hn => by rw [hget] at hn; cases hn)).wf, ?_, ?_, ?_⟩, fun _ _ => rfl, ?_, ?_, by omega⟩
  · exact h.below.trans ⟨hw.1, hw.2.1, hw.2.2.1, by omega, fun k hk => ho k (by omega)⟩
  · intro j plj rj hj hgj
    rw [Mem.get_put] at hgj
    by_cases e : j = r
    · subst e
      rw [if_pos rfl] at hgj
      obtain rfl := Option.some.inj hgj
      rw [hm] at hj
      obtain rfl := Option.some.inj hj
      refine ⟨⟨c, fz, hg, hc, ?_, ?_, hfz⟩, hrow.ty.trans hty.symm, hrow.e.trans hsz'.symm, by rw [hlen]; exact hrow.len, ?_⟩
      · obtain ⟨_, _, _, _, h3, _⟩ := hrow.ex; exact h3
      · rw [hrow.e]; exact hv
      · rw [hsz']; exact hsz
    · rw [if_neg e] at hgj
      refine (h.row j plj rj hj hgj).mono (fun _ _ h => h) (ho _ ?_)
      intro hbb
      exact e (h.inj j r plj pl rj row hj hm hgj hget hbb)
  · intro j plj hj
    have := h.blk j plj hj
    omega
  · intro j j' plj plj' ro ro' h1 h2 h3 h4 h5
    rw [Mem.get_put] at h3 h4
    have live : ∀ k x, (if k = r then some row' else s.get k) = some x → ∃ y, s.get k = some y := by
      intro k x hk
      by_cases e : k = r
      · subst e; exact ⟨row, hget⟩
      · rw [if_neg e] at hk; exact ⟨x, hk⟩
    obtain ⟨y, hy⟩ := live j ro h3
    obtain ⟨y', hy'⟩ := live j' ro' h4
    exact h.inj j j' plj plj' y y' h1 h2 hy hy' h5
  · intro b hb
    by_cases e : b = pl.blk
    · exact .inr ⟨r, pl, hm, e.symm, hf, hr, by rw [hget]; rfl⟩
    · exact .inl (ho b e)
  · intro j plj h1 h2
    rw [Mem.next_put] at h2
    omega

/-- A row that goes on under a new number, in the same block. -/
theorem After.rebind {W0 : World} {m : PM} {s : Mem} {w w1 : World} (h : Rel W0 m s w) (hfr : m s.next = none) {r : Nat} {pl : Pl} {row row' : Row} (hm : m r = some pl) (hget : s.get r = some row) (hf : s.floor ≤ r)
    (hty : row'.ty = row.ty) (hsz' : row'.sz = row.sz) (hlen : row'.els.length ≤ pl.cap) (c : Array Value)
    (hw : w1.os = w.os ∧ w1.tape = w.tape ∧ w1.output = w.output ∧ w1.heap.size = w.heap.size) (ho : ∀ k, k ≠ pl.blk → w1.heap[k]? = w.heap[k]?)
    {fz : Nat × Nat} (hg : w1.heap[pl.blk]? = some (.cells c pl.ty fz)) (hfz : Cold fz c.size) (hc : pl.cap * pl.e = c.size)
    (hsz : ∀ (i : Nat) (x : List AV), row'.els[i]? = some x → x.length = row.sz ∧ ∀ (o : Nat) (a : AV), x[o]? = some a → isCell a = true)
    (hv : ∀ (i : Nat) (x : List AV) (o : Nat) (a : AV), row'.els[i]? = some x → x[o]? = some a → ∃ v, c[i * row.sz + o]? = some v ∧ V W0 m v a) :
    After W0 m s w (upd m s.next pl) ((s.put r none).push row') w1 := by
  have hrow := h.row r pl row hm hget
  have hr := h.wf.lt hget
  have hblk := h.blk r pl hm
  have hsub : ∀ j plj, m j = some plj → upd m s.next pl j = some plj := by
    intro j plj hj
    by_cases e : j = s.next
    · subst e; rw [hfr] at hj; cases hj
    · rw [upd_other _ _ e]; exact hj
  have hgets : ∀ j, ((s.put r none).push row').get j = if j = s.next then some row' else if j = r then none else s.get j := by
    intro j
    rw [Mem.get_push, Mem.next_put, Mem.get_put]
  refine ⟨⟨?_, ?_, ?_, ?_, ?_⟩, ?_, ?_, ?_, by omega⟩
  · exact h.below.trans ⟨hw.1, hw.2.1, hw.2.2.1, by omega, fun k hk => ho k (by omega)⟩
  · exact (Step.push (Step.put h.wf hr hf none (fun _ => rfl)).wf row').wf
  · intro j plj rj hj hgj
    rw [hgets] at hgj
    by_cases e : j = s.next
    · subst e
      rw [if_pos rfl] at hgj
      obtain rfl := Option.some.inj hgj
      rw [upd_same] at hj
      obtain rfl := Option.some.inj hj
      refine ⟨⟨c, fz, hg, hc, ?_, ?_, hfz⟩, hrow.ty.trans hty.symm, hrow.e.trans hsz'.symm, hlen, by rw [hsz']; exact hsz⟩
      · obtain ⟨_, _, _, _, h3, _⟩ := hrow.ex; exact h3
      · rw [hrow.e]
        intro i x o a hi hoo
        obtain ⟨v, h1, h2⟩ := hv i x o a hi hoo
        exact ⟨v, h1, h2.mono hsub⟩
    · rw [if_neg e] at hgj
      rw [upd_other _ _ e] at hj
      by_cases e2 : j = r
      · rw [if_pos e2] at hgj; cases hgj
      · rw [if_neg e2] at hgj
        refine (h.row j plj rj hj hgj).mono hsub (ho _ ?_)
        intro hbb
        exact e2 (h.inj j r plj pl rj row hj hm hgj hget hbb)
  · intro j plj hj
    by_cases e : j = s.next
    · subst e
      rw [upd_same] at hj
      obtain rfl := Option.some.inj hj
      omega
    · rw [upd_other _ _ e] at hj
      have := h.blk j plj hj
      omega
  · have old : ∀ j plj ro, j ≠ s.next → upd m s.next pl j = some plj → ((s.put r none).push row').get j = some ro → j ≠ r ∧ m j = some plj ∧ s.get j = some ro := by
      intro j plj ro e h1 h2
      rw [upd_other _ _ e] at h1
      rw [hgets, if_neg e] at h2
      by_cases e2 : j = r
      · rw [if_pos e2] at h2; cases h2
      · rw [if_neg e2] at h2; exact ⟨e2, h1, h2⟩
    intro j j' plj plj' ro ro' h1 h2 h3 h4 h5
    by_cases e : j = s.next
    · by_cases e' : j' = s.next
      · rw [e, e']
      · obtain ⟨q1, q2, q3⟩ := old j' plj' ro' e' h2 h4
        subst e
        rw [upd_same] at h1
        obtain rfl := Option.some.inj h1
        exact absurd (h.inj j' r plj' pl ro' row q2 hm q3 hget h5.symm) q1
    · obtain ⟨p1, p2, p3⟩ := old j plj ro e h1 h3
      by_cases e' : j' = s.next
      · subst e'
        rw [upd_same] at h2
        obtain rfl := Option.some.inj h2
        exact absurd (h.inj j r plj pl ro row p2 hm p3 hget h5) p1
      · obtain ⟨q1, q2, q3⟩ := old j' plj' ro' e' h2 h4
        exact h.inj j j' plj plj' ro ro' p2 q2 p3 q3 h5
  · intro j hj
    rw [Mem.next_push, Mem.next_put] at hj
    exact upd_other _ _ (by omega)
  · intro b hb
    by_cases e : b = pl.blk
    · exact .inr ⟨r, pl, hm, e.symm, hf, hr, by rw [hget]; rfl⟩
    · exact .inl (ho b e)
  · intro j plj h1 h2 hj
    rw [Mem.next_push, Mem.next_put] at h2
    obtain rfl : j = s.next := by omega
    rw [upd_same] at hj
    obtain rfl := Option.some.inj hj
    exact .inr ⟨r, pl, hm, rfl, hf, hr, by rw [hget]; rfl⟩

end Go.VI
