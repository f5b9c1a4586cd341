/- What a tree says of a value in memory; what a memory of rows says of the machine's. No statement of the seat is proved here. -/
import Derived.Test.YtdbbmeihhemflaaVComp
namespace Go.VI
open Go Go.RowKit

/-- Where a row lies: its block, how many elements fit, cells an element. -/
structure Pl where
  ty : Nat
  blk : Nat
  cap : Nat
  e : Nat

abbrev PM := Nat → Option Pl

inductive V (W0 : World) (m : PM) : Value → AV → Prop
  | bool (b : Bool) : V W0 m (.bool b) (.bool b)
  | int (k : IntKind) (n : Int) : V W0 m (.int k n) (.int k n)
  | str (s : ByteArray) : V W0 m (.string s) (.str s.data.toList)
  | nilS : V W0 m (.slice none 0 0) .nilS
  | emp (a : Addr) : V W0 m (.slice (some a) 0 0) .emp
  | sl (a : Addr) (len cap e : Nat) (xs : List (List AV)) (hb : xs ≠ [] → a = ⟨a.block, a.off, none⟩ ∧ a.block < W0.heap.size) (hl : xs.length = len) (hc : len ≤ cap)
      (he : ∀ (i : Nat) (x : List AV), xs[i]? = some x → x.length = e)
      (hcell : ∀ (i : Nat) (x : List AV) (o : Nat) (c : AV), xs[i]? = some x → x[o]? = some c → isCell c = true ∧ (W0.cell? ⟨a.block, a.off + (i * e + o), none⟩).isSome)
      (hv : ∀ (i : Nat) (x : List AV) (o : Nat) (c : AV) (v : Value), xs[i]? = some x → x[o]? = some c → W0.cell? ⟨a.block, a.off + (i * e + o), none⟩ = some v → V W0 m v c) :
      V W0 m (.slice (some a) len cap) (.sl xs)
  | own (off n cp r i : Nat) (pl : Pl) (hm : m r = some pl) (hi : i + cp ≤ pl.cap) (hn : n ≤ cp) (ha : 0 < cp ∨ i = 0 → off = i * pl.e) :
      V W0 m (.slice (some ⟨pl.blk, off, none⟩) n cp) (.own r i n pl.e)
  | nilP : V W0 m (.pointer none) .nilP
  | ptr (r i o : Nat) (pl : Pl) (hm : m r = some pl) : V W0 m (.pointer (some ⟨pl.blk, i * pl.e + o, none⟩)) (.ptr r i o)
  | ref (b off : Nat) (cs : List AV) (hb : b < W0.heap.size)
      (hcell : ∀ (o : Nat) (c : AV), cs[o]? = some c → isCell c = true ∧ (W0.cell? ⟨b, off + o, none⟩).isSome)
      (hv : ∀ (o : Nat) (c : AV) (v : Value), cs[o]? = some c → W0.cell? ⟨b, off + o, none⟩ = some v → V W0 m v c) :
      V W0 m (.pointer (some ⟨b, off, none⟩)) (.ref cs)
  | fn (f : Nat) (caps : Array Value) (avs : List AV) (hl : caps.size = avs.length)
      (hv : ∀ (i : Nat) (v : Value) (c : AV), caps[i]? = some v → avs[i]? = some c → V W0 m v c) : V W0 m (.func (.func f) #[] caps) (.fn f avs)
  | nilF : V W0 m .nilFunc .nilF
  | ifc (t : Nat) (v : Value) (c : AV) (hv : V W0 m v c) : V W0 m (.iface t v) (.ifc t c)
  | nilI : V W0 m .nilIface .nilI
  | agg (cs : Array Value) (acs : List AV) (hl : cs.size = acs.length) (hc : ∀ (i : Nat) (c : AV), acs[i]? = some c → isCell c = true)
      (hv : ∀ (i : Nat) (v : Value) (c : AV), cs[i]? = some v → acs[i]? = some c → V W0 m v c) : V W0 m (.agg cs) (.agg acs)
  | tup (vs : Array Value) (avs : List AV) (hl : vs.size = avs.length)
      (hv : ∀ (i : Nat) (v : Value) (c : AV), vs[i]? = some v → avs[i]? = some c → V W0 m v c) : V W0 m (.tuple vs) (.tup avs)

theorem V.own' {W0 : World} {m : PM} {off n cp r i z : Nat} {pl : Pl} (hm : m r = some pl) (hi : i + cp ≤ pl.cap) (hn : n ≤ cp) (ha : 0 < cp ∨ i = 0 → off = i * pl.e) (hz : pl.e = z) :
    V W0 m (.slice (some ⟨pl.blk, off, none⟩) n cp) (.own r i n z) := by
  subst hz; exact .own _ _ _ _ _ pl hm hi hn ha

theorem V.mono {W0 : World} {m m' : PM} (h : ∀ r pl, m r = some pl → m' r = some pl) {v : Value} {c : AV} (hv : V W0 m v c) : V W0 m' v c := by
  induction hv with
  | bool b => exact .bool b
  | int k n => exact .int k n
  | str s => exact .str s
  | nilS => exact .nilS
  | emp a => exact .emp a
  | sl a len cap e xs hb hl hc he hcell _ ih => exact .sl a len cap e xs hb hl hc he hcell ih
  | own off n cp r i pl hm hi hn ha => exact .own off n cp r i pl (h _ _ hm) hi hn ha
  | nilP => exact .nilP
  | ptr r i o pl hm => exact .ptr r i o pl (h _ _ hm)
  | ref b off cs hb hcell _ ih => exact .ref b off cs hb hcell ih
  | fn f caps avs hl _ ih => exact .fn f caps avs hl ih
  | nilF => exact .nilF
  | ifc t v c _ ih => exact .ifc t v c ih
  | nilI => exact .nilI
  | agg cs acs hl hc _ ih => exact .agg cs acs hl hc ih
  | tup vs avs hl _ ih => exact .tup vs avs hl ih

theorem V.und (W0 : World) (m : PM) : V W0 m undef VI.und := .tup #[] [] rfl (by intro i v c h; simp at h)

/-- Lists of values. -/
def VL (W0 : World) (m : PM) (vs : Array Value) (cs : List AV) : Prop := vs.size = cs.length ∧ ∀ (i : Nat) (v : Value) (c : AV), vs[i]? = some v → cs[i]? = some c → V W0 m v c

theorem VL.mono {W0 : World} {m m' : PM} (h : ∀ r pl, m r = some pl → m' r = some pl) {vs : Array Value} {cs : List AV} (hv : VL W0 m vs cs) : VL W0 m' vs cs :=
  ⟨hv.1, fun i v c h1 h2 => (hv.2 i v c h1 h2).mono h⟩

/-- A value's cells. -/
theorem V.cells {W0 : World} {m : PM} {v : Value} {c : AV} (h : V W0 m v c) : v.cells.size = (cells c).length ∧ ∀ (i : Nat) (x : Value) (y : AV), v.cells[i]? = some x → (VI.cells c)[i]? = some y → V W0 m x y := by
  have one : ∀ (v : Value) (c : AV), V W0 m v c → v.cells = #[v] → VI.cells c = [c] → v.cells.size = (VI.cells c).length ∧ ∀ (i : Nat) (x : Value) (y : AV), v.cells[i]? = some x → (VI.cells c)[i]? = some y → V W0 m x y := by
    intro v c h e1 e2
    rw [e1, e2]
    refine ⟨rfl, ?_⟩
    intro i x y hx hy
    match i with
    | 0 => simp at hx hy; subst hx; subst hy; exact h
    | i + 1 => simp at hx
  cases h with
  | agg cs acs hl hc hv => exact ⟨hl, hv⟩
  | bool b => exact one _ _ (.bool b) rfl rfl
  | int k n => exact one _ _ (.int k n) rfl rfl
  | str s => exact one _ _ (.str s) rfl rfl
  | nilS => exact one _ _ .nilS rfl rfl
  | emp a => exact one _ _ (.emp a) rfl rfl
  | sl a len cap e xs hb hl hc he hcell hv => exact one _ _ (.sl a len cap e xs hb hl hc he hcell hv) rfl rfl
  | own off n cp r i pl hm hi hn ha => exact one _ _ (.own off n cp r i pl hm hi hn ha) rfl rfl
  | nilP => exact one _ _ .nilP rfl rfl
  | ptr r i o pl hm => exact one _ _ (.ptr r i o pl hm) rfl rfl
  | ref b off cs hb hcell hv => exact one _ _ (.ref b off cs hb hcell hv) rfl rfl
  | fn f caps avs hl hv => exact one _ _ (.fn f caps avs hl hv) rfl rfl
  | nilF => exact one _ _ .nilF rfl rfl
  | ifc t v c hv => exact one _ _ (.ifc t v c hv) rfl rfl
  | nilI => exact one _ _ .nilI rfl rfl
  | tup vs avs hl hv => exact one _ _ (.tup vs avs hl hv) rfl rfl

/-- What a cell may hold. -/
theorem V.one {W0 : World} {m : PM} {v : Value} {c : AV} (h : V W0 m v c) (hc : isCell c = true) : v.oneCell' = true := by
  cases h <;> first | rfl | simp [isCell] at hc

structure WfM (s : Mem) : Prop where
  floor : s.floor ≤ s.next
  none : ∀ r, s.next ≤ r → s.get r = .none

/-- A mark that lies behind the cells. -/
def Cold (f : Nat × Nat) (n : Nat) : Prop := f = (0, 0) ∨ n ≤ f.1
theorem Cold.at_ {f : Nat × Nat} {n o : Nat} (h : Cold f n) (ho : o < n) : (decide (f.1 ≤ o) && decide (o < f.2)) = false := by
  rcases h with rfl | h
  · simp
  · have : ¬ f.1 ≤ o := by omega
    simp [this]

structure RowOK (W0 : World) (m : PM) (w : World) (pl : Pl) (row : Row) : Prop where
  ex : ∃ c f, w.heap[pl.blk]? = some (.cells c pl.ty f) ∧ pl.cap * pl.e = c.size ∧ pl.cap ≤ maxLen ∧
    (∀ (i : Nat) (x : List AV) (o : Nat) (a : AV), row.els[i]? = some x → x[o]? = some a → ∃ v, c[i * pl.e + o]? = some v ∧ V W0 m v a) ∧ Cold f c.size
  ty : pl.ty = row.ty
  e : pl.e = row.sz
  len : row.els.length ≤ pl.cap
  szs : ∀ (i : Nat) (x : List AV), row.els[i]? = some x → x.length = row.sz ∧ ∀ (o : Nat) (a : AV), x[o]? = some a → isCell a = true

structure Rel (W0 : World) (m : PM) (s : Mem) (w : World) : Prop where
  below : Below W0.heap.size W0 w
  wf : WfM s
  row : ∀ r pl row, m r = some pl → s.get r = some row → RowOK W0 m w pl row
  blk : ∀ r pl, m r = some pl → W0.heap.size ≤ pl.blk ∧ pl.blk < w.heap.size
  inj : ∀ r r' pl pl' row row', m r = some pl → m r' = some pl' → s.get r = some row → s.get r' = some row' → pl.blk = pl'.blk → r = r'

/-- What a step of the memory of rows leaves. -/
structure Step (s s' : Mem) : Prop where
  next : s.next ≤ s'.next
  floor : s'.floor = s.floor
  low : ∀ r, r < s.floor → s'.get r = s.get r
  wf : WfM s'
  dead : ∀ r, r < s.next → s.get r = .none → s'.get r = .none

theorem Step.refl {s : Mem} (h : WfM s) : Step s s := ⟨Nat.le_refl _, rfl, fun _ _ => rfl, h, fun _ _ h => h⟩
theorem Step.trans {a b c : Mem} (h : Step a b) (k : Step b c) : Step a c :=
  ⟨Nat.le_trans h.next k.next, k.floor.trans h.floor, fun r hr => (k.low r (h.floor ▸ hr)).trans (h.low r hr), k.wf, fun r hr hn => k.dead r (Nat.lt_of_lt_of_le hr h.next) (h.dead r hr hn)⟩
theorem Step.live {a b : Mem} (h : Step a b) {r : Nat} (hr : r < a.next) (hs : (b.get r).isSome = true) : (a.get r).isSome = true := by
  cases hx : a.get r with
  | none => rw [h.dead r hr hx] at hs; cases hs
  | some x => rfl

def Fresh (m : PM) (s s' : Mem) : Prop := ∀ r, s.next ≤ r → r < s'.next → m r = none

structure After (W0 : World) (m : PM) (s : Mem) (w : World) (m' : PM) (s' : Mem) (w' : World) : Prop where
  rel : Rel W0 m' s' w'
  same : ∀ r, (r < s.next ∨ s'.next ≤ r) → m' r = m r
  frame : ∀ b, b < w.heap.size → w'.heap[b]? = w.heap[b]? ∨ ∃ r pl, m r = some pl ∧ pl.blk = b ∧ s.floor ≤ r ∧ r < s.next ∧ (s.get r).isSome = true
  fresh : ∀ r pl, s.next ≤ r → r < s'.next → m' r = some pl → w.heap.size ≤ pl.blk ∨ ∃ r0 pl0, m r0 = some pl0 ∧ pl0.blk = pl.blk ∧ s.floor ≤ r0 ∧ r0 < s.next ∧ (s.get r0).isSome = true
  size : w.heap.size ≤ w'.heap.size

theorem After.refl {W0 : World} {m : PM} {s : Mem} {w : World} (h : Rel W0 m s w) : After W0 m s w m s w :=
  ⟨h, fun _ _ => rfl, fun _ _ => .inl rfl, fun r pl h1 h2 _ => by omega, Nat.le_refl _⟩

theorem After.sub {W0 : World} {m m' : PM} {s s' : Mem} {w w' : World} (h : After W0 m s w m' s' w') (hf : Fresh m s s') : ∀ r pl, m r = some pl → m' r = some pl := by
  intro r pl hr
  by_cases h1 : r < s.next
  · rw [h.same r (.inl h1)]; exact hr
  · by_cases h2 : s'.next ≤ r
    · rw [h.same r (.inr h2)]; exact hr
    · have := hf r (by omega) (by omega); rw [this] at hr; cases hr

theorem Fresh.left {m : PM} {a b c : Mem} (h : Fresh m a c) (k : Step b c) : Fresh m a b := fun r h1 h2 => h r h1 (Nat.lt_of_lt_of_le h2 k.next)

theorem Fresh.right {W0 : World} {m m' : PM} {a b c : Mem} {w w' : World} (h : Fresh m a c) (hs : Step a b) (ha : After W0 m a w m' b w') : Fresh m' b c := by
  intro r h1 h2
  rw [ha.same r (.inr h1)]
  exact h r (Nat.le_trans hs.next h1) h2

theorem After.trans {W0 : World} {m m1 m2 : PM} {s s1 s2 : Mem} {w w1 w2 : World} (hs : Step s s1) (hs2 : Step s1 s2)
    (h : After W0 m s w m1 s1 w1) (k : After W0 m1 s1 w1 m2 s2 w2) : After W0 m s w m2 s2 w2 := by
  refine ⟨k.rel, ?_, ?_, ?_, Nat.le_trans h.size k.size⟩
  · intro r hr
    rcases hr with hr | hr
    · rw [k.same r (.inl (Nat.lt_of_lt_of_le hr hs.next)), h.same r (.inl hr)]
    · rw [k.same r (.inr hr), h.same r (.inr (Nat.le_trans hs2.next hr))]
  · intro b hb
    rcases k.frame b (Nat.lt_of_lt_of_le hb h.size) with hk | ⟨r, pl, hm, hpl, h1, h2, hl⟩
    · rw [hk]; exact h.frame b hb
    · right
      by_cases hr : r < s.next
      · exact ⟨r, pl, by rw [← h.same r (.inl hr)]; exact hm, hpl, hs.floor ▸ h1, hr, hs.live hr hl⟩
      · rcases h.fresh r pl (by omega) h2 hm with hh | ⟨r0, pl0, q1, q2, q3, q4⟩
        · omega
        · exact ⟨r0, pl0, q1, q2.trans hpl, q3, q4⟩
  · intro r pl h1 h2 hm
    by_cases hr : r < s1.next
    · rw [k.same r (.inl hr)] at hm; exact h.fresh r pl h1 hr hm
    · rcases k.fresh r pl (by omega) h2 hm with hh | ⟨r0, pl0, q1, q2, q3, q4, hl⟩
      · exact .inl (Nat.le_trans h.size hh)
      · by_cases hr0 : r0 < s.next
        · exact .inr ⟨r0, pl0, by rw [← h.same r0 (.inl hr0)]; exact q1, q2, hs.floor ▸ q3, hr0, hs.live hr0 hl⟩
        · rcases h.fresh r0 pl0 (by omega) q4 q1 with hh | ⟨r1, pl1, p1, p2, p3, p4⟩
          · exact .inl (q2 ▸ hh)
          · exact .inr ⟨r1, pl1, p1, p2.trans q2, p3, p4⟩

/-- Temporaries. -/
structure EnvOK (W0 : World) (m : PM) (n : Nat) (a : Act) (e : Env) : Prop where
  size : a.tmps.size = n
  defers : a.defers = []
  get : ∀ t, V W0 m (a.tmps.getD t undef) (e.get t)

theorem EnvOK.mono {W0 : World} {m m' : PM} {n : Nat} {a : Act} {e : Env} (h : ∀ r pl, m r = some pl → m' r = some pl) (he : EnvOK W0 m n a e) : EnvOK W0 m' n a e :=
  ⟨he.size, he.defers, fun t => (he.get t).mono h⟩

theorem getD_setIf (a : Array Value) (d t : Nat) (v u : Value) (hd : d < a.size) : (a.setIfInBounds d v).getD t u = if t = d then v else a.getD t u := by
  simp only [Array.getD_eq_getD_getElem?]
  by_cases h : t = d
  · subst h; simp [hd]
  · have h' : ¬ d = t := fun e => h e.symm
    simp [h, h']

theorem EnvOK.put {W0 : World} {m : PM} {n : Nat} {a : Act} {e : Env} (he : EnvOK W0 m n a e) {d : Option Nat} (hd : dstOk n d = true) {v : Value} {c : AV} (hv : V W0 m v c) :
    EnvOK W0 m n (a.put d v) (putO e d c) := by
  cases d with
  | none => exact he
  | some d =>
    have hlt : d < a.tmps.size := by rw [he.size]; simpa [dstOk, Nat.blt_eq] using hd
    refine ⟨by simp [Act.put, he.size], by simp [Act.put, he.defers], ?_⟩
    intro t
    simp only [Act.put, putO, Env.get_set]
    rw [getD_setIf _ _ _ _ _ hlt]
    split
    · exact hv
    · exact he.get t

/-! Constants and operands. -/
theorem leafAV_V {W0 : World} {m : PM} {v : Value} {c : AV} (h : leafAV v = some c) : V W0 m v c ∧ isCell c = true := by
  unfold leafAV at h
  split at h <;> first | (obtain rfl := Option.some.inj h; exact ⟨by constructor, rfl⟩) | cases h

theorem mapM_some {α β : Type} {f : α → Option β} : ∀ {l : List α} {r : List β}, l.mapM f = some r → l.length = r.length ∧ ∀ (i : Nat) (x : α) (y : β), l[i]? = some x → r[i]? = some y → f x = some y := by
  intro l
  induction l with
  | nil => intro r h; simp at h; subst h; exact ⟨rfl, by simp⟩
  | cons a l ih =>
    intro r h
    simp only [List.mapM_cons, Option.pure_def, Option.bind_eq_bind] at h
    obtain ⟨b, hb, h⟩ := Option.bind_eq_some_iff.mp h
    obtain ⟨t, ht, h⟩ := Option.bind_eq_some_iff.mp h
    obtain rfl := Option.some.inj h
    obtain ⟨h1, h2⟩ := ih ht
    refine ⟨by simp [h1], ?_⟩
    intro i x y hx hy
    match i with
    | 0 => simp at hx hy; subst hx; subst hy; exact hb
    | i + 1 => simp at hx hy; exact h2 i x y hx hy

theorem constAV_V {W0 : World} {m : PM} {v : Value} {c : AV} (h : constAV v = some c) : V W0 m v c := by
  unfold constAV at h
  split at h
  · rename_i cs
    obtain ⟨l, hl, h⟩ := Option.map_eq_some_iff.mp h
    subst h
    obtain ⟨h1, h2⟩ := mapM_some hl
    refine .agg cs l (by simpa using h1) ?_ ?_
    · intro i c hc
      have hi : i < cs.size := by have := (List.getElem?_eq_some_iff.mp hc).1; simp at h1; omega
      have := h2 i cs[i] c (by simp) hc
      exact (leafAV_V (W0 := W0) (m := m) this).2
    · intro i v c hv hc
      exact (leafAV_V (h2 i v c (by simpa using hv) hc)).1
  · rename_i vs
    split at h
    · rename_i h0
      obtain rfl := Option.some.inj h
      obtain rfl : vs = #[] := Array.eq_empty_of_size_eq_zero h0
      exact V.und W0 m
    · cases h
  · exact (leafAV_V h).1

theorem opd_V {W0 : World} {m : PM} {n : Nat} {a : Act} {e : Env} (he : EnvOK W0 m n a e) {x : Operand} {cx : Opd} (h : cOpd x = some cx) : V W0 m (a.eval x) (ev e cx) := by
  cases x with
  | tmp t => obtain rfl := Option.some.inj h; exact he.get t
  | const v =>
    obtain ⟨c, hc, rfl⟩ := Option.map_eq_some_iff.mp h
    exact constAV_V hc
  | func f => obtain rfl := Option.some.inj h; exact .fn f #[] [] rfl (by intro i v c h; simp at h)
  | global g => cases h

end Go.VI
