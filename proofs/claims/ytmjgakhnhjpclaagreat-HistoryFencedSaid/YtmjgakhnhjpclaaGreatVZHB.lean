/- Which histories may be: the plain law, and the sets of ids. No statement of the seat is proved here. -/
import Derived.Test.YtmjgakhnhjpclaaGreatVZHA
import Derived.Test.YtmjgakhnhjpclaaGreatVZVE
namespace Go.Proofs.YtmjgakhnhjpclaaGreat
open Go Go.VI
set_option linter.unusedSimpArgs false
abbrev Idn := Int × Int
def idOf (e : Event) : Idn := (e.client, e.seq)
def ids (f : Bool) (l : List Event) : List Idn := (l.filter fun e => e.done == f).map idOf
theorem ids_snoc (f : Bool) {l : List Event} {i : Nat} {e : Event} (h : l[i]? = some e) : ids f (l.take (i + 1)) = if e.done = f then ids f (l.take i) ++ [idOf e] else ids f (l.take i) := by
  unfold ids
  rw [List.take_add_one, h]
  by_cases he : e.done = f
  · simp [List.filter_append, he]
  · simp [List.filter_append, he]
def baseOk (p : Option Event) (e : Event) : Bool := decide (0 ≤ e.client) && decide (e.client < 8) && !decide (e.seq = 0) && decide (0 ≤ e.time) && (match p with | none => true | some q => decide (q.time ≤ e.time))
def evOk (p : Option Event) (b d : List Idn) (e : Event) : Bool := baseOk p e &&
  (if e.done then b.contains (idOf e) && !d.contains (idOf e) && callNone e.call && (!e.unknown || silentR e.reply) else !b.contains (idOf e) && !e.unknown && silentR e.reply && callOk e.call)
def okAt (l : List Event) (i : Nat) : Bool := match l[i]? with | none => true | some e => evOk (prevOf l i) (ids false (l.take i)) (ids true (l.take i)) e
theorem okAt_some {l : List Event} {i : Nat} {e : Event} (h : l[i]? = some e) : okAt l i = evOk (prevOf l i) (ids false (l.take i)) (ids true (l.take i)) e := by simp [okAt, h]
def allOk (l : List Event) : Bool := (List.range l.length).all (okAt l)
def chk (l : List Event) : Int := if l.length > 64 then 3 else if allOk l then (if (ids false l).length > 8 then 2 else 0) else 1
theorem chk_long {l : List Event} (h : l.length > 64) : chk l = 3 := by simp [chk, h]
theorem chk_bad {l : List Event} {i : Nat} {e : Event} (h : ¬ l.length > 64) (he : l[i]? = some e) (hb : evOk (prevOf l i) (ids false (l.take i)) (ids true (l.take i)) e = false) : chk l = 1 := by
  have : allOk l = false := by
    unfold allOk
    rw [List.all_eq_false]
    exact ⟨i, List.mem_range.mpr (List.getElem?_eq_some_iff.mp he).1, by rw [okAt_some he, hb]; simp⟩
  simp [chk, h, this]
theorem chk_good {l : List Event} (h : ¬ l.length > 64) (ha : ∀ i, i < l.length → okAt l i = true) : chk l = if (ids false l).length > 8 then 2 else 0 := by
  have : allOk l = true := by
    unfold allOk
    rw [List.all_eq_true]
    exact fun i hi => ha i (List.mem_range.mp hi)
  simp only [chk, if_neg h, this, if_true]
def idK (q : Idn) : AV := .agg [.int .i64 q.1, .int .u64 q.2]
def idEs (b : List Idn) : List (List AV) := b.map fun q => [idK q, .bool true]
theorem idEs_len (b : List Idn) : (idEs b).length = b.length := by simp [idEs]
theorem eqL_id (a b c d : Int) : eqL [.i, .i] [.int .i64 a, .int .u64 b] [.int .i64 c, .int .u64 d] = some (a == c && b == d) := by
  have h1 : eqLf .i (.int .i64 a) (.int .i64 c) = some (a == c) := by simp only [eqLf, if_true]
  have h2 : eqLf .i (.int .u64 b) (.int .u64 d) = some (b == d) := by simp only [eqLf, if_true]
  simp only [eqL, h1, h2]
  cases a == c <;> cases b == d <;> rfl
theorem eqA_id (a b c d : Int) : eqA (.st [.i, .i]) (.agg [.int .i64 a, .int .u64 b]) (.agg [.int .i64 c, .int .u64 d]) = some (a == c && b == d) := by
  simp only [eqA, List.length_cons, List.length_nil, and_self, if_true]
  exact eqL_id a b c d
theorem find_id (c q : Int) : ∀ (b : List Idn) (i : Nat), findM [.i, .i] true [.int .i64 c, .int .u64 q] i (idEs b) = some (if b.contains (c, q) then some (i + b.idxOf (c, q), .bool true) else none)
  | [], i => rfl
  | (x, y) :: b, i => by
    have hk : keyOk [.i, .i] true (idK (x, y)) = true := rfl
    simp only [idEs, List.map_cons, findM]
    rw [if_pos hk]
    simp only [idK, cells, eqL_id]
    by_cases h : c = x ∧ q = y
    · obtain ⟨rfl, rfl⟩ := h
      simp
    · have h1 : (c == x && q == y) = false := by
        simp only [Bool.and_eq_false_imp, beq_iff_eq, beq_eq_false_iff_ne]
        exact fun e f => h ⟨e, f⟩
      have hne : ((c, q) == (x, y)) = false := by
        simp only [beq_eq_false_iff_ne, ne_eq, Prod.mk.injEq]
        exact h
      have hne' : ((x, y) == (c, q)) = false := by
        simp only [beq_eq_false_iff_ne, ne_eq, Prod.mk.injEq]
        exact fun e => h ⟨e.1.symm, e.2.symm⟩
      simp only [h1]
      have := find_id c q b (i + 1)
      simp only [idEs, idK] at this
      rw [this]
      simp only [List.contains_cons, hne, Bool.false_or, List.idxOf_cons, hne', cond_false]
      split <;> simp <;> omega
def insId (b : List Idn) (q : Idn) : List Idn := if b.contains q then b else b ++ [q]
theorem get_id {M : Mem} {r ty : Nat} {b : List Idn} (h : M.get r = some ⟨ty, 0, idEs b⟩) (c q : Int) :
    mapGetA M [.i, .i] true (.bool false) (.mapv r) (.agg [.int .i64 c, .int .u64 q]) = some (.bool (b.contains (c, q)), b.contains (c, q)) := by
  have hk : keyOk [.i, .i] true (.agg [.int .i64 c, .int .u64 q]) = true := rfl
  simp only [mapGetA, h, Option.bind_eq_bind, Option.bind_some, hk, if_true, cells, find_id]
  by_cases hb : (c, q) ∈ b <;> simp [hb]
theorem put_id {M : Mem} {r ty : Nat} {b : List Idn} (h : M.get r = some ⟨ty, 0, idEs b⟩) (hf : M.floor ≤ r) (c q : Int) :
    mapPutA M [.i, .i] true (.mapv r) (.agg [.int .i64 c, .int .u64 q]) (.bool true) = some (M.put r (some ⟨ty, 0, idEs (insId b (c, q))⟩)) := by
  have hk : keyOk [.i, .i] true (.agg [.int .i64 c, .int .u64 q]) = true := rfl
  simp only [mapPutA, h, Option.bind_eq_bind, Option.bind_some, hk, hf, and_self, if_true, cells, find_id]
  by_cases hb : b.contains (c, q) = true
  · rw [if_pos hb]
    simp only [insId, if_pos hb]
    have hm : (c, q) ∈ b := by simpa using hb
    have hlt := List.idxOf_lt_length_iff.mpr hm
    congr 5
    apply List.ext_getElem?
    intro j
    rw [List.getElem?_set]
    by_cases hj : 0 + b.idxOf (c, q) = j
    · subst hj
      rw [if_pos rfl, idEs_len, if_pos (by omega), Nat.zero_add]
      simp only [idEs, List.getElem?_map]
      rw [List.getElem?_eq_getElem hlt, List.getElem_idxOf hlt]
      rfl
    · rw [if_neg hj]
  · rw [if_neg hb]
    simp only [insId, if_neg hb]
    simp [idEs, idK]
theorem len_id {M : Mem} {r ty : Nat} {b : List Idn} (h : M.get r = some ⟨ty, 0, idEs b⟩) : lenMA M (.mapv r) = some b.length := by simp [lenMA, h, idEs_len]
structure Kp (s' : Mem) (R : Row) (M : Mem) : Prop where
  k : Keep s'.next s' M
  g : M.get s'.next = some R
  n : s'.next < M.next
theorem Kp.of_push (s' : Mem) (R : Row) : Kp s' R (s'.push R) := ⟨pushes _ _, by rw [Mem.get_push, if_pos rfl], by rw [Mem.next_push]; omega⟩
theorem Kp.then {s' M N : Mem} {R : Row} (h : Kp s' R M) (k : Keep M.next M N) : Kp s' R N := ⟨h.k.then k, by rw [k.get _ h.n, h.g], Nat.lt_of_lt_of_le h.n k.next⟩
end Go.Proofs.YtmjgakhnhjpclaaGreat
/- Events as arguments. No statement of the seat is proved here. -/
namespace Go.Proofs.YtmjgakhnhjpclaaGreat
open Go Go.VI
set_option maxRecDepth 100000
set_option linter.unusedSimpArgs false
theorem ty_texts {B d : Nat} {c : List AV} (h : Ty Tryz.prog B (d + 2) 32 c) : ∃ v ks, c = [v] ∧ isSl v (List.map txtC ks) := by
  rcases Ty.slice (e := 9) (by kernel_rfl) h with rfl | ⟨xs, rfl, h1, h2⟩
  · exact ⟨.nilS, [], rfl, .inl ⟨rfl, rfl⟩⟩
  · have : ∃ ks, xs = List.map txtC ks := by
      clear h h1
      induction xs with
      | nil => exact ⟨[], rfl⟩
      | cons x xs ih =>
        obtain ⟨ks, g1⟩ := ih (fun y hy => h2 y (List.mem_cons_of_mem _ hy))
        obtain ⟨n, g2, _⟩ := Ty.str (by kernel_rfl) (h2 x (List.mem_cons_self ..))
        exact ⟨n :: ks, by rw [g1, g2]; rfl⟩
    obtain ⟨ks, rfl⟩ := this
    exact ⟨_, ks, rfl, .inr rfl⟩
theorem ty_u64s {B d : Nat} {c : List AV} (h : Ty Tryz.prog B (d + 2) 35 c) : ∃ v ks, c = [v] ∧ isSl v (intsA .u64 ks) := by
  rcases Ty.slice (e := 29) (by kernel_rfl) h with rfl | ⟨xs, rfl, h1, h2⟩
  · exact ⟨.nilS, [], rfl, .inl ⟨rfl, rfl⟩⟩
  · have : ∃ ks, xs = intsA .u64 ks := by
      clear h h1
      induction xs with
      | nil => exact ⟨[], rfl⟩
      | cons x xs ih =>
        obtain ⟨ks, g1⟩ := ih (fun y hy => h2 y (List.mem_cons_of_mem _ hy))
        obtain ⟨n, g2, _⟩ := Ty.int (k := .u64) (by kernel_rfl) (h2 x (List.mem_cons_self ..))
        exact ⟨n :: ks, by rw [g1, g2]; rfl⟩
    obtain ⟨ks, rfl⟩ := this
    exact ⟨_, ks, rfl, .inr rfl⟩
theorem ty_event {B d : Nat} {c : List AV} (h : Ty Tryz.prog B (d + 5) 39 c) : ∃ e, EvC c e := by
  obtain ⟨a, _, rfl, h1, b, _, rfl, h2, c, _, rfl, h3, x, _, rfl, h4, y, _, rfl, h5, z, _, rfl, h6, rfl⟩ := Ty.fields (ts := [31, 3, 4, 4, 34, 37]) (by kernel_rfl) h
  obtain ⟨p, _, rfl, i1, q, _, rfl, i2, rfl⟩ := Ty.fields (ts := [3, 29]) (by kernel_rfl) h1
  obtain ⟨client, rfl, _⟩ := Ty.int (k := .i64) (t := 3) (by kernel_rfl) i1
  obtain ⟨seq, rfl, _⟩ := Ty.int (k := .u64) (t := 29) (by kernel_rfl) i2
  obtain ⟨time, rfl, _⟩ := Ty.int (k := .i64) (t := 3) (by kernel_rfl) h2
  obtain ⟨done, rfl⟩ := Ty.bool (by kernel_rfl) h3
  obtain ⟨unk, rfl⟩ := Ty.bool (by kernel_rfl) h4
  obtain ⟨p, _, rfl, g3, q, _, rfl, g4, r, _, rfl, g5, u, _, rfl, g6, rfl⟩ := Ty.fields (ts := [3, 32, 29, 3]) (by kernel_rfl) h5
  obtain ⟨kind, rfl, _⟩ := Ty.int (k := .i64) (t := 3) (by kernel_rfl) g3
  obtain ⟨v, ks, rfl, hk⟩ := ty_texts g4
  obtain ⟨tok, rfl, _⟩ := Ty.int (k := .u64) (t := 29) (by kernel_rfl) g5
  obtain ⟨ttl, rfl, _⟩ := Ty.int (k := .i64) (t := 3) (by kernel_rfl) g6
  obtain ⟨p, _, rfl, k3, q, _, rfl, k4, r, _, rfl, k5, rfl⟩ := Ty.fields (ts := [23, 29, 35]) (by kernel_rfl) h6
  obtain ⟨code, rfl, _⟩ := Ty.int (k := .i64) (t := 23) (by kernel_rfl) k3
  obtain ⟨rtok, rfl, _⟩ := Ty.int (k := .u64) (t := 29) (by kernel_rfl) k4
  obtain ⟨w, hs, rfl, hw⟩ := ty_u64s k5
  exact ⟨⟨client, seq, time, done, unk, ⟨kind, ks, tok, ttl⟩, ⟨code, rtok, hs⟩⟩, v, w, rfl, hk, hw⟩
theorem tyV_events {B d : Nat} {c : AV} (h : TyV Tryz.prog B (d + 6) 22 c) : ∃ l, Evs c l := by
  rcases TyV.slice (e := 39) (by kernel_rfl) h with rfl | ⟨xs, rfl, h1, h2⟩
  · exact ⟨[], [], .inl ⟨rfl, rfl⟩, LsC.nil _⟩
  · have : ∃ es, LsC EvC xs es := by
      clear h h1
      induction xs with
      | nil => exact ⟨[], LsC.nil _⟩
      | cons x xs ih =>
        obtain ⟨es, g1⟩ := ih (fun y hy => h2 y (List.mem_cons_of_mem _ hy))
        obtain ⟨e, g2⟩ := ty_event (h2 x (List.mem_cons_self ..))
        exact ⟨e :: es, (LsC.one g2).append g1⟩
    obtain ⟨es, he⟩ := this
    exact ⟨es, xs, .inr rfl, he⟩
end Go.Proofs.YtmjgakhnhjpclaaGreat

