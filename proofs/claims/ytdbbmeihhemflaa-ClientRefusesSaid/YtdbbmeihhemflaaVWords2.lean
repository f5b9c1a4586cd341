/- Rows of one's own: what grows, what is stored, what stays. No statement of the seat is proved here. -/
import Derived.Test.YtdbbmeihhemflaaVWords
namespace Go.VI
open Go

/-- Nothing below `b` has turned. -/
structure Keep (b : Nat) (s s' : Mem) : Prop where
  next : s.next ≤ s'.next
  floor : s'.floor = s.floor
  get : ∀ r, r < b → s'.get r = s.get r

theorem Keep.refl (b : Nat) (s : Mem) : Keep b s s := ⟨Nat.le_refl _, rfl, fun _ _ => rfl⟩
theorem Keep.trans {b : Nat} {s t u : Mem} (h : Keep b s t) (k : Keep b t u) : Keep b s u :=
  ⟨Nat.le_trans h.next k.next, k.floor.trans h.floor, fun r hr => (k.get r hr).trans (h.get r hr)⟩
theorem Keep.le {b c : Nat} {s t : Mem} (h : Keep b s t) (hc : c ≤ b) : Keep c s t := ⟨h.next, h.floor, fun r hr => h.get r (by omega)⟩
theorem Keep.push {b : Nat} {s : Mem} (h : b ≤ s.next) (x : Row) : Keep b s (s.push x) :=
  ⟨by rw [Mem.next_push]; omega, rfl, fun r hr => by rw [Mem.get_push, if_neg (by omega)]⟩
theorem Keep.put {b r : Nat} {s : Mem} (h : b ≤ r) (x : Option Row) : Keep b s (s.put r x) :=
  ⟨Nat.le_refl _, rfl, fun q hq => by rw [Mem.get_put, if_neg (by omega)]⟩

/-- A growing slice: nil, or a row of one's own from `b` on. -/
def OwnL (s : Mem) (b : Nat) (v : AV) (ty sz : Nat) (xs : List (List AV)) : Prop :=
  ((v = .nilS ∨ v = .emp) ∧ xs = []) ∨ ∃ r, v = .own r 0 xs.length sz ∧ s.get r = some ⟨ty, sz, xs⟩ ∧ s.floor ≤ r ∧ b ≤ r ∧ r < s.next
theorem OwnL.len {s : Mem} {b : Nat} {v : AV} {ty sz : Nat} {xs : List (List AV)} (h : OwnL s b v ty sz xs) : lenA false v = some xs.length := by
  rcases h with ⟨rfl | rfl, rfl⟩ | ⟨r, rfl, _⟩ <;> rfl
theorem OwnL.read {s : Mem} {b : Nat} {v : AV} {ty sz : Nat} {xs : List (List AV)} (h : OwnL s b v ty sz xs) : readAll s v = some xs := by
  rcases h with ⟨rfl | rfl, rfl⟩ | ⟨r, rfl, h, _⟩
  · rfl
  · rfl
  · simp [readAll, h]
theorem OwnL.keep {s s' : Mem} {b c : Nat} {v : AV} {ty sz : Nat} {xs : List (List AV)} (h : OwnL s b v ty sz xs) (k : Keep c s s') (hc : ∀ r, v = .own r 0 xs.length sz → r < c) : OwnL s' b v ty sz xs := by
  rcases h with h | ⟨r, rfl, h1, h2, h3, h4⟩
  · exact .inl h
  · exact .inr ⟨r, rfl, by rw [k.get r (hc r rfl)]; exact h1, by rw [k.floor]; exact h2, h3, by have := k.next; omega⟩
theorem OwnL.of_push {s : Mem} {b ty sz : Nat} {xs : List (List AV)} (hf : s.floor ≤ b) (hb : b ≤ s.next) : OwnL (s.push ⟨ty, sz, xs⟩) b (.own s.next 0 xs.length sz) ty sz xs :=
  .inr ⟨s.next, rfl, by rw [Mem.get_push, if_pos rfl], by rw [Mem.floor_push]; omega, hb, by rw [Mem.next_push]; omega⟩

theorem app_ok' {F : Nat → Option CFunc} {ty sz bytes b : Nat} {ox oy : Opd} {e : Env} {s : Mem} {xs ys : List (List AV)} {K : AV → Mem → Prop} (hf : s.floor ≤ b) (hb : b ≤ s.next) (hx : OwnL s b (ev e ox) ty sz xs) (hy : readAll s (ev e oy) = some ys) (hu : uni sz ys = true)
    (hroom : roomOk (xs.length + ys.length) bytes = true) (hK : ∀ v' s', OwnL s' b v' ty sz (xs ++ ys) → Keep b s s' → (ev e ox ≠ .nilS → v' ≠ .nilS) → K v' s') : Wp F (.app ty sz bytes ox oy) e s K := by
  rw [Wp_app]
  simp only [stepOp, Option.bind_eq_bind, hy, Option.bind_some, if_pos hu]
  rcases hx with ⟨h1 | h1, rfl⟩ | ⟨r, h1, h2, h3, h4, h5⟩
  · simp only [h1]
    by_cases hn : ys = []
    · rw [if_pos hn, K2_some]
      exact hK _ _ (.inl ⟨.inl rfl, by simp [hn]⟩) (Keep.refl _ _) (fun h => absurd h1 h)
    · rw [if_neg hn, if_pos (by simpa using hroom), K2_some]
      exact hK _ _ (by simpa using OwnL.of_push (ty := ty) (sz := sz) (xs := ys) hf hb) (Keep.push hb _) (fun _ h => by cases h)
  · simp only [h1]
    by_cases hn : ys = []
    · rw [if_pos hn, K2_some]
      exact hK _ _ (.inl ⟨.inr rfl, by simp [hn]⟩) (Keep.refl _ _) (fun _ h => by cases h)
    · rw [if_neg hn, if_pos (by simpa using hroom), K2_some]
      exact hK _ _ (by simpa using OwnL.of_push (ty := ty) (sz := sz) (xs := ys) hf hb) (Keep.push hb _) (fun _ h => by cases h)
  · simp only [h1, h2, Option.bind_some]
    rw [if_pos ⟨trivial, Nat.le_refl _, trivial, trivial, h3, hroom⟩, K2_some, List.take_length]
    have h6 : (s.put r none).floor ≤ b := hf
    have h7 : b ≤ (s.put r none).next := hb
    have := OwnL.of_push (ty := ty) (sz := sz) (xs := xs ++ ys) h6 h7
    rw [List.length_append, Mem.next_put] at this
    exact hK _ _ this ((Keep.put h4 none).trans (Keep.push h7 _)) (fun _ h => by cases h)

theorem app_ok {F : Nat → Option CFunc} {ty sz bytes b : Nat} {ox oy : Opd} {e : Env} {s : Mem} {xs ys : List (List AV)} {K : AV → Mem → Prop} (hf : s.floor ≤ b) (hb : b ≤ s.next) (hx : OwnL s b (ev e ox) ty sz xs) (hy : readAll s (ev e oy) = some ys) (hu : uni sz ys = true)
    (hroom : roomOk (xs.length + ys.length) bytes = true) (hK : ∀ v' s', OwnL s' b v' ty sz (xs ++ ys) → Keep b s s' → K v' s') : Wp F (.app ty sz bytes ox oy) e s K :=
  app_ok' hf hb hx hy hu hroom fun v' s' h1 h2 _ => hK v' s' h1 h2

theorem OwnL.ints {s : Mem} {b : Nat} {v : AV} {ty : Nat} {k : IntKind} {l : List Int} (h : OwnL s b v ty 1 (intsA k l)) : Ints s v k l := by
  refine ⟨by rw [h.len, intsA_len], ?_⟩
  intro j i a hi
  have hlt := (List.getElem?_eq_some_iff.mp hi).1
  rcases h with ⟨_, h⟩ | ⟨r, rfl, h1, _⟩
  · have : l = [] := by simpa [intsA] using h
    subst this; simp at hi
  · refine ⟨.ptr r i 0, ?_, load_ptr1 h1 (by rw [intsA_get, hi]; rfl)⟩
    simp only [atA, toNat_cast, Option.bind_some, intsA_len, Nat.zero_add]
    rw [if_pos ⟨hlt, trivial⟩]

theorem Ints.keep {s s' : Mem} {v : AV} {k : IntKind} {l : List Int} (h : Ints s v k l) (hs : ∀ r i n z, v = .own r i n z → s'.get r = s.get r) : Ints s' v k l := by
  refine ⟨h.len, ?_⟩
  intro j i a hi
  obtain ⟨p, h1, h2⟩ := h.get j i a hi
  refine ⟨p, h1, ?_⟩
  rw [← h2]
  cases v <;> simp only [atA, toNat_cast, Option.bind_some] at h1 <;> first | (cases h1; done) | skip
  · rename_i xs
    obtain ⟨c, _, h1⟩ := Option.bind_eq_some_iff.mp h1
    split at h1
    · obtain rfl := Option.some.inj h1; rfl
    · cases h1
  · rename_i r i0 n z
    split at h1
    · obtain rfl := Option.some.inj h1
      simp only [loadA, hs r i0 n z rfl]
    · cases h1

/-- One row turns, nothing else. -/
structure Turn (r : Nat) (s s' : Mem) : Prop where
  next : s'.next = s.next
  floor : s'.floor = s.floor
  get : ∀ q, q ≠ r → s'.get q = s.get q
theorem Turn.refl (r : Nat) (s : Mem) : Turn r s s := ⟨rfl, rfl, fun _ _ => rfl⟩
theorem Turn.trans {r : Nat} {s t u : Mem} (h : Turn r s t) (k : Turn r t u) : Turn r s u := ⟨k.next.trans h.next, k.floor.trans h.floor, fun q hq => (k.get q hq).trans (h.get q hq)⟩
theorem Turn.put (r : Nat) (s : Mem) (x : Option Row) : Turn r s (s.put r x) := ⟨rfl, rfl, fun q hq => by rw [Mem.get_put, if_neg hq]⟩
theorem Turn.keep {r b : Nat} {s s' : Mem} (h : Turn r s s') (hb : b ≤ r) : Keep b s s' := ⟨by rw [h.next]; exact Nat.le_refl _, h.floor, fun q hq => h.get q (by omega)⟩

theorem at0 {k : IntKind} {r n z j : Nat} (h : j < n) : atA z (.own r 0 n z) (.int k (j : Int)) = some (.ptr r j 0) := by
  simp [atA, toNat_cast, h]
theorem load0 {s : Mem} {ty r j : Nat} {k : IntKind} {l : List Int} (h : s.get r = some ⟨ty, 1, intsA k l⟩) (hj : j < l.length) : loadA s false 1 (.ptr r j 0) = some (.int k (l.getD j 0)) := by
  refine load_ptr1 h ?_
  rw [intsA_get, List.getElem?_eq_getElem hj]
  simp [List.getD_eq_getElem?_getD, hj]
theorem pred_cast (j : Nat) (h : j < 4611686018427387904) : IntKind.i64.wrap (((j + 1 : Nat) : Int) - 1) = (j : Int) := by rw [wrap_i64 (by omega)]; omega

/-- One cell is stored. -/
theorem store1 {s : Mem} {r i ty : Nat} {k : IntKind} {l : List Int} {a : Int} (h : s.get r = some ⟨ty, 1, intsA k l⟩) (hi : i < l.length) (hf : s.floor ≤ r) : storeA s 1 (.ptr r i 0) (.int k a) = some (s.put r (some ⟨ty, 1, intsA k (l.set i a)⟩)) := by
  obtain ⟨c, hc⟩ : ∃ c, l[i]? = some c := ⟨l[i], List.getElem?_eq_getElem _⟩
  have h1 : (intsA k l)[i]? = some [.int k c] := by rw [intsA_get, hc]; rfl
  simp only [storeA, Option.bind_eq_bind, h, Option.bind_some, h1]
  rw [if_pos ⟨rfl, Nat.le_refl _, hf, rfl⟩]
  simp [putCells, cells, intsA, List.map_set]

/-- A slice whose elements are told. -/
structure Els (s : Mem) (v : AV) (sz : Nat) (xs : List (List AV)) : Prop where
  len : lenA false v = some xs.length
  get : ∀ (j : IntKind) (i : Nat) (c : List AV), xs[i]? = some c → ∃ a, atA sz v (.int j (i : Int)) = some a ∧ (∀ agg n, n ≤ c.length → loadA s agg n a = pickCells agg (c.take n)) ∧
    ∀ off, ∃ q, addrA off a = some q ∧ ∀ agg n, off + n ≤ c.length → loadA s agg n q = pickCells agg ((c.drop off).take n)

theorem load_ref (s : Mem) (agg : Bool) (n : Nat) (c : List AV) (h : n ≤ c.length) : loadA s agg n (.ref c) = pickCells agg (c.take n) := by
  simp [loadA, slice1, h]
theorem load_ptr {s : Mem} {r i off : Nat} {row : Row} {c : List AV} (agg : Bool) (n : Nat) (h : s.get r = some row) (hi : row.els[i]? = some c) (hn : off + n ≤ c.length) : loadA s agg n (.ptr r i off) = pickCells agg ((c.drop off).take n) := by
  simp [loadA, slice1, h, hi, hn]

theorem Els.of_sl {s : Mem} {v : AV} {sz : Nat} {xs : List (List AV)} (h : isSl v xs) (hz : ∀ c ∈ xs, c.length = sz) : Els s v sz xs := by
  refine ⟨h.len, ?_⟩
  intro j i c hc
  refine ⟨.ref c, h.at_ hc (hz c (List.mem_of_getElem? hc)), fun agg n hn => load_ref s agg n c hn, ?_⟩
  intro off
  exact ⟨.ref (c.drop off), rfl, fun agg n hn => load_ref s agg n _ (by rw [List.length_drop]; omega)⟩

theorem Els.of_own {s : Mem} {r ty sz n : Nat} {xs : List (List AV)} (h : s.get r = some ⟨ty, sz, xs⟩) (hn : n = xs.length) : Els s (.own r 0 n sz) sz xs := by
  subst hn
  refine ⟨rfl, ?_⟩
  intro j i c hc
  have hlt := (List.getElem?_eq_some_iff.mp hc).1
  refine ⟨.ptr r i 0, at0 hlt, fun agg n hn => by rw [load_ptr agg n h hc (by omega)]; rfl, ?_⟩
  intro off
  exact ⟨.ptr r i off, by simp [addrA], fun agg n hn => load_ptr agg n h hc hn⟩

theorem OwnL.els {s : Mem} {b ty sz : Nat} {v : AV} {xs : List (List AV)} (h : OwnL s b v ty sz xs) : Els s v sz xs := by
  rcases h with ⟨rfl | rfl, rfl⟩ | ⟨r, rfl, h, _⟩
  · exact ⟨rfl, by intro j i c hc; simp at hc⟩
  · exact ⟨rfl, by intro j i c hc; simp at hc⟩
  · exact Els.of_own h rfl

theorem Els.keep {s s' : Mem} {v : AV} {sz : Nat} {xs : List (List AV)} (h : Els s v sz xs) (hs : ∀ r i n z, v = .own r i n z → s'.get r = s.get r) : Els s' v sz xs := by
  refine ⟨h.len, ?_⟩
  intro j i c hc
  obtain ⟨a, h1, h2, h3⟩ := h.get j i c hc
  have key : ∀ q, (∀ r i0 o, q = .ptr r i0 o → ∃ i n z, v = .own r i n z) → ∀ agg n, loadA s' agg n q = loadA s agg n q := by
    intro q hq agg n
    cases q <;> first | rfl | skip
    rename_i r i0 o
    obtain ⟨i1, n1, z1, hv⟩ := hq r i0 o rfl
    simp only [loadA, hs _ _ _ _ hv]
  have ha : ∀ r i0 o, a = .ptr r i0 o → ∃ i n z, v = .own r i n z := by
    intro r i0 o ha
    subst ha
    cases v <;> simp only [atA, toNat_cast, Option.bind_some] at h1 <;> first | (cases h1; done) | skip
    · obtain ⟨c, _, h1⟩ := Option.bind_eq_some_iff.mp h1
      split at h1 <;> cases h1
    · split at h1
      · cases h1; exact ⟨_, _, _, rfl⟩
      · cases h1
  refine ⟨a, h1, fun agg n hn => by rw [key a ha]; exact h2 agg n hn, ?_⟩
  intro off
  obtain ⟨q, h4, h5⟩ := h3 off
  have hq : ∀ r i0 o, q = .ptr r i0 o → ∃ i n z, v = .own r i n z := by
    intro r i0 o hq
    subst hq
    cases a <;> simp only [addrA] at h4 <;> first | (cases h4; done) | skip
    obtain ⟨rfl, _⟩ := AV.ptr.inj (Option.some.inj h4)
    exact ha _ _ _ rfl
  exact ⟨q, h4, fun agg n hn => by rw [key q hq]; exact h5 agg n hn⟩
end Go.VI
