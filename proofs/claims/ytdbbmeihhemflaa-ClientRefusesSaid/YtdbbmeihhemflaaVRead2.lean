/- Variables in rows, what grows by one. No statement of the seat is proved here. -/
import Derived.Test.YtdbbmeihhemflaaVRead
namespace Go.VI
open Go

theorem Tr.setF_setF {α : Type} (x y : α) : ∀ (k j : Nat) (t : Tr α) (n : Nat), n < k → n < j → setF j (setF k t n x) n y = setF j t n y := by
  intro k
  induction k with
  | zero => intro j t n h; omega
  | succ k ih =>
    intro j t n hn hj
    match j, hj with
    | j + 1, hj =>
      cases t <;> simp only [setF, cond_eq_ite, Nat.beq_eq]
      all_goals by_cases h0 : n = 0
      all_goals simp only [h0, if_true, if_false, setF, cond_eq_ite, Nat.beq_eq, Nat.zero_mod]
      all_goals by_cases h1 : n % 2 = 1
      all_goals simp only [h0, h1, if_true, if_false, setF, cond_eq_ite, Nat.beq_eq]
      all_goals rw [ih _ _ _ (by omega) (by omega)]
theorem Tr.set_set {α : Type} (t : Tr α) (n : Nat) (x y : α) : (t.set n x).set n y = t.set n y := Tr.setF_setF x y _ _ t n (Nat.lt_succ_self n) (Nat.lt_succ_self n)

theorem put_push (s : Mem) (x y : Row) : (s.push x).put s.next (some y) = s.push y := by
  simp only [Mem.push, Mem.put, Tr.set_set]

/-- A load out of memory that has grown. -/
theorem load_push (s : Mem) (x : Row) (agg : Bool) (n r i o : Nat) : loadA (s.push x) agg n (.ptr r i o) = if r = s.next then (x.els[i]?).bind fun c => (slice1 c o n).bind (pickCells agg) else loadA s agg n (.ptr r i o) := by
  simp only [loadA, Option.bind_eq_bind, Mem.get_push]
  split <;> rfl
theorem load_push_ref (s : Mem) (x : Row) (agg : Bool) (n : Nat) (cs : List AV) : loadA (s.push x) agg n (.ref cs) = loadA s agg n (.ref cs) := rfl
theorem Keep.load {b : Nat} {s s' : Mem} (h : Keep b s s') {r : Nat} (hr : r < b) (agg : Bool) (n i o : Nat) : loadA s' agg n (.ptr r i o) = loadA s agg n (.ptr r i o) := by
  simp only [loadA, h.get r hr]
theorem Keep.box {b : Nat} {s s' : Mem} (h : Keep b s s') {r : Nat} {row : Row} (hr : r < b) (hg : s.get r = some row) : s'.get r = some row := by rw [h.get r hr]; exact hg
theorem Keep.ok {b : Nat} {s s' : Mem} (h : Keep b s s') (hf : s.floor ≤ s.next) : s'.floor ≤ s'.next := by rw [h.floor]; exact Nat.le_trans hf h.next
theorem ok_push {s : Mem} (hf : s.floor ≤ s.next) (x : Row) : (s.push x).floor ≤ (s.push x).next := by rw [Mem.floor_push, Mem.next_push]; omega

/-- A whole variable is stored. -/
theorem store_push (s : Mem) (ty n : Nat) (c d : List AV) (x : AV) (hf : s.floor ≤ s.next) (hx : cells x = d) (h1 : d.length = n) (h2 : c.length = n) (h3 : d.all isCell = true) : storeA (s.push ⟨ty, n, [c]⟩) n (.ptr s.next 0 0) x = some (s.push ⟨ty, n, [d]⟩) := by
  subst hx
  simp only [storeA, Option.bind_eq_bind, Mem.get_push, if_true, Option.bind_some, List.getElem?_cons_zero]
  rw [if_pos (And.intro h1 (And.intro (by omega) (And.intro (show (s.push _).floor ≤ s.next from hf) h3))), put_push]
  have : putCells c 0 (cells x) = cells x := by simp [putCells, h1, h2]
  rw [this]; rfl

/-- Rows that a call made are told: all that was there stays, and of the rest only `x`'s row may have gone. -/
structure KeepX (x : AV) (s s' : Mem) : Prop where
  next : s.next ≤ s'.next
  floor : s'.floor = s.floor
  get : ∀ r, r < s.next → (∀ i n z, x ≠ .own r i n z) → s'.get r = s.get r
theorem KeepX.push (v : AV) (s : Mem) (x : Row) : KeepX v s (s.push x) :=
  ⟨by rw [Mem.next_push]; omega, rfl, fun r hr _ => by rw [Mem.get_push, if_neg (by omega)]⟩
theorem KeepX.keep {x : AV} {s s' : Mem} {b : Nat} (h : KeepX x s s') (hb : b ≤ s.next) (hx : ∀ r i n z, x = .own r i n z → b ≤ r) : Keep b s s' :=
  ⟨h.next, h.floor, fun r hr => h.get r (by omega) (fun i n z e => by have := hx r i n z e; omega)⟩
theorem OwnL.row {s : Mem} {b ty sz : Nat} {v : AV} {xs : List (List AV)} (h : OwnL s b v ty sz xs) : ∀ r i n z, v = .own r i n z → b ≤ r ∧ r < s.next := by
  intro r i n z e
  rcases h with ⟨rfl | rfl, _⟩ | ⟨r', rfl, _, _, h1, h2⟩
  · cases e
  · cases e
  · obtain ⟨rfl, _⟩ := AV.own.inj e; exact ⟨h1, h2⟩
theorem OwnL.push {s : Mem} {b ty sz : Nat} {v : AV} {xs : List (List AV)} (h : OwnL s b v ty sz xs) (x : Row) : OwnL (s.push x) b v ty sz xs := by
  rcases h with h | ⟨r, rfl, h1, h2, h3, h4⟩
  · exact .inl h
  · exact .inr ⟨r, rfl, by rw [Mem.get_push, if_neg (by omega)]; exact h1, h2, h3, by rw [Mem.next_push]; omega⟩
theorem OwnL.le {s : Mem} {b c ty sz : Nat} {v : AV} {xs : List (List AV)} (h : OwnL s b v ty sz xs) (hc : c ≤ b) : OwnL s c v ty sz xs := by
  rcases h with h | ⟨r, rfl, h1, h2, h3, h4⟩
  · exact .inl h
  · exact .inr ⟨r, rfl, h1, h2, by omega, h4⟩
theorem OwnL.nil (s : Mem) (b ty sz : Nat) : OwnL s b .nilS ty sz [] := .inl ⟨.inl rfl, rfl⟩
theorem OwnL.emp (s : Mem) (b ty sz : Nat) : OwnL s b .emp ty sz [] := .inl ⟨.inr rfl, rfl⟩

theorem app_x {F : Nat → Option CFunc} {ty sz bytes b : Nat} {ox oy : Opd} {e : Env} {s : Mem} {xs ys : List (List AV)} {K : AV → Mem → Prop} (hf : s.floor ≤ b) (hb : b ≤ s.next) (hx : OwnL s b (ev e ox) ty sz xs) (hy : readAll s (ev e oy) = some ys) (hu : uni sz ys = true)
    (hroom : roomOk (xs.length + ys.length) bytes = true) (hK : ∀ v' s', OwnL s' b v' ty sz (xs ++ ys) → KeepX (ev e ox) s s' → (ev e ox ≠ .nilS → v' ≠ .nilS) → (∀ r i n z, v' = .own r i n z → s.next ≤ r) → K v' s') : Wp F (.app ty sz bytes ox oy) e s K := by
  rw [Wp_app]
  simp only [stepOp, Option.bind_eq_bind, hy, Option.bind_some, if_pos hu]
  rcases hx with ⟨h1 | h1, rfl⟩ | ⟨r, h1, h2, h3, h4, h5⟩
  · simp only [h1]
    by_cases hn : ys = []
    · rw [if_pos hn, K2_some]
      exact hK _ _ (.inl ⟨.inl rfl, by simp [hn]⟩) ⟨Nat.le_refl _, rfl, fun _ _ _ => rfl⟩ (fun h => absurd h1 h) (fun _ _ _ _ h => by cases h)
    · rw [if_neg hn, if_pos (by simpa using hroom), K2_some]
      exact hK _ _ (by simpa using OwnL.of_push (ty := ty) (sz := sz) (xs := ys) hf hb) (KeepX.push _ _ _) (fun _ h => by cases h) (fun r i n z h => by obtain ⟨rfl, _⟩ := AV.own.inj h; exact Nat.le_refl _)
  · simp only [h1]
    by_cases hn : ys = []
    · rw [if_pos hn, K2_some]
      exact hK _ _ (.inl ⟨.inr rfl, by simp [hn]⟩) ⟨Nat.le_refl _, rfl, fun _ _ _ => rfl⟩ (fun _ h => by cases h) (fun _ _ _ _ h => by cases h)
    · rw [if_neg hn, if_pos (by simpa using hroom), K2_some]
      exact hK _ _ (by simpa using OwnL.of_push (ty := ty) (sz := sz) (xs := ys) hf hb) (KeepX.push _ _ _) (fun _ h => by cases h) (fun r i n z h => by obtain ⟨rfl, _⟩ := AV.own.inj h; exact Nat.le_refl _)
  · simp only [h1, h2, Option.bind_some]
    rw [if_pos ⟨trivial, Nat.le_refl _, trivial, trivial, h3, hroom⟩, K2_some, List.take_length]
    have h6 : (s.put r none).floor ≤ b := hf
    have h7 : b ≤ (s.put r none).next := hb
    have := OwnL.of_push (ty := ty) (sz := sz) (xs := xs ++ ys) h6 h7
    rw [List.length_append, Mem.next_put] at this
    refine hK _ _ this ⟨by rw [Mem.next_push, Mem.next_put]; omega, rfl, ?_⟩ (fun _ h => by cases h) (fun r i n z h => by obtain ⟨rfl, _⟩ := AV.own.inj h; exact Nat.le_refl _)
    intro q hq hne
    rw [Mem.get_push, Mem.next_put, if_neg (by omega), Mem.get_put, if_neg]
    intro he
    subst he
    exact hne _ _ _ (by rw [h1])

/-- One more: a literal's elements are appended. -/
theorem app_lit {F : Nat → Option CFunc} {ty sz bytes b : Nat} {ox oy : Opd} {e : Env} {s : Mem} {v : AV} {ty2 k : Nat} {xs ys : List (List AV)} {K : AV → Mem → Prop} (hf : s.floor ≤ b) (hb : b ≤ s.next) (hx : OwnL s b v ty sz xs) (ex : ev e ox = v) (ey : ev e oy = .own s.next 0 k sz) (hk : k = ys.length) (hu : uni sz ys = true)
    (hroom : roomOk (xs.length + ys.length) bytes = true) (hK : ∀ v' s', OwnL s' b v' ty sz (xs ++ ys) → KeepX v s s' → (∀ r i n z, v' = .own r i n z → s.next ≤ r) → (v ≠ .nilS → v' ≠ .nilS) → K v' s') : Wp F (.app ty sz bytes ox oy) e (s.push ⟨ty2, sz, ys⟩) K := by
  refine app_x (b := b) (xs := xs) (ys := ys) hf (by rw [Mem.next_push]; omega) (by rw [ex]; exact hx.push _) ?_ hu hroom ?_
  · rw [ey, hk]; simp [readAll, Mem.get_push]
  · intro v' s' h1 h2 h3 h4
    rw [ex] at h2 h3
    refine hK v' s' h1 ⟨?_, h2.floor, ?_⟩ ?_ h3
    · have := h2.next; rw [Mem.next_push] at this; omega
    · intro r hr hne
      rw [h2.get r (by rw [Mem.next_push]; omega) hne, Mem.get_push, if_neg (by omega)]
    · intro r i n z h
      have := h4 r i n z h
      rw [Mem.next_push] at this; omega

theorem room {n bytes : Nat} (h : n * bytes ≤ 140737488355328) (h2 : n ≤ 9223372036854775807) : roomOk n bytes = true := by
  simp only [roomOk, Bool.and_eq_true, Nat.ble_eq]; exact ⟨h2, h⟩

theorem ne_s1 (n : Nat) : (n = n + 1) = False := by simp
theorem ne_s2 (n : Nat) : (n = n + 1 + 1) = False := by simp; omega
theorem ne_s3 (n : Nat) : (n = n + 1 + 1 + 1) = False := by simp; omega
theorem ne_s4 (n : Nat) : (n = n + 1 + 1 + 1 + 1) = False := by simp; omega
theorem ne_s5 (n : Nat) : (n = n + 1 + 1 + 1 + 1 + 1) = False := by simp; omega
theorem lt_s1 (n : Nat) : (n < n + 1) = True := by simp
theorem lt_s2 (n : Nat) : (n < n + 1 + 1) = True := by simp; omega
theorem lt_s3 (n : Nat) : (n < n + 1 + 1 + 1) = True := by simp; omega
theorem lt_s4 (n : Nat) : (n < n + 1 + 1 + 1 + 1) = True := by simp; omega
theorem lt_s5 (n : Nat) : (n < n + 1 + 1 + 1 + 1 + 1) = True := by simp; omega

/-! ## For simp: parts, cells -/
theorem slice1_one (x : AV) (l : List AV) : slice1 (x :: l) 0 1 = some [x] := by simp [slice1]
theorem slice1_next (x : AV) (l : List AV) (o n : Nat) : slice1 (x :: l) (o + 1) n = slice1 l o n := by
  simp only [slice1, List.length_cons, List.drop_succ_cons]
  by_cases h : o + n ≤ l.length
  · rw [if_pos h, if_pos (by omega)]
  · rw [if_neg h, if_neg (by omega)]
theorem slice1_none (l : List AV) : slice1 l 0 0 = some [] := by simp [slice1]
theorem slice1_more (x : AV) (l : List AV) (n : Nat) : slice1 (x :: l) 0 (n + 1) = (slice1 l 0 n).map (x :: ·) := by
  simp only [slice1, List.length_cons, List.drop_zero, List.take_succ_cons, Nat.zero_add]
  by_cases h : n ≤ l.length
  · rw [if_pos h, if_pos (by omega)]; rfl
  · rw [if_neg h, if_neg (by omega)]; rfl
theorem pick_one (v : AV) : pickCells false [v] = some v := id rfl
theorem pick_agg (cs : List AV) : pickCells true cs = some (.agg cs) := id rfl
theorem fieldA_agg (agg : Bool) (off sz : Nat) (cs : List AV) : fieldA agg off sz (.agg cs) = (slice1 cs off sz).bind (pickCells agg) := rfl
theorem cells_agg (cs : List AV) : cells (.agg cs) = cs := id rfl
theorem cells_int (k : IntKind) (n : Int) : cells (.int k n) = [.int k n] := id rfl
theorem cells_bool (b : Bool) : cells (.bool b) = [.bool b] := id rfl
theorem cells_str (b : List UInt8) : cells (.str b) = [.str b] := id rfl
theorem cell_int (k : IntKind) (n : Int) : isCell (.int k n) = true := id rfl
theorem cell_bool (b : Bool) : isCell (.bool b) = true := id rfl
theorem cell_str (b : List UInt8) : isCell (.str b) = true := id rfl
theorem cell_nil : isCell .nilS = true := id rfl
theorem cell_emp : isCell .emp = true := id rfl
theorem cell_sl (xs : List (List AV)) : isCell (.sl xs) = true := id rfl
theorem cell_own (r i n z : Nat) : isCell (.own r i n z) = true := id rfl
theorem cell_ptr (r i o : Nat) : isCell (.ptr r i o) = true := id rfl
theorem cell_nilP : isCell .nilP = true := id rfl
theorem cells_nil : cells .nilS = [.nilS] := id rfl
theorem cells_own (r i n z : Nat) : cells (.own r i n z) = [.own r i n z] := id rfl
theorem cells_cell {v : AV} (h : isCell v = true) : cells v = [v] := by cases v <;> first | rfl | (simp [isCell] at h)
theorem next_push' (s : Mem) (x : Row) : (s.push x).next = s.next + 1 := id rfl
theorem floor_push' (s : Mem) (x : Row) : (s.push x).floor = s.floor := id rfl
theorem next_put' (s : Mem) (r : Nat) (x : Option Row) : (s.put r x).next = s.next := id rfl
theorem floor_put' (s : Mem) (r : Nat) (x : Option Row) : (s.put r x).floor = s.floor := id rfl
theorem loadA_ptr (s : Mem) (agg : Bool) (n r i o : Nat) : loadA s agg n (.ptr r i o) = (s.get r).bind fun row => (row.els[i]?).bind fun cs => (slice1 cs o n).bind (pickCells agg) := id rfl
theorem storeA_ptr (s : Mem) (n r i o : Nat) (x : AV) : storeA s n (.ptr r i o) x = (s.get r).bind fun row => (row.els[i]?).bind fun cs => if (cells x).length = n ∧ o + n ≤ cs.length ∧ s.floor ≤ r ∧ (cells x).all isCell = true then some (s.put r (some { row with els := row.els.set i (putCells cs o (cells x)) })) else none := id rfl
theorem load_refA (s : Mem) (agg : Bool) (n : Nat) (cs : List AV) : loadA s agg n (.ref cs) = (slice1 cs 0 n).bind (pickCells agg) := id rfl
theorem putC_nil (cs : List AV) : putCells cs 0 [] = cs := by simp [putCells]
theorem putC_zero (c x : AV) (cs xs : List AV) : putCells (c :: cs) 0 (x :: xs) = x :: putCells cs 0 xs := by simp [putCells]
theorem putC_succ (c : AV) (cs xs : List AV) (o : Nat) : putCells (c :: cs) (o + 1) xs = c :: putCells cs o xs := by
  simp only [putCells, List.take_succ_cons, List.cons_append, List.append_assoc]
  rw [show o + 1 + xs.length = (o + xs.length) + 1 by omega, List.drop_succ_cons]
theorem Keep.ne {b : Nat} {s s' : Mem} (h : Keep b s s') {r : Nat} (hr : r < s.next) : (r = s'.next) = False := by
  have := h.next
  simp; omega
theorem Keep.ne1 {b : Nat} {s s' : Mem} (h : Keep b s s') {r : Nat} (hr : r < s.next) : (r = s'.next + 1) = False := by
  have := h.next
  simp; omega
theorem Keep.ne' {b : Nat} {s s' : Mem} (h : Keep b s s') {r : Nat} (hr : r < s.next) : (s'.next = r) = False := by
  have := h.next
  simp; omega
theorem s_ne1 (n : Nat) : (n + 1 = n) = False := by simp
theorem s_ne2 (n : Nat) : (n + 1 + 1 = n) = False := by simp; omega
theorem put_push' (s : Mem) (x y : Row) (r : Nat) (h : r = s.next) : (s.push x).put r (some y) = s.push y := by subst h; exact put_push s x y
theorem le_s1 {a b : Nat} (h : a ≤ b) : (a ≤ b + 1) = True := by simp; omega
/-- A variable just made is stored whole. -/
theorem store_top {s : Mem} {ty n m r : Nat} {c : List AV} {x : AV} (hr : r = s.next) (hf : s.floor ≤ s.next) (hm : m = n) (h1 : (cells x).length = n) (h2 : c.length = n) (h3 : (cells x).all isCell = true) : storeA (s.push ⟨ty, m, [c]⟩) n (.ptr r 0 0) x = some (s.push ⟨ty, m, [cells x]⟩) := by
  subst hr hm
  exact store_push s ty m c _ x hf rfl h1 h2 h3
theorem Sl.cell {s : Mem} {D : Nat → Prop} {v : AV} {sz : Nat} {xs : List (List AV)} (h : Sl s D v sz xs) : isCell v = true := by
  rcases h.2 with ⟨rfl, _⟩ | ⟨rfl, _⟩ | rfl | ⟨_, _, _, _, rfl, _⟩ <;> rfl
theorem Sl.slice {s : Mem} {D : Nat → Prop} {v : AV} {sz : Nat} {xs : List (List AV)} (h : Sl s D v sz xs) : sliceA v = true := by
  rcases h.2 with ⟨rfl, _⟩ | ⟨rfl, _⟩ | rfl | ⟨_, _, _, _, rfl, _⟩ <;> rfl
theorem OwnL.slice {s : Mem} {b ty sz : Nat} {v : AV} {xs : List (List AV)} (h : OwnL s b v ty sz xs) : sliceA v = true := by
  rcases h with ⟨rfl | rfl, _⟩ | ⟨r, rfl, _⟩ <;> rfl
/-- A goal that nobody looks into. -/
structure Holding (p : Prop) : Prop where
  out : p

/-- Rows that lie in memory. -/
abbrev In (D : Nat → Prop) (s : Mem) : Prop := ∀ r, D r → r < s.next
theorem In.push {D : Nat → Prop} {s : Mem} (h : In D s) (x : Row) : In D (s.push x) := fun r hr => by rw [Mem.next_push]; have := h r hr; omega
theorem In.keep {D : Nat → Prop} {s s' : Mem} {b : Nat} (h : In D s) (k : Keep b s s') : In D s' := fun r hr => Nat.lt_of_lt_of_le (h r hr) k.next
theorem push_old {D : Nat → Prop} {s : Mem} (h : In D s) (x : Row) : ∀ r, D r → (s.push x).get r = s.get r := fun r hr => by rw [Mem.get_push, if_neg (by have := h r hr; omega)]
theorem keep_old {D : Nat → Prop} {s s' : Mem} (h : In D s) (k : Keep s.next s s') : ∀ r, D r → s'.get r = s.get r := fun r hr => k.get r (h r hr)
theorem pushes (s : Mem) (x : Row) : Keep s.next s (s.push x) := Keep.push (Nat.le_refl _) _
theorem Keep.then {s t u : Mem} (h : Keep s.next s t) (k : Keep t.next t u) : Keep s.next s u := h.trans (k.le h.next)

theorem K_of {s s1 : Mem} {K : AV → Mem → Prop} {b c : Bool} (hK : ∀ s', Keep s.next s s' → K (.bool b) s') (hk : Keep s.next s s1) (h : b = c) : K (.bool c) s1 := h ▸ hK s1 hk

theorem old_refl (s : Mem) : Keep s.next s s = True := eq_true (Keep.refl _ _)
theorem old_push {s M : Mem} (h : Keep s.next s M) (x : Row) : Keep s.next s (M.push x) = True := eq_true (h.then (pushes M x))
theorem Keep.at {b : Nat} {s M : Mem} (h : Keep b s M) : Keep b s (M.at s.floor) := ⟨h.next, rfl, h.get⟩
theorem Keep.of_at {b f : Nat} {s M : Mem} (h : Keep b (s.at f) M) : Keep b s (M.at s.floor) := ⟨h.next, rfl, h.get⟩
theorem old_at {s M : Mem} (h : Keep s.next s M) : Keep s.next s (M.at s.floor) = True := eq_true h.at
/-- An address at which these cells are, and stay. -/
structure Ptk (s : Mem) (p : AV) (c : List AV) : Prop where
  nil : nilA p = some p
  adr : ∀ off, addrA off p = some (adr p off)
  ld : ∀ M, Keep s.next s M → ∀ agg n, loadA M agg n p = (slice1 c 0 n).bind (pickCells agg)
  ldf : ∀ M, Keep s.next s M → ∀ off agg n, off ≤ c.length → loadA M agg n (VI.adr p off) = (slice1 c off n).bind (pickCells agg)
theorem Sl.atk {s : Mem} {D : Nat → Prop} {v : AV} {sz : Nat} {xs : List (List AV)} (h : Sl s D v sz xs) (hI : In D s) {i : Nat} {c : List AV} (hi : xs[i]? = some c) : ∃ p, (∀ j, atA sz v (.int j (i : Int)) = some p) ∧ Ptk s p c := by
  rcases h.2 with ⟨rfl, rfl⟩ | ⟨rfl, rfl⟩ | rfl | ⟨r, k, n, row, rfl, hD, h3, h4, rfl⟩
  · simp at hi
  · simp at hi
  · refine ⟨.ref c, fun j => ?_, ⟨rfl, fun _ => rfl, fun M _ => (Pt.of_ref M c).ld, fun M _ => (Pt.of_ref M c).ldf⟩⟩
    have := h.1 c (List.mem_of_getElem? hi)
    simp [atA, toNat_cast, hi, this]
  · rw [List.getElem?_take] at hi
    split at hi
    · rename_i hlt
      rw [List.getElem?_drop] at hi
      have P : ∀ M, Keep s.next s M → Pt M (.ptr r (k + i) 0) c := fun M hM => by simpa using Pt.of_ptr (o := 0) ((hM.get r (hI r hD)).trans h3) hi (Nat.zero_le _)
      refine ⟨.ptr r (k + i) 0, fun j => ?_, ⟨rfl, fun _ => rfl, fun M hM => (P M hM).ld, fun M hM => (P M hM).ldf⟩⟩
      simp [atA, toNat_cast, hlt]
    · cases hi
theorem Sl.atkB {s : Mem} {D : Nat → Prop} {v : AV} {sz : Nat} {α : Type} {f : α → List AV} {l : List α} (h : Sl s D v sz (l.map f)) (hI : In D s) {i : Nat} {a : α} (hi : l[i]? = some a) : ∃ p, (∀ j, atA sz v (.int j (i : Int)) = some p) ∧ Ptk s p (f a) :=
  h.atk hI (by rw [List.getElem?_map, hi]; rfl)
/-- What a slice reads as, from here on. -/
theorem Sl.readk {s : Mem} {D : Nat → Prop} {v : AV} {sz : Nat} {xs : List (List AV)} (h : Sl s D v sz xs) (hI : In D s) : ∀ M, Keep s.next s M → readAll M v = some xs := fun _ hM => (h.keep fun r hr => hM.get r (hI r hr)).read
theorem Sl.textk {s : Mem} {D : Nat → Prop} {v : AV} {bs : List UInt8} (h : Byt s D v bs) (hI : In D s) : ∀ M, Keep s.next s M → strA M v = some (.str bs) := fun _ hM => (Sl.keep h fun r hr => hM.get r (hI r hr)).text

theorem OwnL.at {s : Mem} {b ty sz f : Nat} {v : AV} {xs : List (List AV)} (h : OwnL s b v ty sz xs) (hf : f ≤ b) : OwnL (s.at f) b v ty sz xs := by
  rcases h with h | ⟨r, rfl, h1, h2, h3, h4⟩
  · exact .inl h
  · exact .inr ⟨r, rfl, h1, Nat.le_trans hf h3, h3, h4⟩
theorem Sl.at_ {s : Mem} {D : Nat → Prop} {v : AV} {sz f : Nat} {xs : List (List AV)} (h : Sl s D v sz xs) : Sl (s.at f) D v sz xs := h
theorem fill_all (sz : Nat) (e : Env) (o : Opd) (c : List AV) : fillLit sz e [(0, o)] (List.replicate 1 c) = if (cells (ev e o)).length = sz ∧ (cells (ev e o)).all isCell = true then some [cells (ev e o)] else none := by
  simp [fillLit, List.replicate]
theorem eq_nil : eqA .sl .nilS .nilS = some true := id rfl
theorem eq_emp : eqA .sl .emp .nilS = some false := id rfl
theorem eq_sl (xs : List (List AV)) : eqA .sl (.sl xs) .nilS = some false := id rfl
theorem eq_own (r i n z : Nat) : eqA .sl (.own r i n z) .nilS = some false := id rfl

theorem ext_tup (n : Nat) (vs : List AV) : extA n (.tup vs) = vs[n]? := id rfl
theorem parts_nil (e : Env) (cs : List AV) : fillParts e [] cs = some cs := id rfl
theorem parts_cons (e : Env) (o sz : Nat) (x : Opd) (r : List (Nat × Nat × Opd)) (cs : List AV) : fillParts e ((o, sz, x) :: r) cs = if (cells (ev e x)).length = sz ∧ o + sz ≤ cs.length ∧ (cells (ev e x)).all isCell = true then fillParts e r (putCells cs o (cells (ev e x))) else none := id rfl

theorem nat_ne {a : Nat} {M : Mem} (h : a < M.next) : (a = M.next) = False := by simp; omega
theorem nat_ne' {a : Nat} {M : Mem} (h : a < M.next) : (M.next = a) = False := by simp; omega
theorem lt_ss {a : Nat} {M : Mem} (h : a < M.next) : (a + 1 < M.next + 1) = True := by simp; omega
theorem lt_s {a : Nat} {M : Mem} (h : a < M.next) : (a < M.next + 1) = True := by simp; omega


end Go.VI
