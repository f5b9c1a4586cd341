/- What a row's arguments read as; from an abstract run to the machine's. No statement of the seat is proved here. -/
import Derived.Test.YtdbbmeihhemflaaVExec
import Derived.ProofKit
import Derived.OpenShut
namespace Go.VI
open Go Go.RowKit

def rdF (P : Program) (rd : TypeId → Bool) : List Field → Nat → Option Nat
  | [], off => some off
  | f :: r, off => if f.offset = off ∧ rd f.type = true then (cSize P f.type).bind fun s => rdF P rd r (off + s) else none

/-- Types whose values are told as trees. -/
def rdB (P : Program) : Nat → TypeId → Bool
  | 0, _ => false
  | d + 1, t => match P.underlying t with
    | some .bool | some (.int _) | some .string => cSize P t == some 1
    | some (.slice e) => cSize P t == some 1 && (cSize P e).any (fun s => Nat.blt 0 s) && rdB P d e
    | some (.struct fs) => (rdF P (rdB P d) fs.toList 0).isSome && rdF P (rdB P d) fs.toList 0 == cSize P t
    | some (.array n e) => (cSize P e).isSome && (cSize P t == (cSize P e).map (n * ·)) && rdB P d e
    | _ => false

def tyF (ty : TypeId → List AV → Prop) (P : Program) : List Field → List AV → Prop
  | [], cs => cs = []
  | f :: r, cs => ∃ a b, cs = a ++ b ∧ ty f.type a ∧ tyF ty P r b

def tyA (ty : List AV → Prop) : Nat → List AV → Prop
  | 0, cs => cs = []
  | n + 1, cs => ∃ a b, cs = a ++ b ∧ ty a ∧ tyA ty n b

/-- The cells of a value of a type. -/
def Ty (P : Program) (B : Nat) : Nat → TypeId → List AV → Prop
  | 0, _, _ => False
  | d + 1, t, cs => match P.underlying t with
    | some .bool => ∃ b, cs = [.bool b]
    | some (.int k) => ∃ n, cs = [.int k n] ∧ (Lit.int k n).wf = true
    | some .string => ∃ s, cs = [.str s] ∧ s.length ≤ B
    | some (.slice e) => cs = [.nilS] ∨ ∃ xs, cs = [.sl xs] ∧ xs.length * P.bytesOf e ≤ B ∧ ∀ x ∈ xs, Ty P B d e x
    | some (.struct fs) => tyF (Ty P B d) P fs.toList cs
    | some (.array n e) => tyA (Ty P B d e) n cs
    | _ => False

section
variable {P : Program} {B : Nat} {W : World} {m : PM} {H : Type} {enc : TypeId × Value → H}

theorem cellsOf_of {t : TypeId} {sz : Nat} (h : cSize P t = some sz) : P.cellsOf t = sz := by
  obtain ⟨i, h1, h2⟩ := info_of_cSize h
  simp [Program.cellsOf, h1, h2]

/-- Cells and what they read as. -/
structure CV (W : World) (m : PM) (cs : List Value) (acs : List AV) : Prop where
  len : acs.length = cs.length
  v : ∀ (i : Nat) (v : Value) (c : AV), cs[i]? = some v → acs[i]? = some c → V W m v c ∧ isCell c = true

theorem CV.nil : CV W m [] [] := ⟨rfl, by simp⟩
theorem CV.append {cs ds : List Value} {as bs : List AV} (h : CV W m cs as) (k : CV W m ds bs) : CV W m (cs ++ ds) (as ++ bs) := by
  refine ⟨by simp [h.len, k.len], ?_⟩
  intro i v c hv hc
  by_cases hi : i < cs.length
  · rw [List.getElem?_append_left hi] at hv
    rw [List.getElem?_append_left (by rw [h.len]; exact hi)] at hc
    exact h.v i v c hv hc
  · rw [List.getElem?_append_right (by omega)] at hv
    rw [List.getElem?_append_right (by rw [h.len]; omega), h.len] at hc
    exact k.v _ v c hv hc
theorem CV.one {v : Value} {c : AV} (h : V W m v c) (hc : isCell c = true) : CV W m [v] [c] := by
  refine ⟨rfl, ?_⟩
  intro i v' c' h1 h2
  match i with
  | 0 => simp at h1 h2; subst h1 h2; exact ⟨h, hc⟩
  | i + 1 => simp at h1

/-- What a reading says, as a tree. -/
def Reads (P : Program) (B : Nat) (W : World) (m : PM) (H : Type) (enc : TypeId × Value → H) (d : Nat) (t : TypeId) : Prop :=
  ∀ (fuel : Nat) (cs : List Value) (D : DataW H) (ps : List MemPlace), DataW.trod enc P W 0 (fun _ => true) true fuel t cs = some (D, ps) → (∀ x ∈ ps, x.block < W.heap.size) → (∀ n ∈ D.weights P t, n ≤ B) →
    ∃ acs, CV W m cs acs ∧ Ty P B d t acs ∧ cSize P t = some cs.length

theorem mem_weightsAll {e : TypeId} {D : DataW H} {n : Nat} : ∀ {l : List (DataW H)}, D ∈ l → n ∈ D.weights P e → n ∈ DataW.weightsAll P e l := by
  intro l
  induction l with
  | nil => intro h; simp at h
  | cons d l ih =>
    intro h hn
    rw [DataW.weightsAll]
    rcases List.mem_cons.mp h with rfl | h
    · exact List.mem_append_left _ hn
    · exact List.mem_append_right _ (ih h hn)

theorem cells_of {a : Addr} {n : Nat} {cs : List Value} (h : W.cells? 0 a n = some cs) : cs.length = n ∧ ∀ (i : Nat) (v : Value), cs[i]? = some v → W.cell? (a.add i) = some v := by
  unfold World.cells? at h
  rw [if_pos (Nat.zero_le _)] at h
  obtain ⟨h1, h2⟩ := mapM_some h
  simp at h1
  refine ⟨h1.symm, ?_⟩
  intro i v hv
  have hi : i < n := by have := (List.getElem?_eq_some_iff.mp hv).1; omega
  exact h2 i i v (by simp [hi]) hv

theorem spot_of {a : Addr} {v : Value} (h : W.cell? a = some v) : a = ⟨a.block, a.off, none⟩ := by
  obtain ⟨b, off, sp⟩ := a
  cases sp with
  | none => rfl
  | some x =>
    unfold World.cell? at h
    split at h
    · simp at h
    · cases h

theorem reads_slice {d : Nat} {t e : TypeId} {sz : Nat} (hu : P.underlying t = some (.slice e)) (ht : cSize P t = some 1) (he : cSize P e = some sz) (h0 : 0 < sz) (ih : Reads P B W m H enc d e) : Reads P B W m H enc (d + 1) t := by
  intro fuel cs D ps h hps hw
  cases fuel with
  | zero => simp [DataW.trod] at h
  | succ fuel =>
    unfold DataW.trod at h
    rw [hu] at h
    have hce := cellsOf_of he
    split at h <;> try (first | (rename_i q _; cases q; done) | (rename_i q; cases q; done) | (rename_i q _ _; cases q; done))
    · -- nil
      refine ⟨[.nilS], CV.one .nilS rfl, ?_, ht⟩
      unfold Ty; rw [hu]; exact .inl rfl
    · rename_i e' a len cap heq
      obtain rfl : e = e' := by simpa using heq
      simp only at h
      split at h
      case isFalse => cases h
      rename_i hcap
      obtain ⟨elems, hel, h⟩ := Option.bind_eq_some_iff.mp h
      obtain ⟨rest, hrest, h⟩ := Option.map_eq_some_iff.mp h
      obtain ⟨rfl, rfl⟩ := Prod.mk.inj h
      obtain ⟨g1, g2⟩ := mapM_some hel
      simp at g1
      have hlen : elems.length = len := g1.symm
      -- each element
      have each : ∀ i, i < len → ∃ c1 acs D1 ps1, W.cells? 0 (a.add (i * sz)) sz = some c1 ∧ elems[i]? = some (D1, ps1) ∧ CV W m c1 acs ∧ Ty P B d e acs ∧ c1.length = sz := by
        intro i hi
        have hx : elems[i]? = some elems[i] := List.getElem?_eq_getElem (by omega)
        have := g2 i i elems[i] (by simp [hi]) hx
        rw [hce] at this
        obtain ⟨c1, hc1, htr⟩ := Option.bind_eq_some_iff.mp this
        have hmem : elems[i] ∈ elems := List.getElem_mem _
        obtain ⟨acs, q1, q2, q3⟩ := ih fuel c1 elems[i].1 elems[i].2 htr (fun x hxm => hps x (by
            apply List.mem_append_right
            rw [List.mem_flatMap]
            exact ⟨elems[i], List.mem_append_left _ hmem, hxm⟩)) (fun n hn => hw n (by
            simp only [DataW.weights, hu]
            apply List.mem_cons_of_mem
            apply List.mem_append_left
            exact mem_weightsAll (List.mem_map.mpr ⟨_, hmem, rfl⟩) hn))
        rw [he] at q3
        exact ⟨c1, acs, elems[i].1, elems[i].2, hc1, hx, q1, q2, (Option.some.inj q3).symm⟩
      have hch : ∃ f : Nat → List AV, ∀ i, i < len → ∃ c1, W.cells? 0 (a.add (i * sz)) sz = some c1 ∧ CV W m c1 (f i) ∧ Ty P B d e (f i) ∧ c1.length = sz := by
        refine ⟨fun i => if h : i < len then Classical.choose (Classical.choose_spec (each i h)) else [], ?_⟩
        intro i hi
        simp only [hi, dif_pos]
        obtain ⟨D1, ps1, q1, q2, q3, q4, q5⟩ := Classical.choose_spec (Classical.choose_spec (each i hi))
        exact ⟨_, q1, q3, q4, q5⟩
      obtain ⟨f, hf⟩ := hch
      let xs := (List.range len).map f
      have hxl : xs.length = len := by simp [xs]
      have hxi : ∀ (i : Nat) (x : List AV), xs[i]? = some x → i < len ∧ x = f i := by
        intro i x hi
        have hlt : i < len := by have := (List.getElem?_eq_some_iff.mp hi).1; omega
        refine ⟨hlt, ?_⟩
        simp only [xs, List.getElem?_map, List.getElem?_range hlt, Option.map_some] at hi
        exact (Option.some.inj hi).symm
      have haddr : 0 < len → a = ⟨a.block, a.off, none⟩ ∧ a.block < W.heap.size := by
        intro hl
        obtain ⟨c1, q1, q2, q3, q4⟩ := hf 0 hl
        obtain ⟨r1, r2⟩ := cells_of q1
        have hv : c1[0]? = some c1[0] := List.getElem?_eq_getElem (by omega)
        have hc := r2 0 _ hv
        have h00 : (a.add (0 * sz)).add 0 = a := by simp [Addr.add]
        rw [h00] at hc
        refine ⟨spot_of hc, ?_⟩
        exact World.block_lt_of_cell? W a hc
      have hcell : ∀ (i : Nat) (x : List AV) (o : Nat) (c : AV), xs[i]? = some x → x[o]? = some c → isCell c = true ∧ ∃ v, W.cell? ⟨a.block, a.off + (i * sz + o), none⟩ = some v ∧ V W m v c := by
        intro i x o c hi ho
        obtain ⟨hlt, rfl⟩ := hxi i x hi
        obtain ⟨c1, q1, q2, q3, q4⟩ := hf i hlt
        obtain ⟨r1, r2⟩ := cells_of q1
        have hol : o < c1.length := by rw [← q2.len]; exact (List.getElem?_eq_some_iff.mp ho).1
        have hv : c1[o]? = some c1[o] := List.getElem?_eq_getElem hol
        have hc := r2 o _ hv
        obtain ⟨had, _⟩ := haddr (by omega)
        rw [had, add_addr, add_addr, Nat.add_assoc] at hc
        obtain ⟨v1, v2⟩ := q2.v o _ _ hv ho
        exact ⟨v2, _, hc, v1⟩
      refine ⟨[.sl xs], CV.one ?_ rfl, ?_, ht⟩
      · refine .sl a len cap sz xs ?_ hxl hcap.2.1 ?_ ?_ ?_
        · intro hne
          exact haddr (by rw [← hxl]; exact List.length_pos_iff.mpr hne)
        · intro i x hi
          obtain ⟨hlt, rfl⟩ := hxi i x hi
          obtain ⟨c1, q1, q2, q3, q4⟩ := hf i hlt
          rw [q2.len]; exact q4
        · intro i x o c hi ho
          obtain ⟨q1, v, q2, q3⟩ := hcell i x o c hi ho
          exact ⟨q1, by rw [q2]; rfl⟩
        · intro i x o c v hi ho hv
          obtain ⟨q1, v', q2, q3⟩ := hcell i x o c hi ho
          rw [hv] at q2
          obtain rfl := Option.some.inj q2
          exact q3
      · unfold Ty
        rw [hu]
        refine .inr ⟨xs, rfl, ?_, ?_⟩
        · rw [hxl]
          have := hw ((elems.length + rest.length) * P.bytesOf e) (by simp [DataW.weights, hu])
          exact Nat.le_trans (Nat.mul_le_mul_right _ (by omega)) this
        · intro x hx
          obtain ⟨i, hi⟩ := List.mem_iff_getElem?.mp hx
          obtain ⟨hlt, rfl⟩ := hxi i x hi
          obtain ⟨c1, q1, q2, q3, q4⟩ := hf i hlt
          exact q3
    · cases h


theorem reads_leaf {d : Nat} {t : TypeId} (hu : P.underlying t = some .bool ∨ (∃ k, P.underlying t = some (.int k)) ∨ P.underlying t = some .string) (ht : cSize P t = some 1) : Reads P B W m H enc (d + 1) t := by
  intro fuel cs D ps h hps hw
  cases fuel with
  | zero => simp [DataW.trod] at h
  | succ fuel =>
    rcases hu with hu | ⟨k, hu⟩ | hu
    · unfold DataW.trod at h
      rw [hu] at h
      split at h <;> try (first | (rename_i q _; cases q; done) | (rename_i q; cases q; done) | (rename_i q _ _; cases q; done))
      · refine ⟨[.bool _], CV.one (.bool _) rfl, ?_, ht⟩
        unfold Ty; rw [hu]; exact ⟨_, rfl⟩
      · cases h
    · unfold DataW.trod at h
      rw [hu] at h
      split at h <;> try (first | (rename_i q _; cases q; done) | (rename_i q; cases q; done) | (rename_i q _ _; cases q; done))
      · rename_i k1 k2 n heq
        obtain rfl : k = k1 := by simpa using heq
        split at h
        · rename_i hh
          obtain ⟨rfl, hwf⟩ := hh
          refine ⟨[.int _ _], CV.one (.int _ _) rfl, ?_, ht⟩
          unfold Ty; rw [hu]; exact ⟨_, rfl, hwf⟩
        · cases h
      · cases h
    · unfold DataW.trod at h
      rw [hu] at h
      split at h <;> try (first | (rename_i q _; cases q; done) | (rename_i q; cases q; done) | (rename_i q _ _; cases q; done))
      · rename_i s _
        split at h
        · obtain ⟨rfl, rfl⟩ := Prod.mk.inj (Option.some.inj h)
          refine ⟨[.str s.data.toList], CV.one (.str s) rfl, ?_, ht⟩
          unfold Ty; rw [hu]
          exact ⟨_, rfl, hw _ (by simp [DataW.weights])⟩
        · cases h
      · cases h

theorem mem_weightsEach {D : DataW H} {t : TypeId} {n : Nat} : ∀ {ts : List TypeId} {l : List (DataW H)} (i : Nat), ts[i]? = some t → l[i]? = some D → n ∈ D.weights P t → n ∈ DataW.weightsEach P ts l := by
  intro ts
  induction ts with
  | nil => intro l i h; simp at h
  | cons t' ts ih =>
    intro l i ht hl hn
    match l, hl with
    | d :: l, hl =>
      rw [DataW.weightsEach]
      match i, ht, hl with
      | 0, ht, hl => simp at ht hl; subst ht hl; exact List.mem_append_left _ hn
      | i + 1, ht, hl => simp at ht hl; exact List.mem_append_right _ (ih i ht hl hn)

theorem rdF_le {rd : TypeId → Bool} : ∀ {fs : List Field} {off n : Nat}, rdF P rd fs off = some n → off ≤ n := by
  intro fs
  induction fs with
  | nil => intro off n h; simp only [rdF] at h; have := Option.some.inj h; omega
  | cons f fs ih =>
    intro off n h
    simp only [rdF] at h
    split at h
    · obtain ⟨s, hs, h⟩ := Option.bind_eq_some_iff.mp h
      have := ih h
      omega
    · cases h

theorem reads_fields {d fuel : Nat} (cs : List Value) (ih : ∀ t, rdB P d t = true → Reads P B W m H enc d t) :
    ∀ (fs : List Field) (off n : Nat) (xs : List (DataW H × List MemPlace)), rdF P (rdB P d) fs off = some n → n = cs.length →
      fs.mapM (fun f => DataW.trod enc P W 0 (fun _ => true) true fuel f.type ((cs.drop f.offset).take (P.cellsOf f.type))) = some xs →
      (∀ x ∈ xs, ∀ y ∈ x.2, y.block < W.heap.size) → (∀ (i : Nat) (f : Field) (x : DataW H × List MemPlace), fs[i]? = some f → xs[i]? = some x → ∀ n ∈ x.1.weights P f.type, n ≤ B) →
      ∃ acs, CV W m (cs.drop off) acs ∧ tyF (Ty P B d) P fs acs := by
  intro fs
  induction fs with
  | nil =>
    intro off n xs h hn _ _ _
    simp only [rdF] at h
    obtain rfl := Option.some.inj h
    rw [List.drop_eq_nil_of_le (by omega)]
    exact ⟨[], CV.nil, rfl⟩
  | cons f fs ihf =>
    intro off n xs h hn hm hps hw
    simp only [rdF] at h
    split at h
    case isFalse => cases h
    rename_i hh
    obtain ⟨rfl, hrd⟩ := hh
    obtain ⟨s, hs, h⟩ := Option.bind_eq_some_iff.mp h
    simp only [List.mapM_cons, Option.pure_def, Option.bind_eq_bind] at hm
    obtain ⟨x, hx, hm⟩ := Option.bind_eq_some_iff.mp hm
    obtain ⟨xs', hxs, hm⟩ := Option.bind_eq_some_iff.mp hm
    obtain rfl := Option.some.inj hm
    rw [cellsOf_of hs] at hx
    obtain ⟨a1, q1, q2, q3⟩ := ih f.type hrd fuel _ x.1 x.2 hx (hps x (by simp)) (hw 0 f x rfl rfl)
    obtain ⟨a2, r1, r2⟩ := ihf (f.offset + s) n xs' h hn hxs (fun y hy => hps y (List.mem_cons_of_mem _ hy)) (fun i f' x' h1 h2 => hw (i + 1) f' x' (by simpa using h1) (by simpa using h2))
    refine ⟨a1 ++ a2, ?_, a1, a2, rfl, q2, r2⟩
    have : cs.drop f.offset = (cs.drop f.offset).take s ++ cs.drop (f.offset + s) := by
      rw [← List.drop_drop, List.take_append_drop]
    rw [this]
    exact q1.append r1

theorem reads_struct {d : Nat} {t : TypeId} {fs : Array Field} (hu : P.underlying t = some (.struct fs)) (hrd : rdB P (d + 1) t = true) (ih : ∀ t, rdB P d t = true → Reads P B W m H enc d t) : Reads P B W m H enc (d + 1) t := by
  intro fuel cs D ps h hps hw
  unfold rdB at hrd
  rw [hu] at hrd
  simp only [Bool.and_eq_true] at hrd
  obtain ⟨hsome, heq⟩ := hrd
  obtain ⟨n, hn⟩ := Option.isSome_iff_exists.mp hsome
  rw [hn] at heq
  have hsz : cSize P t = some n := by
    cases hx : cSize P t with
    | none => rw [hx] at heq; cases heq
    | some y => rw [hx] at heq; simp at heq; rw [heq]
  cases fuel with
  | zero => simp [DataW.trod] at h
  | succ fuel =>
    unfold DataW.trod at h
    rw [hu] at h
    split at h <;> try (first | (rename_i q _; cases q; done) | (rename_i q; cases q; done) | (rename_i q _ _; cases q; done))
    · rename_i fs' heq2
      obtain rfl : fs = fs' := by simpa using heq2
      rw [cellsOf_of hsz] at h
      split at h
      case isFalse => cases h
      rename_i hl
      obtain ⟨xs, hxs, h⟩ := Option.map_eq_some_iff.mp h
      obtain ⟨rfl, rfl⟩ := Prod.mk.inj h
      obtain ⟨acs, q1, q2⟩ := reads_fields _ ih fs.toList 0 n xs hn hl.symm hxs (fun x hx y hy => hps y (List.mem_flatMap.mpr ⟨x, hx, hy⟩)) (by
        intro i f x h1 h2 k hk
        refine hw k ?_
        simp only [DataW.weights, hu]
        exact mem_weightsEach i (t := f.type) (D := x.1) (by rw [List.getElem?_map, h1]; rfl) (by rw [List.getElem?_map, h2]; rfl) hk)
      rw [List.drop_zero] at q1
      refine ⟨acs, q1, ?_, by rw [hsz, hl]⟩
      unfold Ty; rw [hu]; exact q2
    · rename_i h1 _ _ _ _ _ _
      exfalso
      simp_all


theorem reads_elems {d fuel sz : Nat} {e : TypeId} (cs : List Value) (he : cSize P e = some sz) (ih : Reads P B W m H enc d e) :
    ∀ (n k : Nat) (xs : List (DataW H × List MemPlace)), cs.length = (k + n) * sz →
      (List.range' k n).mapM (fun i => DataW.trod enc P W 0 (fun _ => true) true fuel e ((cs.drop (i * P.cellsOf e)).take (P.cellsOf e))) = some xs →
      (∀ x ∈ xs, ∀ y ∈ x.2, y.block < W.heap.size) → (∀ x ∈ xs, ∀ n ∈ x.1.weights P e, n ≤ B) →
      ∃ acs, CV W m (cs.drop (k * sz)) acs ∧ tyA (Ty P B d e) n acs := by
  intro n
  induction n with
  | zero =>
    intro k xs h _ _ _
    rw [List.drop_eq_nil_of_le (by rw [h]; simp)]
    exact ⟨[], CV.nil, rfl⟩
  | succ n ihn =>
    intro k xs h hm hps hw
    simp only [List.range'_succ, List.mapM_cons, Option.pure_def, Option.bind_eq_bind] at hm
    obtain ⟨x, hx, hm⟩ := Option.bind_eq_some_iff.mp hm
    obtain ⟨xs', hxs, hm⟩ := Option.bind_eq_some_iff.mp hm
    obtain rfl := Option.some.inj hm
    rw [cellsOf_of he] at hx
    obtain ⟨a1, q1, q2, q3⟩ := ih fuel _ x.1 x.2 hx (hps x (by simp)) (hw x (by simp))
    obtain ⟨a2, r1, r2⟩ := ihn (k + 1) xs' (by rw [h]; congr 1; omega) hxs (fun y hy => hps y (List.mem_cons_of_mem _ hy)) (fun y hy => hw y (List.mem_cons_of_mem _ hy))
    refine ⟨a1 ++ a2, ?_, a1, a2, rfl, q2, r2⟩
    have : cs.drop (k * sz) = (cs.drop (k * sz)).take sz ++ cs.drop ((k + 1) * sz) := by
      rw [Nat.add_mul, Nat.one_mul, ← List.drop_drop, List.take_append_drop]
    rw [this]
    exact q1.append r1

theorem reads_array {d : Nat} {t e : TypeId} {n : Nat} (hu : P.underlying t = some (.array n e)) (hrd : rdB P (d + 1) t = true) (ih : Reads P B W m H enc d e) : Reads P B W m H enc (d + 1) t := by
  intro fuel cs D ps h hps hw
  unfold rdB at hrd
  rw [hu] at hrd
  simp only [Bool.and_eq_true] at hrd
  obtain ⟨⟨hsome, heq⟩, _⟩ := hrd
  obtain ⟨sz, he⟩ := Option.isSome_iff_exists.mp hsome
  rw [he] at heq
  have hsz : cSize P t = some (n * sz) := by
    cases hx : cSize P t with
    | none => rw [hx] at heq; cases heq
    | some y => rw [hx] at heq; simp at heq; rw [heq]
  cases fuel with
  | zero => simp [DataW.trod] at h
  | succ fuel =>
    unfold DataW.trod at h
    rw [hu] at h
    split at h <;> try (first | (rename_i q _; cases q; done) | (rename_i q; cases q; done) | (rename_i q _ _; cases q; done))
    · rename_i n' e' heq2
      obtain ⟨rfl, rfl⟩ : n = n' ∧ e = e' := by simpa using heq2
      rw [cellsOf_of hsz] at h
      split at h
      case isFalse => cases h
      rename_i hl
      obtain ⟨xs, hxs, h⟩ := Option.map_eq_some_iff.mp h
      obtain ⟨rfl, rfl⟩ := Prod.mk.inj h
      rw [List.range_eq_range'] at hxs
      obtain ⟨acs, q1, q2⟩ := reads_elems _ he ih n 0 xs (by rw [Nat.zero_add]; exact hl) hxs (fun x hx y hy => hps y (List.mem_flatMap.mpr ⟨x, hx, hy⟩)) (by
        intro x hx k hk
        refine hw k ?_
        simp only [DataW.weights, hu]
        exact mem_weightsAll (List.mem_map.mpr ⟨x, hx, rfl⟩) hk)
      rw [Nat.zero_mul, List.drop_zero] at q1
      refine ⟨acs, q1, ?_, by rw [hsz, hl]⟩
      unfold Ty; rw [hu]; exact q2
    · exfalso
      simp_all

/-- EVERY READABLE TYPE. -/
theorem reads_all : ∀ (d : Nat) (t : TypeId), rdB P d t = true → Reads P B W m H enc d t := by
  intro d
  induction d with
  | zero => intro t h; simp [rdB] at h
  | succ d ih =>
    intro t h
    have h0 := h
    unfold rdB at h
    split at h
    · rename_i hu; exact reads_leaf (.inl hu) (by simpa using h)
    · rename_i k hu; exact reads_leaf (.inr (.inl ⟨k, hu⟩)) (by simpa using h)
    · rename_i hu; exact reads_leaf (.inr (.inr hu)) (by simpa using h)
    · rename_i e hu
      simp only [Bool.and_eq_true] at h
      obtain ⟨⟨h1, h2⟩, h3⟩ := h
      cases hx : cSize P e with
      | none => rw [hx] at h2; simp at h2
      | some sz =>
        rw [hx] at h2
        simp [Nat.blt_eq] at h2
        exact reads_slice hu (by simpa using h1) hx h2 (ih e h3)
    · rename_i fs hu; exact reads_struct hu h0 ih
    · rename_i n e hu
      simp only [Bool.and_eq_true] at h
      exact reads_array hu h0 (ih e h.2)
    · cases h

/-- A value of a type. -/
def TyV (P : Program) (B : Nat) (d : Nat) (t : TypeId) (c : AV) : Prop := Ty P B d t (cells c) ∧ ∃ agg, cAgg P t = some agg ∧ (if agg then c = .agg (cells c) else cells c = [c])

/-- An argument. -/
theorem arg_told {d : Nat} {t : TypeId} {v : Value} {D : DataW H} {ps : List MemPlace} {rc : Reach} {base : Nat} (hrd : rdB P d t = true) (hok : Value.okWide P W rc base t v) (h : DataW.Trod enc P W 0 (fun _ => true) true t v D ps) (hps : ∀ x ∈ ps, x.block < W.heap.size) (hw : ∀ n ∈ D.weights P t, n ≤ B) :
    ∃ c, V W m v c ∧ TyV P B d t c := by
  obtain ⟨fuel, h⟩ := h
  obtain ⟨acs, q1, q2, q3⟩ := reads_all (P := P) (W := W) (m := m) (enc := enc) d t hrd fuel _ D ps h hps hw
  have agg_case : ∀ cs : Array Value, v = .agg cs → cAgg P t = some true → ∃ c, V W m v c ∧ TyV P B d t c := by
    intro cs hv hag
    subst hv
    simp only [Value.cells] at q1
    refine ⟨.agg acs, .agg cs acs (by rw [q1.len]; simp) ?_ ?_, q2, true, hag, by simp [cells]⟩
    · intro i c hc
      have hlt := (List.getElem?_eq_some_iff.mp hc).1
      exact (q1.v i (cs.toList[i]'(by rw [← q1.len]; exact hlt)) c (List.getElem?_eq_getElem _) hc).2
    · intro i x c hx hc
      exact (q1.v i x c (by rw [Array.getElem?_toList]; exact hx) hc).1
  have leaf_case : v.cells = #[v] → cAgg P t = some false → ∃ c, V W m v c ∧ TyV P B d t c := by
    intro hv hag
    rw [hv] at q1
    obtain ⟨c, rfl⟩ : ∃ c, acs = [c] := by
      match acs, q1.len with
      | [c], _ => exact ⟨c, rfl⟩
    obtain ⟨h1, h2⟩ := q1.v 0 v c rfl rfl
    have hcc : cells c = [c] := by cases c <;> first | rfl | simp [isCell] at h2
    exact ⟨c, h1, by rw [TyV, hcc]; exact ⟨q2, false, hag, by simp⟩⟩
  have hrd' := hrd
  cases d with
  | zero => simp [rdB] at hrd
  | succ d =>
    unfold rdB at hrd
    unfold Value.okWide at hok
    split at hrd
    · rename_i hu
      rw [hu] at hok
      have : v.cells = #[v] := by simp only [Cell.okWide, hu] at hok; cases v <;> simp_all [Cell.ok] <;> rfl
      exact leaf_case this (by simp [cAgg, hu])
    · rename_i k hu
      rw [hu] at hok
      have : v.cells = #[v] := by simp only [Cell.okWide, hu] at hok; cases v <;> simp_all [Cell.ok] <;> rfl
      exact leaf_case this (by simp [cAgg, hu])
    · rename_i hu
      rw [hu] at hok
      have : v.cells = #[v] := by simp only [Cell.okWide, hu] at hok; cases v <;> simp_all [Cell.ok] <;> rfl
      exact leaf_case this (by simp [cAgg, hu])
    · rename_i e hu
      rw [hu] at hok
      have : v.cells = #[v] := by simp only [Cell.okWide, hu] at hok; cases v <;> simp_all [Cell.ok] <;> rfl
      exact leaf_case this (by simp [cAgg, hu])
    · rename_i fs hu
      rw [hu] at hok
      obtain ⟨cs, hv, _⟩ := hok
      exact agg_case cs hv (by simp [cAgg, hu])
    · rename_i n e hu
      rw [hu] at hok
      obtain ⟨cs, hv, _⟩ := hok
      exact agg_case cs hv (by simp [cAgg, hu])
    · cases hrd

theorem rel_zero (W : World) : Rel W (fun _ => none) Mem.zero W := rel_none (Below.refl _ _)

/-- AN ABSTRACT RUN THAT ANSWERS TRUE: so does the machine's, and of what was there nothing turns. -/
theorem law_calls {X : Nat → Option CFunc} (hX : XOK P X) {f k : Nat} {vs : Array Value} {avs : List AV} {s' : Mem} (h : run (compX P X) k f avs Mem.zero = some (.bool true, s')) (hV : VL W (fun _ => none) vs avs) : Calls P f vs W (fun e w' => e = .returned (.bool true) ∧ Below W.heap.size W w') := by
  have hC := call_ok (W0 := W) hX (exec_ok (P := P) (W0 := W) hX k)
  refine (hC.ok f avs Mem.zero _ s' h (fun _ => none) W vs (rel_zero W) (fun _ _ _ => rfl) hV).mono ?_
  rintro e w' ⟨v, m', rfl, hA, hv⟩
  exact ⟨by rw [hv.inv_bool], hA.rel.below⟩

end
end Go.VI
