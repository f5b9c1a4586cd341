/- What a row's arguments read as; from an abstract run to the machine's. No statement of the seat is proved here. -/
import Derived.Test.YthibbbfhkfebkaaGreatVZVC
import Derived.ProofKit
import Derived.OpenShut
namespace Go.VI
open Go Go.RowKit
def rdF (P : Program) (rd : TypeId → Bool) : List Field → Nat → Option Nat
  | [], off => some off
  | f :: r, off => if f.offset = off ∧ rd f.type = true then (cSize P f.type).bind fun s => rdF P rd r (off + s) else none
def rdB (P : Program) : Nat → TypeId → Bool
  | 0, _ => false
  | d + 1, t => match P.underlying t with
    | some .bool | some (.int _) | some .string => cSize P t == some 1
    | some (.slice e) => cSize P t == some 1 && (cSize P e).any (fun s => Nat.blt 0 s) && rdB P d e
    | some (.struct fs) => (rdF P (rdB P d) fs.toList 0).isSome && rdF P (rdB P d) fs.toList 0 == cSize P t
    | some (.array n e) => (cSize P e).isSome && (cSize P t == (cSize P e).map (n * ·)) && rdB P d e
    | _ => false
def tyF (ty : TypeId → List AV → Prop) (P : Program) : List Field → List AV → Prop
  | [], cs => cs = []
  | f :: r, cs => ∃ a b, cs = a ++ b ∧ ty f.type a ∧ tyF ty P r b
def tyA (ty : List AV → Prop) : Nat → List AV → Prop
  | 0, cs => cs = []
  | n + 1, cs => ∃ a b, cs = a ++ b ∧ ty a ∧ tyA ty n b
def Ty (P : Program) (B : Nat) : Nat → TypeId → List AV → Prop
  | 0, _, _ => False
  | d + 1, t, cs => match P.underlying t with
    | some .bool => ∃ b, cs = [.bool b]
    | some (.int k) => ∃ n, cs = [.int k n] ∧ (Lit.int k n).wf = true
    | some .string => ∃ s, cs = [.str s] ∧ s.length ≤ B
    | some (.slice e) => cs = [.nilS] ∨ ∃ xs, cs = [.sl xs] ∧ xs.length * P.bytesOf e ≤ B ∧ ∀ x ∈ xs, Ty P B d e x
    | some (.struct fs) => tyF (Ty P B d) P fs.toList cs
    | some (.array n e) => tyA (Ty P B d e) n cs
    | _ => False
section
variable {P : Program} {B : Nat} {W : World} {m : PM} {H : Type} {enc : TypeId × Value → H}
theorem cellsOf_of {t : TypeId} {sz : Nat} (h : cSize P t = some sz) : P.cellsOf t = sz := by
  obtain ⟨i, h1, h2⟩ := info_of_cSize h
  simp [Program.cellsOf, h1, h2]
structure CV (W : World) (m : PM) (cs : List Value) (acs : List AV) : Prop where
  len : acs.length = cs.length
  v : ∀ (i : Nat) (v : Value) (c : AV), cs[i]? = some v → acs[i]? = some c → V W m v c ∧ isCell c = true
theorem CV.nil : CV W m [] [] := ⟨rfl, by simp⟩
theorem CV.append {cs ds : List Value} {as bs : List AV} (h : CV W m cs as) (k : CV W m ds bs) : CV W m (cs ++ ds) (as ++ bs) := by
  refine ⟨by simp [h.len, k.len], ?_⟩
  intro i v c hv hc
  by_cases hi : i < cs.length
  · rw [List.getElem?_append_left hi] at hv
    rw [List.getElem?_append_left (by rw [h.len]; exact hi)] at hc
    exact h.v i v c hv hc
  · rw [List.getElem?_append_right (by omega)] at hv
    rw [List.getElem?_append_right (by rw [h.len]; omega), h.len] at hc
    exact k.v _ v c hv hc
theorem CV.one {v : Value} {c : AV} (h : V W m v c) (hc : isCell c = true) : CV W m [v] [c] := by
  refine ⟨rfl, ?_⟩
  intro i v' c' h1 h2
  match i with
  | 0 => simp at h1 h2; subst h1 h2; exact ⟨h, hc⟩
  | i + 1 => simp at h1
def Reads (P : Program) (B : Nat) (W : World) (m : PM) (H : Type) (enc : TypeId × Value → H) (d : Nat) (t : TypeId) : Prop :=
  ∀ (fuel : Nat) (cs : List Value) (D : DataW H) (ps : List MemPlace), DataW.trod enc P W 0 (fun _ => true) true fuel t cs = some (D, ps) → (∀ x ∈ ps, x.block < W.heap.size) → (∀ n ∈ D.weights P t, n ≤ B) →
    ∃ acs, CV W m cs acs ∧ Ty P B d t acs ∧ cSize P t = some cs.length
theorem mem_weightsAll {e : TypeId} {D : DataW H} {n : Nat} : ∀ {l : List (DataW H)}, D ∈ l → n ∈ D.weights P e → n ∈ DataW.weightsAll P e l := by
  intro l
  induction l with
  | nil => intro h; simp at h
  | cons d l ih =>
    intro h hn
    rw [DataW.weightsAll]
    rcases List.mem_cons.mp h with rfl | h
    · exact List.mem_append_left _ hn
    · exact List.mem_append_right _ (ih h hn)
theorem cells_of {a : Addr} {n : Nat} {cs : List Value} (h : W.cells? 0 a n = some cs) : cs.length = n ∧ ∀ (i : Nat) (v : Value), cs[i]? = some v → W.cell? (a.add i) = some v := by
  unfold World.cells? at h
  rw [if_pos (Nat.zero_le _)] at h
  obtain ⟨h1, h2⟩ := mapM_some h
  simp at h1
  refine ⟨h1.symm, ?_⟩
  intro i v hv
  have hi : i < n := by have := (List.getElem?_eq_some_iff.mp hv).1; omega
  exact h2 i i v (by simp [hi]) hv
theorem spot_of {a : Addr} {v : Value} (h : W.cell? a = some v) : a = ⟨a.block, a.off, none⟩ := by
  obtain ⟨b, off, sp⟩ := a
  cases sp with
  | none => rfl
  | some x =>
    unfold World.cell? at h
    split at h
    · simp at h
    · cases h
theorem reads_slice {d : Nat} {t e : TypeId} {sz : Nat} (hu : P.underlying t = some (.slice e)) (ht : cSize P t = some 1) (he : cSize P e = some sz) (h0 : 0 < sz) (ih : Reads P B W m H enc d e) : Reads P B W m H enc (d + 1) t := by
  intro fuel cs D ps h hps hw
  cases fuel with
  | zero => simp [DataW.trod] at h
  | succ fuel =>
    unfold DataW.trod at h
    rw [hu] at h
    have hce := cellsOf_of he
    split at h <;> try (first | (rename_i q _; cases q; done) | (rename_i q; cases q; done) | (rename_i q _ _; cases q; done))
    · -- nil
      refine ⟨[.nilS], CV.one .nilS rfl, ?_, ht⟩
      unfold Ty; rw [hu]; exact .inl rfl
    · rename_i e' a len cap heq
      obtain rfl : e = e' := by simpa using heq
      simp only at h
      split at h
      case isFalse => cases h
      rename_i hcap
      obtain ⟨elems, hel, h⟩ := Option.bind_eq_some_iff.mp h
      obtain ⟨rest, hrest, h⟩ := Option.map_eq_some_iff.mp h
      obtain ⟨rfl, rfl⟩ := Prod.mk.inj h
      obtain ⟨g1, g2⟩ := mapM_some hel
      simp at g1
      have hlen : elems.length = len := g1.symm
      have each : ∀ i, i < len → ∃ c1 acs D1 ps1, W.cells? 0 (a.add (i * sz)) sz = some c1 ∧ elems[i]? = some (D1, ps1) ∧ CV W m c1 acs ∧ Ty P B d e acs ∧ c1.length = sz := by
        intro i hi
        have hx : elems[i]? = some elems[i] := List.getElem?_eq_getElem (by omega)
        have := g2 i i elems[i] (by simp [hi]) hx
        rw [hce] at this
        obtain ⟨c1, hc1, htr⟩ := Option.bind_eq_some_iff.mp this
        have hmem : elems[i] ∈ elems := List.getElem_mem _
        obtain ⟨acs, q1, q2, q3⟩ := ih fuel c1 elems[i].1 elems[i].2 htr (fun x hxm => hps x (by
            apply List.mem_append_right
            rw [List.mem_flatMap]
            exact ⟨elems[i], List.mem_append_left _ hmem, hxm⟩)) (fun n hn => hw n (by
            simp only [DataW.weights, hu]
            apply List.mem_cons_of_mem
            apply List.mem_append_left
            exact mem_weightsAll (List.mem_map.mpr ⟨_, hmem, rfl⟩) hn))
        rw [he] at q3
        exact ⟨c1, acs, elems[i].1, elems[i].2, hc1, hx, q1, q2, (Option.some.inj q3).symm⟩
      have hch : ∃ f : Nat → List AV, ∀ i, i < len → ∃ c1, W.cells? 0 (a.add (i * sz)) sz = some c1 ∧ CV W m c1 (f i) ∧ Ty P B d e (f i) ∧ c1.length = sz := by
        refine ⟨fun i => if h : i < len then Classical.choose (Classical.choose_spec (each i h)) else [], ?_⟩
        intro i hi
        simp only [hi, dif_pos]
        obtain ⟨D1, ps1, q1, q2, q3, q4, q5⟩ := Classical.choose_spec (Classical.choose_spec (each i hi))
        exact ⟨_, q1, q3, q4, q5⟩
      obtain ⟨f, hf⟩ := hch
      let xs := (List.range len).map f
      have hxl : xs.length = len := by simp [xs]
      have hxi : ∀ (i : Nat) (x : List AV), xs[i]? = some x → i < len ∧ x = f i := by
        intro i x hi
        have hlt : i < len := by have := (List.getElem?_eq_some_iff.mp hi).1; omega
        refine ⟨hlt, ?_⟩
        simp only [xs, List.getElem?_map, List.getElem?_range hlt, Option.map_some] at hi
        exact (Option.some.inj hi).symm
      have haddr : 0 < len → a = ⟨a.block, a.off, none⟩ ∧ a.block < W.heap.size := by
        intro hl
        obtain ⟨c1, q1, q2, q3, q4⟩ := hf 0 hl
        obtain ⟨r1, r2⟩ := cells_of q1
        have hv : c1[0]? = some c1[0] := List.getElem?_eq_getElem (by omega)
        have hc := r2 0 _ hv
        have h00 : (a.add (0 * sz)).add 0 = a := by simp [Addr.add]
        rw [h00] at hc
        refine ⟨spot_of hc, ?_⟩
        exact World.block_lt_of_cell? W a hc
      have hcell : ∀ (i : Nat) (x : List AV) (o : Nat) (c : AV), xs[i]? = some x → x[o]? = some c → isCell c = true ∧ ∃ v, W.cell? ⟨a.block, a.off + (i * sz + o), none⟩ = some v ∧ V W m v c := by
        intro i x o c hi ho
        obtain ⟨hlt, rfl⟩ := hxi i x hi
        obtain ⟨c1, q1, q2, q3, q4⟩ := hf i hlt
        obtain ⟨r1, r2⟩ := cells_of q1
        have hol : o < c1.length := by rw [← q2.len]; exact (List.getElem?_eq_some_iff.mp ho).1
        have hv : c1[o]? = some c1[o] := List.getElem?_eq_getElem hol
        have hc := r2 o _ hv
        obtain ⟨had, _⟩ := haddr (by omega)
        rw [had, add_addr, add_addr, Nat.add_assoc] at hc
        obtain ⟨v1, v2⟩ := q2.v o _ _ hv ho
        exact ⟨v2, _, hc, v1⟩
      refine ⟨[.sl xs], CV.one ?_ rfl, ?_, ht⟩
      · refine .sl a len cap sz xs ?_ hxl hcap.2.1 ?_ ?_ ?_
        · intro hne
          exact haddr (by rw [← hxl]; exact List.length_pos_iff.mpr hne)
        · intro i x hi
          obtain ⟨hlt, rfl⟩ := hxi i x hi
          obtain ⟨c1, q1, q2, q3, q4⟩ := hf i hlt
          rw [q2.len]; exact q4
        · intro i x o c hi ho
          obtain ⟨q1, v, q2, q3⟩ := hcell i x o c hi ho
          exact ⟨q1, by rw [q2]; rfl⟩
        · intro i x o c v hi ho hv
          obtain ⟨q1, v', q2, q3⟩ := hcell i x o c hi ho
          rw [hv] at q2
          obtain rfl := Option.some.inj q2
          exact q3
      · unfold Ty
        rw [hu]
        refine .inr ⟨xs, rfl, ?_, ?_⟩
        · rw [hxl]
          have := hw ((elems.length + rest.length) * P.bytesOf e) (by simp [DataW.weights, hu])
          exact Nat.le_trans (Nat.mul_le_mul_right _ (by omega)) this
        · intro x hx
          obtain ⟨i, hi⟩ := List.mem_iff_getElem?.mp hx
          obtain ⟨hlt, rfl⟩ := hxi i x hi
          obtain ⟨c1, q1, q2, q3, q4⟩ := hf i hlt
          exact q3
    · cases h
theorem reads_leaf {d : Nat} {t : TypeId} (hu : P.underlying t = some .bool ∨ (∃ k, P.underlying t = some (.int k)) ∨ P.underlying t = some .string) (ht : cSize P t = some 1) : Reads P B W m H enc (d + 1) t := by
  intro fuel cs D ps h hps hw
  cases fuel with
  | zero => simp [DataW.trod] at h
  | succ fuel =>
    rcases hu with hu | ⟨k, hu⟩ | hu
    · unfold DataW.trod at h
      rw [hu] at h
      split at h <;> try (first | (rename_i q _; cases q; done) | (rename_i q; cases q; done) | (rename_i q _ _; cases q; done))
      · refine ⟨[.bool _], CV.one (.bool _) rfl, ?_, ht⟩
        unfold Ty; rw [hu]; exact ⟨_, rfl⟩
      · cases h
    · unfold DataW.trod at h
      rw [hu] at h
      split at h <;> try (first | (rename_i q _; cases q; done) | (rename_i q; cases q; done) | (rename_i q _ _; cases q; done))
      · rename_i k1 k2 n heq
        obtain rfl : k = k1 := by simpa using heq
        split at h
        · rename_i hh
          obtain ⟨rfl, hwf⟩ := hh
          refine ⟨[.int _ _], CV.one (.int _ _) rfl, ?_, ht⟩
          unfold Ty; rw [hu]; exact ⟨_, rfl, hwf⟩
        · cases h
      · cases h
    · unfold DataW.trod at h
      rw [hu] at h
      split at h <;> try (first | (rename_i q _; cases q; done) | (rename_i q; cases q; done) | (rename_i q _ _; cases q; done))
      · rename_i s _
        split at h
        · obtain ⟨rfl, rfl⟩ := Prod.mk.inj (Option.some.inj h)
          refine ⟨[.str s.data.toList], CV.one (.str s) rfl, ?_, ht⟩
          unfold Ty; rw [hu]
          exact ⟨_, rfl, hw _ (by simp [DataW.weights])⟩
        · cases h
      · cases h
theorem mem_weightsEach {D : DataW H} {t : TypeId} {n : Nat} : ∀ {ts : List TypeId} {l : List (DataW H)} (i : Nat), ts[i]? = some t → l[i]? = some D → n ∈ D.weights P t → n ∈ DataW.weightsEach P ts l := by
  intro ts
  induction ts with
  | nil => intro l i h; simp at h
  | cons t' ts ih =>
    intro l i ht hl hn
    match l, hl with
    | d :: l, hl =>
      rw [DataW.weightsEach]
      match i, ht, hl with
      | 0, ht, hl => simp at ht hl; subst ht hl; exact List.mem_append_left _ hn
      | i + 1, ht, hl => simp at ht hl; exact List.mem_append_right _ (ih i ht hl hn)
theorem reads_fields {d fuel : Nat} (cs : List Value) (ih : ∀ t, rdB P d t = true → Reads P B W m H enc d t) :
    ∀ (fs : List Field) (off n : Nat) (xs : List (DataW H × List MemPlace)), rdF P (rdB P d) fs off = some n → n = cs.length →
      fs.mapM (fun f => DataW.trod enc P W 0 (fun _ => true) true fuel f.type ((cs.drop f.offset).take (P.cellsOf f.type))) = some xs →
      (∀ x ∈ xs, ∀ y ∈ x.2, y.block < W.heap.size) → (∀ (i : Nat) (f : Field) (x : DataW H × List MemPlace), fs[i]? = some f → xs[i]? = some x → ∀ n ∈ x.1.weights P f.type, n ≤ B) →
      ∃ acs, CV W m (cs.drop off) acs ∧ tyF (Ty P B d) P fs acs := by
  intro fs
  induction fs with
  | nil =>
    intro off n xs h hn _ _ _
    simp only [rdF] at h
    obtain rfl := Option.some.inj h
    rw [List.drop_eq_nil_of_le (by omega)]
    exact ⟨[], CV.nil, rfl⟩
  | cons f fs ihf =>
    intro off n xs h hn hm hps hw
    simp only [rdF] at h
    split at h
    case isFalse => cases h
    rename_i hh
    obtain ⟨rfl, hrd⟩ := hh
    obtain ⟨s, hs, h⟩ := Option.bind_eq_some_iff.mp h
    simp only [List.mapM_cons, Option.pure_def, Option.bind_eq_bind] at hm
    obtain ⟨x, hx, hm⟩ := Option.bind_eq_some_iff.mp hm
    obtain ⟨xs', hxs, hm⟩ := Option.bind_eq_some_iff.mp hm
    obtain rfl := Option.some.inj hm
    rw [cellsOf_of hs] at hx
    obtain ⟨a1, q1, q2, q3⟩ := ih f.type hrd fuel _ x.1 x.2 hx (hps x (by simp)) (hw 0 f x rfl rfl)
    obtain ⟨a2, r1, r2⟩ := ihf (f.offset + s) n xs' h hn hxs (fun y hy => hps y (List.mem_cons_of_mem _ hy)) (fun i f' x' h1 h2 => hw (i + 1) f' x' (by simpa using h1) (by simpa using h2))
    refine ⟨a1 ++ a2, ?_, a1, a2, rfl, q2, r2⟩
    have : cs.drop f.offset = (cs.drop f.offset).take s ++ cs.drop (f.offset + s) := by
      rw [← List.drop_drop, List.take_append_drop]
    rw [this]
    exact q1.append r1
theorem reads_struct {d : Nat} {t : TypeId} {fs : Array Field} (hu : P.underlying t = some (.struct fs)) (hrd : rdB P (d + 1) t = true) (ih : ∀ t, rdB P d t = true → Reads P B W m H enc d t) : Reads P B W m H enc (d + 1) t := by
  intro fuel cs D ps h hps hw
  unfold rdB at hrd
  rw [hu] at hrd
  simp only [Bool.and_eq_true] at hrd
  obtain ⟨hsome, heq⟩ := hrd
  obtain ⟨n, hn⟩ := Option.isSome_iff_exists.mp hsome
  rw [hn] at heq
  have hsz : cSize P t = some n := by
    cases hx : cSize P t with
    | none => rw [hx] at heq; cases heq
    | some y => rw [hx] at heq; simp at heq; rw [heq]
  cases fuel with
  | zero => simp [DataW.trod] at h
  | succ fuel =>
    unfold DataW.trod at h
    rw [hu] at h
    split at h <;> try (first | (rename_i q _; cases q; done) | (rename_i q; cases q; done) | (rename_i q _ _; cases q; done))
    · rename_i fs' heq2
      obtain rfl : fs = fs' := by simpa using heq2
      rw [cellsOf_of hsz] at h
      split at h
      case isFalse => cases h
      rename_i hl
      obtain ⟨xs, hxs, h⟩ := Option.map_eq_some_iff.mp h
      obtain ⟨rfl, rfl⟩ := Prod.mk.inj h
      obtain ⟨acs, q1, q2⟩ := reads_fields _ ih fs.toList 0 n xs hn hl.symm hxs (fun x hx y hy => hps y (List.mem_flatMap.mpr ⟨x, hx, hy⟩)) (by
        intro i f x h1 h2 k hk
        refine hw k ?_
        simp only [DataW.weights, hu]
        exact mem_weightsEach i (t := f.type) (D := x.1) (by rw [List.getElem?_map, h1]; rfl) (by rw [List.getElem?_map, h2]; rfl) hk)
      rw [List.drop_zero] at q1
      refine ⟨acs, q1, ?_, by rw [hsz, hl]⟩
      unfold Ty; rw [hu]; exact q2
    · rename_i h1 _ _ _ _ _ _
      exfalso
      simp_all
theorem reads_elems {d fuel sz : Nat} {e : TypeId} (cs : List Value) (he : cSize P e = some sz) (ih : Reads P B W m H enc d e) :
    ∀ (n k : Nat) (xs : List (DataW H × List MemPlace)), cs.length = (k + n) * sz →
      (List.range' k n).mapM (fun i => DataW.trod enc P W 0 (fun _ => true) true fuel e ((cs.drop (i * P.cellsOf e)).take (P.cellsOf e))) = some xs →
      (∀ x ∈ xs, ∀ y ∈ x.2, y.block < W.heap.size) → (∀ x ∈ xs, ∀ n ∈ x.1.weights P e, n ≤ B) →
      ∃ acs, CV W m (cs.drop (k * sz)) acs ∧ tyA (Ty P B d e) n acs := by
  intro n
  induction n with
  | zero =>
    intro k xs h _ _ _
    rw [List.drop_eq_nil_of_le (by rw [h]; simp)]
    exact ⟨[], CV.nil, rfl⟩
  | succ n ihn =>
    intro k xs h hm hps hw
    simp only [List.range'_succ, List.mapM_cons, Option.pure_def, Option.bind_eq_bind] at hm
    obtain ⟨x, hx, hm⟩ := Option.bind_eq_some_iff.mp hm
    obtain ⟨xs', hxs, hm⟩ := Option.bind_eq_some_iff.mp hm
    obtain rfl := Option.some.inj hm
    rw [cellsOf_of he] at hx
    obtain ⟨a1, q1, q2, q3⟩ := ih fuel _ x.1 x.2 hx (hps x (by simp)) (hw x (by simp))
    obtain ⟨a2, r1, r2⟩ := ihn (k + 1) xs' (by rw [h]; congr 1; omega) hxs (fun y hy => hps y (List.mem_cons_of_mem _ hy)) (fun y hy => hw y (List.mem_cons_of_mem _ hy))
    refine ⟨a1 ++ a2, ?_, a1, a2, rfl, q2, r2⟩
    have : cs.drop (k * sz) = (cs.drop (k * sz)).take sz ++ cs.drop ((k + 1) * sz) := by
      rw [Nat.add_mul, Nat.one_mul, ← List.drop_drop, List.take_append_drop]
    rw [this]
    exact q1.append r1
theorem reads_array {d : Nat} {t e : TypeId} {n : Nat} (hu : P.underlying t = some (.array n e)) (hrd : rdB P (d + 1) t = true) (ih : Reads P B W m H enc d e) : Reads P B W m H enc (d + 1) t := by
  intro fuel cs D ps h hps hw
  unfold rdB at hrd
  rw [hu] at hrd
  simp only [Bool.and_eq_true] at hrd
  obtain ⟨⟨hsome, heq⟩, _⟩ := hrd
  obtain ⟨sz, he⟩ := Option.isSome_iff_exists.mp hsome
  rw [he] at heq
  have hsz : cSize P t = some (n * sz) := by
    cases hx : cSize P t with
    | none => rw [hx] at heq; cases heq
    | some y => rw [hx] at heq; simp at heq; rw [heq]
  cases fuel with
  | zero => simp [DataW.trod] at h
  | succ fuel =>
    unfold DataW.trod at h
    rw [hu] at h
    split at h <;> try (first | (rename_i q _; cases q; done) | (rename_i q; cases q; done) | (rename_i q _ _; cases q; done))
    · rename_i n' e' heq2
      obtain ⟨rfl, rfl⟩ : n = n' ∧ e = e' := by simpa using heq2
      rw [cellsOf_of hsz] at h
      split at h
      case isFalse => cases h
      rename_i hl
      obtain ⟨xs, hxs, h⟩ := Option.map_eq_some_iff.mp h
      obtain ⟨rfl, rfl⟩ := Prod.mk.inj h
      rw [List.range_eq_range'] at hxs
      obtain ⟨acs, q1, q2⟩ := reads_elems _ he ih n 0 xs (by rw [Nat.zero_add]; exact hl) hxs (fun x hx y hy => hps y (List.mem_flatMap.mpr ⟨x, hx, hy⟩)) (by
        intro x hx k hk
        refine hw k ?_
        simp only [DataW.weights, hu]
        exact mem_weightsAll (List.mem_map.mpr ⟨x, hx, rfl⟩) hk)
      rw [Nat.zero_mul, List.drop_zero] at q1
      refine ⟨acs, q1, ?_, by rw [hsz, hl]⟩
      unfold Ty; rw [hu]; exact q2
    · exfalso
      simp_all
theorem reads_all : ∀ (d : Nat) (t : TypeId), rdB P d t = true → Reads P B W m H enc d t := by
  intro d
  induction d with
  | zero => intro t h; simp [rdB] at h
  | succ d ih =>
    intro t h
    have h0 := h
    unfold rdB at h
    split at h
    · rename_i hu; exact reads_leaf (.inl hu) (by simpa using h)
    · rename_i k hu; exact reads_leaf (.inr (.inl ⟨k, hu⟩)) (by simpa using h)
    · rename_i hu; exact reads_leaf (.inr (.inr hu)) (by simpa using h)
    · rename_i e hu
      simp only [Bool.and_eq_true] at h
      obtain ⟨⟨h1, h2⟩, h3⟩ := h
      cases hx : cSize P e with
      | none => rw [hx] at h2; simp at h2
      | some sz =>
        rw [hx] at h2
        simp [Nat.blt_eq] at h2
        exact reads_slice hu (by simpa using h1) hx h2 (ih e h3)
    · rename_i fs hu; exact reads_struct hu h0 ih
    · rename_i n e hu
      simp only [Bool.and_eq_true] at h
      exact reads_array hu h0 (ih e h.2)
    · cases h
def TyV (P : Program) (B : Nat) (d : Nat) (t : TypeId) (c : AV) : Prop := Ty P B d t (cells c) ∧ ∃ agg, cAgg P t = some agg ∧ (if agg then c = .agg (cells c) else cells c = [c])
theorem arg_told {d : Nat} {t : TypeId} {v : Value} {D : DataW H} {ps : List MemPlace} {rc : Reach} {base : Nat} (hrd : rdB P d t = true) (hok : Value.okWide P W rc base t v) (h : DataW.Trod enc P W 0 (fun _ => true) true t v D ps) (hps : ∀ x ∈ ps, x.block < W.heap.size) (hw : ∀ n ∈ D.weights P t, n ≤ B) :
    ∃ c, V W m v c ∧ TyV P B d t c := by
  obtain ⟨fuel, h⟩ := h
  obtain ⟨acs, q1, q2, q3⟩ := reads_all (P := P) (W := W) (m := m) (enc := enc) d t hrd fuel _ D ps h hps hw
  have agg_case : ∀ cs : Array Value, v = .agg cs → cAgg P t = some true → ∃ c, V W m v c ∧ TyV P B d t c := by
    intro cs hv hag
    subst hv
    simp only [Value.cells] at q1
    refine ⟨.agg acs, .agg cs acs (by rw [q1.len]; simp) ?_ ?_, q2, true, hag, by simp [cells]⟩
    · intro i c hc
      have hlt := (List.getElem?_eq_some_iff.mp hc).1
      exact (q1.v i (cs.toList[i]'(by rw [← q1.len]; exact hlt)) c (List.getElem?_eq_getElem _) hc).2
    · intro i x c hx hc
      exact (q1.v i x c (by rw [Array.getElem?_toList]; exact hx) hc).1
  have leaf_case : v.cells = #[v] → cAgg P t = some false → ∃ c, V W m v c ∧ TyV P B d t c := by
    intro hv hag
    rw [hv] at q1
    obtain ⟨c, rfl⟩ : ∃ c, acs = [c] := by
      match acs, q1.len with
      | [c], _ => exact ⟨c, rfl⟩
    obtain ⟨h1, h2⟩ := q1.v 0 v c rfl rfl
    have hcc : cells c = [c] := by cases c <;> first | rfl | simp [isCell] at h2
    exact ⟨c, h1, by rw [TyV, hcc]; exact ⟨q2, false, hag, by simp⟩⟩
  have hrd' := hrd
  cases d with
  | zero => simp [rdB] at hrd
  | succ d =>
    unfold rdB at hrd
    unfold Value.okWide at hok
    split at hrd
    · rename_i hu
      rw [hu] at hok
      have : v.cells = #[v] := by simp only [Cell.okWide, hu] at hok; cases v <;> simp_all [Cell.ok] <;> rfl
      exact leaf_case this (by simp [cAgg, hu])
    · rename_i k hu
      rw [hu] at hok
      have : v.cells = #[v] := by simp only [Cell.okWide, hu] at hok; cases v <;> simp_all [Cell.ok] <;> rfl
      exact leaf_case this (by simp [cAgg, hu])
    · rename_i hu
      rw [hu] at hok
      have : v.cells = #[v] := by simp only [Cell.okWide, hu] at hok; cases v <;> simp_all [Cell.ok] <;> rfl
      exact leaf_case this (by simp [cAgg, hu])
    · rename_i e hu
      rw [hu] at hok
      have : v.cells = #[v] := by simp only [Cell.okWide, hu] at hok; cases v <;> simp_all [Cell.ok] <;> rfl
      exact leaf_case this (by simp [cAgg, hu])
    · rename_i fs hu
      rw [hu] at hok
      obtain ⟨cs, hv, _⟩ := hok
      exact agg_case cs hv (by simp [cAgg, hu])
    · rename_i n e hu
      rw [hu] at hok
      obtain ⟨cs, hv, _⟩ := hok
      exact agg_case cs hv (by simp [cAgg, hu])
    · cases hrd
theorem rel_zero (W : World) : Rel P W (fun _ => none) Mem.zero W := rel_none (Below.refl _ _)
theorem law_calls {X : Nat → Option CFunc} (hX : XOK P X) {f k : Nat} {vs : Array Value} {avs : List AV} {s' : Mem} (h : run (compX P X) k f avs Mem.zero = some (.bool true, s')) (hV : VL W (fun _ => none) vs avs) : Calls P f vs W (fun e w' => e = .returned (.bool true) ∧ Below W.heap.size W w') := by
  have hC := call_ok (W0 := W) hX (exec_ok (P := P) (W0 := W) hX k)
  refine (hC.ok f avs Mem.zero _ s' h (fun _ => none) W vs (rel_zero W) (fun _ _ _ => rfl) hV).mono ?_
  rintro e w' ⟨v, m', rfl, hA, hv⟩
  exact ⟨by rw [hv.inv_bool], hA.rel.below⟩
end
end Go.VI
/- Walking the abstract machine. No statement of the seat is proved here. -/
namespace Go.VI
open Go Go.RowKit
def LeF (F G : Nat → Option CFunc) : Prop := ∀ f cf, F f = some cf → G f = some cf
theorem stepOp_mono {c1 c2 : CallF} (h : ∀ g a s r, c1 g a s = some r → c2 g a s = some r) {o : COp} {e : Env} {s : Mem} {r : AV × Mem} (hr : stepOp c1 o e s = some r) : stepOp c2 o e s = some r := by
  by_cases hc : ∃ f xs, o = .call f xs
  · obtain ⟨f, xs, rfl⟩ := hc
    simp only [stepOp] at hr ⊢
    split at hr
    · exact h _ _ _ _ hr
    · cases hr
  · have hc' : ∀ f xs, o ≠ .call f xs := fun f xs h => hc ⟨f, xs, h⟩
    rw [noCall hc'] at hr ⊢
    exact hr
theorem stepO_mono {c1 c2 : CallF} (h : ∀ g a s r, c1 g a s = some r → c2 g a s = some r) {o : COper} {e : Env} {s : Mem} {r : Env × Mem} (hr : stepO c1 o e s = some r) : stepO c2 o e s = some r := by
  unfold stepO at hr ⊢
  split at hr
  · rename_i hw
    rw [if_pos hw]
    split at hr
    · rename_i hu
      rw [if_pos hu]
      obtain ⟨p, h1, h2⟩ := Option.map_eq_some_iff.mp hr
      rw [stepOp_mono h h1]; exact congrArg some h2
    · rename_i hu
      rw [if_neg hu]
      obtain ⟨p, h1, h2⟩ := Option.map_eq_some_iff.mp hr
      rw [stepOp_mono h h1]; exact congrArg some h2
  · rename_i hw
    rw [if_neg hw]; exact hr
theorem opsA_mono {c1 c2 : CallF} (h : ∀ g a s r, c1 g a s = some r → c2 g a s = some r) : ∀ (l : List COper) {e : Env} {s : Mem} {r : Env × Mem}, opsA c1 l e s = some r → opsA c2 l e s = some r := by
  intro l
  induction l with
  | nil => intro e s r hr; exact hr
  | cons o l ih =>
    intro e s r hr
    simp only [opsA] at hr ⊢
    split at hr
    · rename_i p hp
      rw [stepO_mono h hp]; exact ih hr
    · cases hr
theorem callC_mono {x1 x2 : CCode → Env → Mem → Option (Ex × Env × Mem)} {F G : Nat → Option CFunc} (hF : LeF F G) (h : ∀ c e s r, x1 c e s = some r → x2 c e s = some r) : ∀ g a s r, callC x1 F g a s = some r → callC x2 G g a s = some r := by
  intro g a s r hr
  unfold callC at hr ⊢
  split at hr
  · rename_i cf hcf
    rw [hF _ _ hcf]
    simp only
    split at hr
    · rename_i hl
      rw [if_pos hl]
      split at hr
      · rename_i hx; rw [h _ _ _ _ hx]; exact hr
      · rename_i hx; rw [h _ _ _ _ hx]; exact hr
      · cases hr
    · cases hr
  · cases hr
theorem callC_def {x : CCode → Env → Mem → Option (Ex × Env × Mem)} {F : Nat → Option CFunc} {f : Nat} {a : List AV} {s : Mem} {r : AV × Mem} (h : callC x F f a s = some r) : ∃ cf, F f = some cf := by
  unfold callC at h
  split at h
  · exact ⟨_, by assumption⟩
  · cases h
theorem callB_def {x : CCode → Env → Mem → Option (Ex × Env × Mem)} {F : Nat → Option CFunc} {f : Nat} {a : List AV} {s : Mem} {r : AV × Mem} (h : callB x F f a s = some r) : ∃ cf, F f = some cf := by
  unfold callB at h
  split at h
  · rename_i g hp
    unfold primF at hp
    obtain ⟨cf, h1, _⟩ := Option.bind_eq_some_iff.mp hp
    exact ⟨cf, h1⟩
  · rename_i g hp
    unfold primF at hp
    obtain ⟨cf, h1, _⟩ := Option.bind_eq_some_iff.mp hp
    exact ⟨cf, h1⟩
  · exact callC_def h
theorem callB_mono {x1 x2 : CCode → Env → Mem → Option (Ex × Env × Mem)} {F G : Nat → Option CFunc} (hF : LeF F G) (h : ∀ c e s r, x1 c e s = some r → x2 c e s = some r) : ∀ g a s r, callB x1 F g a s = some r → callB x2 G g a s = some r := by
  intro g a s r hr
  obtain ⟨cf, hcf⟩ := callB_def hr
  have hp : primF G g = primF F g := by simp only [primF, hcf, hF _ _ hcf]
  unfold callB at hr ⊢
  rw [hp]
  split at hr
  · rename_i g2 hp2
    try simp only [hp2]
    split at hr
    · rename_i d hd
      try simp only [hd]
      split at hr
      · rename_i p hp
        rw [callC_mono hF h _ _ _ _ hp]; exact hr
      · cases hr
    · cases hr
  · rename_i g2 hp2
    try simp only [hp2]
    exact hr
  · rename_i hp2
    try simp only [hp2]
    exact callC_mono hF h _ _ _ _ hr
theorem callA_mono {x1 x2 : CCode → Env → Mem → Option (Ex × Env × Mem)} {F G : Nat → Option CFunc} (hF : LeF F G) (h : ∀ c e s r, x1 c e s = some r → x2 c e s = some r) : ∀ g a s r, callA x1 F g a s = some r → callA x2 G g a s = some r := by
  intro g a s r hr
  have hcf : ∃ cf, F g = some cf := by
    unfold callA at hr
    split at hr
    · split at hr
      · rename_i hb; exact callB_def hb
      · cases hr
    · exact callB_def hr
  obtain ⟨cf, hcf⟩ := hcf
  have hi : isoF G g = isoF F g := by simp only [isoF, hcf, hF _ _ hcf]
  unfold callA at hr ⊢
  rw [hi]
  split at hr
  · rename_i hc
    rw [if_pos hc]
    split at hr
    · rename_i hb
      rw [callB_mono hF h _ _ _ _ hb]; exact hr
    · cases hr
  · rename_i hc
    rw [if_neg hc]
    exact callB_mono hF h _ _ _ _ hr
theorem exec_mono1 {F G : Nat → Option CFunc} (hF : LeF F G) : ∀ (n : Nat) (c : CCode) (e : Env) (s : Mem) (r : Ex × Env × Mem), exec F n c e s = some r → exec G (n + 1) c e s = some r := by
  intro n
  induction n with
  | zero => intro c e s r h; simp [exec] at h
  | succ n ih =>
    intro c e s r h
    cases c with
    | skip => simp only [exec] at h ⊢; exact h
    | region d ops =>
      simp only [exec] at h
      rw [exec]
      obtain ⟨p, h1, h2⟩ := Option.map_eq_some_iff.mp h
      rw [opsA_mono (callA_mono hF ih) ops h1]; exact congrArg some h2
    | seq a b =>
      simp only [exec] at h
      rw [exec]
      split at h
      · rename_i e' s' hx
        rw [ih _ _ _ _ hx]
        exact ih _ _ _ _ h
      · rename_i hno
        obtain ⟨x, e', s'⟩ := r
        rw [ih _ _ _ _ h]
        cases x with
        | normal => exact absurd h (hno _ _)
        | exit j => rfl
        | ret => rfl
    | cond x a b =>
      simp only [exec] at h
      rw [exec]
      split at h
      · exact ih _ _ _ _ h
      · exact ih _ _ _ _ h
      · cases h
    | block id b =>
      simp only [exec] at h
      rw [exec]
      split at h
      · rename_i j e' s' hx
        rw [ih _ _ _ _ hx]; exact h
      · rename_i hno
        obtain ⟨x, e', s'⟩ := r
        rw [ih _ _ _ _ h]
        cases x with
        | normal => rfl
        | exit j => exact absurd h (hno _ _ _)
        | ret => rfl
    | loop b =>
      simp only [exec] at h
      rw [exec]
      split at h
      · rename_i e' s' hx
        rw [ih _ _ _ _ hx]
        exact ih _ _ _ _ h
      · rename_i hno
        obtain ⟨x, e', s'⟩ := r
        rw [ih _ _ _ _ h]
        cases x with
        | normal => exact absurd h (hno _ _)
        | exit j => rfl
        | ret => rfl
    | exit id => simp only [exec] at h ⊢; exact h
    | ret => simp only [exec] at h ⊢; exact h
theorem exec_mono {F : Nat → Option CFunc} {n m : Nat} (h : n ≤ m) {c : CCode} {e : Env} {s : Mem} {r : Ex × Env × Mem} (hr : exec F n c e s = some r) : exec F m c e s = some r := by
  obtain ⟨d, rfl⟩ := Nat.le.dest h
  clear h
  induction d with
  | zero => exact hr
  | succ d ih => exact exec_mono1 (fun _ _ h => h) _ _ _ _ _ ih
theorem run_le {F G : Nat → Option CFunc} (hF : LeF F G) {n f : Nat} {a : List AV} {s : Mem} {r : AV × Mem} (h : run F n f a s = some r) : run G (n + 1) f a s = some r :=
  callA_mono hF (exec_mono1 hF n) f a s r h
def Mem.at (s : Mem) (f : Nat) : Mem := { s with floor := f }
section
variable {F : Nat → Option CFunc}
def W (F : Nat → Option CFunc) (c : CCode) (e : Env) (s : Mem) (Q : Ex → Env → Mem → Prop) : Prop := ∃ n x e' s', exec F n c e s = some (x, e', s') ∧ Q x e' s'
def C (F : Nat → Option CFunc) (f : Nat) (a : List AV) (s : Mem) (K : AV → Mem → Prop) : Prop := ∃ n r s', run F n f a s = some (r, s') ∧ K r s'
def K2 (x : Option (AV × Mem)) (K : AV → Mem → Prop) : Prop := ∃ r s', x = some (r, s') ∧ K r s'
theorem K2_some (v : AV) (s : Mem) (K : AV → Mem → Prop) : K2 (some (v, s)) K ↔ K v s := by
  constructor
  · rintro ⟨r, s', h, hK⟩; obtain ⟨rfl, rfl⟩ := Prod.mk.inj (Option.some.inj h); exact hK
  · intro h; exact ⟨v, s, rfl, h⟩
theorem K2_none (K : AV → Mem → Prop) : K2 none K ↔ False := by
  constructor
  · rintro ⟨r, s', h, _⟩; cases h
  · exact False.elim
theorem K2_ite (c : Prop) [Decidable c] (x : Option (AV × Mem)) (K : AV → Mem → Prop) : K2 (if c then x else none) K ↔ c ∧ K2 x K := by
  by_cases h : c
  · simp [h]
  · simp [h, K2_none]
def Wp (F : Nat → Option CFunc) (o : COp) (e : Env) (s : Mem) (K : AV → Mem → Prop) : Prop :=
  match o with
  | .call f xs => match ev e f with
    | .fn g caps => C F g (xs.map (ev e) ++ caps) s K
    | _ => False
  | o => K2 (stepOp (fun _ _ _ => none) o e s) K
def Ws (F : Nat → Option CFunc) : List COper → Env → Mem → (Env → Mem → Prop) → Prop
  | [], e, s, K => K e s
  | o :: r, e, s, K =>
    if wantedA o e = true then
      (if o.up = true then Wp F o.op e { s with floor := s.next } (fun v s' => Ws F r (putO e o.dst v) { s' with floor := s.floor } K)
       else Wp F o.op e (s.hide (hideRows e o.hide)) (fun v s' => Ws F r (putO e o.dst v) (s'.bring s (hideRows e o.hide)) K))
    else Ws F r (putO e o.dst und) s K
theorem Wp_run {o : COp} {e : Env} {s : Mem} {K : AV → Mem → Prop} (h : Wp F o e s K) : ∃ n r s', stepOp (callA (exec F n) F) o e s = some (r, s') ∧ K r s' := by
  by_cases hc : ∃ f xs, o = .call f xs
  · obtain ⟨f, xs, rfl⟩ := hc
    simp only [Wp] at h
    split at h
    · rename_i g caps hg
      obtain ⟨n, r, s', h1, h2⟩ := h
      refine ⟨n, r, s', ?_, h2⟩
      simp only [stepOp, hg]; exact h1
    · exact h.elim
  · have hc' : ∀ f xs, o ≠ .call f xs := fun f xs h => hc ⟨f, xs, h⟩
    have : Wp F o e s K = K2 (stepOp (fun _ _ _ => none) o e s) K := by
      cases o <;> first | rfl | exact absurd rfl (hc' _ _)
    rw [this] at h
    obtain ⟨r, s', h1, h2⟩ := h
    exact ⟨0, r, s', by rw [noCall hc']; exact h1, h2⟩
theorem Ws_run : ∀ (l : List COper) {e : Env} {s : Mem} {K : Env → Mem → Prop}, Ws F l e s K → ∃ n e' s', opsA (callA (exec F n) F) l e s = some (e', s') ∧ K e' s' := by
  intro l
  induction l with
  | nil => intro e s K h; exact ⟨0, e, s, rfl, h⟩
  | cons o l ih =>
    intro e s K h
    simp only [Ws] at h
    have up_ : ∀ {n m : Nat}, n ≤ m → ∀ g a s r, callA (exec F n) F g a s = some r → callA (exec F m) F g a s = some r := fun hnm => callA_mono (fun _ _ h => h) (fun _ _ _ _ hx => exec_mono hnm hx)
    by_cases hw : wantedA o e = true
    · rw [if_pos hw] at h
      by_cases hu : o.up = true
      · rw [if_pos hu] at h
        obtain ⟨n, r, s1, h1, h2⟩ := Wp_run h
        obtain ⟨m, e', s', h3, h4⟩ := ih h2
        refine ⟨max n m, e', s', ?_, h4⟩
        have hs : stepO (callA (exec F (max n m)) F) o e s = some (putO e o.dst r, { s1 with floor := s.floor }) := by
          unfold stepO
          rw [if_pos hw, if_pos hu, stepOp_mono (up_ (Nat.le_max_left n m)) h1]; rfl
        simp only [opsA, hs]
        exact opsA_mono (up_ (Nat.le_max_right n m)) l h3
      · rw [if_neg hu] at h
        obtain ⟨n, r, s1, h1, h2⟩ := Wp_run h
        obtain ⟨m, e', s', h3, h4⟩ := ih h2
        refine ⟨max n m, e', s', ?_, h4⟩
        have hs : stepO (callA (exec F (max n m)) F) o e s = some (putO e o.dst r, s1.bring s (hideRows e o.hide)) := by
          unfold stepO
          rw [if_pos hw, if_neg hu, stepOp_mono (up_ (Nat.le_max_left n m)) h1]; rfl
        simp only [opsA, hs]
        exact opsA_mono (up_ (Nat.le_max_right n m)) l h3
    · rw [if_neg hw] at h
      obtain ⟨m, e', s', h3, h4⟩ := ih h
      refine ⟨m, e', s', ?_, h4⟩
      have hs : stepO (callA (exec F m) F) o e s = some (putO e o.dst und, s) := by
        unfold stepO
        rw [if_neg hw]
      simp only [opsA, hs]
      exact h3
theorem W_mono {c : CCode} {e : Env} {s : Mem} {Q Q' : Ex → Env → Mem → Prop} (h : W F c e s Q) (hq : ∀ x e s, Q x e s → Q' x e s) : W F c e s Q' :=
  let ⟨n, x, e', s', h1, h2⟩ := h; ⟨n, x, e', s', h1, hq _ _ _ h2⟩
theorem C_mono {f : Nat} {a : List AV} {s : Mem} {K K' : AV → Mem → Prop} (h : C F f a s K) (hq : ∀ r s', K r s' → K' r s') : C F f a s K' :=
  let ⟨n, x, s', h1, h2⟩ := h; ⟨n, x, s', h1, hq _ _ h2⟩
theorem W_skip {e : Env} {s : Mem} {Q : Ex → Env → Mem → Prop} (h : Q .normal e s) : W F .skip e s Q := ⟨1, _, _, _, rfl, h⟩
theorem W_exit {id : Nat} {e : Env} {s : Mem} {Q : Ex → Env → Mem → Prop} (h : Q (.exit id) e s) : W F (.exit id) e s Q := ⟨1, _, _, _, rfl, h⟩
theorem W_ret {e : Env} {s : Mem} {Q : Ex → Env → Mem → Prop} (h : Q .ret e s) : W F .ret e s Q := ⟨1, _, _, _, rfl, h⟩
theorem W_region {d : Bool} {ops : List COper} {e : Env} {s : Mem} {Q : Ex → Env → Mem → Prop} (h : Ws F ops e s (Q .normal)) : W F (.region d ops) e s Q := by
  obtain ⟨n, e', s', h1, h2⟩ := Ws_run ops h
  exact ⟨n + 1, .normal, e', s', by simp [exec, h1], h2⟩
def Seq (F : Nat → Option CFunc) (b : CCode) (Q : Ex → Env → Mem → Prop) : Ex → Env → Mem → Prop
  | .normal, e, s => W F b e s Q
  | x, e, s => Q x e s
theorem Seq_normal (b : CCode) (Q : Ex → Env → Mem → Prop) (e : Env) (s : Mem) : Seq F b Q .normal e s = W F b e s Q := rfl
theorem Seq_exit (b : CCode) (Q : Ex → Env → Mem → Prop) (e : Env) (s : Mem) (id : Nat) : Seq F b Q (.exit id) e s = Q (.exit id) e s := rfl
theorem Seq_ret (b : CCode) (Q : Ex → Env → Mem → Prop) (e : Env) (s : Mem) : Seq F b Q .ret e s = Q .ret e s := rfl
theorem W_seq {a b : CCode} {e : Env} {s : Mem} {Q : Ex → Env → Mem → Prop} (h : W F a e s (Seq F b Q)) : W F (.seq a b) e s Q := by
  obtain ⟨n, x, e', s', h1, h2⟩ := h
  cases x with
  | normal =>
    obtain ⟨m, y, e2, s2, h3, h4⟩ := h2
    refine ⟨max n m + 1, y, e2, s2, ?_, h4⟩
    simp only [exec, exec_mono (Nat.le_max_left n m) h1, exec_mono (Nat.le_max_right n m) h3]
  | exit id => exact ⟨n + 1, _, e', s', by simp only [exec, h1], h2⟩
  | ret => exact ⟨n + 1, _, e', s', by simp only [exec, h1], h2⟩
def asB (v : AV) (K : Bool → Prop) : Prop := match v with | .bool b => K b | _ => False
theorem W_cond {x : Opd} {a b : CCode} {e : Env} {s : Mem} {Q : Ex → Env → Mem → Prop} (h : asB (ev e x) fun t => if t = true then W F a e s Q else W F b e s Q) : W F (.cond x a b) e s Q := by
  unfold asB at h
  split at h
  · rename_i t ht
    cases t with
    | true =>
      rw [if_pos rfl] at h
      obtain ⟨n, y, e', s', h1, h2⟩ := h
      exact ⟨n + 1, y, e', s', by simp only [exec, ht, h1], h2⟩
    | false =>
      rw [if_neg (by simp)] at h
      obtain ⟨n, y, e', s', h1, h2⟩ := h
      exact ⟨n + 1, y, e', s', by simp only [exec, ht, h1], h2⟩
  · exact h.elim
def Blk (id : Nat) (Q : Ex → Env → Mem → Prop) : Ex → Env → Mem → Prop
  | .exit j, e, s => if j = id then Q .normal e s else Q (.exit j) e s
  | x, e, s => Q x e s
theorem Blk_normal (id : Nat) (Q : Ex → Env → Mem → Prop) (e : Env) (s : Mem) : Blk id Q .normal e s = Q .normal e s := rfl
theorem Blk_exit (id j : Nat) (Q : Ex → Env → Mem → Prop) (e : Env) (s : Mem) : Blk id Q (.exit j) e s = if j = id then Q .normal e s else Q (.exit j) e s := rfl
theorem Blk_ret (id : Nat) (Q : Ex → Env → Mem → Prop) (e : Env) (s : Mem) : Blk id Q .ret e s = Q .ret e s := rfl
theorem W_block {id : Nat} {b : CCode} {e : Env} {s : Mem} {Q : Ex → Env → Mem → Prop} (h : W F b e s (Blk id Q)) : W F (.block id b) e s Q := by
  obtain ⟨n, x, e', s', h1, h2⟩ := h
  cases x with
  | normal => exact ⟨n + 1, _, e', s', by simp only [exec, h1], h2⟩
  | exit j =>
    rw [Blk_exit] at h2
    by_cases hj : j = id
    · rw [if_pos hj] at h2
      exact ⟨n + 1, .normal, e', s', by simp only [exec, h1, if_pos hj], h2⟩
    · rw [if_neg hj] at h2
      exact ⟨n + 1, .exit j, e', s', by simp only [exec, h1, if_neg hj], h2⟩
  | ret => exact ⟨n + 1, _, e', s', by simp only [exec, h1], h2⟩
theorem W_loop {b : CCode} {e : Env} {s : Mem} {Q : Ex → Env → Mem → Prop} (h : W F b e s (Seq F (.loop b) Q)) : W F (.loop b) e s Q := by
  obtain ⟨n, x, e', s', h1, h2⟩ := h
  cases x with
  | normal =>
    obtain ⟨m, y, e2, s2, h3, h4⟩ := h2
    refine ⟨max n m + 1, y, e2, s2, ?_, h4⟩
    simp only [exec, exec_mono (Nat.le_max_left n m) h1, exec_mono (Nat.le_max_right n m) h3]
  | exit id => exact ⟨n + 1, _, e', s', by simp only [exec, h1], h2⟩
  | ret => exact ⟨n + 1, _, e', s', by simp only [exec, h1], h2⟩
def RK (rs : List CRes) (K : AV → Mem → Prop) : Ex → Env → Mem → Prop
  | .exit _, _, _ => False
  | _, e, s => K2 ((resultsA s e rs).map fun v => (v, s)) K
theorem RK_normal (rs : List CRes) (K : AV → Mem → Prop) (e : Env) (s : Mem) : RK rs K .normal e s = K2 ((resultsA s e rs).map fun v => (v, s)) K := rfl
theorem RK_ret (rs : List CRes) (K : AV → Mem → Prop) (e : Env) (s : Mem) : RK rs K .ret e s = K2 ((resultsA s e rs).map fun v => (v, s)) K := rfl
theorem C_enter {f : Nat} {cf : CFunc} {a : List AV} {s : Mem} {K : AV → Mem → Prop} (hf : F f = some cf) (ha : a.length ≤ cf.ntmps) (h : W F cf.body (Env.start a) s (RK cf.res K)) (hi : (cf.iso && a.isEmpty) = false := by rfl) (hp : cf.prim = none := by rfl) : C F f a s K := by
  have hi' : (isoF F f && a.isEmpty) = false := by simp only [isoF, hf]; exact hi
  have hp' : primF F f = none := by simp only [primF, hf]; exact hp
  obtain ⟨n, x, e', s', h1, h2⟩ := h
  cases x with
  | normal =>
    obtain ⟨r, s2, h3, h4⟩ := h2
    exact ⟨n, r, s2, by simp only [run, callA, hi', Bool.false_eq_true, if_false, callB, hp', callC, hf, if_pos (And.intro ha hp), h1]; exact h3, h4⟩
  | exit id => exact h2.elim
  | ret =>
    obtain ⟨r, s2, h3, h4⟩ := h2
    exact ⟨n, r, s2, by simp only [run, callA, hi', Bool.false_eq_true, if_false, callB, hp', callC, hf, if_pos (And.intro ha hp), h1]; exact h3, h4⟩
theorem C_prim {f : Nat} {p : Pk} {cf : CFunc} {a : List AV} {s s' : Mem} {r : AV} {K : AV → Mem → Prop} (hf : F f = some cf) (hp : cf.prim = some p) (hb : ∀ g, p ≠ .back g) (hi : cf.iso = false) (h : primA p a s = some (r, s')) (hK : K r s') : C F f a s K := by
  refine ⟨0, r, s', ?_, hK⟩
  have e1 : isoF F f = false := by simp only [isoF, hf]; exact hi
  have e3 : primF F f = some p := by simp only [primF, hf]; exact hp
  simp only [run, callA, e1, Bool.false_and, Bool.false_eq_true, if_false, callB, e3]
  cases p <;> first | exact absurd rfl (hb _) | exact h
theorem run_iso {f n : Nat} {cf : CFunc} {v : AV} {s s0 s' : Mem} (hf : F f = some cf) (hi : cf.iso = true) (h : run F n f [] s0 = some (v, s')) : run F n f [] s = some (v, s) := by
  unfold run callA at h ⊢
  have hc : (isoF F f && ([] : List AV).isEmpty) = true := by simp only [isoF, hf, hi]; rfl
  rw [if_pos hc] at h ⊢
  split at h
  · split at h
    · rename_i hp
      obtain ⟨rfl, _⟩ := Prod.mk.inj (Option.some.inj h)
      simp only [hp, if_true]
    · cases h
  · cases h
theorem C_iso {f n : Nat} {cf : CFunc} {v : AV} {s s0 s' : Mem} {K : AV → Mem → Prop} (hf : F f = some cf) (hi : cf.iso = true) (h : run F n f [] s0 = some (v, s')) (hK : K v s) : C F f [] s K := ⟨n, v, s, run_iso hf hi h, hK⟩
def Cs (c : Bool) (A B : Prop) : Prop := if c = true then A else B
theorem Cs_intro {c : Bool} {A B : Prop} (h1 : c = true → A) (h0 : c = false → B) : Cs c A B := by
  cases c
  · exact h0 rfl
  · exact h1 rfl
theorem Cs_true (A B : Prop) : Cs true A B = A := by simp [Cs]
theorem Cs_false (A B : Prop) : Cs false A B = B := by simp [Cs]
theorem asB_bool (b : Bool) (K : Bool → Prop) : asB (.bool b) K = K b := rfl
theorem W_if {x : Opd} {a b : CCode} {e : Env} {s : Mem} {Q : Ex → Env → Mem → Prop} (h : asB (ev e x) fun t => Cs t (W F a e s Q) (W F b e s Q)) : W F (.cond x a b) e s Q := W_cond h
theorem Ws_nil (e : Env) (s : Mem) (K : Env → Mem → Prop) : Ws F [] e s K = K e s := rfl
theorem Ws_op (d : Option Nat) (o : COp) (r : List COper) (e : Env) (s : Mem) (K : Env → Mem → Prop) : Ws F (⟨d, o, none, false, []⟩ :: r) e s K = Wp F o e s (fun v s' => Ws F r (putO e d v) s' K) := by simp [Ws, wantedA, hideRows, Mem.hide, Mem.bring]
theorem Ws_hide (d : Option Nat) (o : COp) (x : Opd) (xs : List Opd) (r : List COper) (e : Env) (s : Mem) (K : Env → Mem → Prop) : Ws F (⟨d, o, none, false, x :: xs⟩ :: r) e s K = Wp F o e (s.hide (hideRows e (x :: xs))) (fun v s' => Ws F r (putO e d v) (s'.bring s (hideRows e (x :: xs))) K) := by simp [Ws, wantedA]
def hr1 : Option Nat → List Nat → List Nat
  | some r, l => r :: l
  | none, l => l
theorem hr_nil (e : Env) : hideRows e [] = [] := id rfl
theorem hr_cons (e : Env) (x : Opd) (xs : List Opd) : hideRows e (x :: xs) = hr1 (rowOf (ev e x)) (hideRows e xs) := by
  simp only [hideRows, hr1]
  cases rowOf (ev e x) <;> rfl
theorem hr1_some (r : Nat) (l : List Nat) : hr1 (some r) l = r :: l := id rfl
theorem hr1_none (l : List Nat) : hr1 none l = l := id rfl
theorem row_ptr (r i o : Nat) : rowOf (.ptr r i o) = some r := id rfl
theorem row_own (r i n z : Nat) : rowOf (.own r i n z) = some r := id rfl
theorem row_ref (cs : List AV) : rowOf (.ref cs) = none := id rfl
theorem row_tup (cs : List AV) : rowOf (.tup cs) = none := id rfl
theorem hide_nil (s : Mem) : s.hide [] = s := id rfl
theorem hide_cons (s : Mem) (r : Nat) (rs : List Nat) : s.hide (r :: rs) = (s.put r none).hide rs := id rfl
theorem bring_nil (s' s : Mem) : s'.bring s [] = s' := id rfl
theorem bring_cons (s' s : Mem) (r : Nat) (rs : List Nat) : s'.bring s (r :: rs) = (s'.bring s rs).put r (s.get r) := id rfl
theorem Ws_up (d : Option Nat) (o : COp) (h : List Opd) (r : List COper) (e : Env) (s : Mem) (K : Env → Mem → Prop) : Ws F (⟨d, o, none, true, h⟩ :: r) e s K = Wp F o e (s.at s.next) (fun v s' => Ws F r (putO e d v) (s'.at s.floor) K) := by simp [Ws, wantedA, Mem.at]
theorem mat_push (s : Mem) (x : Row) (f : Nat) : (s.push x).at f = (s.at f).push x := id rfl
theorem mat_put (s : Mem) (r : Nat) (x : Option Row) (f : Nat) : (s.put r x).at f = (s.at f).put r x := id rfl
theorem mat_at (s : Mem) (f g : Nat) : (s.at f).at g = s.at g := id rfl
theorem mat_self (s : Mem) : s.at s.floor = s := id rfl
theorem mat_get (s : Mem) (f r : Nat) : (s.at f).get r = s.get r := id rfl
theorem mat_next (s : Mem) (f : Nat) : (s.at f).next = s.next := id rfl
theorem mat_floor (s : Mem) (f : Nat) : (s.at f).floor = f := id rfl
theorem mat_load (s : Mem) (f : Nat) (agg : Bool) (sz : Nat) (v : AV) : loadA (s.at f) agg sz v = loadA s agg sz v := by cases v <;> rfl
theorem mat_read (s : Mem) (f : Nat) (v : AV) : readAll (s.at f) v = readAll s v := by cases v <;> rfl
def asG (v : AV) (b : Bool) (Y N : Prop) : Prop := match v with
  | .bool c => Cs c (if b = true then Y else N) (if b = true then N else Y)
  | _ => N
theorem asG_bool (c b : Bool) (Y N : Prop) : asG (.bool c) b Y N = Cs c (if b = true then Y else N) (if b = true then N else Y) := rfl
theorem asG_und (b : Bool) (Y N : Prop) : asG und b Y N = N := rfl
theorem Wp_call (f : Opd) (xs : List Opd) (e : Env) (s : Mem) (K : AV → Mem → Prop) : Wp F (.call f xs) e s K = match ev e f with
    | .fn g caps => C F g (xs.map (ev e) ++ caps) s K
    | _ => False := rfl
def P1 (x : Option AV) (s : Mem) (K : AV → Mem → Prop) : Prop := ∃ v, x = some v ∧ K v s
theorem P1_some (v : AV) (s : Mem) (K : AV → Mem → Prop) : P1 (some v) s K ↔ K v s := by
  constructor
  · rintro ⟨_, h, k⟩; obtain rfl := Option.some.inj h; exact k
  · intro h; exact ⟨v, rfl, h⟩
theorem P1_K2 (x : Option AV) (s : Mem) (K : AV → Mem → Prop) : K2 (x.map fun v => (v, s)) K ↔ P1 x s K := by
  cases x with
  | none => rw [Option.map_none, K2_none]; exact ⟨False.elim, fun ⟨_, h, _⟩ => by cases h⟩
  | some v => rw [Option.map_some, K2_some, P1_some]
def ibinA (op : BinOp) : AV → AV → Option AV
  | .int k a, .int j b => intOp op k a j b
  | _, _ => none
def sbinA (op : BinOp) : AV → AV → Option AV
  | .str a, .str b => strOp op a b
  | _, _ => none
def unA (op : UnOp) : AV → Option AV
  | .int k n => match op with
    | .neg => some (.int k (k.wrap (0 - n)))
    | .xor => some (.int k (k.wrap (BitVec.ofInt k.bits (if k.signed then -1 else k.max) ^^^ BitVec.ofInt k.bits n).toNat))
    | _ => none
  | .bool b => match op with
    | .not => some (.bool (!b))
    | _ => none
  | _ => none
def convA (k : IntKind) : AV → Option AV
  | .int _ n => some (.int k (k.wrap n))
  | _ => none
def strA (s : Mem) (v : AV) : Option AV := (readAll s v).bind fun es => (es.mapM byteOf).map .str
def sameA : AV → Option AV
  | .str b => some (.str b)
  | _ => none
def nilA : AV → Option AV
  | .ptr r i o => some (.ptr r i o)
  | .ref cs => some (.ref cs)
  | .fn f cs => some (.fn f cs)
  | _ => none
def addrA (off : Nat) : AV → Option AV
  | .ptr r i o => some (.ptr r i (o + off))
  | .ref cs => some (.ref (cs.drop off))
  | _ => none
def fieldA (agg : Bool) (off sz : Nat) : AV → Option AV
  | .agg cs => (slice1 cs off sz).bind (pickCells agg)
  | _ => none
def atA (sz : Nat) (x i : AV) : Option AV :=
  match i with
  | .int _ k => (toNat? k).bind fun j => match x with
    | .sl xs => xs[j]?.bind fun cs => if cs.length = sz then some (.ref cs) else none
    | .own r i n z => if j < n ∧ z = sz then some (.ptr r (i + j) 0) else none
    | _ => none
  | _ => none
def atTA (x i : AV) : Option AV :=
  match x, i with
  | .str b, .int _ k => (toNat? k).bind fun j => b[j]?.map fun c => .int .u8 c.toNat
  | _, _ => none
def extA (n : Nat) : AV → Option AV
  | .tup vs => vs[n]?
  | _ => none
def cutA (sz : Nat) (x : AV) (l h : Option Nat) : Option AV :=
  match x with
  | .nilS => if l.getD 0 = 0 ∧ h.getD 0 = 0 then some .nilS else none
  | .emp => if l.getD 0 = 0 ∧ h.getD 0 = 0 then some .emp else none
  | .sl xs => if l.getD 0 ≤ h.getD xs.length ∧ h.getD xs.length ≤ xs.length ∧ uni sz xs = true then some (.sl ((xs.take (h.getD xs.length)).drop (l.getD 0))) else none
  | .own r i n z => if l.getD 0 ≤ h.getD n ∧ h.getD n ≤ n ∧ z = sz then some (.own r (i + l.getD 0) (h.getD n - l.getD 0) z) else none
  | _ => none
def cutTA (x : AV) (l h : Option Nat) : Option AV :=
  match x with
  | .str b => if l.getD 0 ≤ h.getD b.length ∧ h.getD b.length ≤ b.length then some (.str ((b.take (h.getD b.length)).drop (l.getD 0))) else none
  | _ => none
def bdA (e : Env) (x : Option Opd) (K : Option Nat → Prop) : Prop :=
  match x with
  | none => K none
  | some x => match ev e x with
    | .int _ n => match toNat? n with
      | some j => K (some j)
      | none => False
    | _ => False
theorem bdA_bind (e : Env) (x : Option Opd) (G : Option Nat → Option (AV × Mem)) (K : AV → Mem → Prop) : K2 ((boundA e x).bind G) K ↔ bdA e x fun j => K2 (G j) K := by
  cases x with
  | none => rfl
  | some x =>
    simp only [boundA, bdA]
    cases ev e x <;> simp only [Option.bind_none, K2_none]
    rename_i k n
    cases toNat? n with
    | none => simp [K2_none]
    | some j => simp
theorem bdA_none (e : Env) (K : Option Nat → Prop) : bdA e none K = K none := rfl
section
variable (e : Env) (s : Mem) (K : AV → Mem → Prop)
theorem Wp_mv (x : Opd) : Wp F (.mv x) e s K ↔ K (ev e x) s := K2_some _ _ _
theorem Wp_pick (c a b : Opd) : Wp F (.pick c a b) e s K ↔ asB (ev e c) fun t => K (if t then ev e a else ev e b) s := by
  show K2 (match ev e c with | .bool t => some (if t then ev e a else ev e b, s) | _ => none) K ↔ _
  cases ev e c <;> simp [K2_some, K2_none, asB]
theorem Wp_new (ty : Nat) (cs : List AV) : Wp F (.new ty cs) e s K ↔ K (.ptr s.next 0 0) (s.push ⟨ty, cs.length, [cs]⟩) := K2_some _ _ _
theorem Wp_box (ty : Nat) (x : Opd) : Wp F (.box ty x) e s K ↔ (cells (ev e x)).all isCell = true ∧ K (.ptr s.next 0 0) (s.push ⟨ty, (cells (ev e x)).length, [cells (ev e x)]⟩) := by
  show K2 (if _ then _ else _) K ↔ _
  rw [K2_ite, K2_some]
theorem Wp_build (z : List AV) (ps : List (Nat × Nat × Opd)) : Wp F (.build z ps) e s K ↔ P1 ((fillParts e ps z).map .agg) s K := by
  rw [← P1_K2, Option.map_map]; rfl
theorem Wp_lit (ty sz : Nat) (z : List AV) (len : Nat) (ps : List (Nat × Opd)) : Wp F (.lit ty sz z len ps) e s K ↔ K2 ((fillLit sz e ps (List.replicate len z)).map fun es => (litV s.next len sz, s.push ⟨ty, sz, es⟩)) K := Iff.rfl
theorem litV_zero (r sz : Nat) : litV r 0 sz = .emp := id rfl
theorem litV_succ (r n sz : Nat) : litV r (n + 1) sz = .own r 0 (n + 1) sz := id rfl
theorem Wp_load (agg : Bool) (sz : Nat) (x : Opd) : Wp F (.load agg sz x) e s K ↔ P1 (loadA s agg sz (ev e x)) s K := P1_K2 _ _ _
theorem Wp_store (sz : Nat) (x y : Opd) : Wp F (.store sz x y) e s K ↔ K2 ((storeA s sz (ev e x) (ev e y)).map fun s' => (und, s')) K := Iff.rfl
theorem Wp_nilCheck (x : Opd) : Wp F (.nilCheck x) e s K ↔ P1 (nilA (ev e x)) s K := by
  rw [← P1_K2]; show K2 (match ev e x with | .ptr r i o => some (.ptr r i o, s) | .ref cs => some (.ref cs, s) | .fn f cs => some (.fn f cs, s) | _ => none) K ↔ _
  cases ev e x <;> rfl
theorem Wp_ibin (op : BinOp) (x y : Opd) : Wp F (.ibin op x y) e s K ↔ P1 (ibinA op (ev e x) (ev e y)) s K := by
  rw [← P1_K2]; show K2 (match ev e x, ev e y with | .int k a, .int j b => (intOp op k a j b).map fun v => (v, s) | _, _ => none) K ↔ _
  cases ev e x <;> cases ev e y <;> rfl
theorem Wp_sbin (op : BinOp) (x y : Opd) : Wp F (.sbin op x y) e s K ↔ P1 (sbinA op (ev e x) (ev e y)) s K := by
  rw [← P1_K2]; show K2 (match ev e x, ev e y with | .str a, .str b => (strOp op a b).map fun v => (v, s) | _, _ => none) K ↔ _
  cases ev e x <;> cases ev e y <;> rfl
theorem Wp_beq (neg : Bool) (k : EK) (x y : Opd) : Wp F (.beq neg k x y) e s K ↔ P1 ((eqA k (ev e x) (ev e y)).map fun b => .bool (if neg then !b else b)) s K := by
  rw [← P1_K2, Option.map_map]; rfl
theorem Wp_un (op : UnOp) (x : Opd) : Wp F (.un op x) e s K ↔ P1 (unA op (ev e x)) s K := by
  rw [← P1_K2]
  simp only [Wp, stepOp]
  cases op <;> cases ev e x <;> rfl
theorem Wp_conv (k : IntKind) (x : Opd) : Wp F (.conv k x) e s K ↔ P1 (convA k (ev e x)) s K := by
  rw [← P1_K2]; simp only [Wp, stepOp]
  cases ev e x <;> rfl
theorem mat_str (s : Mem) (f : Nat) (v : AV) : strA (s.at f) v = strA s v := by simp only [strA, mat_read]
theorem Wp_toStr (x : Opd) : Wp F (.toStr x) e s K ↔ P1 (strA s (ev e x)) s K := by
  rw [← P1_K2]; simp only [Wp, stepOp, Option.bind_eq_bind, strA]
  cases readAll s (ev e x) with
  | none => rfl
  | some es => simp only [Option.bind_some]; cases es.mapM byteOf <;> rfl
theorem Wp_same (x : Opd) : Wp F (.same x) e s K ↔ P1 (sameA (ev e x)) s K := by
  rw [← P1_K2]; simp only [Wp, stepOp]
  cases ev e x <;> rfl
theorem Wp_ifc (t : Nat) (x : Opd) : Wp F (.ifc t x) e s K ↔ K (.ifc t (ev e x)) s := K2_some _ _ _
theorem Wp_fn (f : Nat) (xs : List Opd) : Wp F (.fn f xs) e s K ↔ K (.fn f (xs.map (ev e))) s := K2_some _ _ _
theorem Wp_cutS (sz : Nat) (x : Opd) (l h : Option Opd) : Wp F (.cutS sz x l h) e s K ↔ bdA e l fun l => bdA e h fun h => P1 (cutA sz (ev e x) l h) s K := by
  simp only [Wp, stepOp, Option.bind_eq_bind]
  rw [bdA_bind]
  refine iff_of_eq (congrArg (bdA e l) (funext fun l => propext ?_))
  rw [bdA_bind]
  refine iff_of_eq (congrArg (bdA e h) (funext fun h => propext ?_))
  rw [← P1_K2]
  unfold cutA
  cases ev e x <;> simp only [Option.map_none]
  all_goals (split <;> rfl)
theorem Wp_cutT (x : Opd) (l h : Option Opd) : Wp F (.cutT x l h) e s K ↔ bdA e l fun l => bdA e h fun h => P1 (cutTA (ev e x) l h) s K := by
  simp only [Wp, stepOp, Option.bind_eq_bind]
  rw [bdA_bind]
  refine iff_of_eq (congrArg (bdA e l) (funext fun l => propext ?_))
  rw [bdA_bind]
  refine iff_of_eq (congrArg (bdA e h) (funext fun h => propext ?_))
  rw [← P1_K2]
  unfold cutTA
  cases ev e x <;> simp only [Option.map_none]
  all_goals (split <;> rfl)
theorem Wp_cut3 (x h k : Opd) : Wp F (.cut3 x h k) e s K ↔ P1 (cut3A (ev e x) (ev e h) (ev e k)) s K := P1_K2 _ _ _
theorem Wp_fieldAddr (off : Nat) (x : Opd) : Wp F (.fieldAddr off x) e s K ↔ P1 (addrA off (ev e x)) s K := by
  rw [← P1_K2]; simp only [Wp, stepOp]
  cases ev e x <;> rfl
theorem Wp_field (agg : Bool) (off sz : Nat) (x : Opd) : Wp F (.field agg off sz x) e s K ↔ P1 (fieldA agg off sz (ev e x)) s K := by
  rw [← P1_K2]; simp only [Wp, stepOp, Option.bind_eq_bind]
  cases ev e x <;> first | rfl | skip
  rename_i cs
  simp only [fieldA]
  cases slice1 cs off sz with
  | none => rfl
  | some l => simp only [Option.bind_some]; cases pickCells agg l <;> rfl
theorem Wp_at (sz : Nat) (x i : Opd) : Wp F (.at_ sz x i) e s K ↔ P1 (atA sz (ev e x) (ev e i)) s K := by
  rw [← P1_K2]; simp only [Wp, stepOp, Option.bind_eq_bind, atA]
  cases ev e i <;> first | rfl | skip
  rename_i k n
  simp only
  cases toNat? n with
  | none => rfl
  | some j =>
    simp only [Option.bind_some]
    cases ev e x <;> first | rfl | skip
    · rename_i xs
      simp only
      cases xs[j]? with
      | none => rfl
      | some c => simp only [Option.bind_some]; split <;> rfl
    · simp only; split <;> rfl
theorem Wp_atT (x i : Opd) : Wp F (.atT x i) e s K ↔ P1 (atTA (ev e x) (ev e i)) s K := by
  rw [← P1_K2]; simp only [Wp, stepOp, Option.bind_eq_bind, atTA]
  cases ev e x <;> cases ev e i <;> first | rfl | skip
  rename_i b k n
  simp only
  cases toNat? n with
  | none => rfl
  | some j =>
    simp only [Option.bind_some]
    cases b[j]? <;> rfl
theorem Wp_ixA (g : Bool) (sz n : Nat) (x i : Opd) : Wp F (.ixA g sz n x i) e s K ↔ P1 (ixV g sz n (ev e x) (ev e i)) s K := P1_K2 _ _ _
theorem Wp_atP (sz n : Nat) (x i : Opd) : Wp F (.atP sz n x i) e s K ↔ P1 (atV sz n (ev e x) (ev e i)) s K := P1_K2 _ _ _
theorem Wp_ext (x : Opd) (n : Nat) : Wp F (.ext x n) e s K ↔ P1 (extA n (ev e x)) s K := by
  rw [← P1_K2]; simp only [Wp, stepOp]
  cases ev e x <;> rfl
theorem Wp_len (b : Bool) (x : Opd) : Wp F (.len b x) e s K ↔ P1 ((lenA b (ev e x)).map fun (n : Nat) => AV.int .i64 (n : Int)) s K := by
  rw [← P1_K2, Option.map_map]; rfl
theorem Wp_app (ty sz bytes : Nat) (x y : Opd) : Wp F (.app ty sz bytes x y) e s K ↔ K2 (stepOp (fun _ _ _ => none) (.app ty sz bytes x y) e s) K := Iff.rfl
theorem Wp_mkMap (ty : Nat) : Wp F (.mkMap ty) e s K ↔ K (.mapv s.next) (s.push ⟨ty, 0, []⟩) := K2_some _ _ _
theorem Wp_mapPut (ks : List LK) (g : Bool) (x y z : Opd) : Wp F (.mapPut ks g x y z) e s K ↔ K2 ((mapPutA s ks g (ev e x) (ev e y) (ev e z)).map fun s' => (und, s')) K := Iff.rfl
theorem Wp_mapGet (ks : List LK) (g : Bool) (z : AV) (ok : Bool) (x y : Opd) : Wp F (.mapGet ks g z ok x y) e s K ↔ P1 ((mapGetA s ks g z (ev e x) (ev e y)).map fun p => if ok then .tup [p.1, .bool p.2] else p.1) s K := by
  rw [← P1_K2, Option.map_map]; rfl
theorem Wp_lenM (x : Opd) : Wp F (.lenM x) e s K ↔ P1 ((lenMA s (ev e x)).map fun (n : Nat) => AV.int .i64 (n : Int)) s K := by
  rw [← P1_K2, Option.map_map]; rfl
theorem Wp_cap (x : Opd) : Wp F (.cap x) e s K ↔ P1 ((capA (ev e x)).map fun (n : Nat) => AV.int .i64 (n : Int)) s K := by
  rw [← P1_K2, Option.map_map]; rfl
theorem Wp_appZ (ty sz bytes : Nat) (z : List AV) (x n : Opd) : Wp F (.appZ ty sz bytes z x n) e s K ↔ K2 (stepOp (fun _ _ _ => none) (.appZ ty sz bytes z x n) e s) K := Iff.rfl
theorem Wp_clr (sz : Nat) (z : List AV) (x : Opd) : Wp F (.clr sz z x) e s K ↔ K2 ((clrA s sz z (ev e x)).map fun s' => (und, s')) K := Iff.rfl
theorem Wp_mnmx (mx : Bool) (xs : List Opd) : Wp F (.mnmx mx xs) e s K ↔ K2 (stepOp (fun _ _ _ => none) (.mnmx mx xs) e s) K := Iff.rfl
end
def gv (x : Bool) (v : AV) : AV := if x = true then v else und
theorem gv_true (v : AV) : gv true v = v := id rfl
theorem gv_false (v : AV) : gv false v = und := id rfl
def wB (v : AV) (b : Bool) : Bool := match v with
  | .bool c => c == b
  | _ => false
theorem wB_t (c : Bool) : wB (.bool c) true = c := by cases c <;> rfl
theorem wB_f (c : Bool) : wB (.bool c) false = !c := by cases c <;> rfl
theorem wB_gt (x c : Bool) : wB (gv x (.bool c)) true = (x && c) := by cases x <;> cases c <;> rfl
theorem wB_gf (x c : Bool) : wB (gv x (.bool c)) false = (x && !c) := by cases x <;> cases c <;> rfl
theorem wB_und (b : Bool) : wB und b = false := id rfl
def pk (c : Bool) (a b : AV) : AV := if c = true then a else b
theorem pk_true (a b : AV) : pk true a b = a := id rfl
theorem pk_false (a b : AV) : pk false a b = b := id rfl
theorem pk_and (c d : Bool) : pk c (gv c (.bool d)) (.bool false) = .bool (c && d) := by cases c <;> rfl
theorem pk_or (c d : Bool) : pk c (.bool true) (gv (!c) (.bool d)) = .bool (c || d) := by cases c <;> rfl
theorem pk_and' (c d : Bool) : pk c (.bool d) (.bool false) = .bool (c && d) := by cases c <;> rfl
theorem pk_or' (c d : Bool) : pk c (.bool true) (.bool d) = .bool (c || d) := by cases c <;> rfl
def GW (F : Nat → Option CFunc) (x : Bool) (d : Option Nat) (o : COp) (up : Bool) (hd : List Opd) (r : List COper) (e : Env) (s : Mem) (K : Env → Mem → Prop) : Prop :=
  if x = true then Ws F (⟨d, o, none, up, hd⟩ :: r) e s K else Ws F r (putO e d und) s K
section
variable {d : Option Nat} {o : COp} {t : Nat} {b up x : Bool} {hd : List Opd} {r : List COper} {e : Env} {s : Mem} {K : Env → Mem → Prop} {v : AV}
theorem Ws_gd (h : GW F (wB (e.get t) b) d o up hd r e s K) : Ws F (⟨d, o, some (t, b), up, hd⟩ :: r) e s K := by
  have e1 : wantedA ⟨d, o, some (t, b), up, hd⟩ e = wB (e.get t) b := by
    simp only [wantedA, wB]
    cases e.get t <;> rfl
  have e2 : wantedA ⟨d, o, none, up, hd⟩ e = true := rfl
  unfold GW at h
  cases hx : wB (e.get t) b with
  | true =>
    rw [hx, if_pos rfl] at h
    simp only [Ws, e1, e2, hx, if_true] at h ⊢
    exact h
  | false =>
    rw [hx] at h
    simp only [Ws, e1, hx]
    simpa using h
theorem GW_true : GW F true d o up hd r e s K = Ws F (⟨d, o, none, up, hd⟩ :: r) e s K := id rfl
theorem GW_false : GW F false d o up hd r e s K = Ws F r (putO e d und) s K := id rfl
theorem Wp_mono {K K' : AV → Mem → Prop} (h : Wp F o e s K) (hk : ∀ v s', K v s' → K' v s') : Wp F o e s K' := by
  by_cases hc : ∃ f xs, o = .call f xs
  · obtain ⟨f, xs, rfl⟩ := hc
    rw [Wp_call] at h ⊢
    split at h
    · exact C_mono h hk
    · exact h
  · have hn : ∀ f xs, o ≠ .call f xs := fun f xs h => hc ⟨f, xs, h⟩
    have e1 : ∀ K, Wp F o e s K = K2 (stepOp (fun _ _ _ => none) o e s) K := by
      intro K
      cases o <;> first | rfl | exact absurd rfl (hn _ _)
    rw [e1] at h ⊢
    obtain ⟨r, s', h1, h2⟩ := h
    exact ⟨r, s', h1, hk _ _ h2⟩
theorem GW_up (hv : x = true → Wp F o e (s.at s.next) (fun v' s' => v' = v ∧ s' = s.at s.next)) (h : Ws F r (putO e d (gv x v)) s K) : GW F x d o true hd r e s K := by
  cases x with
  | false => rw [GW_false]; exact h
  | true =>
    rw [GW_true, Ws_up]
    refine Wp_mono (hv rfl) ?_
    rintro v' s' ⟨rfl, rfl⟩
    exact h
theorem GW_op (hv : x = true → Wp F o e s (fun v' s' => v' = v ∧ s' = s)) (h : Ws F r (putO e d (gv x v)) s K) : GW F x d o false [] r e s K := by
  cases x with
  | false => rw [GW_false]; exact h
  | true =>
    rw [GW_true, Ws_op]
    refine Wp_mono (hv rfl) ?_
    rintro v' s' ⟨rfl, rfl⟩
    exact h
theorem GW_cs (h : Cs x (Ws F (⟨d, o, none, up, hd⟩ :: r) e s K) (Ws F r (putO e d und) s K)) : GW F x d o up hd r e s K := h
end
theorem Wp_pk (c a b : Opd) (e : Env) (s : Mem) (K : AV → Mem → Prop) : Wp F (.pick c a b) e s K ↔ asB (ev e c) fun t => K (pk t (ev e a) (ev e b)) s := Wp_pick e s K c a b
theorem st_eql (a b : List UInt8) : strOp .eql a b = some (.bool (a == b)) := id rfl
theorem st_neq (a b : List UInt8) : strOp .neq a b = some (.bool (!(a == b))) := id rfl
theorem st_lss (a b : List UInt8) : strOp .lss a b = some (.bool (Op.bytesLess a b)) := id rfl
theorem st_leq (a b : List UInt8) : strOp .leq a b = some (.bool (Op.bytesLess a b || a == b)) := id rfl
theorem st_gtr (a b : List UInt8) : strOp .gtr a b = some (.bool (!(Op.bytesLess a b || a == b))) := id rfl
theorem st_geq (a b : List UInt8) : strOp .geq a b = some (.bool (!(Op.bytesLess a b))) := id rfl
theorem ibinA_int (op : BinOp) (k j : IntKind) (a b : Int) : ibinA op (.int k a) (.int j b) = intOp op k a j b := rfl
theorem sbinA_str (op : BinOp) (a b : List UInt8) : sbinA op (.str a) (.str b) = strOp op a b := rfl
theorem unA_not (b : Bool) : unA .not (.bool b) = some (.bool (!b)) := rfl
theorem unA_neg (k : IntKind) (n : Int) : unA .neg (.int k n) = some (.int k (k.wrap (0 - n))) := rfl
theorem convA_int (k j : IntKind) (n : Int) : convA k (.int j n) = some (.int k (k.wrap n)) := rfl
theorem sameA_str (b : List UInt8) : sameA (.str b) = some (.str b) := rfl
theorem nilA_ptr (r i o : Nat) : nilA (.ptr r i o) = some (.ptr r i o) := rfl
theorem nilA_ref (cs : List AV) : nilA (.ref cs) = some (.ref cs) := rfl
theorem nilA_fn (f : Nat) (cs : List AV) : nilA (.fn f cs) = some (.fn f cs) := rfl
theorem addrA_ptr (off r i o : Nat) : addrA off (.ptr r i o) = some (.ptr r i (o + off)) := rfl
theorem addrA_ref (off : Nat) (cs : List AV) : addrA off (.ref cs) = some (.ref (cs.drop off)) := rfl
theorem lenA_nil : lenA false .nilS = some 0 := rfl
theorem lenA_emp : lenA false .emp = some 0 := rfl
theorem lenA_sl (xs : List (List AV)) : lenA false (.sl xs) = some xs.length := rfl
theorem lenA_own (r i n z : Nat) : lenA false (.own r i n z) = some n := rfl
theorem lenA_str (b : List UInt8) : lenA true (.str b) = some b.length := rfl
theorem W_loop' {b b' : CCode} {e : Env} {s : Mem} {Q : Ex → Env → Mem → Prop} (hb : b = b') (h : W F b' e s (Seq F (.loop b) Q)) : W F (.loop b) e s Q := W_loop (hb ▸ h)
theorem wrap_i64 {x : Int} (h : -9223372036854775808 ≤ x ∧ x ≤ 9223372036854775807) : IntKind.i64.wrap x = x := by
  simp [IntKind.wrap, IntKind.signed, IntKind.bits]
  split <;> omega
theorem wrap_u64 {x : Int} (h : 0 ≤ x ∧ x ≤ 18446744073709551615) : IntKind.u64.wrap x = x := by
  simp [IntKind.wrap, IntKind.signed, IntKind.bits]
  omega
theorem wf_u64 {n : Int} (h : (Lit.int .u64 n).wf = true) : 0 ≤ n ∧ n ≤ 18446744073709551615 := by
  simp [Lit.wf, IntKind.min, IntKind.max, IntKind.signed, IntKind.bits] at h
  omega
theorem C_run {f : Nat} {a : List AV} {s : Mem} (h : C F f a s (fun r _ => r = .bool true)) {G : Nat → Option CFunc} (hl : LeF F G) : ∃ k s', run G k f a s = some (.bool true, s') := by
  obtain ⟨n, r, s', h1, rfl⟩ := h
  exact ⟨n + 1, s', run_le hl h1⟩
def yes : Option (AV × Mem) → Bool
  | some (.bool true, _) => true
  | _ => false
end
end Go.VI
/- Short words for the compact code of a claim. No statement of the seat is proved here. -/
namespace Go.VI
open Go
def oo (n : Nat) (x : COp) : COper := ⟨some n, x, none, false, []⟩
def on (x : COp) : COper := ⟨none, x, none, false, []⟩
def om (n m : Nat) : COper := ⟨some n, .mv (.t m), none, false, []⟩
def og (n g : Nat) (b : Bool) (x : COp) : COper := ⟨some n, x, some (g, b), false, []⟩
def oc (n f : Nat) (xs : List Opd) : COper := ⟨some n, .call (.c (.fn f [])) xs, none, false, []⟩
def ou (n : Nat) (x : COp) : COper := ⟨some n, x, none, true, []⟩
end Go.VI

