/- A law's row out of the abstract run. No statement of the seat is proved here. -/
import Derived.Test.YtdbbmeihhemflaaVSym
import Derived.WalkKit
import Derived.ProofKit
import Derived.OpenShut
import Derived.ChangeOld
import Derived.Below
import Derived.SizedLaws
namespace Go.VI
open Go Go.RowKit Go.ChangeShapes Go.WideShapes Go.ChangeAt

def TyVs (P : Program) (B : Nat) (d : Nat) : List TypeId → List AV → Prop
  | [], l => l = []
  | t :: ts, l => ∃ c r, l = c :: r ∧ TyV P B d t c ∧ TyVs P B d ts r

section
variable {P : Program} {B : Nat} {d : Nat} {t e : TypeId} {c : AV} {cs : List AV}
theorem Ty.int {k : IntKind} (hu : P.underlying t = some (.int k)) (h : Ty P B (d + 1) t cs) : ∃ n, cs = [.int k n] ∧ (Lit.int k n).wf = true := by
  unfold Ty at h; rw [hu] at h; exact h
theorem Ty.bool (hu : P.underlying t = some .bool) (h : Ty P B (d + 1) t cs) : ∃ b, cs = [.bool b] := by
  unfold Ty at h; rw [hu] at h; exact h
theorem Ty.str (hu : P.underlying t = some .string) (h : Ty P B (d + 1) t cs) : ∃ s, cs = [.str s] ∧ s.length ≤ B := by
  unfold Ty at h; rw [hu] at h; exact h
theorem Ty.slice (hu : P.underlying t = some (.slice e)) (h : Ty P B (d + 1) t cs) : cs = [.nilS] ∨ ∃ xs, cs = [.sl xs] ∧ xs.length * P.bytesOf e ≤ B ∧ ∀ x ∈ xs, Ty P B d e x := by
  unfold Ty at h; rw [hu] at h; exact h
theorem Ty.struct {fs : Array Field} (hu : P.underlying t = some (.struct fs)) (h : Ty P B (d + 1) t cs) : tyF (Ty P B d) P fs.toList cs := by
  unfold Ty at h; rw [hu] at h; exact h
theorem Ty.array {n : Nat} (hu : P.underlying t = some (.array n e)) (h : Ty P B (d + 1) t cs) : tyA (Ty P B d e) n cs := by
  unfold Ty at h; rw [hu] at h; exact h

/-- A struct's fields' types. -/
def fTypes (P : Program) (t : TypeId) : Option (List TypeId) := match P.underlying t with
  | some (.struct fs) => some (fs.toList.map (·.type))
  | _ => none
def tyT (ty : TypeId → List AV → Prop) : List TypeId → List AV → Prop
  | [], cs => cs = []
  | t :: r, cs => ∃ a b, cs = a ++ b ∧ ty t a ∧ tyT ty r b
theorem Ty.fields {ts : List TypeId} (ht : fTypes P t = some ts) (h : Ty P B (d + 1) t cs) : tyT (Ty P B d) ts cs := by
  unfold fTypes at ht
  split at ht
  · rename_i fs hu
    obtain rfl := Option.some.inj ht
    have := Ty.struct hu h
    generalize fs.toList = l at this
    clear h hu
    induction l generalizing cs with
    | nil => exact this
    | cons f l ih =>
      obtain ⟨a, b, rfl, h1, h2⟩ := this
      exact ⟨a, b, rfl, h1, ih h2⟩
  · cases ht

theorem cells_one {x : AV} (h : cells c = [x]) (ha : cells c = [c]) : c = x := by
  rw [h] at ha; exact (List.cons.inj ha).1.symm
theorem TyV.leaf (h : TyV P B d t c) (ha : cAgg P t = some false) : cells c = [c] := by
  obtain ⟨_, a, h1, h2⟩ := h
  rw [ha] at h1; obtain rfl := Option.some.inj h1
  simpa using h2
theorem TyV.int {k : IntKind} (hu : P.underlying t = some (.int k)) (h : TyV P B (d + 1) t c) : ∃ n, c = .int k n ∧ (Lit.int k n).wf = true := by
  obtain ⟨n, h1, h2⟩ := Ty.int hu h.1
  exact ⟨n, cells_one h1 (h.leaf (by simp [cAgg, hu])), h2⟩
theorem TyV.bool (hu : P.underlying t = some .bool) (h : TyV P B (d + 1) t c) : ∃ b, c = .bool b := by
  obtain ⟨n, h1⟩ := Ty.bool hu h.1
  exact ⟨n, cells_one h1 (h.leaf (by simp [cAgg, hu]))⟩
theorem TyV.str (hu : P.underlying t = some .string) (h : TyV P B (d + 1) t c) : ∃ s, c = .str s ∧ s.length ≤ B := by
  obtain ⟨n, h1, h2⟩ := Ty.str hu h.1
  exact ⟨n, cells_one h1 (h.leaf (by simp [cAgg, hu])), h2⟩
theorem TyV.slice (hu : P.underlying t = some (.slice e)) (h : TyV P B (d + 1) t c) : c = .nilS ∨ ∃ xs, c = .sl xs ∧ xs.length * P.bytesOf e ≤ B ∧ ∀ x ∈ xs, Ty P B d e x := by
  have hl := h.leaf (by simp [cAgg, hu])
  rcases Ty.slice hu h.1 with h1 | ⟨xs, h1, h2⟩
  · exact .inl (cells_one h1 hl)
  · exact .inr ⟨xs, cells_one h1 hl, h2⟩
theorem TyV.struct {fs : Array Field} (hu : P.underlying t = some (.struct fs)) (h : TyV P B (d + 1) t c) : ∃ cs, c = .agg cs ∧ tyF (Ty P B d) P fs.toList cs := by
  obtain ⟨h1, a, h2, h3⟩ := h
  have : a = true := by simpa [cAgg, hu] using h2.symm
  subst this
  exact ⟨_, by simpa using h3, Ty.struct hu h1⟩
theorem TyV.array {n : Nat} (hu : P.underlying t = some (.array n e)) (h : TyV P B (d + 1) t c) : ∃ cs, c = .agg cs ∧ tyA (Ty P B d e) n cs := by
  obtain ⟨h1, a, h2, h3⟩ := h
  have : a = true := by simpa [cAgg, hu] using h2.symm
  subst this
  exact ⟨_, by simpa using h3, Ty.array hu h1⟩

/-- Slices of whole numbers, strings, truths: their plain lists. -/
def intsA (k : IntKind) (l : List Int) : List (List AV) := l.map fun n => [.int k n]
/-- A slice that a caller gave: its elements. -/
def isSl (v : AV) (xs : List (List AV)) : Prop := (v = .nilS ∧ xs = []) ∨ v = .sl xs
theorem isSl.len {v : AV} {xs : List (List AV)} (h : isSl v xs) : lenA false v = some xs.length := by
  rcases h with ⟨rfl, rfl⟩ | rfl <;> rfl
theorem TyV.ints {k : IntKind} (hu : P.underlying t = some (.slice e)) (he : P.underlying e = some (.int k)) (h : TyV P B (d + 2) t c) : ∃ l, isSl c (intsA k l) ∧ l.length * P.bytesOf e ≤ B ∧ ∀ n ∈ l, (Lit.int k n).wf = true := by
  rcases TyV.slice hu h with rfl | ⟨xs, rfl, h1, h2⟩
  · exact ⟨[], .inl ⟨rfl, rfl⟩, by simp, by simp⟩
  · have : ∃ l, xs = intsA k l ∧ ∀ n ∈ l, (Lit.int k n).wf = true := by
      clear h1 h
      induction xs with
      | nil => exact ⟨[], rfl, by simp⟩
      | cons x xs ih =>
        obtain ⟨l, g1, g2⟩ := ih (fun y hy => h2 y (List.mem_cons_of_mem _ hy))
        obtain ⟨n, g3, g4⟩ := Ty.int he (h2 x (List.mem_cons_self ..))
        refine ⟨n :: l, by rw [g1, g3]; rfl, ?_⟩
        intro m hm
        rcases List.mem_cons.mp hm with rfl | hm
        · exact g4
        · exact g2 m hm
    obtain ⟨l, rfl, g⟩ := this
    exact ⟨l, .inr rfl, by simpa [intsA] using h1, g⟩
end

section
variable {P : Program} {B : Nat} {W : World} {m : PM} {H : Type} {enc : TypeId × Value → H}

theorem VL.cons {v : Value} {vs : List Value} {c : AV} {cs : List AV} (h : V W m v c) (hs : VL W m vs.toArray cs) : VL W m (v :: vs).toArray (c :: cs) := by
  refine ⟨by have := hs.1; simp at this ⊢; exact this, ?_⟩
  intro i x y hx hy
  match i with
  | 0 => simp at hx hy; subst hx hy; exact h
  | i + 1 => exact hs.2 i x y (by simpa using hx) (by simpa using hy)

theorem args_told {d base : Nat} {rc : Reach} : ∀ (ts : List TypeId) (vs : List Value) (ds : List (DataW H)) (ps : List MemPlace), DataW.TrodAll enc P W 0 (fun _ => true) true ts vs ds ps → ts.all (rdB P d) = true →
    (∀ (j : Nat) (t : TypeId) (v : Value), ts[j]? = some t → vs[j]? = some v → Value.okWide P W rc base t v) → (∀ n ∈ DataW.weightsEach P ts ds, n ≤ B) →
    (∃ avs, VL W m vs.toArray avs ∧ TyVs P B d ts avs) ∧ ds.length = ts.length := by
  intro ts
  induction ts with
  | nil =>
    intro vs ds ps h _ _ _
    obtain ⟨rfl, rfl, rfl⟩ := trodAll_nil h
    exact ⟨⟨[], ⟨rfl, by intro i v c h; simp at h⟩, rfl⟩, rfl⟩
  | cons t ts ih =>
    intro vs ds ps h hrd hok hw
    obtain ⟨v, vs, d0, ds, p, q, rfl, rfl, rfl, h1, h2⟩ := trodAll_cons h
    simp only [List.all_cons, Bool.and_eq_true] at hrd
    obtain ⟨⟨avs, k1, k2⟩, k3⟩ := ih vs ds q h2 hrd.2 (fun j t' v' a b => hok (j + 1) t' v' a b) (fun n hn => hw n (by simp only [DataW.weightsEach]; exact List.mem_append_right _ hn))
    obtain ⟨c, g1, g2⟩ := arg_told (m := m) (d := d) hrd.1 (hok 0 t v rfl rfl) h1 (by obtain ⟨f, hf⟩ := h1; exact DataW.trod_lt f _ _ _ hf) (fun n hn => hw n (by simp only [DataW.weightsEach]; exact List.mem_append_left _ hn))
    exact ⟨⟨c :: avs, VL.cons g1 k1, c, avs, rfl, g2, k2⟩, by simp [k3]⟩

theorem args_back (laid : laidOutB P = true) {W' : World} (bel : Below W.heap.size W W') : ∀ (ts : List TypeId) (vs : List Value) (ds : List (DataW H)) (ps : List MemPlace), DataW.TrodAll enc P W 0 (fun _ => true) true ts vs ds ps → ts.all (fun t => P.readableRec t && decide (t < P.types.size)) = true →
    DataW.TrodAll enc P W' 0 (fun b => decide (b < W.heap.size)) true ts vs ds ps := by
  intro ts
  induction ts with
  | nil =>
    intro vs ds ps h _
    obtain ⟨rfl, rfl, rfl⟩ := trodAll_nil h
    exact trodAll_mk0
  | cons t ts ih =>
    intro vs ds ps h hrd
    obtain ⟨v, vs, d0, ds, p, q, rfl, rfl, rfl, h1, h2⟩ := trodAll_cons h
    simp only [List.all_cons, Bool.and_eq_true, decide_eq_true_eq] at hrd
    exact trodAll_cons_mk (Below.trod laid hrd.1.1 hrd.1.2 h1 bel (by obtain ⟨f, hf⟩ := h1; exact DataW.trod_lt f _ _ _ hf)) (ih vs ds q h2 hrd.2)
end

/-- A LAW THAT ANSWERS TRUE: its row. -/
theorem law_lifted {C : Checked} {X : Nat → Option CFunc} (hX : XOK C.prog X) {os : Os} {f : FuncId} {fn : Func} {s : ChangeSpec} {conds : List PathCond} {H : Type} {enc : TypeId × Value → H} {ts : List TypeId} {rt : TypeId} {d : Nat}
    (own : ownKnob C.prog.godebug = none) (started : os.Started) (noInit : C.prog.inits.idxOf? f = none) (hfn : C.prog.funcs[f]? = some fn)
    (witness : ∃ (w : World) (tape : Tape) (i : Input), w.os = os ∧ (w.forCall tape i).Shaped C.prog ∧ i.vars = [] ∧ Input.okWide C.prog (w.forCall tape i) .any w.heap.size f i ∧
      s.pre6 enc C.prog fn conds false (w.forCall tape i).memory i.args ∧ ({} : Assume).holds C.prog (lone (Frame.enter C.prog f i.args .normal) [] (w.forCall tape i)))
    (hvars : s.vars = []) (hparams : fn.params.toList = ts) (hres : fn.resultTypes = #[rt]) (hrt : C.prog.underlying rt = some .bool)
    (hspec : ∀ (ds : List (DataW H)), ds.length = ts.length → s.fn H ds = { results := [.lit (.bool true)], args := ds })
    (laid : laidOutB C.prog = true) (hread : ts.all (fun t => C.prog.readableRec t && decide (t < C.prog.types.size)) = true) (hrd : ts.all (rdB C.prog d) = true)
    (walk : ∀ avs, TyVs C.prog reachBytes d ts avs → ∃ k s', run (compX C.prog X) k f avs Mem.zero = some (.bool true, s')) :
    ReturnsInHanded {} C os f .any (s.pre6 enc C.prog fn conds false) (s.post enc C.prog fn false true false false) := by
  refine returnsInHanded_of_change_sized own started noInit hfn witness ?_
  intro W base args ds gs before hval hW _ hsz _
  have hW' := hW
  rw [hvars] at hW'
  obtain ⟨p, q, hA, hV, rfl, hfz, hnd⟩ := hW'
  obtain ⟨rfl, rfl⟩ := trodVars_none hV
  have hvt : s.plain.varTypes C.prog = [] := by
    have : s.plain.vars = [] := hvars
    simp [DataSpec.varTypes, this]
  rw [hparams] at hA
  rw [hparams, hvt, List.append_nil, List.append_nil] at hsz
  obtain ⟨⟨avs, k1, k2⟩, k3⟩ := args_told (B := reachBytes) (m := fun _ => none) (d := d) (rc := .any) (base := base) ts args.toList ds p hA hrd (fun j t v a b => hval j t v (by rw [← Array.getElem?_toList, hparams]; exact a) (by rw [← Array.getElem?_toList]; exact b)) (fun n hn => by simpa using List.all_eq_true.mp hsz n hn)
  obtain ⟨k, s', hrun⟩ := walk avs k2
  refine (law_calls (W := W) (vs := args) hX hrun (by simpa using k1)).mono fun e W' ⟨he, bel⟩ => ?_
  subst he
  refine ⟨_, rfl, ds, [], p ++ [], [], p, [], hW, ?_, ?_, ?_, ?_, fun h => by cases h⟩
  · rw [List.append_nil, hspec ds k3, hres]
    exact trodAll_mk1 (shut_bool hrt _)
  · rw [List.append_nil, hspec ds k3, hparams]
    exact args_back laid bel ts _ _ _ hA hread
  · rw [List.append_nil, hspec ds k3, hvars]
    rfl
  · exact bel.frame _
end Go.VI
