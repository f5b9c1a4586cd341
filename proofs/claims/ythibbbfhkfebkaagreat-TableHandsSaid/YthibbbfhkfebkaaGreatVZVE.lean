/- A law's row out of the abstract run. No statement of the seat is proved here. -/
import Derived.Test.YthibbbfhkfebkaaGreatVZVD
import Derived.WalkKit
import Derived.ProofKit
import Derived.OpenShut
import Derived.ChangeOld
import Derived.Below
import Derived.SizedLaws
namespace Go.VI
open Go Go.RowKit Go.ChangeShapes Go.WideShapes Go.ChangeAt
def TyVs (P : Program) (B : Nat) (d : Nat) : List TypeId → List AV → Prop
  | [], l => l = []
  | t :: ts, l => ∃ c r, l = c :: r ∧ TyV P B d t c ∧ TyVs P B d ts r
section
variable {P : Program} {B : Nat} {d : Nat} {t e : TypeId} {c : AV} {cs : List AV}
theorem Ty.int {k : IntKind} (hu : P.underlying t = some (.int k)) (h : Ty P B (d + 1) t cs) : ∃ n, cs = [.int k n] ∧ (Lit.int k n).wf = true := by
  unfold Ty at h; rw [hu] at h; exact h
theorem Ty.bool (hu : P.underlying t = some .bool) (h : Ty P B (d + 1) t cs) : ∃ b, cs = [.bool b] := by
  unfold Ty at h; rw [hu] at h; exact h
theorem Ty.str (hu : P.underlying t = some .string) (h : Ty P B (d + 1) t cs) : ∃ s, cs = [.str s] ∧ s.length ≤ B := by
  unfold Ty at h; rw [hu] at h; exact h
theorem Ty.slice (hu : P.underlying t = some (.slice e)) (h : Ty P B (d + 1) t cs) : cs = [.nilS] ∨ ∃ xs, cs = [.sl xs] ∧ xs.length * P.bytesOf e ≤ B ∧ ∀ x ∈ xs, Ty P B d e x := by
  unfold Ty at h; rw [hu] at h; exact h
theorem Ty.struct {fs : Array Field} (hu : P.underlying t = some (.struct fs)) (h : Ty P B (d + 1) t cs) : tyF (Ty P B d) P fs.toList cs := by
  unfold Ty at h; rw [hu] at h; exact h
theorem Ty.array {n : Nat} (hu : P.underlying t = some (.array n e)) (h : Ty P B (d + 1) t cs) : tyA (Ty P B d e) n cs := by
  unfold Ty at h; rw [hu] at h; exact h
def fTypes (P : Program) (t : TypeId) : Option (List TypeId) := match P.underlying t with
  | some (.struct fs) => some (fs.toList.map (·.type))
  | _ => none
def tyT (ty : TypeId → List AV → Prop) : List TypeId → List AV → Prop
  | [], cs => cs = []
  | t :: r, cs => ∃ a b, cs = a ++ b ∧ ty t a ∧ tyT ty r b
theorem Ty.fields {ts : List TypeId} (ht : fTypes P t = some ts) (h : Ty P B (d + 1) t cs) : tyT (Ty P B d) ts cs := by
  unfold fTypes at ht
  split at ht
  · rename_i fs hu
    obtain rfl := Option.some.inj ht
    have := Ty.struct hu h
    generalize fs.toList = l at this
    clear h hu
    induction l generalizing cs with
    | nil => exact this
    | cons f l ih =>
      obtain ⟨a, b, rfl, h1, h2⟩ := this
      exact ⟨a, b, rfl, h1, ih h2⟩
  · cases ht
theorem cells_one {x : AV} (h : cells c = [x]) (ha : cells c = [c]) : c = x := by
  rw [h] at ha; exact (List.cons.inj ha).1.symm
theorem TyV.leaf (h : TyV P B d t c) (ha : cAgg P t = some false) : cells c = [c] := by
  obtain ⟨_, a, h1, h2⟩ := h
  rw [ha] at h1; obtain rfl := Option.some.inj h1
  simpa using h2
theorem TyV.int {k : IntKind} (hu : P.underlying t = some (.int k)) (h : TyV P B (d + 1) t c) : ∃ n, c = .int k n ∧ (Lit.int k n).wf = true := by
  obtain ⟨n, h1, h2⟩ := Ty.int hu h.1
  exact ⟨n, cells_one h1 (h.leaf (by simp [cAgg, hu])), h2⟩
theorem TyV.bool (hu : P.underlying t = some .bool) (h : TyV P B (d + 1) t c) : ∃ b, c = .bool b := by
  obtain ⟨n, h1⟩ := Ty.bool hu h.1
  exact ⟨n, cells_one h1 (h.leaf (by simp [cAgg, hu]))⟩
theorem TyV.str (hu : P.underlying t = some .string) (h : TyV P B (d + 1) t c) : ∃ s, c = .str s ∧ s.length ≤ B := by
  obtain ⟨n, h1, h2⟩ := Ty.str hu h.1
  exact ⟨n, cells_one h1 (h.leaf (by simp [cAgg, hu])), h2⟩
theorem TyV.slice (hu : P.underlying t = some (.slice e)) (h : TyV P B (d + 1) t c) : c = .nilS ∨ ∃ xs, c = .sl xs ∧ xs.length * P.bytesOf e ≤ B ∧ ∀ x ∈ xs, Ty P B d e x := by
  have hl := h.leaf (by simp [cAgg, hu])
  rcases Ty.slice hu h.1 with h1 | ⟨xs, h1, h2⟩
  · exact .inl (cells_one h1 hl)
  · exact .inr ⟨xs, cells_one h1 hl, h2⟩
theorem TyV.struct {fs : Array Field} (hu : P.underlying t = some (.struct fs)) (h : TyV P B (d + 1) t c) : ∃ cs, c = .agg cs ∧ tyF (Ty P B d) P fs.toList cs := by
  obtain ⟨h1, a, h2, h3⟩ := h
  have : a = true := by simpa [cAgg, hu] using h2.symm
  subst this
  exact ⟨_, by simpa using h3, Ty.struct hu h1⟩
theorem TyV.array {n : Nat} (hu : P.underlying t = some (.array n e)) (h : TyV P B (d + 1) t c) : ∃ cs, c = .agg cs ∧ tyA (Ty P B d e) n cs := by
  obtain ⟨h1, a, h2, h3⟩ := h
  have : a = true := by simpa [cAgg, hu] using h2.symm
  subst this
  exact ⟨_, by simpa using h3, Ty.array hu h1⟩
def intsA (k : IntKind) (l : List Int) : List (List AV) := l.map fun n => [.int k n]
def isSl (v : AV) (xs : List (List AV)) : Prop := (v = .nilS ∧ xs = []) ∨ v = .sl xs
theorem isSl.len {v : AV} {xs : List (List AV)} (h : isSl v xs) : lenA false v = some xs.length := by
  rcases h with ⟨rfl, rfl⟩ | rfl <;> rfl
theorem TyV.ints {k : IntKind} (hu : P.underlying t = some (.slice e)) (he : P.underlying e = some (.int k)) (h : TyV P B (d + 2) t c) : ∃ l, isSl c (intsA k l) ∧ l.length * P.bytesOf e ≤ B ∧ ∀ n ∈ l, (Lit.int k n).wf = true := by
  rcases TyV.slice hu h with rfl | ⟨xs, rfl, h1, h2⟩
  · exact ⟨[], .inl ⟨rfl, rfl⟩, by simp, by simp⟩
  · have : ∃ l, xs = intsA k l ∧ ∀ n ∈ l, (Lit.int k n).wf = true := by
      clear h1 h
      induction xs with
      | nil => exact ⟨[], rfl, by simp⟩
      | cons x xs ih =>
        obtain ⟨l, g1, g2⟩ := ih (fun y hy => h2 y (List.mem_cons_of_mem _ hy))
        obtain ⟨n, g3, g4⟩ := Ty.int he (h2 x (List.mem_cons_self ..))
        refine ⟨n :: l, by rw [g1, g3]; rfl, ?_⟩
        intro m hm
        rcases List.mem_cons.mp hm with rfl | hm
        · exact g4
        · exact g2 m hm
    obtain ⟨l, rfl, g⟩ := this
    exact ⟨l, .inr rfl, by simpa [intsA] using h1, g⟩
end
section
variable {P : Program} {B : Nat} {W : World} {m : PM} {H : Type} {enc : TypeId × Value → H}
theorem VL.cons {v : Value} {vs : List Value} {c : AV} {cs : List AV} (h : V W m v c) (hs : VL W m vs.toArray cs) : VL W m (v :: vs).toArray (c :: cs) := by
  refine ⟨by have := hs.1; simp at this ⊢; exact this, ?_⟩
  intro i x y hx hy
  match i with
  | 0 => simp at hx hy; subst hx hy; exact h
  | i + 1 => exact hs.2 i x y (by simpa using hx) (by simpa using hy)
theorem args_told {d base : Nat} {rc : Reach} : ∀ (ts : List TypeId) (vs : List Value) (ds : List (DataW H)) (ps : List MemPlace), DataW.TrodAll enc P W 0 (fun _ => true) true ts vs ds ps → ts.all (rdB P d) = true →
    (∀ (j : Nat) (t : TypeId) (v : Value), ts[j]? = some t → vs[j]? = some v → Value.okWide P W rc base t v) → (∀ n ∈ DataW.weightsEach P ts ds, n ≤ B) →
    (∃ avs, VL W m vs.toArray avs ∧ TyVs P B d ts avs) ∧ ds.length = ts.length := by
  intro ts
  induction ts with
  | nil =>
    intro vs ds ps h _ _ _
    obtain ⟨rfl, rfl, rfl⟩ := trodAll_nil h
    exact ⟨⟨[], ⟨rfl, by intro i v c h; simp at h⟩, rfl⟩, rfl⟩
  | cons t ts ih =>
    intro vs ds ps h hrd hok hw
    obtain ⟨v, vs, d0, ds, p, q, rfl, rfl, rfl, h1, h2⟩ := trodAll_cons h
    simp only [List.all_cons, Bool.and_eq_true] at hrd
    obtain ⟨⟨avs, k1, k2⟩, k3⟩ := ih vs ds q h2 hrd.2 (fun j t' v' a b => hok (j + 1) t' v' a b) (fun n hn => hw n (by simp only [DataW.weightsEach]; exact List.mem_append_right _ hn))
    obtain ⟨c, g1, g2⟩ := arg_told (m := m) (d := d) hrd.1 (hok 0 t v rfl rfl) h1 (by obtain ⟨f, hf⟩ := h1; exact DataW.trod_lt f _ _ _ hf) (fun n hn => hw n (by simp only [DataW.weightsEach]; exact List.mem_append_left _ hn))
    exact ⟨⟨c :: avs, VL.cons g1 k1, c, avs, rfl, g2, k2⟩, by simp [k3]⟩
theorem args_back (laid : laidOutB P = true) {W' : World} (bel : Below W.heap.size W W') : ∀ (ts : List TypeId) (vs : List Value) (ds : List (DataW H)) (ps : List MemPlace), DataW.TrodAll enc P W 0 (fun _ => true) true ts vs ds ps → ts.all (fun t => P.readableRec t && decide (t < P.types.size)) = true →
    DataW.TrodAll enc P W' 0 (fun b => decide (b < W.heap.size)) true ts vs ds ps := by
  intro ts
  induction ts with
  | nil =>
    intro vs ds ps h _
    obtain ⟨rfl, rfl, rfl⟩ := trodAll_nil h
    exact trodAll_mk0
  | cons t ts ih =>
    intro vs ds ps h hrd
    obtain ⟨v, vs, d0, ds, p, q, rfl, rfl, rfl, h1, h2⟩ := trodAll_cons h
    simp only [List.all_cons, Bool.and_eq_true, decide_eq_true_eq] at hrd
    exact trodAll_cons_mk (Below.trod laid hrd.1.1 hrd.1.2 h1 bel (by obtain ⟨f, hf⟩ := h1; exact DataW.trod_lt f _ _ _ hf)) (ih vs ds q h2 hrd.2)
end
theorem law_lifted {C : Checked} {X : Nat → Option CFunc} (hX : XOK C.prog X) {os : Os} {f : FuncId} {fn : Func} {s : ChangeSpec} {conds : List PathCond} {H : Type} {enc : TypeId × Value → H} {ts : List TypeId} {rt : TypeId} {d : Nat}
    (own : ownKnob C.prog.godebug = none) (started : os.Started) (noInit : C.prog.inits.idxOf? f = none) (hfn : C.prog.funcs[f]? = some fn)
    (witness : ∃ (w : World) (tape : Tape) (i : Input), w.os = os ∧ (w.forCall tape i).Shaped C.prog ∧ i.vars = [] ∧ Input.okWide C.prog (w.forCall tape i) .any w.heap.size f i ∧
      s.pre6 enc C.prog fn conds false (w.forCall tape i).memory i.args ∧ ({} : Assume).holds C.prog (lone (Frame.enter C.prog f i.args .normal) [] (w.forCall tape i)))
    (hvars : s.vars = []) (hparams : fn.params.toList = ts) (hres : fn.resultTypes = #[rt]) (hrt : C.prog.underlying rt = some .bool)
    (hspec : ∀ (ds : List (DataW H)), ds.length = ts.length → s.fn H ds = { results := [.lit (.bool true)], args := ds })
    (laid : laidOutB C.prog = true) (hread : ts.all (fun t => C.prog.readableRec t && decide (t < C.prog.types.size)) = true) (hrd : ts.all (rdB C.prog d) = true)
    (walk : ∀ avs, TyVs C.prog reachBytes d ts avs → ∃ k s', run (compX C.prog X) k f avs Mem.zero = some (.bool true, s')) :
    ReturnsInHanded {} C os f .any (s.pre6 enc C.prog fn conds false) (s.post enc C.prog fn false true false false) := by
  refine returnsInHanded_of_change_sized own started noInit hfn witness ?_
  intro W base args ds gs before hval hW _ hsz _
  have hW' := hW
  rw [hvars] at hW'
  obtain ⟨p, q, hA, hV, rfl, hfz, hnd⟩ := hW'
  obtain ⟨rfl, rfl⟩ := trodVars_none hV
  have hvt : s.plain.varTypes C.prog = [] := by
    have : s.plain.vars = [] := hvars
    simp [DataSpec.varTypes, this]
  rw [hparams] at hA
  rw [hparams, hvt, List.append_nil, List.append_nil] at hsz
  obtain ⟨⟨avs, k1, k2⟩, k3⟩ := args_told (B := reachBytes) (m := fun _ => none) (d := d) (rc := .any) (base := base) ts args.toList ds p hA hrd (fun j t v a b => hval j t v (by rw [← Array.getElem?_toList, hparams]; exact a) (by rw [← Array.getElem?_toList]; exact b)) (fun n hn => by simpa using List.all_eq_true.mp hsz n hn)
  obtain ⟨k, s', hrun⟩ := walk avs k2
  refine (law_calls (W := W) (vs := args) hX hrun (by simpa using k1)).mono fun e W' ⟨he, bel⟩ => ?_
  subst he
  refine ⟨_, rfl, ds, [], p ++ [], [], p, [], hW, ?_, ?_, ?_, ?_, fun h => by cases h⟩
  · rw [List.append_nil, hspec ds k3, hres]
    exact trodAll_mk1 (shut_bool hrt _)
  · rw [List.append_nil, hspec ds k3, hparams]
    exact args_back laid bel ts _ _ _ hA hread
  · rw [List.append_nil, hspec ds k3, hvars]
    rfl
  · exact bel.frame _
end Go.VI
/- Small laws for the steps. No statement of the seat is proved here. -/
namespace Go.VI
open Go
theorem intsA_len (k : IntKind) (l : List Int) : (intsA k l).length = l.length := by simp [intsA]
theorem intsA_get (k : IntKind) (l : List Int) (i : Nat) : (intsA k l)[i]? = (l[i]?).map fun n => [AV.int k n] := by simp [intsA]
theorem toNat_cast (i : Nat) : toNat? (i : Int) = some i := by simp [toNat?]
theorem load_ptr1 {s : Mem} {r i : Nat} {row : Row} {c : AV} (h : s.get r = some row) (hi : row.els[i]? = some [c]) : loadA s false 1 (.ptr r i 0) = some c := by simp [loadA, h, hi, slice1, pickCells]
theorem succ_cast {i : Nat} (h : i < 4611686018427387904) : IntKind.i64.wrap ((i : Int) + 1) = ((i + 1 : Nat) : Int) := by
  rw [wrap_i64 (by omega)]; simp
theorem isSl.at_ {v : AV} {xs : List (List AV)} (h : isSl v xs) {sz : Nat} {k : IntKind} {j : Nat} {c : List AV} (hj : xs[j]? = some c) (hc : c.length = sz) : atA sz v (.int k (j : Int)) = some (.ref c) := by
  rcases h with ⟨rfl, rfl⟩ | rfl
  · simp at hj
  · simp [atA, toNat_cast, hj, hc]
theorem isSl.ints {v : AV} {k j : IntKind} {l : List Int} (h : isSl v (intsA k l)) {i : Nat} {a : Int} (hi : l[i]? = some a) : atA 1 v (.int j (i : Int)) = some (.ref [.int k a]) :=
  h.at_ (by rw [intsA_get, hi]; rfl) rfl
theorem eqA_b (a b : Bool) : eqA .b (.bool a) (.bool b) = some (a == b) := rfl
def one1 (v : AV) : Option (List (List AV)) := if (cells v).length = 1 ∧ (cells v).all isCell = true then some [cells v] else none
theorem fill_one (e : Env) (t : Nat) (c : List AV) : fillLit 1 e [(0, .t t)] (List.replicate 1 c) = one1 (e.get t) := by
  simp [fillLit, one1, ev, List.replicate]
theorem one1_int (k : IntKind) (n : Int) : one1 (.int k n) = some [[.int k n]] := rfl
theorem fill_none (sz : Nat) (e : Env) (c : List AV) : fillLit sz e [] (List.replicate 0 c) = some [] := rfl
theorem mem_eta (s : Mem) : Mem.mk s.next s.floor s.t = s := rfl
theorem load_floor (s : Mem) (n f : Nat) (agg : Bool) (sz : Nat) (v : AV) : loadA ⟨n, f, s.t⟩ agg sz v = loadA s agg sz v := by cases v <;> rfl
structure Ints (s : Mem) (v : AV) (k : IntKind) (l : List Int) : Prop where
  len : lenA false v = some l.length
  get : ∀ (j : IntKind) (i : Nat) (a : Int), l[i]? = some a → ∃ p, atA 1 v (.int j (i : Int)) = some p ∧ loadA s false 1 p = some (.int k a)
theorem lt_true {i n : Nat} (h : i < n) : decide ((i : Int) < (n : Int)) = true := by simp; exact h
theorem lt_false {i n : Nat} (h : ¬ i < n) : decide ((i : Int) < (n : Int)) = false := by simp; omega
end Go.VI
/- Rows of one's own: what grows, what is stored, what stays. No statement of the seat is proved here. -/
namespace Go.VI
open Go
structure Keep (b : Nat) (s s' : Mem) : Prop where
  next : s.next ≤ s'.next
  floor : s'.floor = s.floor
  get : ∀ r, r < b → s'.get r = s.get r
theorem Keep.refl (b : Nat) (s : Mem) : Keep b s s := ⟨Nat.le_refl _, rfl, fun _ _ => rfl⟩
theorem Keep.trans {b : Nat} {s t u : Mem} (h : Keep b s t) (k : Keep b t u) : Keep b s u :=
  ⟨Nat.le_trans h.next k.next, k.floor.trans h.floor, fun r hr => (k.get r hr).trans (h.get r hr)⟩
theorem Keep.le {b c : Nat} {s t : Mem} (h : Keep b s t) (hc : c ≤ b) : Keep c s t := ⟨h.next, h.floor, fun r hr => h.get r (by omega)⟩
theorem Keep.push {b : Nat} {s : Mem} (h : b ≤ s.next) (x : Row) : Keep b s (s.push x) :=
  ⟨by rw [Mem.next_push]; omega, rfl, fun r hr => by rw [Mem.get_push, if_neg (by omega)]⟩
theorem Keep.put {b r : Nat} {s : Mem} (h : b ≤ r) (x : Option Row) : Keep b s (s.put r x) :=
  ⟨Nat.le_refl _, rfl, fun q hq => by rw [Mem.get_put, if_neg (by omega)]⟩
def OwnL (s : Mem) (b : Nat) (v : AV) (ty sz : Nat) (xs : List (List AV)) : Prop :=
  ((v = .nilS ∨ v = .emp) ∧ xs = []) ∨ ∃ r, v = .own r 0 xs.length sz ∧ s.get r = some ⟨ty, sz, xs⟩ ∧ s.floor ≤ r ∧ b ≤ r ∧ r < s.next
theorem OwnL.len {s : Mem} {b : Nat} {v : AV} {ty sz : Nat} {xs : List (List AV)} (h : OwnL s b v ty sz xs) : lenA false v = some xs.length := by
  rcases h with ⟨rfl | rfl, rfl⟩ | ⟨r, rfl, _⟩ <;> rfl
theorem OwnL.read {s : Mem} {b : Nat} {v : AV} {ty sz : Nat} {xs : List (List AV)} (h : OwnL s b v ty sz xs) : readAll s v = some xs := by
  rcases h with ⟨rfl | rfl, rfl⟩ | ⟨r, rfl, h, _⟩
  · rfl
  · rfl
  · simp [readAll, h]
theorem OwnL.keep {s s' : Mem} {b c : Nat} {v : AV} {ty sz : Nat} {xs : List (List AV)} (h : OwnL s b v ty sz xs) (k : Keep c s s') (hc : ∀ r, v = .own r 0 xs.length sz → r < c) : OwnL s' b v ty sz xs := by
  rcases h with h | ⟨r, rfl, h1, h2, h3, h4⟩
  · exact .inl h
  · exact .inr ⟨r, rfl, by rw [k.get r (hc r rfl)]; exact h1, by rw [k.floor]; exact h2, h3, by have := k.next; omega⟩
theorem OwnL.of_push {s : Mem} {b ty sz : Nat} {xs : List (List AV)} (hf : s.floor ≤ b) (hb : b ≤ s.next) : OwnL (s.push ⟨ty, sz, xs⟩) b (.own s.next 0 xs.length sz) ty sz xs :=
  .inr ⟨s.next, rfl, by rw [Mem.get_push, if_pos rfl], by rw [Mem.floor_push]; omega, hb, by rw [Mem.next_push]; omega⟩
theorem OwnL.ints {s : Mem} {b : Nat} {v : AV} {ty : Nat} {k : IntKind} {l : List Int} (h : OwnL s b v ty 1 (intsA k l)) : Ints s v k l := by
  refine ⟨by rw [h.len, intsA_len], ?_⟩
  intro j i a hi
  have hlt := (List.getElem?_eq_some_iff.mp hi).1
  rcases h with ⟨_, h⟩ | ⟨r, rfl, h1, _⟩
  · have : l = [] := by simpa [intsA] using h
    subst this; simp at hi
  · refine ⟨.ptr r i 0, ?_, load_ptr1 h1 (by rw [intsA_get, hi]; rfl)⟩
    simp only [atA, toNat_cast, Option.bind_some, intsA_len, Nat.zero_add]
    rw [if_pos ⟨hlt, trivial⟩]
theorem Ints.keep {s s' : Mem} {v : AV} {k : IntKind} {l : List Int} (h : Ints s v k l) (hs : ∀ r i n z, v = .own r i n z → s'.get r = s.get r) : Ints s' v k l := by
  refine ⟨h.len, ?_⟩
  intro j i a hi
  obtain ⟨p, h1, h2⟩ := h.get j i a hi
  refine ⟨p, h1, ?_⟩
  rw [← h2]
  cases v <;> simp only [atA, toNat_cast, Option.bind_some] at h1 <;> first | (cases h1; done) | skip
  · rename_i xs
    obtain ⟨c, _, h1⟩ := Option.bind_eq_some_iff.mp h1
    split at h1
    · obtain rfl := Option.some.inj h1; rfl
    · cases h1
  · rename_i r i0 n z
    split at h1
    · obtain rfl := Option.some.inj h1
      simp only [loadA, hs r i0 n z rfl]
    · cases h1
structure Turn (r : Nat) (s s' : Mem) : Prop where
  next : s'.next = s.next
  floor : s'.floor = s.floor
  get : ∀ q, q ≠ r → s'.get q = s.get q
theorem Turn.refl (r : Nat) (s : Mem) : Turn r s s := ⟨rfl, rfl, fun _ _ => rfl⟩
theorem Turn.trans {r : Nat} {s t u : Mem} (h : Turn r s t) (k : Turn r t u) : Turn r s u := ⟨k.next.trans h.next, k.floor.trans h.floor, fun q hq => (k.get q hq).trans (h.get q hq)⟩
theorem Turn.put (r : Nat) (s : Mem) (x : Option Row) : Turn r s (s.put r x) := ⟨rfl, rfl, fun q hq => by rw [Mem.get_put, if_neg hq]⟩
theorem Turn.keep {r b : Nat} {s s' : Mem} (h : Turn r s s') (hb : b ≤ r) : Keep b s s' := ⟨by rw [h.next]; exact Nat.le_refl _, h.floor, fun q hq => h.get q (by omega)⟩
theorem at0 {k : IntKind} {r n z j : Nat} (h : j < n) : atA z (.own r 0 n z) (.int k (j : Int)) = some (.ptr r j 0) := by
  simp [atA, toNat_cast, h]
theorem pred_cast (j : Nat) (h : j < 4611686018427387904) : IntKind.i64.wrap (((j + 1 : Nat) : Int) - 1) = (j : Int) := by rw [wrap_i64 (by omega)]; omega
structure Els (s : Mem) (v : AV) (sz : Nat) (xs : List (List AV)) : Prop where
  len : lenA false v = some xs.length
  get : ∀ (j : IntKind) (i : Nat) (c : List AV), xs[i]? = some c → ∃ a, atA sz v (.int j (i : Int)) = some a ∧ (∀ agg n, n ≤ c.length → loadA s agg n a = pickCells agg (c.take n)) ∧
    ∀ off, ∃ q, addrA off a = some q ∧ ∀ agg n, off + n ≤ c.length → loadA s agg n q = pickCells agg ((c.drop off).take n)
theorem load_ref (s : Mem) (agg : Bool) (n : Nat) (c : List AV) (h : n ≤ c.length) : loadA s agg n (.ref c) = pickCells agg (c.take n) := by
  simp [loadA, slice1, h]
theorem load_ptr {s : Mem} {r i off : Nat} {row : Row} {c : List AV} (agg : Bool) (n : Nat) (h : s.get r = some row) (hi : row.els[i]? = some c) (hn : off + n ≤ c.length) : loadA s agg n (.ptr r i off) = pickCells agg ((c.drop off).take n) := by
  simp [loadA, slice1, h, hi, hn]
theorem Els.of_sl {s : Mem} {v : AV} {sz : Nat} {xs : List (List AV)} (h : isSl v xs) (hz : ∀ c ∈ xs, c.length = sz) : Els s v sz xs := by
  refine ⟨h.len, ?_⟩
  intro j i c hc
  refine ⟨.ref c, h.at_ hc (hz c (List.mem_of_getElem? hc)), fun agg n hn => load_ref s agg n c hn, ?_⟩
  intro off
  exact ⟨.ref (c.drop off), rfl, fun agg n hn => load_ref s agg n _ (by rw [List.length_drop]; omega)⟩
theorem Els.of_own {s : Mem} {r ty sz n : Nat} {xs : List (List AV)} (h : s.get r = some ⟨ty, sz, xs⟩) (hn : n = xs.length) : Els s (.own r 0 n sz) sz xs := by
  subst hn
  refine ⟨rfl, ?_⟩
  intro j i c hc
  have hlt := (List.getElem?_eq_some_iff.mp hc).1
  refine ⟨.ptr r i 0, at0 hlt, fun agg n hn => by rw [load_ptr agg n h hc (by omega)]; rfl, ?_⟩
  intro off
  exact ⟨.ptr r i off, by simp [addrA], fun agg n hn => load_ptr agg n h hc hn⟩
theorem OwnL.els {s : Mem} {b ty sz : Nat} {v : AV} {xs : List (List AV)} (h : OwnL s b v ty sz xs) : Els s v sz xs := by
  rcases h with ⟨rfl | rfl, rfl⟩ | ⟨r, rfl, h, _⟩
  · exact ⟨rfl, by intro j i c hc; simp at hc⟩
  · exact ⟨rfl, by intro j i c hc; simp at hc⟩
  · exact Els.of_own h rfl
theorem Els.keep {s s' : Mem} {v : AV} {sz : Nat} {xs : List (List AV)} (h : Els s v sz xs) (hs : ∀ r i n z, v = .own r i n z → s'.get r = s.get r) : Els s' v sz xs := by
  refine ⟨h.len, ?_⟩
  intro j i c hc
  obtain ⟨a, h1, h2, h3⟩ := h.get j i c hc
  have key : ∀ q, (∀ r i0 o, q = .ptr r i0 o → ∃ i n z, v = .own r i n z) → ∀ agg n, loadA s' agg n q = loadA s agg n q := by
    intro q hq agg n
    cases q <;> first | rfl | skip
    rename_i r i0 o
    obtain ⟨i1, n1, z1, hv⟩ := hq r i0 o rfl
    simp only [loadA, hs _ _ _ _ hv]
  have ha : ∀ r i0 o, a = .ptr r i0 o → ∃ i n z, v = .own r i n z := by
    intro r i0 o ha
    subst ha
    cases v <;> simp only [atA, toNat_cast, Option.bind_some] at h1 <;> first | (cases h1; done) | skip
    · obtain ⟨c, _, h1⟩ := Option.bind_eq_some_iff.mp h1
      split at h1 <;> cases h1
    · split at h1
      · cases h1; exact ⟨_, _, _, rfl⟩
      · cases h1
  refine ⟨a, h1, fun agg n hn => by rw [key a ha]; exact h2 agg n hn, ?_⟩
  intro off
  obtain ⟨q, h4, h5⟩ := h3 off
  have hq : ∀ r i0 o, q = .ptr r i0 o → ∃ i n z, v = .own r i n z := by
    intro r i0 o hq
    subst hq
    cases a <;> simp only [addrA] at h4 <;> first | (cases h4; done) | skip
    obtain ⟨rfl, _⟩ := AV.ptr.inj (Option.some.inj h4)
    exact ha _ _ _ rfl
  exact ⟨q, h4, fun agg n hn => by rw [key q hq]; exact h5 agg n hn⟩
end Go.VI
/- Loops by what holds at each round; what a piece of code leaves alone. No statement of the seat is proved here. -/
namespace Go.VI
open Go
def hasT (t : Nat) : CCode → Bool
  | .skip => false
  | .region _ ops => ops.any fun o => match o.dst with | some d => Nat.beq d t | none => false
  | .seq a b => hasT t a || hasT t b
  | .cond _ a b => hasT t a || hasT t b
  | .block _ b => hasT t b
  | .loop b => hasT t b
  | .exit _ => false
  | .ret => false
theorem putO_keep {e : Env} {d : Option Nat} {v : AV} {t : Nat} (h : (match d with | some d => Nat.beq d t | none => false) = false) : (putO e d v).get t = e.get t := by
  cases d with
  | none => rfl
  | some d =>
    simp only [putO, Env.get_set]
    rw [if_neg]
    intro he
    subst he
    simp at h
theorem stepO_keep {call : CallF} {o : COper} {e e' : Env} {s s' : Mem} {t : Nat} (h : stepO call o e s = some (e', s')) (ht : (match o.dst with | some d => Nat.beq d t | none => false) = false) : e'.get t = e.get t := by
  unfold stepO at h
  split at h
  · split at h
    · obtain ⟨p, _, h2⟩ := Option.map_eq_some_iff.mp h
      obtain ⟨rfl, _⟩ := Prod.mk.inj h2
      exact putO_keep ht
    · obtain ⟨p, _, h2⟩ := Option.map_eq_some_iff.mp h
      obtain ⟨rfl, _⟩ := Prod.mk.inj h2
      exact putO_keep ht
  · obtain ⟨rfl, _⟩ := Prod.mk.inj (Option.some.inj h)
    exact putO_keep ht
theorem opsA_keep {call : CallF} {t : Nat} : ∀ (l : List COper) {e e' : Env} {s s' : Mem}, opsA call l e s = some (e', s') → (l.any fun o => match o.dst with | some d => Nat.beq d t | none => false) = false → e'.get t = e.get t := by
  intro l
  induction l with
  | nil => intro e e' s s' h _; obtain ⟨rfl, _⟩ := Prod.mk.inj (Option.some.inj h); rfl
  | cons o l ih =>
    intro e e' s s' h ht
    simp only [opsA] at h
    rw [List.any_cons, Bool.or_eq_false_iff] at ht
    split at h
    · rename_i p hp
      obtain ⟨e1, s1⟩ := p
      rw [ih h ht.2, stepO_keep hp ht.1]
    · cases h
theorem exec_keep {F : Nat → Option CFunc} {t : Nat} : ∀ (n : Nat) (c : CCode) {e e' : Env} {s s' : Mem} {x : Ex}, exec F n c e s = some (x, e', s') → hasT t c = false → e'.get t = e.get t := by
  intro n
  induction n with
  | zero => intro c e e' s s' x h; simp [exec] at h
  | succ n ih =>
    intro c e e' s s' x h ht
    cases c with
    | skip => simp only [exec] at h; obtain ⟨_, h⟩ := Prod.mk.inj (Option.some.inj h); obtain ⟨rfl, _⟩ := Prod.mk.inj h; rfl
    | region d ops =>
      simp only [exec] at h
      obtain ⟨p, h1, h2⟩ := Option.map_eq_some_iff.mp h
      obtain ⟨_, h2⟩ := Prod.mk.inj h2
      obtain ⟨rfl, _⟩ := Prod.mk.inj h2
      exact opsA_keep ops (e' := p.1) (s' := p.2) h1 ht
    | seq a b =>
      simp only [exec] at h
      simp only [hasT, Bool.or_eq_false_iff] at ht
      split at h
      · rename_i e1 s1 hx
        rw [ih _ h ht.2, ih _ hx ht.1]
      · exact ih _ h ht.1
    | cond y a b =>
      simp only [exec] at h
      simp only [hasT, Bool.or_eq_false_iff] at ht
      split at h
      · exact ih _ h ht.1
      · exact ih _ h ht.2
      · cases h
    | block id b =>
      simp only [exec] at h
      simp only [hasT] at ht
      split at h
      · rename_i j e1 s1 hx
        have := ih _ hx ht
        split at h
        · obtain ⟨_, h⟩ := Prod.mk.inj (Option.some.inj h); obtain ⟨rfl, _⟩ := Prod.mk.inj h; exact this
        · obtain ⟨_, h⟩ := Prod.mk.inj (Option.some.inj h); obtain ⟨rfl, _⟩ := Prod.mk.inj h; exact this
      · exact ih _ h ht
    | loop b =>
      simp only [exec] at h
      simp only [hasT] at ht
      split at h
      · rename_i e1 s1 hx
        rw [ih _ h (by simpa only [hasT] using ht), ih _ hx ht]
      · exact ih _ h ht
    | exit id => simp only [exec] at h; obtain ⟨_, h⟩ := Prod.mk.inj (Option.some.inj h); obtain ⟨rfl, _⟩ := Prod.mk.inj h; rfl
    | ret => simp only [exec] at h; obtain ⟨_, h⟩ := Prod.mk.inj (Option.some.inj h); obtain ⟨rfl, _⟩ := Prod.mk.inj h; rfl
section
variable {F : Nat → Option CFunc}
theorem W_keep {c : CCode} {e : Env} {s : Mem} {Q : Ex → Env → Mem → Prop} (h : W F c e s Q) : W F c e s (fun x e' s' => (∀ t, hasT t c = false → e'.get t = e.get t) ∧ Q x e' s') :=
  let ⟨n, x, e', s', h1, h2⟩ := h
  ⟨n, x, e', s', h1, fun _ ht => exec_keep n c h1 ht, h2⟩
def NX (n i : Nat) (I : Nat → Env → Mem → Prop) (Q : Ex → Env → Mem → Prop) : Ex → Env → Mem → Prop
  | .normal, e, s => i < n ∧ I (i + 1) e s
  | x, e, s => Q x e s
theorem NX_normal (n i : Nat) (I : Nat → Env → Mem → Prop) (Q : Ex → Env → Mem → Prop) (e : Env) (s : Mem) : NX n i I Q .normal e s = (i < n ∧ I (i + 1) e s) := rfl
theorem NX_exit (n i id : Nat) (I : Nat → Env → Mem → Prop) (Q : Ex → Env → Mem → Prop) (e : Env) (s : Mem) : NX n i I Q (.exit id) e s = Q (.exit id) e s := rfl
theorem NX_ret (n i : Nat) (I : Nat → Env → Mem → Prop) (Q : Ex → Env → Mem → Prop) (e : Env) (s : Mem) : NX n i I Q .ret e s = Q .ret e s := rfl
theorem W_inv0 {b : CCode} {n : Nat} {I : Nat → Env → Mem → Prop} {Q : Ex → Env → Mem → Prop}
    (step : ∀ i e s, i ≤ n → I i e s → W F b e s (NX n i I Q)) : ∀ k i e s, i + k = n → I i e s → W F (.loop b) e s Q := by
  intro k
  induction k with
  | zero =>
    intro i e s hi h
    refine W_loop (W_mono (step i e s (by omega) h) ?_)
    intro x e' s' hx
    cases x with
    | normal => have := hx.1; omega
    | exit id => exact hx
    | ret => exact hx
  | succ k ih =>
    intro i e s hi h
    refine W_loop (W_mono (step i e s (by omega) h) ?_)
    intro x e' s' hx
    cases x with
    | normal => exact ih (i + 1) e' s' (by omega) hx.2
    | exit id => exact hx
    | ret => exact hx
theorem W_inv {b b' : CCode} (n : Nat) (I : Nat → Env → Mem → Prop) {E : Env} {S : Mem} {Q : Ex → Env → Mem → Prop} (hb : b = b')
    (h0 : I 0 E S) (step : ∀ i e s, i ≤ n → (∀ t, hasT t b = false → e.get t = E.get t) → I i e s → W F b' e s (NX n i I Q)) : W F (.loop b) E S Q := by
  subst hb
  refine W_inv0 (n := n) (I := fun i e s => (∀ t, hasT t b = false → e.get t = E.get t) ∧ I i e s) ?_ n 0 E S (by omega) ⟨fun _ _ => rfl, h0⟩
  intro i e s hi ⟨hk, hI⟩
  refine W_mono (W_keep (step i e s hi hk hI)) ?_
  intro x e' s' ⟨hk', hx⟩
  cases x with
  | normal => exact ⟨hx.1, fun t ht => (hk' t ht).trans (hk t ht), hx.2⟩
  | exit id => exact hx
  | ret => exact hx
end
end Go.VI
/- What a slice, a struct, a text reads as; what abides. No statement of the seat is proved here. -/
namespace Go.VI
open Go
def Sl (s : Mem) (D : Nat → Prop) (v : AV) (sz : Nat) (xs : List (List AV)) : Prop :=
  (∀ c ∈ xs, c.length = sz) ∧ ((v = .nilS ∧ xs = []) ∨ (v = .emp ∧ xs = []) ∨ v = .sl xs ∨ ∃ r i n row, v = .own r i n sz ∧ D r ∧ s.get r = some row ∧ i + n ≤ row.els.length ∧ xs = (row.els.drop i).take n)
def adr (p : AV) (off : Nat) : AV :=
  match p with
  | .ptr r i o => .ptr r i (o + off)
  | .ref cs => .ref (cs.drop off)
  | v => v
structure Pt (s : Mem) (p : AV) (c : List AV) : Prop where
  nil : nilA p = some p
  adr : ∀ off, addrA off p = some (adr p off)
  ld : ∀ agg n, loadA s agg n p = (slice1 c 0 n).bind (pickCells agg)
  ldf : ∀ off agg n, off ≤ c.length → loadA s agg n (VI.adr p off) = (slice1 c off n).bind (pickCells agg)
theorem Pt.of_ref (s : Mem) (c : List AV) : Pt s (.ref c) c := by
  refine ⟨rfl, fun _ => rfl, fun agg n => rfl, fun off agg n h => ?_⟩
  simp only [VI.adr, loadA, Option.bind_eq_bind, slice1, List.length_drop, Nat.zero_add, List.drop_zero]
  by_cases h1 : off + n ≤ c.length
  · rw [if_pos h1, if_pos (by omega)]
  · rw [if_neg h1, if_neg (by omega)]
theorem Pt.of_ptr {s : Mem} {r i o : Nat} {row : Row} {c : List AV} (h : s.get r = some row) (hi : row.els[i]? = some c) (ho : o ≤ c.length) : Pt s (.ptr r i o) (c.drop o) := by
  have key : ∀ off agg n, loadA s agg n (.ptr r i (o + off)) = (slice1 (c.drop o) off n).bind (pickCells agg) := by
    intro off agg n
    simp only [loadA, Option.bind_eq_bind, h, Option.bind_some, hi, slice1, List.length_drop, List.drop_drop]
    by_cases h1 : o + off + n ≤ c.length
    · rw [if_pos h1, if_pos (by omega)]
    · rw [if_neg h1, if_neg (by omega)]
  exact ⟨rfl, fun _ => rfl, fun agg n => key 0 agg n, fun off agg n _ => key off agg n⟩
section
variable {s s' : Mem} {D D' : Nat → Prop} {v : AV} {sz : Nat} {xs : List (List AV)}
theorem Sl.keep (h : Sl s D v sz xs) (hD : ∀ r, D r → s'.get r = s.get r) : Sl s' D v sz xs := by
  refine ⟨h.1, ?_⟩
  rcases h.2 with h | h | h | ⟨r, i, n, row, h1, h2, h3, h4, h5⟩
  · exact .inl h
  · exact .inr (.inl h)
  · exact .inr (.inr (.inl h))
  · exact .inr (.inr (.inr ⟨r, i, n, row, h1, h2, by rw [hD r h2]; exact h3, h4, h5⟩))
theorem Sl.mono (h : Sl s D v sz xs) (hD : ∀ r, D r → D' r) : Sl s D' v sz xs := by
  refine ⟨h.1, ?_⟩
  rcases h.2 with h | h | h | ⟨r, i, n, row, h1, h2, h3, h4, h5⟩
  · exact .inl h
  · exact .inr (.inl h)
  · exact .inr (.inr (.inl h))
  · exact .inr (.inr (.inr ⟨r, i, n, row, h1, hD r h2, h3, h4, h5⟩))
theorem Sl.nil (s : Mem) (D : Nat → Prop) (sz : Nat) : Sl s D .nilS sz [] := ⟨by simp, .inl ⟨rfl, rfl⟩⟩
theorem Sl.of_sl (hz : ∀ c ∈ xs, c.length = sz) : Sl s D (.sl xs) sz xs := ⟨hz, .inr (.inr (.inl rfl))⟩
theorem Sl.of_isSl (h : isSl v xs) (hz : ∀ c ∈ xs, c.length = sz) : Sl s D v sz xs := by
  rcases h with ⟨rfl, rfl⟩ | rfl
  · exact Sl.nil _ _ _
  · exact Sl.of_sl hz
theorem Sl.of_row {r ty n : Nat} (h : s.get r = some ⟨ty, sz, xs⟩) (hD : D r) (hz : ∀ c ∈ xs, c.length = sz) (hn : n = xs.length) : Sl s D (.own r 0 n sz) sz xs :=
  ⟨hz, .inr (.inr (.inr ⟨r, 0, n, _, rfl, hD, h, by simp [hn], by simp [hn]⟩))⟩
theorem Sl.len (h : Sl s D v sz xs) : lenA false v = some xs.length := by
  rcases h.2 with ⟨rfl, rfl⟩ | ⟨rfl, rfl⟩ | rfl | ⟨r, i, n, row, rfl, _, _, h4, rfl⟩
  · rfl
  · rfl
  · rfl
  · simp [lenA]; omega
theorem Sl.read (h : Sl s D v sz xs) : readAll s v = some xs := by
  rcases h.2 with ⟨rfl, rfl⟩ | ⟨rfl, rfl⟩ | rfl | ⟨r, i, n, row, rfl, _, h3, h4, rfl⟩
  · rfl
  · rfl
  · rfl
  · simp [readAll, h3, h4]
theorem Sl.uni (h : Sl s D v sz xs) : uni sz xs = true := by
  simp only [VI.uni, List.all_eq_true, beq_iff_eq]
  exact h.1
theorem Sl.at (h : Sl s D v sz xs) {i : Nat} {c : List AV} (hi : xs[i]? = some c) : ∃ p, (∀ j, atA sz v (.int j (i : Int)) = some p) ∧ Pt s p c := by
  rcases h.2 with ⟨rfl, rfl⟩ | ⟨rfl, rfl⟩ | rfl | ⟨r, k, n, row, rfl, _, h3, h4, rfl⟩
  · simp at hi
  · simp at hi
  · refine ⟨.ref c, fun j => ?_, Pt.of_ref s c⟩
    have := h.1 c (List.mem_of_getElem? hi)
    simp [atA, toNat_cast, hi, this]
  · rw [List.getElem?_take] at hi
    split at hi
    · rename_i hlt
      rw [List.getElem?_drop] at hi
      refine ⟨.ptr r (k + i) 0, fun j => ?_, ?_⟩
      · simp [atA, toNat_cast, hlt]
      · simpa using Pt.of_ptr (o := 0) h3 hi (Nat.zero_le _)
    · cases hi
theorem Sl.cut (h : Sl s D v sz xs) {lo hi : Option Nat} (h1 : lo.getD 0 ≤ hi.getD xs.length) (h2 : hi.getD xs.length ≤ xs.length) :
    ∃ v', cutA sz v lo hi = some v' ∧ Sl s D v' sz ((xs.take (hi.getD xs.length)).drop (lo.getD 0)) := by
  have hz : ∀ c ∈ (xs.take (hi.getD xs.length)).drop (lo.getD 0), c.length = sz := fun c hc => h.1 c (List.mem_of_mem_take (List.mem_of_mem_drop hc))
  rcases h.2 with ⟨rfl, rfl⟩ | ⟨rfl, rfl⟩ | rfl | ⟨r, k, n, row, rfl, hD, h3, h4, rfl⟩
  · have e1 : hi.getD 0 = 0 := by simpa using h2
    have e2 : lo.getD 0 = 0 := by simp at h1 h2; omega
    exact ⟨.nilS, by simp [cutA, e1, e2], hz, .inl ⟨rfl, by simp⟩⟩
  · have e1 : hi.getD 0 = 0 := by simpa using h2
    have e2 : lo.getD 0 = 0 := by simp at h1 h2; omega
    exact ⟨.emp, by simp [cutA, e1, e2], hz, .inr (.inl ⟨rfl, by simp⟩)⟩
  · exact ⟨_, by simp only [cutA]; rw [if_pos ⟨h1, h2, h.uni⟩], hz, .inr (.inr (.inl rfl))⟩
  · have hl : ((row.els.drop k).take n).length = n := by simp; omega
    rw [hl] at h1 h2 hz ⊢
    refine ⟨.own r (k + lo.getD 0) (hi.getD n - lo.getD 0) sz, by simp only [cutA]; rw [if_pos ⟨h1, h2, trivial⟩], hz, .inr (.inr (.inr ⟨r, _, _, row, rfl, hD, h3, by omega, ?_⟩))⟩
    rw [List.take_take, Nat.min_eq_left h2, ← List.drop_drop, List.drop_take]
end
def byteC (b : UInt8) : List AV := [.int .u8 (b.toNat : Int)]
abbrev Byt (s : Mem) (D : Nat → Prop) (v : AV) (bs : List UInt8) : Prop := Sl s D v 1 (bs.map byteC)
theorem byteOf_byteC (b : UInt8) : byteOf (byteC b) = some b := by simp [byteOf, byteC]
theorem mapM_byteC : ∀ (bs : List UInt8), (bs.map byteC).mapM byteOf = some bs := by
  intro bs
  induction bs with
  | nil => rfl
  | cons b bs ih => simp [byteOf_byteC, ih]
theorem Sl.text {s : Mem} {D : Nat → Prop} {v : AV} {bs : List UInt8} (h : Byt s D v bs) : strA s v = some (.str bs) := by
  simp only [strA, h.read, Option.bind_some, mapM_byteC, Option.map_some]
theorem Sl.lenB {s : Mem} {D : Nat → Prop} {v : AV} {sz : Nat} {α : Type} {f : α → List AV} {l : List α} (h : Sl s D v sz (l.map f)) : lenA false v = some l.length := by
  rw [h.len, List.length_map]
theorem Sl.ints {s : Mem} {D : Nat → Prop} {v : AV} {k : IntKind} {l : List Int} (h : Sl s D v 1 (intsA k l)) : Ints s v k l := by
  refine ⟨by rw [h.len, intsA_len], ?_⟩
  intro j i a hi
  obtain ⟨p, h1, h2⟩ := h.at (by rw [intsA_get, hi]; rfl)
  exact ⟨p, h1 j, by rw [h2.ld]; rfl⟩
theorem Sl.els {s : Mem} {D : Nat → Prop} {v : AV} {sz : Nat} {xs : List (List AV)} (h : Sl s D v sz xs) : Els s v sz xs := by
  refine ⟨h.len, ?_⟩
  intro j i c hc
  obtain ⟨p, h1, h2⟩ := h.at hc
  refine ⟨p, h1 j, fun agg n hn => by rw [h2.ld]; simp [slice1, hn], fun off => ⟨_, h2.adr off, fun agg n hn => ?_⟩⟩
  rw [h2.ldf off agg n (by omega)]; simp [slice1, hn]
theorem OwnL.sl {s : Mem} {b ty sz : Nat} {v : AV} {xs : List (List AV)} {D : Nat → Prop} (h : OwnL s b v ty sz xs) (hz : ∀ c ∈ xs, c.length = sz) (hD : ∀ r n, v = .own r 0 n sz → D r) : Sl s D v sz xs := by
  rcases h with ⟨rfl | rfl, rfl⟩ | ⟨r, rfl, h, _⟩
  · exact Sl.nil _ _ _
  · exact ⟨by simp, .inr (.inl ⟨rfl, rfl⟩)⟩
  · exact Sl.of_row h (hD r _ rfl) hz rfl
def Lt (b r : Nat) : Prop := r < b
theorem Keep.D {b : Nat} {s s' : Mem} (h : Keep b s s') : ∀ r, Lt b r → s'.get r = s.get r := h.get
theorem Lt.mono {a b r : Nat} (h : Lt a r) (hab : a ≤ b) : Lt b r := Nat.lt_of_lt_of_le h hab
theorem drop_cons {α : Type} {l : List α} {i : Nat} {a : α} (h : l[i]? = some a) : l.drop i = a :: l.drop (i + 1) := by
  obtain ⟨hi, rfl⟩ := List.getElem?_eq_some_iff.mp h
  rw [List.drop_eq_getElem_cons hi]
theorem drop_end {α : Type} {l : List α} {i : Nat} (h : ¬ i < l.length) : l.drop i = [] := List.drop_eq_nil_of_le (by omega)
theorem get_of {α : Type} {l : List α} {i : Nat} (h : i < l.length) : ∃ a, l[i]? = some a := ⟨l[i], List.getElem?_eq_getElem h⟩
end Go.VI
/- Variables in rows, what grows by one. No statement of the seat is proved here. -/
namespace Go.VI
open Go
theorem Tr.setF_setF {α : Type} (x y : α) : ∀ (k j : Nat) (t : Tr α) (n : Nat), n < k → n < j → setF j (setF k t n x) n y = setF j t n y := by
  intro k
  induction k with
  | zero => intro j t n h; omega
  | succ k ih =>
    intro j t n hn hj
    match j, hj with
    | j + 1, hj =>
      cases t <;> simp only [setF, cond_eq_ite, Nat.beq_eq]
      all_goals by_cases h0 : n = 0
      all_goals simp only [h0, if_true, if_false, setF, cond_eq_ite, Nat.beq_eq, Nat.zero_mod]
      all_goals by_cases h1 : n % 2 = 1
      all_goals simp only [h0, h1, if_true, if_false, setF, cond_eq_ite, Nat.beq_eq]
      all_goals rw [ih _ _ _ (by omega) (by omega)]
theorem Tr.set_set {α : Type} (t : Tr α) (n : Nat) (x y : α) : (t.set n x).set n y = t.set n y := Tr.setF_setF x y _ _ t n (Nat.lt_succ_self n) (Nat.lt_succ_self n)
theorem put_push (s : Mem) (x y : Row) : (s.push x).put s.next (some y) = s.push y := by
  simp only [Mem.push, Mem.put, Tr.set_set]
theorem Keep.load {b : Nat} {s s' : Mem} (h : Keep b s s') {r : Nat} (hr : r < b) (agg : Bool) (n i o : Nat) : loadA s' agg n (.ptr r i o) = loadA s agg n (.ptr r i o) := by
  simp only [loadA, h.get r hr]
theorem Keep.box {b : Nat} {s s' : Mem} (h : Keep b s s') {r : Nat} {row : Row} (hr : r < b) (hg : s.get r = some row) : s'.get r = some row := by rw [h.get r hr]; exact hg
theorem Keep.ok {b : Nat} {s s' : Mem} (h : Keep b s s') (hf : s.floor ≤ s.next) : s'.floor ≤ s'.next := by rw [h.floor]; exact Nat.le_trans hf h.next
structure KeepX (x : AV) (s s' : Mem) : Prop where
  next : s.next ≤ s'.next
  floor : s'.floor = s.floor
  get : ∀ r, r < s.next → (∀ i n z, x ≠ .own r i n z) → s'.get r = s.get r
theorem KeepX.push (v : AV) (s : Mem) (x : Row) : KeepX v s (s.push x) :=
  ⟨by rw [Mem.next_push]; omega, rfl, fun r hr _ => by rw [Mem.get_push, if_neg (by omega)]⟩
theorem KeepX.keep {x : AV} {s s' : Mem} {b : Nat} (h : KeepX x s s') (hb : b ≤ s.next) (hx : ∀ r i n z, x = .own r i n z → b ≤ r) : Keep b s s' :=
  ⟨h.next, h.floor, fun r hr => h.get r (by omega) (fun i n z e => by have := hx r i n z e; omega)⟩
theorem OwnL.row {s : Mem} {b ty sz : Nat} {v : AV} {xs : List (List AV)} (h : OwnL s b v ty sz xs) : ∀ r i n z, v = .own r i n z → b ≤ r ∧ r < s.next := by
  intro r i n z e
  rcases h with ⟨rfl | rfl, _⟩ | ⟨r', rfl, _, _, h1, h2⟩
  · cases e
  · cases e
  · obtain ⟨rfl, _⟩ := AV.own.inj e; exact ⟨h1, h2⟩
theorem OwnL.push {s : Mem} {b ty sz : Nat} {v : AV} {xs : List (List AV)} (h : OwnL s b v ty sz xs) (x : Row) : OwnL (s.push x) b v ty sz xs := by
  rcases h with h | ⟨r, rfl, h1, h2, h3, h4⟩
  · exact .inl h
  · exact .inr ⟨r, rfl, by rw [Mem.get_push, if_neg (by omega)]; exact h1, h2, h3, by rw [Mem.next_push]; omega⟩
theorem OwnL.le {s : Mem} {b c ty sz : Nat} {v : AV} {xs : List (List AV)} (h : OwnL s b v ty sz xs) (hc : c ≤ b) : OwnL s c v ty sz xs := by
  rcases h with h | ⟨r, rfl, h1, h2, h3, h4⟩
  · exact .inl h
  · exact .inr ⟨r, rfl, h1, h2, by omega, h4⟩
theorem OwnL.nil (s : Mem) (b ty sz : Nat) : OwnL s b .nilS ty sz [] := .inl ⟨.inl rfl, rfl⟩
theorem OwnL.emp (s : Mem) (b ty sz : Nat) : OwnL s b .emp ty sz [] := .inl ⟨.inr rfl, rfl⟩
theorem app_x {F : Nat → Option CFunc} {ty sz bytes b : Nat} {ox oy : Opd} {e : Env} {s : Mem} {xs ys : List (List AV)} {K : AV → Mem → Prop} (hf : s.floor ≤ b) (hb : b ≤ s.next) (hx : OwnL s b (ev e ox) ty sz xs) (hy : readAll s (ev e oy) = some ys) (hu : uni sz ys = true)
    (hroom : roomOk (xs.length + ys.length) bytes = true) (hK : ∀ v' s', OwnL s' b v' ty sz (xs ++ ys) → KeepX (ev e ox) s s' → (ev e ox ≠ .nilS → v' ≠ .nilS) → (∀ r i n z, v' = .own r i n z → s.next ≤ r) → K v' s') : Wp F (.app ty sz bytes ox oy) e s K := by
  rw [Wp_app]
  simp only [stepOp, appA, Option.bind_eq_bind, hy, Option.bind_some, if_pos hu]
  rcases hx with ⟨h1 | h1, rfl⟩ | ⟨r, h1, h2, h3, h4, h5⟩
  · simp only [h1]
    by_cases hn : ys = []
    · rw [if_pos hn, K2_some]
      exact hK _ _ (.inl ⟨.inl rfl, by simp [hn]⟩) ⟨Nat.le_refl _, rfl, fun _ _ _ => rfl⟩ (fun h => absurd h1 h) (fun _ _ _ _ h => by cases h)
    · rw [if_neg hn, if_pos (by simpa using hroom), K2_some]
      exact hK _ _ (by simpa using OwnL.of_push (ty := ty) (sz := sz) (xs := ys) hf hb) (KeepX.push _ _ _) (fun _ h => by cases h) (fun r i n z h => by obtain ⟨rfl, _⟩ := AV.own.inj h; exact Nat.le_refl _)
  · simp only [h1]
    by_cases hn : ys = []
    · rw [if_pos hn, K2_some]
      exact hK _ _ (.inl ⟨.inr rfl, by simp [hn]⟩) ⟨Nat.le_refl _, rfl, fun _ _ _ => rfl⟩ (fun _ h => by cases h) (fun _ _ _ _ h => by cases h)
    · rw [if_neg hn, if_pos (by simpa using hroom), K2_some]
      exact hK _ _ (by simpa using OwnL.of_push (ty := ty) (sz := sz) (xs := ys) hf hb) (KeepX.push _ _ _) (fun _ h => by cases h) (fun r i n z h => by obtain ⟨rfl, _⟩ := AV.own.inj h; exact Nat.le_refl _)
  · simp only [h1, h2, Option.bind_some]
    rw [if_pos ⟨trivial, Nat.le_refl _, trivial, trivial, h3, hroom⟩, K2_some, List.take_length]
    have h6 : (s.put r none).floor ≤ b := hf
    have h7 : b ≤ (s.put r none).next := hb
    have := OwnL.of_push (ty := ty) (sz := sz) (xs := xs ++ ys) h6 h7
    rw [List.length_append, Mem.next_put] at this
    refine hK _ _ this ⟨by rw [Mem.next_push, Mem.next_put]; omega, rfl, ?_⟩ (fun _ h => by cases h) (fun r i n z h => by obtain ⟨rfl, _⟩ := AV.own.inj h; exact Nat.le_refl _)
    intro q hq hne
    rw [Mem.get_push, Mem.next_put, if_neg (by omega), Mem.get_put, if_neg]
    intro he
    subst he
    exact hne _ _ _ (by rw [h1])
theorem app_lit {F : Nat → Option CFunc} {ty sz bytes b : Nat} {ox oy : Opd} {e : Env} {s : Mem} {v : AV} {ty2 k : Nat} {xs ys : List (List AV)} {K : AV → Mem → Prop} (hf : s.floor ≤ b) (hb : b ≤ s.next) (hx : OwnL s b v ty sz xs) (ex : ev e ox = v) (ey : ev e oy = .own s.next 0 k sz) (hk : k = ys.length) (hu : uni sz ys = true)
    (hroom : roomOk (xs.length + ys.length) bytes = true) (hK : ∀ v' s', OwnL s' b v' ty sz (xs ++ ys) → KeepX v s s' → (∀ r i n z, v' = .own r i n z → s.next ≤ r) → (v ≠ .nilS → v' ≠ .nilS) → K v' s') : Wp F (.app ty sz bytes ox oy) e (s.push ⟨ty2, sz, ys⟩) K := by
  refine app_x (b := b) (xs := xs) (ys := ys) hf (by rw [Mem.next_push]; omega) (by rw [ex]; exact hx.push _) ?_ hu hroom ?_
  · rw [ey, hk]; simp [readAll, Mem.get_push]
  · intro v' s' h1 h2 h3 h4
    rw [ex] at h2 h3
    refine hK v' s' h1 ⟨?_, h2.floor, ?_⟩ ?_ h3
    · have := h2.next; rw [Mem.next_push] at this; omega
    · intro r hr hne
      rw [h2.get r (by rw [Mem.next_push]; omega) hne, Mem.get_push, if_neg (by omega)]
    · intro r i n z h
      have := h4 r i n z h
      rw [Mem.next_push] at this; omega
theorem room {n bytes : Nat} (h : n * bytes ≤ 140737488355328) (h2 : n ≤ 9223372036854775807) : roomOk n bytes = true := by
  simp only [roomOk, Bool.and_eq_true, Nat.ble_eq]; exact ⟨h2, h⟩
theorem ne_s1 (n : Nat) : (n = n + 1) = False := by simp
theorem ne_s2 (n : Nat) : (n = n + 1 + 1) = False := by simp; omega
theorem ne_s3 (n : Nat) : (n = n + 1 + 1 + 1) = False := by simp; omega
theorem ne_s4 (n : Nat) : (n = n + 1 + 1 + 1 + 1) = False := by simp; omega
theorem ne_s5 (n : Nat) : (n = n + 1 + 1 + 1 + 1 + 1) = False := by simp; omega
theorem lt_s1 (n : Nat) : (n < n + 1) = True := by simp
theorem lt_s2 (n : Nat) : (n < n + 1 + 1) = True := by simp; omega
theorem lt_s3 (n : Nat) : (n < n + 1 + 1 + 1) = True := by simp; omega
theorem lt_s4 (n : Nat) : (n < n + 1 + 1 + 1 + 1) = True := by simp; omega
theorem lt_s5 (n : Nat) : (n < n + 1 + 1 + 1 + 1 + 1) = True := by simp; omega
theorem slice1_one (x : AV) (l : List AV) : slice1 (x :: l) 0 1 = some [x] := by simp [slice1]
theorem slice1_next (x : AV) (l : List AV) (o n : Nat) : slice1 (x :: l) (o + 1) n = slice1 l o n := by
  simp only [slice1, List.length_cons, List.drop_succ_cons]
  by_cases h : o + n ≤ l.length
  · rw [if_pos h, if_pos (by omega)]
  · rw [if_neg h, if_neg (by omega)]
theorem slice1_none (l : List AV) : slice1 l 0 0 = some [] := by simp [slice1]
theorem slice1_more (x : AV) (l : List AV) (n : Nat) : slice1 (x :: l) 0 (n + 1) = (slice1 l 0 n).map (x :: ·) := by
  simp only [slice1, List.length_cons, List.drop_zero, List.take_succ_cons, Nat.zero_add]
  by_cases h : n ≤ l.length
  · rw [if_pos h, if_pos (by omega)]; rfl
  · rw [if_neg h, if_neg (by omega)]; rfl
theorem pick_one (v : AV) : pickCells false [v] = some v := id rfl
theorem pick_agg (cs : List AV) : pickCells true cs = some (.agg cs) := id rfl
theorem fieldA_agg (agg : Bool) (off sz : Nat) (cs : List AV) : fieldA agg off sz (.agg cs) = (slice1 cs off sz).bind (pickCells agg) := rfl
theorem cells_agg (cs : List AV) : cells (.agg cs) = cs := id rfl
theorem cells_int (k : IntKind) (n : Int) : cells (.int k n) = [.int k n] := id rfl
theorem cells_bool (b : Bool) : cells (.bool b) = [.bool b] := id rfl
theorem cells_str (b : List UInt8) : cells (.str b) = [.str b] := id rfl
theorem cell_int (k : IntKind) (n : Int) : isCell (.int k n) = true := id rfl
theorem cell_bool (b : Bool) : isCell (.bool b) = true := id rfl
theorem cell_str (b : List UInt8) : isCell (.str b) = true := id rfl
theorem cell_nil : isCell .nilS = true := id rfl
theorem cell_emp : isCell .emp = true := id rfl
theorem cell_sl (xs : List (List AV)) : isCell (.sl xs) = true := id rfl
theorem cell_own (r i n z : Nat) : isCell (.own r i n z) = true := id rfl
theorem cell_ptr (r i o : Nat) : isCell (.ptr r i o) = true := id rfl
theorem cell_nilP : isCell .nilP = true := id rfl
theorem cells_nil : cells .nilS = [.nilS] := id rfl
theorem cells_own (r i n z : Nat) : cells (.own r i n z) = [.own r i n z] := id rfl
theorem cells_cell {v : AV} (h : isCell v = true) : cells v = [v] := by cases v <;> first | rfl | (simp [isCell] at h)
theorem next_push' (s : Mem) (x : Row) : (s.push x).next = s.next + 1 := id rfl
theorem floor_push' (s : Mem) (x : Row) : (s.push x).floor = s.floor := id rfl
theorem next_put' (s : Mem) (r : Nat) (x : Option Row) : (s.put r x).next = s.next := id rfl
theorem floor_put' (s : Mem) (r : Nat) (x : Option Row) : (s.put r x).floor = s.floor := id rfl
theorem loadA_ptr (s : Mem) (agg : Bool) (n r i o : Nat) : loadA s agg n (.ptr r i o) = (s.get r).bind fun row => (row.els[i]?).bind fun cs => (slice1 cs o n).bind (pickCells agg) := id rfl
theorem storeA_ptr (s : Mem) (n r i o : Nat) (x : AV) : storeA s n (.ptr r i o) x = (s.get r).bind fun row => (row.els[i]?).bind fun cs => if (cells x).length = n ∧ o + n ≤ cs.length ∧ s.floor ≤ r ∧ (cells x).all isCell = true then some (s.put r (some { row with els := row.els.set i (putCells cs o (cells x)) })) else none := id rfl
theorem load_refA (s : Mem) (agg : Bool) (n : Nat) (cs : List AV) : loadA s agg n (.ref cs) = (slice1 cs 0 n).bind (pickCells agg) := id rfl
theorem putC_nil (cs : List AV) : putCells cs 0 [] = cs := by simp [putCells]
theorem putC_zero (c x : AV) (cs xs : List AV) : putCells (c :: cs) 0 (x :: xs) = x :: putCells cs 0 xs := by simp [putCells]
theorem putC_succ (c : AV) (cs xs : List AV) (o : Nat) : putCells (c :: cs) (o + 1) xs = c :: putCells cs o xs := by
  simp only [putCells, List.take_succ_cons, List.cons_append, List.append_assoc]
  rw [show o + 1 + xs.length = (o + xs.length) + 1 by omega, List.drop_succ_cons]
theorem Keep.ne {b : Nat} {s s' : Mem} (h : Keep b s s') {r : Nat} (hr : r < s.next) : (r = s'.next) = False := by
  have := h.next
  simp; omega
theorem Keep.ne1 {b : Nat} {s s' : Mem} (h : Keep b s s') {r : Nat} (hr : r < s.next) : (r = s'.next + 1) = False := by
  have := h.next
  simp; omega
theorem s_ne1 (n : Nat) : (n + 1 = n) = False := by simp
theorem s_ne2 (n : Nat) : (n + 1 + 1 = n) = False := by simp; omega
theorem put_push' (s : Mem) (x y : Row) (r : Nat) (h : r = s.next) : (s.push x).put r (some y) = s.push y := by subst h; exact put_push s x y
theorem le_s1 {a b : Nat} (h : a ≤ b) : (a ≤ b + 1) = True := by simp; omega
theorem Sl.cell {s : Mem} {D : Nat → Prop} {v : AV} {sz : Nat} {xs : List (List AV)} (h : Sl s D v sz xs) : isCell v = true := by
  rcases h.2 with ⟨rfl, _⟩ | ⟨rfl, _⟩ | rfl | ⟨_, _, _, _, rfl, _⟩ <;> rfl
theorem Sl.slice {s : Mem} {D : Nat → Prop} {v : AV} {sz : Nat} {xs : List (List AV)} (h : Sl s D v sz xs) : sliceA v = true := by
  rcases h.2 with ⟨rfl, _⟩ | ⟨rfl, _⟩ | rfl | ⟨_, _, _, _, rfl, _⟩ <;> rfl
theorem OwnL.slice {s : Mem} {b ty sz : Nat} {v : AV} {xs : List (List AV)} (h : OwnL s b v ty sz xs) : sliceA v = true := by
  rcases h with ⟨rfl | rfl, _⟩ | ⟨r, rfl, _⟩ <;> rfl
structure Holding (p : Prop) : Prop where
  out : p
abbrev In (D : Nat → Prop) (s : Mem) : Prop := ∀ r, D r → r < s.next
theorem In.push {D : Nat → Prop} {s : Mem} (h : In D s) (x : Row) : In D (s.push x) := fun r hr => by rw [Mem.next_push]; have := h r hr; omega
theorem In.keep {D : Nat → Prop} {s s' : Mem} {b : Nat} (h : In D s) (k : Keep b s s') : In D s' := fun r hr => Nat.lt_of_lt_of_le (h r hr) k.next
theorem pushes (s : Mem) (x : Row) : Keep s.next s (s.push x) := Keep.push (Nat.le_refl _) _
theorem Keep.then {s t u : Mem} (h : Keep s.next s t) (k : Keep t.next t u) : Keep s.next s u := h.trans (k.le h.next)
theorem K_of {s s1 : Mem} {K : AV → Mem → Prop} {b c : Bool} (hK : ∀ s', Keep s.next s s' → K (.bool b) s') (hk : Keep s.next s s1) (h : b = c) : K (.bool c) s1 := h ▸ hK s1 hk
theorem old_refl (s : Mem) : Keep s.next s s = True := eq_true (Keep.refl _ _)
theorem old_push {s M : Mem} (h : Keep s.next s M) (x : Row) : Keep s.next s (M.push x) = True := eq_true (h.then (pushes M x))
theorem Keep.at {b : Nat} {s M : Mem} (h : Keep b s M) : Keep b s (M.at s.floor) := ⟨h.next, rfl, h.get⟩
theorem Keep.of_at {b f : Nat} {s M : Mem} (h : Keep b (s.at f) M) : Keep b s (M.at s.floor) := ⟨h.next, rfl, h.get⟩
theorem old_at {s M : Mem} (h : Keep s.next s M) : Keep s.next s (M.at s.floor) = True := eq_true h.at
structure Ptk (s : Mem) (p : AV) (c : List AV) : Prop where
  nil : nilA p = some p
  adr : ∀ off, addrA off p = some (adr p off)
  ld : ∀ M, Keep s.next s M → ∀ agg n, loadA M agg n p = (slice1 c 0 n).bind (pickCells agg)
  ldf : ∀ M, Keep s.next s M → ∀ off agg n, off ≤ c.length → loadA M agg n (VI.adr p off) = (slice1 c off n).bind (pickCells agg)
theorem Sl.atk {s : Mem} {D : Nat → Prop} {v : AV} {sz : Nat} {xs : List (List AV)} (h : Sl s D v sz xs) (hI : In D s) {i : Nat} {c : List AV} (hi : xs[i]? = some c) : ∃ p, (∀ j, atA sz v (.int j (i : Int)) = some p) ∧ Ptk s p c := by
  rcases h.2 with ⟨rfl, rfl⟩ | ⟨rfl, rfl⟩ | rfl | ⟨r, k, n, row, rfl, hD, h3, h4, rfl⟩
  · simp at hi
  · simp at hi
  · refine ⟨.ref c, fun j => ?_, ⟨rfl, fun _ => rfl, fun M _ => (Pt.of_ref M c).ld, fun M _ => (Pt.of_ref M c).ldf⟩⟩
    have := h.1 c (List.mem_of_getElem? hi)
    simp [atA, toNat_cast, hi, this]
  · rw [List.getElem?_take] at hi
    split at hi
    · rename_i hlt
      rw [List.getElem?_drop] at hi
      have P : ∀ M, Keep s.next s M → Pt M (.ptr r (k + i) 0) c := fun M hM => by simpa using Pt.of_ptr (o := 0) ((hM.get r (hI r hD)).trans h3) hi (Nat.zero_le _)
      refine ⟨.ptr r (k + i) 0, fun j => ?_, ⟨rfl, fun _ => rfl, fun M hM => (P M hM).ld, fun M hM => (P M hM).ldf⟩⟩
      simp [atA, toNat_cast, hlt]
    · cases hi
theorem Sl.atkB {s : Mem} {D : Nat → Prop} {v : AV} {sz : Nat} {α : Type} {f : α → List AV} {l : List α} (h : Sl s D v sz (l.map f)) (hI : In D s) {i : Nat} {a : α} (hi : l[i]? = some a) : ∃ p, (∀ j, atA sz v (.int j (i : Int)) = some p) ∧ Ptk s p (f a) :=
  h.atk hI (by rw [List.getElem?_map, hi]; rfl)
theorem Sl.readk {s : Mem} {D : Nat → Prop} {v : AV} {sz : Nat} {xs : List (List AV)} (h : Sl s D v sz xs) (hI : In D s) : ∀ M, Keep s.next s M → readAll M v = some xs := fun _ hM => (h.keep fun r hr => hM.get r (hI r hr)).read
theorem OwnL.at {s : Mem} {b ty sz f : Nat} {v : AV} {xs : List (List AV)} (h : OwnL s b v ty sz xs) (hf : f ≤ b) : OwnL (s.at f) b v ty sz xs := by
  rcases h with h | ⟨r, rfl, h1, h2, h3, h4⟩
  · exact .inl h
  · exact .inr ⟨r, rfl, h1, Nat.le_trans hf h3, h3, h4⟩
theorem Sl.at_ {s : Mem} {D : Nat → Prop} {v : AV} {sz f : Nat} {xs : List (List AV)} (h : Sl s D v sz xs) : Sl (s.at f) D v sz xs := h
theorem fill_all (sz : Nat) (e : Env) (o : Opd) (c : List AV) : fillLit sz e [(0, o)] (List.replicate 1 c) = if (cells (ev e o)).length = sz ∧ (cells (ev e o)).all isCell = true then some [cells (ev e o)] else none := by
  simp [fillLit, List.replicate]
theorem eq_nil : eqA .sl .nilS .nilS = some true := id rfl
theorem ext_tup (n : Nat) (vs : List AV) : extA n (.tup vs) = vs[n]? := id rfl
theorem parts_nil (e : Env) (cs : List AV) : fillParts e [] cs = some cs := id rfl
theorem parts_cons (e : Env) (o sz : Nat) (x : Opd) (r : List (Nat × Nat × Opd)) (cs : List AV) : fillParts e ((o, sz, x) :: r) cs = if (cells (ev e x)).length = sz ∧ o + sz ≤ cs.length ∧ (cells (ev e x)).all isCell = true then fillParts e r (putCells cs o (cells (ev e x))) else none := id rfl
theorem nat_ne {a : Nat} {M : Mem} (h : a < M.next) : (a = M.next) = False := by simp; omega
theorem nat_ne' {a : Nat} {M : Mem} (h : a < M.next) : (M.next = a) = False := by simp; omega
theorem lt_ss {a : Nat} {M : Mem} (h : a < M.next) : (a + 1 < M.next + 1) = True := by simp; omega
theorem lt_s {a : Nat} {M : Mem} (h : a < M.next) : (a < M.next + 1) = True := by simp; omega
end Go.VI
/- The step's lemmas under one name. No statement of the seat is proved here. -/
namespace Go.VI
open Go
set_option maxRecDepth 10000
theorem vis0 : type_of% (And.intro @ev.eq_1<|
And.intro @ev.eq_2<|
And.intro @putO.eq_1<|
And.intro @putO.eq_2<|
And.intro @intOp.eq_1<|
And.intro @intOp.eq_2<|
And.intro @intOp.eq_3<|
And.intro @intOp.eq_4<|
And.intro @intOp.eq_5<|
And.intro @intOp.eq_6<|
And.intro @intOp.eq_7<|
And.intro @intOp.eq_8<|
And.intro @intOp.eq_9<|
And.intro @intOp.eq_10<|
And.intro @intOp.eq_11<|
And.intro @intOp.eq_12<|
And.intro @intOp.eq_13<|
And.intro @intOp.eq_14<|
And.intro @intOp.eq_15<|
And.intro @intOp.eq_16<|
And.intro @intOp.eq_17<|
And.intro @resultsA.eq_1<|
And.intro @resA.eq_1<|
And.intro @resA.eq_2<|
And.intro @Env.start.eq_1<|
And.intro @Env.ofList.eq_1<|
And.intro @Env.ofList.eq_2<|
And.intro @Ws_op<|
And.intro @Ws_up<|
And.intro @Ws_hide<|
And.intro @hr_nil<|
And.intro @hr_cons<|
And.intro @hr1_some<|
And.intro @hr1_none<|
And.intro @row_ptr<|
And.intro @row_own<|
And.intro @row_ref<|
And.intro @row_tup<|
And.intro @hide_nil<|
And.intro @hide_cons<|
And.intro @bring_nil<|
And.intro @bring_cons<|
And.intro @Ws_nil<|
And.intro @Wp_call<|
And.intro @Wp_mv<|
And.intro @Wp_pk<|
And.intro @gv_true<|
And.intro @gv_false<|
And.intro @wB_t<|
And.intro @wB_f<|
And.intro @wB_gt<|
And.intro @wB_gf<|
And.intro @wB_und<|
And.intro @pk_true<|
And.intro @pk_false<|
And.intro @pk_and<|
And.intro @pk_or<|
And.intro @pk_and'<|
And.intro @pk_or'<|
And.intro @GW_true<|
And.intro @GW_false<|
And.intro @eqA_b<|
And.intro @st_eql<|
And.intro @st_neq<|
And.intro @st_lss<|
And.intro @st_leq<|
And.intro @st_gtr<|
And.intro @st_geq<|
And.intro @Bool.and_false<|
And.intro @Bool.false_and<|
And.intro @Bool.or_false<|
And.intro @Bool.false_or<|
And.intro @Bool.or_true<|
And.intro @Bool.true_or<|
And.intro @Wp_new<|
And.intro @Wp_box<|
And.intro @Wp_build<|
And.intro @Wp_lit<|
And.intro @litV_zero<|
And.intro @litV_succ<|
And.intro @Wp_load<|
And.intro @Wp_store<|
And.intro @Wp_nilCheck<|
And.intro @Wp_ibin<|
And.intro @Wp_sbin<|
And.intro @Wp_beq<|
And.intro @Wp_un<|
And.intro @Wp_conv<|
And.intro @Wp_toStr<|
And.intro @Wp_same<|
And.intro @Wp_ifc<|
And.intro @Wp_fn<|
And.intro @Wp_cutS<|
And.intro @Wp_cutT<|
And.intro @Wp_cut3<|
And.intro @Wp_fieldAddr<|
And.intro @Wp_field<|
And.intro @Wp_at<|
And.intro @Wp_atT<|
And.intro @Wp_ixA<|
And.intro @Wp_atP<|
And.intro @Wp_ext<|
And.intro @Wp_len<|
And.intro @Wp_mkMap<|
And.intro @Wp_mapGet<|
And.intro @Wp_mapPut<|
And.intro @Wp_lenM<|
And.intro @Wp_clr<|
And.intro @P1_some<|
And.intro @ibinA_int<|
And.intro @sbinA_str<|
And.intro @unA_not<|
And.intro @unA_neg<|
And.intro @convA_int<|
And.intro @sameA_str<|
And.intro @nilA_ptr<|
And.intro @nilA_ref<|
And.intro @nilA_fn<|
And.intro @addrA_ptr<|
And.intro @addrA_ref<|
And.intro @lenA_nil<|
And.intro @lenA_emp<|
And.intro @lenA_sl<|
And.intro @lenA_own<|
And.intro @lenA_str<|
And.intro @bdA_none<|
And.intro @K2_some<|
And.intro @K2_none<|
And.intro @Seq_normal<|
And.intro @Seq_exit<|
And.intro @Seq_ret<|
And.intro @Blk_normal<|
And.intro @Blk_exit<|
And.intro @Blk_ret<|
And.intro @RK_normal<|
And.intro @RK_ret<|
And.intro @NX_normal<|
And.intro @NX_exit<|
And.intro @NX_ret<|
And.intro @P1_K2<|
And.intro @List.mapM_cons.{0,0,0}<|
And.intro @List.mapM_nil.{0,0,0}<|
And.intro @Option.bind_eq_bind.{0}<|
And.intro @Option.bind_some.{0,0}<|
And.intro @Option.pure_def.{0}<|
And.intro @Env.get_set<|
And.intro @Option.map_some.{0,0}<|
And.intro @Option.map_none.{0,0}<|
And.intro @asB_bool<|
And.intro @asG_bool<|
And.intro @asG_und<|
And.intro @Cs_true<|
And.intro @Cs_false<|
And.intro @List.map_cons.{0,0}<|
And.intro @List.map_nil.{0,0}<|
And.intro @List.append_nil.{0}<|
And.intro @List.nil_append.{0}<|
And.intro @List.cons_append.{0}<|
And.intro @ne_eq.{1}<|
And.intro @not_true_eq_false<|
And.intro @not_false_eq_true<|
And.intro @beq_self_eq_true.{0}<|
And.intro @beq_true<|
And.intro @beq_false<|
And.intro @decide_true<|
And.intro @decide_false<|
And.intro @Bool.not_true<|
And.intro @Bool.not_false<|
And.intro @Bool.false_eq_true<|
And.intro @Bool.not_eq_true<|
And.intro @fill_one<|
And.intro @one1_int<|
And.intro @fill_none<|
And.intro @mem_eta<|
And.intro @load_floor<|
And.intro @load_refA<|
And.intro @Mem.get_push<|
And.intro @Mem.get_put<|
And.intro @next_push'<|
And.intro @floor_push'<|
And.intro @next_put'<|
And.intro @floor_put'<|
And.intro @put_push'<|
And.intro @putC_nil<|
And.intro @putC_zero<|
And.intro @putC_succ<|
And.intro @s_ne1<|
And.intro @s_ne2<|
And.intro @Nat.le_refl<|
And.intro @and_self<|
And.intro @ne_s1<|
And.intro @ne_s2<|
And.intro @ne_s3<|
And.intro @ne_s4<|
And.intro @ne_s5<|
And.intro @lt_s1<|
And.intro @lt_s2<|
And.intro @lt_s3<|
And.intro @lt_s4<|
And.intro @lt_s5<|
And.intro @le_s1<|
And.intro @ext_tup<|
And.intro @parts_nil<|
And.intro @parts_cons<|
And.intro @fill_all<|
And.intro @nat_ne<|
And.intro @nat_ne'<|
And.intro @lt_ss<|
And.intro @lt_s<|
And.intro @old_refl<|
And.intro @old_push<|
And.intro @old_at<|
And.intro @mat_push<|
And.intro @mat_put<|
And.intro @mat_at<|
And.intro @mat_self<|
And.intro @mat_get<|
And.intro @mat_next<|
And.intro @mat_floor<|
And.intro @mat_load<|
And.intro @mat_read<|
And.intro @mat_str<|
And.intro @slice1_one<|
And.intro @slice1_next<|
And.intro @slice1_none<|
And.intro @slice1_more<|
And.intro @pick_one<|
And.intro @pick_agg<|
And.intro @fieldA_agg<|
And.intro @cells_agg<|
And.intro @cells_int<|
And.intro @cells_bool<|
And.intro @cells_str<|
And.intro @cells_nil<|
And.intro @cells_own<|
And.intro @cell_int<|
And.intro @cell_bool<|
And.intro @cell_str<|
And.intro @cell_nil<|
And.intro @cell_emp<|
And.intro @cell_sl<|
And.intro @cell_own<|
And.intro @cell_ptr<|
And.intro @cell_nilP<|
And.intro @List.length_cons.{0}<|
And.intro @List.length_nil.{0}<|
And.intro @List.all_cons.{0}<|
And.intro @List.all_nil.{0}<|
And.intro @Bool.and_true<|
And.intro @Bool.true_and<|
And.intro @Bool.and_self<|
And.intro @List.getElem?_cons_zero.{0}<|
And.intro @List.getElem?_cons_succ.{0}<|
And.intro @List.set_cons_zero.{0}<|
And.intro @true_and<|
@and_true) := And.intro @ev.eq_1<|
And.intro @ev.eq_2<|
And.intro @putO.eq_1<|
And.intro @putO.eq_2<|
And.intro @intOp.eq_1<|
And.intro @intOp.eq_2<|
And.intro @intOp.eq_3<|
And.intro @intOp.eq_4<|
And.intro @intOp.eq_5<|
And.intro @intOp.eq_6<|
And.intro @intOp.eq_7<|
And.intro @intOp.eq_8<|
And.intro @intOp.eq_9<|
And.intro @intOp.eq_10<|
And.intro @intOp.eq_11<|
And.intro @intOp.eq_12<|
And.intro @intOp.eq_13<|
And.intro @intOp.eq_14<|
And.intro @intOp.eq_15<|
And.intro @intOp.eq_16<|
And.intro @intOp.eq_17<|
And.intro @resultsA.eq_1<|
And.intro @resA.eq_1<|
And.intro @resA.eq_2<|
And.intro @Env.start.eq_1<|
And.intro @Env.ofList.eq_1<|
And.intro @Env.ofList.eq_2<|
And.intro @Ws_op<|
And.intro @Ws_up<|
And.intro @Ws_hide<|
And.intro @hr_nil<|
And.intro @hr_cons<|
And.intro @hr1_some<|
And.intro @hr1_none<|
And.intro @row_ptr<|
And.intro @row_own<|
And.intro @row_ref<|
And.intro @row_tup<|
And.intro @hide_nil<|
And.intro @hide_cons<|
And.intro @bring_nil<|
And.intro @bring_cons<|
And.intro @Ws_nil<|
And.intro @Wp_call<|
And.intro @Wp_mv<|
And.intro @Wp_pk<|
And.intro @gv_true<|
And.intro @gv_false<|
And.intro @wB_t<|
And.intro @wB_f<|
And.intro @wB_gt<|
And.intro @wB_gf<|
And.intro @wB_und<|
And.intro @pk_true<|
And.intro @pk_false<|
And.intro @pk_and<|
And.intro @pk_or<|
And.intro @pk_and'<|
And.intro @pk_or'<|
And.intro @GW_true<|
And.intro @GW_false<|
And.intro @eqA_b<|
And.intro @st_eql<|
And.intro @st_neq<|
And.intro @st_lss<|
And.intro @st_leq<|
And.intro @st_gtr<|
And.intro @st_geq<|
And.intro @Bool.and_false<|
And.intro @Bool.false_and<|
And.intro @Bool.or_false<|
And.intro @Bool.false_or<|
And.intro @Bool.or_true<|
And.intro @Bool.true_or<|
And.intro @Wp_new<|
And.intro @Wp_box<|
And.intro @Wp_build<|
And.intro @Wp_lit<|
And.intro @litV_zero<|
And.intro @litV_succ<|
And.intro @Wp_load<|
And.intro @Wp_store<|
And.intro @Wp_nilCheck<|
And.intro @Wp_ibin<|
And.intro @Wp_sbin<|
And.intro @Wp_beq<|
And.intro @Wp_un<|
And.intro @Wp_conv<|
And.intro @Wp_toStr<|
And.intro @Wp_same<|
And.intro @Wp_ifc<|
And.intro @Wp_fn<|
And.intro @Wp_cutS<|
And.intro @Wp_cutT<|
And.intro @Wp_cut3<|
And.intro @Wp_fieldAddr<|
And.intro @Wp_field<|
And.intro @Wp_at<|
And.intro @Wp_atT<|
And.intro @Wp_ixA<|
And.intro @Wp_atP<|
And.intro @Wp_ext<|
And.intro @Wp_len<|
And.intro @Wp_mkMap<|
And.intro @Wp_mapGet<|
And.intro @Wp_mapPut<|
And.intro @Wp_lenM<|
And.intro @Wp_clr<|
And.intro @P1_some<|
And.intro @ibinA_int<|
And.intro @sbinA_str<|
And.intro @unA_not<|
And.intro @unA_neg<|
And.intro @convA_int<|
And.intro @sameA_str<|
And.intro @nilA_ptr<|
And.intro @nilA_ref<|
And.intro @nilA_fn<|
And.intro @addrA_ptr<|
And.intro @addrA_ref<|
And.intro @lenA_nil<|
And.intro @lenA_emp<|
And.intro @lenA_sl<|
And.intro @lenA_own<|
And.intro @lenA_str<|
And.intro @bdA_none<|
And.intro @K2_some<|
And.intro @K2_none<|
And.intro @Seq_normal<|
And.intro @Seq_exit<|
And.intro @Seq_ret<|
And.intro @Blk_normal<|
And.intro @Blk_exit<|
And.intro @Blk_ret<|
And.intro @RK_normal<|
And.intro @RK_ret<|
And.intro @NX_normal<|
And.intro @NX_exit<|
And.intro @NX_ret<|
And.intro @P1_K2<|
And.intro @List.mapM_cons.{0,0,0}<|
And.intro @List.mapM_nil.{0,0,0}<|
And.intro @Option.bind_eq_bind.{0}<|
And.intro @Option.bind_some.{0,0}<|
And.intro @Option.pure_def.{0}<|
And.intro @Env.get_set<|
And.intro @Option.map_some.{0,0}<|
And.intro @Option.map_none.{0,0}<|
And.intro @asB_bool<|
And.intro @asG_bool<|
And.intro @asG_und<|
And.intro @Cs_true<|
And.intro @Cs_false<|
And.intro @List.map_cons.{0,0}<|
And.intro @List.map_nil.{0,0}<|
And.intro @List.append_nil.{0}<|
And.intro @List.nil_append.{0}<|
And.intro @List.cons_append.{0}<|
And.intro @ne_eq.{1}<|
And.intro @not_true_eq_false<|
And.intro @not_false_eq_true<|
And.intro @beq_self_eq_true.{0}<|
And.intro @beq_true<|
And.intro @beq_false<|
And.intro @decide_true<|
And.intro @decide_false<|
And.intro @Bool.not_true<|
And.intro @Bool.not_false<|
And.intro @Bool.false_eq_true<|
And.intro @Bool.not_eq_true<|
And.intro @fill_one<|
And.intro @one1_int<|
And.intro @fill_none<|
And.intro @mem_eta<|
And.intro @load_floor<|
And.intro @load_refA<|
And.intro @Mem.get_push<|
And.intro @Mem.get_put<|
And.intro @next_push'<|
And.intro @floor_push'<|
And.intro @next_put'<|
And.intro @floor_put'<|
And.intro @put_push'<|
And.intro @putC_nil<|
And.intro @putC_zero<|
And.intro @putC_succ<|
And.intro @s_ne1<|
And.intro @s_ne2<|
And.intro @Nat.le_refl<|
And.intro @and_self<|
And.intro @ne_s1<|
And.intro @ne_s2<|
And.intro @ne_s3<|
And.intro @ne_s4<|
And.intro @ne_s5<|
And.intro @lt_s1<|
And.intro @lt_s2<|
And.intro @lt_s3<|
And.intro @lt_s4<|
And.intro @lt_s5<|
And.intro @le_s1<|
And.intro @ext_tup<|
And.intro @parts_nil<|
And.intro @parts_cons<|
And.intro @fill_all<|
And.intro @nat_ne<|
And.intro @nat_ne'<|
And.intro @lt_ss<|
And.intro @lt_s<|
And.intro @old_refl<|
And.intro @old_push<|
And.intro @old_at<|
And.intro @mat_push<|
And.intro @mat_put<|
And.intro @mat_at<|
And.intro @mat_self<|
And.intro @mat_get<|
And.intro @mat_next<|
And.intro @mat_floor<|
And.intro @mat_load<|
And.intro @mat_read<|
And.intro @mat_str<|
And.intro @slice1_one<|
And.intro @slice1_next<|
And.intro @slice1_none<|
And.intro @slice1_more<|
And.intro @pick_one<|
And.intro @pick_agg<|
And.intro @fieldA_agg<|
And.intro @cells_agg<|
And.intro @cells_int<|
And.intro @cells_bool<|
And.intro @cells_str<|
And.intro @cells_nil<|
And.intro @cells_own<|
And.intro @cell_int<|
And.intro @cell_bool<|
And.intro @cell_str<|
And.intro @cell_nil<|
And.intro @cell_emp<|
And.intro @cell_sl<|
And.intro @cell_own<|
And.intro @cell_ptr<|
And.intro @cell_nilP<|
And.intro @List.length_cons.{0}<|
And.intro @List.length_nil.{0}<|
And.intro @List.all_cons.{0}<|
And.intro @List.all_nil.{0}<|
And.intro @Bool.and_true<|
And.intro @Bool.true_and<|
And.intro @Bool.and_self<|
And.intro @List.getElem?_cons_zero.{0}<|
And.intro @List.getElem?_cons_succ.{0}<|
And.intro @List.set_cons_zero.{0}<|
And.intro @true_and<|
@and_true
theorem vis : type_of% vis0 := vis0
theorem viz : type_of% (And.intro @loadA_ptr <| And.intro @storeA_ptr vis0) := And.intro @loadA_ptr <| And.intro @storeA_ptr vis0
theorem w_1 : type_of% @W_seq := @W_seq
theorem w_2 : type_of% @W_region := @W_region
theorem w_3 : type_of% @W_block := @W_block
theorem w_4 : type_of% @W_if := @W_if
theorem w_5 : type_of% @W_skip := @W_skip
theorem w_6 : type_of% @W_ret := @W_ret
theorem w_7 : type_of% @W_exit := @W_exit
theorem w_8 : type_of% @Cs_intro := @Cs_intro
theorem w_9 : type_of% @Ws_gd := @Ws_gd
theorem w_12 : type_of% @GW_cs := @GW_cs
theorem w_13 {F : Nat → Option CFunc} {x : Bool} {d : Option Nat} {o : COp} {up : Bool} {r : List COper} {e : Env} {s : Mem} {K : Env → Mem → Prop} {v : AV} (hv : x = true → Wp F o e (bif up then s.at s.next else s) (fun v' s' => v' = v ∧ s' = bif up then s.at s.next else s)) (h : Ws F r (putO e d (gv x v)) s K) : GW F x d o up [] r e s K := by
  cases up with
  | false => exact GW_op hv h
  | true => exact GW_up hv h
end Go.VI

