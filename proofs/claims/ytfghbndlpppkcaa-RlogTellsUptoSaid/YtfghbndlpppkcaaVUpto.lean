/- A law's row of the second form out of the abstract run. No statement of the seat is proved here. -/
import Derived.Test.YtfghbndlpppkcaaVLaw
import Derived.Test.YtfghbndlpppkcaaRows
import Derived.Deep.CondSized
import Derived.JoinedCond
namespace Go.Proofs.Ytfghbndlpppkcaa
open Go Go.VI Go.RowKit Go.ChangeShapes Go.WideShapes Go.ChangeAt

/-- Types without a map or a pointer, their elements' bytes at most `M`. -/
def byB (P : Program) (M : Nat) : Nat → TypeId → Bool
  | 0, _ => false
  | d + 1, t => match P.underlying t with
    | some (.slice e) => Nat.ble (P.bytesOf e) M && byB P M d e
    | some (.struct fs) => fs.toList.all fun f => byB P M d f.type
    | some (.array _ e) => byB P M d e
    | some (.pointer _) | some (.map _ _) => false
    | _ => true

section
variable {H : Type} {P : Program} {M : Nat}

theorem bulk_pos (d : DataW H) : 1 ≤ Rows.uptoBulk d := by
  cases d with
  | lit l => cases l <;> simp [Rows.uptoBulk]
  | nil => simp [Rows.uptoBulk]
  | ptr d => simp [Rows.uptoBulk]
  | slice a b => simp [Rows.uptoBulk]
  | agg a => simp [Rows.uptoBulk]
  | iface a b => simp [Rows.uptoBulk]
  | map a => simp [Rows.uptoBulk]
  | held a => simp [Rows.uptoBulk]

theorem bulk_len : ∀ l : List (DataW H), l.length ≤ Rows.uptoBulkAll l := by
  intro l
  induction l with
  | nil => simp
  | cons d l ih =>
    have := bulk_pos d
    simp only [List.length_cons, Rows.uptoBulkAll]
    omega

theorem up_mul {n a b : Nat} (h : n ≤ a * M) (hab : a ≤ b) : n ≤ b * M := Nat.le_trans h (Nat.mul_le_mul_right _ hab)

theorem by_all {e : TypeId} (he : ∀ (D : DataW H), ∀ n ∈ D.weights P e, n ≤ Rows.uptoBulk D * M) : ∀ (l : List (DataW H)), ∀ n ∈ DataW.weightsAll P e l, n ≤ Rows.uptoBulkAll l * M := by
  intro l
  induction l with
  | nil => intro n hn; simp [DataW.weightsAll] at hn
  | cons d l ih =>
    intro n hn
    simp only [DataW.weightsAll, List.mem_append] at hn
    simp only [Rows.uptoBulkAll]
    rcases hn with hn | hn
    · exact up_mul (he d n hn) (by omega)
    · exact up_mul (ih n hn) (by omega)
theorem by_each : ∀ (ts : List TypeId), (∀ t ∈ ts, ∀ (D : DataW H), ∀ n ∈ D.weights P t, n ≤ Rows.uptoBulk D * M) → ∀ (l : List (DataW H)), ∀ n ∈ DataW.weightsEach P ts l, n ≤ Rows.uptoBulkAll l * M := by
  intro ts
  induction ts with
  | nil => intro _ l n hn; simp [DataW.weightsEach] at hn
  | cons t ts ih =>
    intro he l n hn
    cases l with
    | nil => simp [DataW.weightsEach] at hn
    | cons d l =>
      simp only [DataW.weightsEach, List.mem_append] at hn
      simp only [Rows.uptoBulkAll]
      rcases hn with hn | hn
      · exact up_mul (he t (List.mem_cons_self ..) d n hn) (by omega)
      · exact up_mul (ih (fun u hu => he u (List.mem_cons_of_mem _ hu)) l n hn) (by omega)

theorem by_ok (hM : 1 ≤ M) : ∀ (d : Nat) (t : TypeId), byB P M d t = true → ∀ (D : DataW H), ∀ n ∈ D.weights P t, n ≤ Rows.uptoBulk D * M := by
  intro d
  induction d with
  | zero => intro t h; simp [byB] at h
  | succ d ih =>
    intro t h D n hn
    have one : ∀ a : Nat, a ≤ a * M := fun a => by simpa using Nat.mul_le_mul_left a hM
    cases D with
    | lit l =>
      cases l <;> simp only [DataW.weights, List.mem_cons, List.not_mem_nil, or_false] at hn
      subst hn
      simp only [Rows.uptoBulk]
      exact Nat.le_trans (Nat.le_succ _) (one _)
    | nil => simp [DataW.weights] at hn
    | held _ => simp [DataW.weights] at hn
    | iface _ _ => simp [DataW.weights] at hn
    | ptr x =>
      simp only [DataW.weights] at hn
      split at hn
      · rename_i e hu; simp [byB, hu] at h
      · simp at hn
    | map x =>
      simp only [DataW.weights] at hn
      split at hn
      · rename_i e hu; simp [byB, hu] at h
      · simp at hn
    | slice el sp =>
      simp only [DataW.weights] at hn
      split at hn
      · rename_i e hu
        simp only [byB, hu, Bool.and_eq_true, Nat.ble_eq] at h
        have he := ih e h.2
        have l1 := bulk_len el
        have l2 := bulk_len sp
        simp only [Rows.uptoBulk]
        rcases List.mem_cons.mp hn with rfl | hn
        · exact Nat.mul_le_mul (by omega) h.1
        · rcases List.mem_append.mp hn with hn | hn
          · exact up_mul (by_all he _ n hn) (by omega)
          · exact up_mul (by_all he _ n hn) (by omega)
      · simp at hn
    | agg ps =>
      simp only [DataW.weights] at hn
      split at hn
      · rename_i fs hu
        simp only [byB, hu, List.all_eq_true] at h
        simp only [Rows.uptoBulk]
        refine up_mul (by_each _ ?_ _ n hn) (Nat.le_succ _)
        intro t ht
        obtain ⟨f, hf, rfl⟩ := List.mem_map.mp ht
        exact ih _ (h f hf)
      · rename_i k e hu
        simp only [byB, hu] at h
        simp only [Rows.uptoBulk]
        exact up_mul (by_all (ih e h) _ n hn) (Nat.le_succ _)
      · simp at hn
end

/-- How large an argument's parts are. -/
abbrev upTo : Nat := 4294967296

/-- A LAW THAT ANSWERS TRUE WHERE ITS ARGUMENTS ARE SMALL: its row. -/
theorem law_upto {C : Checked} {X : Nat → Option CFunc} (hX : XOK C.prog X) {os : Os} {f : FuncId} {fn : Func} {s : ChangeSpec} {conds : List PathCond} {H : Type} {enc : TypeId × Value → H} {ts : List TypeId} {rt : TypeId} {d : Nat} {F : Stop.Interp}
    (own : ownKnob C.prog.godebug = none) (started : os.Started) (noInit : C.prog.inits.idxOf? f = none) (hfn : C.prog.funcs[f]? = some fn)
    (witness : ∃ (w : World) (tape : Tape) (i : Input), w.os = os ∧ (w.forCall tape i).Shaped C.prog ∧ i.vars = [] ∧ Input.okWide C.prog (w.forCall tape i) .any w.heap.size f i ∧
      (Rows.OpenSpec.upto s).pre6 enc C.prog fn conds false (w.forCall tape i).memory i.args ∧ ({} : Assume).holds C.prog (lone (Frame.enter C.prog f i.args .normal) [] (w.forCall tape i)))
    (hvars : s.vars = []) (hparams : fn.params.toList = ts) (hres : fn.resultTypes = #[rt]) (hrt : C.prog.underlying rt = some .bool)
    (hspec : ∀ (ds : List (DataW H)), ds.length = ts.length → s.fn H ds = { results := [.lit (.bool true)], args := ds })
    (laid : laidOutB C.prog = true) (hread : ts.all (fun t => C.prog.readableRec t && decide (t < C.prog.types.size)) = true) (hrd : ts.all (rdB C.prog d) = true) (hby : ts.all (byB C.prog 4096 d) = true)
    (walk : ∀ avs, TyVs C.prog upTo d ts avs → ∃ k s', run (compX C.prog X) k f avs Mem.zero = some (.bool true, s')) :
    ReturnsInHanded {} C os f .any ((Rows.OpenSpec.upto s).pre6 enc C.prog fn conds false) (((Rows.OpenSpec.upto s).at F).post enc C.prog fn false true false false) := by
  refine returnsInHanded_of_cond_sized (k := Rows.uptoSmall) rfl own started noInit hfn witness ?_
  intro W base args ds gs before hval hW _ hk _ _
  have hW' : DataW.Whole enc C.prog fn.params.toList s.vars false W args.toList ds gs before := hW
  have hWs := hW'
  rw [hvars] at hW'
  obtain ⟨p, q, hA, hV, rfl, hfz, hnd⟩ := hW'
  obtain ⟨rfl, rfl⟩ := trodVars_none hV
  rw [hparams] at hA
  rw [List.append_nil] at hk
  have hk' : Rows.uptoBulkAll ds ≤ 1048576 := of_decide_eq_true hk
  have hsz : ∀ n ∈ DataW.weightsEach C.prog ts ds, n ≤ upTo := by
    intro n hn
    have := by_each (M := 4096) ts (fun t ht D n hn => by_ok (by decide) d t (List.all_eq_true.mp hby t ht) D n hn) ds n hn
    have h2 : Rows.uptoBulkAll ds * 4096 ≤ 1048576 * 4096 := Nat.mul_le_mul_right _ hk'
    simp only [upTo]; omega
  obtain ⟨⟨avs, k1, k2⟩, k3⟩ := args_told (B := upTo) (m := fun _ => none) (d := d) (rc := .any) (base := base) ts args.toList ds p hA hrd (fun j t v a b => hval j t v (by rw [← Array.getElem?_toList, hparams]; exact a) (by rw [← Array.getElem?_toList]; exact b)) hsz
  obtain ⟨k, s', hrun⟩ := walk avs k2
  refine (law_calls (W := W) (vs := args) hX hrun (by simpa using k1)).mono fun e W' ⟨he, bel⟩ => ?_
  subst he
  show ∃ v, _ ∧ s.post enc C.prog fn false true false false W args v W'
  refine ⟨_, rfl, ds, [], p ++ [], [], p, [], hWs, ?_, ?_, ?_, ?_, fun h => by cases h⟩
  · rw [List.append_nil, hspec ds k3, hres]
    exact trodAll_mk1 (shut_bool hrt _)
  · rw [List.append_nil, hspec ds k3, hparams]
    exact args_back laid bel ts _ _ _ hA hread
  · rw [List.append_nil, hspec ds k3, hvars]
    rfl
  · exact bel.frame _
end Go.Proofs.Ytfghbndlpppkcaa
