/- Regions whose order is drawn. No statement of the seat is proved here. -/
import Derived.Test.YtdbbmeihhemflaaVRegion
import Derived.Orders
namespace Go.VI
open Go Go.RowKit

/-! What must be done ahead: the marks of Region.before. -/
def bmask (acc : Array Nat) (o : Oper) : Nat := o.after.foldl (fun s e => if Region.binds .any e then s ||| 2 ^ e.on ||| acc.getD e.on 0 else s) 0

theorem before_eq (ops : Array Oper) : Region.before ops = ops.toList.foldl (fun acc o => acc.push (bmask acc o)) #[] := by
  rw [Region.before, ← Array.foldl_toList]; rfl

theorem foldl_push_size (g : Array Nat → Oper → Nat) : ∀ (l : List Oper) (acc : Array Nat), (l.foldl (fun acc o => acc.push (g acc o)) acc).size = acc.size + l.length := by
  intro l
  induction l with
  | nil => intro acc; rfl
  | cons o l ih => intro acc; rw [List.foldl_cons, ih]; simp; omega

theorem foldl_push_old (g : Array Nat → Oper → Nat) : ∀ (l : List Oper) (acc : Array Nat) (k : Nat), k < acc.size → (l.foldl (fun acc o => acc.push (g acc o)) acc)[k]? = acc[k]? := by
  intro l
  induction l with
  | nil => intro acc k _; rfl
  | cons o l ih =>
    intro acc k hk
    rw [List.foldl_cons, ih _ _ (by simp; omega), Array.getElem?_push_lt hk]
    simp

theorem bmask_bit {acc : Array Nat} {o : Oper} {j : Nat} (h : (bmask acc o).testBit j = true) : ∃ e ∈ o.after.toList, Region.binds .any e = true ∧ (j = e.on ∨ (acc.getD e.on 0).testBit j = true) := by
  unfold bmask at h
  rw [← Array.foldl_toList] at h
  have key : ∀ (l : List Edge) (s : Nat), (l.foldl (fun s e => if Region.binds .any e then s ||| 2 ^ e.on ||| acc.getD e.on 0 else s) s).testBit j = true →
      s.testBit j = true ∨ ∃ e ∈ l, Region.binds .any e = true ∧ (j = e.on ∨ (acc.getD e.on 0).testBit j = true) := by
    intro l
    induction l with
    | nil => intro s h; exact .inl h
    | cons e l ih =>
      intro s h
      rw [List.foldl_cons] at h
      rcases ih _ h with h | ⟨e', he', h1, h2⟩
      · split at h
        · rename_i hb
          rw [Nat.testBit_or, Nat.testBit_or, Bool.or_eq_true, Bool.or_eq_true] at h
          rcases h with (h | h) | h
          · exact .inl h
          · refine .inr ⟨e, by simp, hb, .inl ?_⟩
            rw [Nat.testBit_two_pow] at h
            simpa [eq_comm] using h
          · exact .inr ⟨e, by simp, hb, .inr h⟩
        · exact .inl h
      · exact .inr ⟨e', List.mem_cons_of_mem _ he', h1, h2⟩
  rcases key _ _ h with h | h
  · simp at h
  · exact h

/-- A mark comes of an edge. -/
theorem before_bit {ops : Array Oper} {i j : Nat} {o : Oper} (ho : ops[i]? = some o) (h : ((Region.before ops).getD i 0).testBit j = true) :
    ∃ e ∈ o.after.toList, Region.binds .any e = true ∧ (j = e.on ∨ (e.on < i ∧ ((Region.before ops).getD e.on 0).testBit j = true)) := by
  have hi : i < ops.toList.length := by have := (Array.getElem?_eq_some_iff.mp ho).1; simpa using this
  rw [before_eq] at h ⊢
  have hsplit : ops.toList = ops.toList.take i ++ o :: ops.toList.drop (i + 1) := by
    have : ops.toList[i] = o := by
      have h1 := (Array.getElem?_eq_some_iff.mp ho).2
      simpa using h1
    rw [← this, ← List.drop_eq_getElem_cons hi, List.take_append_drop]
  let pre := (ops.toList.take i).foldl (fun acc o => acc.push (bmask acc o)) #[]
  have hpre : pre.size = i := by
    show ((ops.toList.take i).foldl (fun acc o => acc.push (bmask acc o)) #[]).size = i
    rw [foldl_push_size, List.length_take, Nat.min_eq_left (Nat.le_of_lt hi)]; simp
  have hall : ∀ k, k < i + 1 → (ops.toList.foldl (fun acc o => acc.push (bmask acc o)) #[])[k]? = (pre.push (bmask pre o))[k]? := by
    intro k hk
    conv => lhs; rw [hsplit, List.foldl_append, List.foldl_cons]
    rw [foldl_push_old _ _ _ _ (by simp; show k < pre.size + 1; omega)]
  rw [Array.getD_eq_getD_getElem?, hall i (by omega)] at h
  have h' : (bmask pre o).testBit j = true := by
    rw [← hpre] at h
    simpa using h
  obtain ⟨e, he, h1, h2⟩ := bmask_bit h'
  refine ⟨e, he, h1, ?_⟩
  rcases h2 with h2 | h2
  · exact .inl h2
  · right
    by_cases hlt : e.on < i
    · refine ⟨hlt, ?_⟩
      rw [Array.getD_eq_getD_getElem?, hall _ (by omega), Array.getElem?_push_lt (by omega)]
      rw [Array.getD_eq_getD_getElem?] at h2
      have : pre[e.on]? = some pre[e.on] := by simp
      rw [this] at h2
      simpa using h2
    · exfalso
      rw [Array.getD_eq_getD_getElem?, Array.getElem?_eq_none (by omega)] at h2
      simp at h2

section
variable {P : Program} {W0 : World} {n : Nat} {call : CallF} {ops : Array Oper} {cs : List COper}

def listed (L : Array Bool) (i : Nat) : Prop := L.getD i true = true

/-- Whatever is listed has all listed that it waits for. -/
def Closed (ops : Array Oper) (L : Array Bool) : Prop := ∀ (i : Nat) (o : Oper), ops[i]? = some o → L[i]? = some true → ∀ e ∈ o.after.toList, Region.binds .any e = true → L[e.on]? = some true

theorem closed_bef {L : Array Bool} (hE : edgesOk ops = true) (hc : Closed ops L) : ∀ (i : Nat) (o : Oper), ops[i]? = some o → (∀ e ∈ o.after.toList, Region.binds .any e = true → L[e.on]? = some true) → ∀ j, ((Region.before ops).getD i 0).testBit j = true → L[j]? = some true ∧ j < i := by
  intro i
  induction i using Nat.strongRecOn with
  | _ i ih =>
    intro o ho hw j hj
    obtain ⟨e, he, h1, h2⟩ := before_bit ho hj
    have hlt : e.on < i := by
      have := List.all_eq_true.mp hE (o, i) (by
        rw [List.mem_iff_getElem?]
        refine ⟨i, ?_⟩
        rw [List.getElem?_zipIdx, Array.getElem?_toList, ho]; simp)
      have := List.all_eq_true.mp this e he
      simpa [h1, Nat.blt_eq] using this
    rcases h2 with rfl | ⟨_, h2⟩
    · exact ⟨hw e he h1, hlt⟩
    · have hon : e.on < ops.size := by have := (Array.getElem?_eq_some_iff.mp ho).1; omega
      have ho' : ops[e.on]? = some ops[e.on] := by simp
      obtain ⟨g1, g2⟩ := ih e.on hlt _ ho' (hc _ _ ho' (hw e he h1)) j h2
      exact ⟨g1, by omega⟩

/-- The text's run, step by step. -/
structure Traj (call : CallF) (cs : List COper) (E : Nat → Env) (S : Nat → Mem) (R : Nat → AV) : Prop where
  step : ∀ (i : Nat) (co : COper), cs[i]? = some co → valO call co (E i) (S i) = some (R i, S (i + 1)) ∧ E (i + 1) = putO (E i) co.dst (R i)

theorem traj_of : ∀ (l : List COper) (e e' : Env) (s s' : Mem), opsA call l e s = some (e', s') → ∃ E S R, Traj call l E S R ∧ E 0 = e ∧ S 0 = s ∧ E l.length = e' ∧ S l.length = s' := by
  intro l
  induction l with
  | nil =>
    intro e e' s s' h
    simp only [opsA] at h
    obtain ⟨rfl, rfl⟩ := Prod.mk.inj (Option.some.inj h)
    exact ⟨fun _ => e, fun _ => s, fun _ => und, ⟨by intro i co h; simp at h⟩, rfl, rfl, rfl, rfl⟩
  | cons o l ih =>
    intro e e' s s' h
    simp only [opsA] at h
    split at h
    · rename_i p hp
      rw [stepO_val] at hp
      obtain ⟨⟨v, s1⟩, hv, hp2⟩ := Option.map_eq_some_iff.mp hp
      subst hp2
      obtain ⟨E, S, R, hT, h1, h2, h3, h4⟩ := ih _ _ _ _ h
      refine ⟨fun i => if i = 0 then e else E (i - 1), fun i => if i = 0 then s else S (i - 1), fun i => if i = 0 then v else R (i - 1), ⟨?_⟩, rfl, rfl, by simpa using h3, by simpa using h4⟩
      intro i co hi
      match i, hi with
      | 0, hi =>
        simp at hi
        subst hi
        simp only [if_true, Nat.zero_add, Nat.one_ne_zero, if_false, Nat.sub_self]
        rw [h1, h2]
        exact ⟨hv, rfl⟩
      | i + 1, hi =>
        simp at hi
        have := hT.step i co hi
        simpa using this
    · cases h

theorem traj_step (hcall : ∀ g avs s r s', WfM s → call g avs s = some (r, s') → Step s s') {E : Nat → Env} {S : Nat → Mem} {R : Nat → AV} (hT : Traj call cs E S R) : ∀ (d i : Nat), i + d ≤ cs.length → WfM (S i) → Step (S i) (S (i + d)) := by
  intro d
  induction d with
  | zero => intro i _ h; exact Step.refl h
  | succ d ih =>
    intro i hi h
    have hco : cs[i]? = some cs[i] := List.getElem?_eq_getElem (by omega)
    have h1 := (valO_step hcall h (hT.step i _ hco).1).1
    have h2 := ih (i + 1) (by omega) h1.wf
    have := h1.trans h2
    rwa [show i + 1 + d = i + (d + 1) by omega] at this

theorem traj_wf (hcall : ∀ g avs s r s', WfM s → call g avs s = some (r, s') → Step s s') {E : Nat → Env} {S : Nat → Mem} {R : Nat → AV} (hT : Traj call cs E S R) (h0 : WfM (S 0)) (i : Nat) (hi : i ≤ cs.length) : WfM (S i) := by
  have := (traj_step hcall hT i 0 (by omega) h0).wf
  rwa [Nat.zero_add] at this

theorem traj_to (hcall : ∀ g avs s r s', WfM s → call g avs s = some (r, s') → Step s s') {E : Nat → Env} {S : Nat → Mem} {R : Nat → AV} (hT : Traj call cs E S R) (h0 : WfM (S 0)) {i j : Nat} (hij : i ≤ j) (hj : j ≤ cs.length) : Step (S i) (S j) := by
  have := traj_step hcall hT (j - i) i (by omega) (traj_wf hcall hT h0 i (by omega))
  rwa [show i + (j - i) = j by omega] at this

/-- Where all operations between are of an open order, what was there stays. -/
theorem traj_up (hcall : ∀ g avs s r s', WfM s → call g avs s = some (r, s') → Step s s') {E : Nat → Env} {S : Nat → Mem} {R : Nat → AV} (hT : Traj call cs E S R) (h0 : WfM (S 0)) : ∀ (d i : Nat), i + d ≤ cs.length → (∀ j co, i ≤ j → j < i + d → cs[j]? = some co → co.up = true) → ∀ q, q < (S i).next → (S (i + d)).get q = (S i).get q := by
  intro d
  induction d with
  | zero => intro i _ _ q _; rfl
  | succ d ih =>
    intro i hi hup q hq
    have hco : cs[i]? = some cs[i] := List.getElem?_eq_getElem (by omega)
    have h1 := valO_step hcall (traj_wf hcall hT h0 i (by omega)) (hT.step i _ hco).1
    have h2 := ih (i + 1) (by omega) (fun j co h1 h2 h3 => hup j co (by omega) (by omega) h3) q (Nat.lt_of_lt_of_le hq h1.1.next)
    rw [show i + (d + 1) = i + 1 + d by omega, h2]
    exact h1.2.1 (hup i _ (Nat.le_refl _) (by omega) hco) q hq

/-- A row that all operations between leave alone. -/
theorem traj_keep (hcall : ∀ g avs s r s', WfM s → call g avs s = some (r, s') → Step s s') {E : Nat → Env} {S : Nat → Mem} {R : Nat → AV} (hT : Traj call cs E S R) (h0 : WfM (S 0)) (q : Nat) : ∀ (d i : Nat), i + d ≤ cs.length → q < (S i).next → (∀ j co, i ≤ j → j < i + d → cs[j]? = some co → co.up = true ∨ q ∈ hideRows (E j) co.hide) → (S (i + d)).get q = (S i).get q := by
  intro d
  induction d with
  | zero => intro i _ _ _; rfl
  | succ d ih =>
    intro i hi hq hup
    have hco : cs[i]? = some cs[i] := List.getElem?_eq_getElem (by omega)
    have h1 := valO_step hcall (traj_wf hcall hT h0 i (by omega)) (hT.step i _ hco).1
    have h2 := ih (i + 1) (by omega) (Nat.lt_of_lt_of_le hq h1.1.next) (fun j co h1 h2 h3 => hup j co (by omega) (by omega) h3)
    rw [show i + (d + 1) = i + 1 + d by omega, h2]
    cases hu : cs[i].up with
    | true => exact h1.2.1 hu q hq
    | false =>
      rcases hup i _ (Nat.le_refl _) (by omega) hco with h | h
      · rw [hu] at h; cases h
      · exact h1.2.2 hu q h

/-- The environment where some have been done. -/
def envL (cs : List COper) (R : Nat → AV) (L : Array Bool) (e : Env) : Nat → Env
  | 0 => e
  | i + 1 => if L.getD i false = true then putO (envL cs R L e i) ((cs[i]?).bind (·.dst)) (R i) else envL cs R L e i

/-- Each temporary is written once. -/
def Once (cs : List COper) : Prop := ∀ (i j : Nat) (p q : COper) (d : Nat), cs[i]? = some p → cs[j]? = some q → p.dst = some d → q.dst = some d → i = j

theorem putO_get (e : Env) (d : Option Nat) (v : AV) (t : Nat) : (putO e d v).get t = if d = some t then v else e.get t := by
  cases d with
  | none => simp [putO]
  | some d =>
    simp only [putO, Env.get_set, Option.some.injEq]
    by_cases h : t = d
    · subst h; simp
    · have : ¬ d = t := fun e => h e.symm
      simp [h, this]

theorem envL_get (hO : Once cs) {R : Nat → AV} {L : Array Bool} {e : Env} (t : Nat) : ∀ (k : Nat), k ≤ cs.length →
    (∀ (i : Nat) (p : COper), i < k → cs[i]? = some p → p.dst = some t → L.getD i false = true → (envL cs R L e k).get t = R i) ∧
    ((∀ (i : Nat) (p : COper), i < k → cs[i]? = some p → p.dst = some t → L.getD i false = false) → (envL cs R L e k).get t = e.get t) := by
  intro k
  induction k with
  | zero => intro _; exact ⟨fun i p h => by omega, fun _ => rfl⟩
  | succ k ih =>
    intro hk
    obtain ⟨ih1, ih2⟩ := ih (by omega)
    have hco : cs[k]? = some cs[k] := List.getElem?_eq_getElem (by omega)
    refine ⟨?_, ?_⟩
    · intro i p hi hp hd hl
      simp only [envL]
      by_cases hik : i = k
      · subst hik
        rw [if_pos hl, putO_get, hp]
        simp [hd]
      · have := ih1 i p (by omega) hp hd hl
        split
        · rw [putO_get, hco]
          simp only [Option.bind_some]
          rw [if_neg]
          · exact this
          · intro hdk
            exact hik (hO i k p cs[k] t hp hco hd hdk)
        · exact this
    · intro hno
      simp only [envL]
      have := ih2 fun i p hi => hno i p (by omega)
      split
      · rename_i hl
        rw [putO_get, hco]
        simp only [Option.bind_some]
        rw [if_neg]
        · exact this
        · intro hdk
          have := hno k _ (by omega) hco hdk
          rw [this] at hl
          cases hl
      · exact this

theorem traj_env (hO : Once cs) {E : Nat → Env} {S : Nat → Mem} {R : Nat → AV} (hT : Traj call cs E S R) (t : Nat) : ∀ (k : Nat), k ≤ cs.length →
    (∀ (i : Nat) (p : COper), i < k → cs[i]? = some p → p.dst = some t → (E k).get t = R i) ∧
    ((∀ (i : Nat) (p : COper), i < k → cs[i]? = some p → p.dst ≠ some t) → (E k).get t = (E 0).get t) := by
  intro k
  induction k with
  | zero => intro _; exact ⟨fun i p h => by omega, fun _ => rfl⟩
  | succ k ih =>
    intro hk
    obtain ⟨ih1, ih2⟩ := ih (by omega)
    have hco : cs[k]? = some cs[k] := List.getElem?_eq_getElem (by omega)
    rw [(hT.step k _ hco).2]
    refine ⟨?_, ?_⟩
    · intro i p hi hp hd
      rw [putO_get]
      by_cases hik : i = k
      · subst hik
        rw [hp] at hco
        obtain rfl := Option.some.inj hco
        rw [if_pos hd]
      · rw [if_neg]
        · exact ih1 i p (by omega) hp hd
        · intro hdk
          exact hik (hO i k p cs[k] t hp hco hd hdk)
    · intro hno
      rw [putO_get, if_neg (hno k _ (by omega) hco)]
      exact ih2 fun i p hi => hno i p (by omega)

theorem reads_parts (h : readsOk (Region.before ops) cs = true) : Once cs ∧ ∀ (i j : Nat) (p q : COper) (t : Nat), cs[i]? = some p → cs[j]? = some q → t ∈ creads p → q.dst = some t → ((Region.before ops).getD i 0).testBit j = true ∨ (i < j ∧ ((Region.before ops).getD j 0).testBit i = true) := by
  have mem : ∀ (i : Nat) (p : COper), cs[i]? = some p → (p, i) ∈ cs.zipIdx := by
    intro i p hp
    rw [List.mem_iff_getElem?]
    exact ⟨i, by rw [List.getElem?_zipIdx, hp]; simp⟩
  refine ⟨?_, ?_⟩
  · intro i j p q d hp hq hdp hdq
    have h1 := List.all_eq_true.mp h _ (mem i p hp)
    simp only [Bool.and_eq_true] at h1
    have h2 := h1.2
    rw [hdp] at h2
    have h3 := List.all_eq_true.mp h2 _ (mem j q hq)
    simp [hdq] at h3
    exact h3.symm
  · intro i j p q t hp hq ht hdq
    have h1 := List.all_eq_true.mp h _ (mem i p hp)
    simp only [Bool.and_eq_true] at h1
    have h2 := List.all_eq_true.mp h1.1 t ht
    have h3 := List.all_eq_true.mp h2 _ (mem j q hq)
    simp only [hdq, beq_self_eq_true, if_true, Bool.or_eq_true, Bool.and_eq_true, Nat.blt_eq] at h3
    exact h3

/-- What an operation reads is the same in the text's order and in the drawn one. -/
theorem reads_same (hO : Once cs) (hR : ∀ (i j : Nat) (p q : COper) (t : Nat), cs[i]? = some p → cs[j]? = some q → t ∈ creads p → q.dst = some t → ((Region.before ops).getD i 0).testBit j = true ∨ (i < j ∧ ((Region.before ops).getD j 0).testBit i = true))
    {E : Nat → Env} {S : Nat → Mem} {R : Nat → AV} (hT : Traj call cs E S R) {L : Array Bool} {i : Nat} {p : COper} (hp : cs[i]? = some p) (hi : i < cs.length)
    (hb : ∀ j, ((Region.before ops).getD i 0).testBit j = true → L[j]? = some true ∧ j < i) (ha : ∀ j, ((Region.before ops).getD j 0).testBit i = true → j < cs.length → L.getD j false = false) : ∀ t ∈ creads p, (E i).get t = (envL cs R L (E 0) cs.length).get t := by
  intro t ht
  by_cases hex : ∃ (j : Nat) (q : COper), cs[j]? = some q ∧ q.dst = some t
  · obtain ⟨j, q, hq, hd⟩ := hex
    rcases hR i j p q t hp hq ht hd with hbef | ⟨hij, hbef⟩
    case inr =>
      have hj := (List.getElem?_eq_some_iff.mp hq).1
      rw [(traj_env hO hT t i (by omega)).2 (fun j' q' hj' hq' hd' => by have := hO j' j q' q t hq' hq hd' hd; omega)]
      rw [(envL_get hO t cs.length (Nat.le_refl _)).2 (fun j' q' _ hq' hd' => by have := hO j' j q' q t hq' hq hd' hd; subst this; exact ha j' hbef hj)]
    obtain ⟨h1, h2⟩ := hb j hbef
    rw [(traj_env hO hT t i (by omega)).1 j q h2 hq hd]
    rw [(envL_get hO t cs.length (Nat.le_refl _)).1 j q (List.getElem?_eq_some_iff.mp hq).1 hq hd (by rw [Array.getD_eq_getD_getElem?, h1]; rfl)]
  · rw [(traj_env hO hT t i (by omega)).2 (fun j q _ hq hd => hex ⟨j, q, hq, hd⟩)]
    rw [(envL_get hO t cs.length (Nat.le_refl _)).2 (fun j q _ hq hd => absurd ⟨j, q, hq, hd⟩ hex)]

end
end Go.VI
