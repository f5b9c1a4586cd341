/- What is turned stays in form: the plain law. No statement of the seat is proved here. -/
import Derived.Test.YthibbbfhkfebkaaGreatVZFB
import Derived.Test.YthibbbfhkfebkaaGreatVZVE
namespace Go.Proofs.YthibbbfhkfebkaaGreat
open Go Go.VI
set_option linter.unusedSimpArgs false
theorem rising_mk {α : Type} {key : α → Txt} {ok : Option α → α → Bool} : ∀ (l : List α) (p : Option α), (∀ x ∈ l, ∀ q, (∀ y, q = some y → bl (key y) (key x) = true) → ok q x = true) → l.Pairwise (fun a b => bl (key a) (key b) = true) → (∀ y, p = some y → ∀ x ∈ l, bl (key y) (key x) = true) → rising ok p l = true
  | [], _, _, _, _ => rfl
  | x :: l, p, h, hp, hq => by
    have hc := List.pairwise_cons.mp hp
    simp only [rising, Bool.and_eq_true]
    refine ⟨h x (by simp) p fun y hy => hq y hy x (by simp), rising_mk l (some x) (fun z hz => h z (by simp [hz])) hc.2 fun y hy z hz => ?_⟩
    obtain rfl := Option.some.inj hy
    exact hc.1 z hz
theorem holds_iff (l : List Hold) : holdsS l = true ↔ l.length ≤ 1024 ∧ (∀ x ∈ l, mayH x = true) ∧ l.Pairwise fun a b => bl a.key b.key = true := by
  constructor
  · intro h
    have h' := h
    simp only [holdsS, Bool.and_eq_true, decide_eq_true_eq] at h'
    refine ⟨h'.1, hold_may h, rising_up (key := Hold.key) (fun q x hq => ?_) l none h'.2⟩
    simp only [holdOk, Bool.and_eq_true] at hq
    exact hq.2
  · rintro ⟨h1, h2, h3⟩
    simp only [holdsS, Bool.and_eq_true, decide_eq_true_eq]
    refine ⟨h1, rising_mk (key := Hold.key) l none (fun x hx q hq => ?_) h3 (by simp)⟩
    simp only [holdOk, Bool.and_eq_true]
    refine ⟨h2 x hx, ?_⟩
    cases q with
    | none => rfl
    | some y => exact hq y rfl
def mayM (m : Mark) : Bool := decide (m.key.length ≤ 64) && !decide (m.token = 0)
theorem marks_iff (l : List Mark) : marksS l = true ↔ l.length ≤ 1024 ∧ (∀ x ∈ l, mayM x = true) ∧ l.Pairwise fun a b => bl a.key b.key = true := by
  constructor
  · intro h
    have h' := h
    simp only [marksS, Bool.and_eq_true, decide_eq_true_eq] at h'
    refine ⟨h'.1, fun x hx => ?_, rising_up (key := Mark.key) (fun q x hq => ?_) l none h'.2⟩
    · have := mark_key h x hx
      simp [mayM, this]
    · simp only [markOk, Bool.and_eq_true] at hq
      exact hq.2
  · rintro ⟨h1, h2, h3⟩
    simp only [marksS, Bool.and_eq_true, decide_eq_true_eq]
    refine ⟨h1, rising_mk (key := Mark.key) l none (fun x hx q hq => ?_) h3 (by simp)⟩
    simp only [markOk, Bool.and_eq_true]
    refine ⟨by have := h2 x hx; simpa only [mayM, Bool.and_eq_true] using this, ?_⟩
    cases q with
    | none => rfl
    | some y => exact hq y rfl
theorem putG_mem {α : Type} {key : α → Txt} {h y : α} {l : List α} (hy : y ∈ putG key h l) : y = h ∨ (y ∈ l ∧ key y ≠ key h) := by
  induction l with
  | nil => left; simpa [putG] using hy
  | cons x r ih =>
    unfold putG at hy
    split at hy
    · rename_i hx
      rcases List.mem_cons.mp hy with rfl | hy
      · right
        refine ⟨by simp, fun e => ?_⟩
        rw [e, bl_irrefl] at hx; cases hx
      · rcases ih hy with rfl | ⟨a, b⟩
        · exact .inl rfl
        · exact .inr ⟨by simp [a], b⟩
    · rcases List.mem_cons.mp hy with rfl | hy
      · exact .inl rfl
      · obtain ⟨a, b⟩ := List.mem_filter.mp hy
        exact .inr ⟨a, by simpa using b⟩
theorem putG_up {α : Type} {key : α → Txt} (h : α) {l : List α} (hp : l.Pairwise fun a b => bl (key a) (key b) = true) : (putG key h l).Pairwise fun a b => bl (key a) (key b) = true := by
  induction l with
  | nil => simp [putG]
  | cons x r ih =>
    have hc := List.pairwise_cons.mp hp
    unfold putG
    split
    · rename_i hx
      refine List.pairwise_cons.mpr ⟨fun y hy => ?_, ih hc.2⟩
      rcases putG_mem hy with rfl | ⟨a, _⟩
      · exact hx
      · exact hc.1 y a
    · rename_i hx
      have hx : bl (key x) (key h) = false := by simpa using hx
      refine List.pairwise_cons.mpr ⟨fun y hy => ?_, hp.filter _⟩
      obtain ⟨a, b⟩ := List.mem_filter.mp hy
      have b : key y ≠ key h := by simpa using b
      have key2 : ∀ z, bl z (key h) = false → z ≠ key h → bl (key h) z = true := fun z h1 h2 => by
        cases h3 : bl (key h) z with
        | true => rfl
        | false => exact absurd (bl_total h1 h3) h2
      rcases List.mem_cons.mp a with rfl | a
      · exact key2 _ hx b
      · have h1 := hc.1 y a
        cases h2 : bl (key y) (key h) with
        | true => have := bl_trans h1 h2; rw [hx] at this; cases this
        | false => exact key2 _ h2 b
theorem Good.turn {n : Nat} {t : Table} {x : Intent} (h : Good n t) (hx : GoodI x) (hn : n < 1000) : Good (n + 1) (turnT t x) := by
  obtain ⟨h1, h2, h3, h4, h5, h6⟩ := h
  obtain ⟨a1, a2, a3⟩ := (holds_iff _).mp h1
  obtain ⟨b1, b2, b3⟩ := (marks_iff _).mp h2
  obtain ⟨x0, x1, _, _⟩ := hx.ttl
  obtain ⟨u0, u1⟩ := until_may (ttl := x.ttl) h3 h4 x1
  have xk := hx.k
  have xt := hx.t
  have put : ∀ y : Hold, mayH y = true → holdsS (putG Hold.key y t.holds) = true ∧ (putG Hold.key y t.holds).length ≤ n + 1 := fun y hy => by
    have hl := putG_len Hold.key y t.holds
    refine ⟨(holds_iff _).mpr ⟨by omega, fun z hz => ?_, putG_up y a3⟩, by omega⟩
    rcases putG_mem hz with rfl | ⟨hz, _⟩
    · exact hy
    · exact a2 z hz
  unfold turnT
  split
  · obtain ⟨p1, p2⟩ := put ⟨x.key, x.token, untilS t.now x.ttl⟩ (by simp only [mayH]; simp; omega)
    have hl : (dropM t.marks x.key).length ≤ t.marks.length := List.length_filter_le _ _
    refine ⟨p1, (marks_iff _).mpr ⟨by show (dropM t.marks x.key).length ≤ 1024; omega, fun z hz => b2 z (List.mem_filter.mp hz).1, b3.filter _⟩, h3, h4, p2, by show (dropM t.marks x.key).length ≤ n + 1; omega⟩
  · split
    · have hl : (dropH t.holds x.key).length ≤ t.holds.length := List.length_filter_le _ _
      have hm := putG_len Mark.key (mkM t.marks x.key x.token) t.marks
      refine ⟨(holds_iff _).mpr ⟨by show (dropH t.holds x.key).length ≤ 1024; omega, fun z hz => a2 z (List.mem_filter.mp hz).1, a3.filter _⟩, (marks_iff _).mpr ⟨by show (putG Mark.key _ t.marks).length ≤ 1024; omega, fun z hz => ?_, putG_up _ b3⟩, h3, h4, by show (dropH t.holds x.key).length ≤ n + 1; omega, by show (putG Mark.key _ t.marks).length ≤ n + 1; omega⟩
      rcases putG_mem hz with rfl | ⟨hz, _⟩
      · unfold mkM mayM
        simp only [Bool.and_eq_true, decide_eq_true_eq, Bool.not_eq_true', decide_eq_false_iff_not]
        refine ⟨xk, ?_⟩
        split <;> omega
      · exact b2 z hz
    · split
      · rename_i hk
        obtain ⟨hin, hkey⟩ := find_in hk.2
        have hmh := a2 _ hin
        obtain ⟨p1, p2⟩ := put ⟨(gotH (findH t.holds x.key)).key, (gotH (findH t.holds x.key)).token, max (gotH (findH t.holds x.key)).till (untilS t.now x.ttl)⟩ (by simp only [mayH] at hmh ⊢; simp at hmh ⊢; omega)
        exact ⟨p1, h2, h3, h4, p2, by show t.marks.length ≤ n + 1; omega⟩
      · exact ⟨h1, h2, h3, h4, by omega, by omega⟩
end Go.Proofs.YthibbbfhkfebkaaGreat

