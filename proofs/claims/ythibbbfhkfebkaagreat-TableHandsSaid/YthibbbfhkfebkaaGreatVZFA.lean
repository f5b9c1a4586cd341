/- Holds and marks that are dropped. No statement of the seat is proved here. -/
import Derived.Test.YthibbbfhkfebkaaGreatVZTI
import Derived.Test.YthibbbfhkfebkaaGreatVZVE
namespace Go.Proofs.YthibbbfhkfebkaaGreat
open Go Go.VI
set_option linter.unusedSimpArgs false
theorem take_set_next {α : Type} {l : List α} {i : Nat} {x : α} (h : i < l.length) : (l.set i x).take (i + 1) = l.take i ++ [x] := by
  rw [List.take_add_one, List.getElem?_set_self (by omega), Option.toList_some, List.take_set_of_le (Nat.le_refl _)]
theorem clr_own {s : Mem} {r i n ty sz : Nat} {els : List (List AV)} {z : List AV} (h : s.get r = some ⟨ty, sz, els⟩) (hn : i + n ≤ els.length) (hz : z.length = sz) (hf : s.floor ≤ r) :
    ∃ s' els', clrA s sz z (.own r i n sz) = some s' ∧ s'.get r = some ⟨ty, sz, els'⟩ ∧ els'.take i = els.take i ∧ els'.length = els.length ∧ Turn r s s' := by
  by_cases h0 : n = 0
  · exact ⟨s, els, by simp [clrA, h0], h, rfl, rfl, Turn.refl _ _⟩
  · refine ⟨_, els.take i ++ List.replicate n z ++ els.drop (i + n), ?_, by rw [Mem.get_put, if_pos rfl], ?_, ?_, Turn.put r s _⟩
    · simp [clrA, h0, h, hn, hz, hf]
    · rw [List.append_assoc, List.take_append_of_le_length (by rw [List.length_take]; omega), List.take_take, Nat.min_self]
    · simp only [List.length_append, List.length_take, List.length_replicate, List.length_drop]; omega
theorem load_own {M : Mem} {r i ty sz : Nat} {els : List (List AV)} {c z : List AV} (h : M.get r = some ⟨ty, sz, els⟩) (hc : els[i]? = some c) (hx : (slice1 c 0 sz).bind (pickCells true) = some (.agg z)) : loadA M true sz (.ptr r i 0) = some (.agg z) := by
  simp only [loadA, h, Option.bind_eq_bind, Option.bind_some, hc]
  exact hx
theorem store_own {M : Mem} {r i ty sz : Nat} {els : List (List AV)} {c d : List AV} (h : M.get r = some ⟨ty, sz, els⟩) (hc : els[i]? = some c) (hx : c.length = sz) (hy : d.length = sz) (hd : d.all isCell = true) (hf : M.floor ≤ r) :
    storeA M sz (.ptr r i 0) (.agg d) = some (M.put r (some ⟨ty, sz, els.set i d⟩)) := by
  have e : putCells c 0 d = d := by simp [putCells, hx, hy]
  simp only [storeA, h, hc, Option.bind_eq_bind, Option.bind_some, cells_agg, hx, hy, hd, hf, Nat.zero_add, Nat.le_refl, and_self, if_true, e]
theorem pre_filter {α : Type} {l : List α} {p : α → Bool} {k0 : Nat} (hklt : k0 < l.length) (hpk : p l[k0] = true) (hpn : ∀ (j : Nat) (h : j < k0), ¬p (l[j]'(by omega)) = true) : (l.take (k0 + 1)).filter (fun x => !p x) = l.take k0 := by
  rw [List.take_add_one, List.getElem?_eq_getElem hklt, Option.toList_some, List.filter_append]
  have e1 : [l[k0]].filter (fun x => !p x) = [] := by simp [hpk]
  rw [e1, List.append_nil, List.filter_eq_self]
  intro a ha
  obtain ⟨q, hq⟩ := List.mem_iff_getElem?.mp ha
  rw [List.getElem?_take] at hq
  split at hq
  · rename_i hqk
    obtain ⟨hql, rfl⟩ := List.getElem?_eq_some_iff.mp hq
    have := hpn q hqk
    simpa using this
  · cases hq
attribute [local irreducible] Ws Wp W C
set_option maxHeartbeats 4000000
def dropH (l : List Hold) (k : Txt) : List Hold := l.filter fun x => !(x.key == k)
def dropM (l : List Mark) (k : Txt) : List Mark := l.filter fun x => !(x.key == k)
end Go.Proofs.YthibbbfhkfebkaaGreat

