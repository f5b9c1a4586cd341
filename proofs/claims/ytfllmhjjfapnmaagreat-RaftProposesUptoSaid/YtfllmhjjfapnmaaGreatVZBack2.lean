/- A log's voters, told apart. No statement of the seat is proved here. -/
import Derived.Test.YtfllmhjjfapnmaaGreatVZBack
import Derived.Test.YtfllmhjjfapnmaaGreatVZVE
namespace Go.Proofs.YtfllmhjjfapnmaaGreat
open Go Go.VI Go.RowKit
theorem Rel_grow {W0 : World} {m : PM} {s : Mem} {w W : World} (h : Rel W0 m s w) (hb : Below w.heap.size w W) : Rel W0 m s W := by
  refine ⟨h.below.trans (hb.mono h.below.size), h.wf, ?_, ?_, h.inj⟩
  · intro r pl row h1 h2
    exact (h.row r pl row h1 h2).mono (fun _ _ h => h) (hb.block _ (h.blk r pl h1).2)
  · intro r pl h1
    have := h.blk r pl h1
    exact ⟨this.1, Nat.lt_of_lt_of_le this.2 hb.size⟩
theorem After_wrap {W0 : World} {m m' : PM} {s s' : Mem} {w Wc Wc' W' : World} (hr : Rel W0 m s w) (hb : Below w.heap.size w Wc) (hA : After W0 m s Wc m' s' Wc') (hO : Out w.heap.size Wc.heap.size Wc' W') : After W0 m s w m' s' W' := by
  have hW0 := hr.below.size
  have hbs := hb.size
  have old : ∀ r pl, m r = some pl → pl.blk < w.heap.size := fun r pl h => (hr.blk r pl h).2
  have side : ∀ r pl, m' r = some pl → pl.blk < w.heap.size ∨ Wc.heap.size ≤ pl.blk := by
    intro r pl h
    by_cases h1 : r < s.next
    · rw [hA.same r (.inl h1)] at h; exact .inl (old r pl h)
    · by_cases h2 : s'.next ≤ r
      · rw [hA.same r (.inr h2)] at h; exact .inl (old r pl h)
      · rcases hA.fresh r pl (by omega) (by omega) h with h | ⟨r0, pl0, h3, h4, _⟩
        · exact .inr h
        · rw [← h4]; exact .inl (old r0 pl0 h3)
  refine ⟨⟨?_, hA.rel.wf, ?_, ?_, hA.rel.inj⟩, hA.same, ?_, ?_, by rw [hO.size]; exact Nat.le_trans hbs hA.size⟩
  · exact hA.rel.below.trans ⟨hO.os, hO.tape, hO.output, by rw [hO.size]; exact Nat.le_refl _, fun k hk => hO.block k (.inl (by omega))⟩
  · intro r pl row h1 h2
    exact (hA.rel.row r pl row h1 h2).mono (fun _ _ h => h) (hO.block _ (side r pl h1))
  · intro r pl h1
    have := hA.rel.blk r pl h1
    rw [hO.size]; exact this
  · intro b hlt
    rw [hO.block b (.inl hlt)]
    rcases hA.frame b (by omega) with h | h
    · left; rw [h]; exact hb.block b hlt
    · exact .inr h
  · intro r pl h1 h2 h3
    rcases hA.fresh r pl h1 h2 h3 with h | h
    · left; omega
    · exact .inr h
theorem slice_of_A {W0 : World} {m : PM} {v : Value} {c : AV} (hv : V W0 m v c) (h : sliceA c = true) : ∃ p l k, v = .slice p l k := by
  cases hv <;> first | exact ⟨_, _, _, rfl⟩ | (simp [sliceA] at h)
theorem pick_of {W0 : World} {m : PM} {xs : List (List AV)} {dA d : AV} {f : Nat → Array Value} {dv : Value} {k0 : Nat} (_hk0 : k0 = xs.length)
    (hcell : ∀ (j : Nat) (x : List AV) (q : Nat) (c : AV), xs[j]? = some x → x[q]? = some c → ∃ u, (f j)[q]? = some u ∧ V W0 m u c) (hsz : ∀ j, j < xs.length → (f j).size = 4) (hd : V W0 m dv dA) :
    ∀ k, k ≤ xs.length → backFind xs dA k = some d → (∀ j, k ≤ j → j < xs.length → ∃ n p l c, n ≠ 2 ∧ Vis f j n p l c) → ∃ u, V W0 m u d ∧ Pick f xs.length u dv 0 := by
  intro k
  induction k with
  | zero =>
    intro _ h hv
    simp only [backFind] at h
    obtain rfl := Option.some.inj h
    exact ⟨dv, hd, .inr ⟨rfl, fun j hj => hv j (Nat.zero_le _) hj⟩⟩
  | succ k ih =>
    intro hk h hv
    simp only [backFind] at h
    split at h
    case h_2 => cases h
    rename_i i t n x hx
    split at h
    case isFalse => cases h
    rename_i hsl
    have c0 := hcell k _ 0 _ hx rfl
    have c1 := hcell k _ 1 _ hx rfl
    have c2 := hcell k _ 2 _ hx rfl
    have c3 := hcell k _ 3 _ hx rfl
    obtain ⟨u0, e0, v0⟩ := c0
    obtain ⟨u1, e1, v1⟩ := c1
    obtain ⟨u2, e2, v2⟩ := c2
    obtain ⟨u3, e3, v3⟩ := c3
    have i0 := v0.inv_int
    have i1 := v1.inv_int
    have i2 := v2.inv_int
    subst i0 i1 i2
    obtain ⟨p, l, c, rfl⟩ := slice_of_A v3 hsl
    have hfk : f k = #[.int .u64 i, .int .u64 t, .int .i64 n, .slice p l c] := by
      have hs := hsz k (by omega)
      generalize f k = a at hs e0 e1 e2 e3
      match a, hs with
      | ⟨[a0, a1, a2, a3]⟩, _ =>
        simp at e0 e1 e2 e3
        rw [e0, e1, e2, e3]
    have hvis : Vis f k n p l c := ⟨i, t, hfk⟩
    split at h
    · rename_i hn
      subst hn
      obtain rfl := Option.some.inj h
      exact ⟨_, v3, .inl ⟨k, p, l, c, by omega, hvis, rfl, fun j h1 h2 => hv j (by omega) h2⟩⟩
    · rename_i hn
      refine ih (by omega) h ?_
      intro j h1 h2
      by_cases hjk : j = k
      · subst hjk; exact ⟨n, p, l, c, hn, hvis⟩
      · exact hv j (by omega) h2
theorem back_ok : Back Tryz.prog 95 106 := by
  intro W0 m s w vs avs d s' r hr hV hsel hf hst hsl hcall
  unfold backSel at hsel
  split at hsel
  case h_2 => cases hsel
  rename_i x0 x1 x2 dA lA
  obtain ⟨xs, hxs, hsel⟩ := Option.bind_eq_some_iff.mp hsel
  split at hsel
  case isFalse => cases hsel
  rename_i hlen
  have hlen : xs.length ≤ 17592186043904 := by simpa using hlen
  obtain ⟨v0, rfl⟩ : ∃ v0, vs = #[v0] := by
    have := hV.1
    match vs, this with
    | ⟨[v0]⟩, _ => exact ⟨v0, rfl⟩
  have hv0 : V W0 m v0 (.agg [x0, x1, x2, dA, lA]) := hV.2 0 _ _ rfl rfl
  obtain ⟨us, rfl, hU, _⟩ := hv0.inv_agg
  obtain ⟨a0, a1, a2, dv, lv, rfl⟩ : ∃ a0 a1 a2 dv lv, us = #[a0, a1, a2, dv, lv] := by
    have := hU.1
    match us, this with
    | ⟨[a0, a1, a2, dv, lv]⟩, _ => exact ⟨_, _, _, _, _, rfl⟩
  have hdv : V W0 m dv dA := hU.2 3 _ _ rfl rfl
  have hlv : V W0 m lv lA := hU.2 4 _ _ rfl rfl
  have key : ∃ (lp : Option Addr) (cap b off : Nat) (f : Nat → Array Value), lv = .slice lp xs.length cap ∧ (0 < xs.length → lp = some ⟨b, off, none⟩) ∧ (0 < xs.length → b < w.heap.size) ∧ (∀ j, j < xs.length → (f j).size = 4) ∧
      (∀ j, j < xs.length → ∀ q, q < 4 → w.cell? ⟨b, off + j * 4 + q, none⟩ = (f j)[q]?) ∧ (∀ (j : Nat) (x : List AV) (q : Nat) (c : AV), xs[j]? = some x → x[q]? = some c → ∃ u, (f j)[q]? = some u ∧ V W0 m u c) := by
    by_cases h0 : xs = []
    · subst h0
      rcases read_told hr hlv hxs with ⟨h1, _⟩ | ⟨ad, cap, e, h1, _⟩
      · exact ⟨none, 0, 0, 0, fun _ => #[], h1, by simp, by simp, by simp, by simp, by simp⟩
      · exact ⟨some ad, cap, 0, 0, fun _ => #[], h1, by simp, by simp, by simp, by simp, by simp⟩
    · rcases read_told hr hlv hxs with ⟨_, h2⟩ | ⟨ad, cap, e, h1, hel, hc⟩
      · exact absurd h2 h0
      · have hpos : 0 < xs.length := List.length_pos_iff.mpr h0
        have he : e = 4 := by
          obtain ⟨k, hk⟩ : ∃ k, xs.length = k + 1 := ⟨xs.length - 1, by omega⟩
          rw [hk] at hsel
          simp only [backFind] at hsel
          split at hsel
          case h_2 => cases hsel
          rename_i i t n x hx
          exact (hel k _ hx).symm
        subst he
        have hall : ∀ j, j < xs.length → ∀ q, q < 4 → ∃ u, w.cell? (ad.add (j * 4 + q)) = some u := by
          intro j hj q hq
          have hx : xs[j]? = some xs[j] := List.getElem?_eq_getElem hj
          have hxl := hel j _ hx
          have hq' : (xs[j])[q]? = some ((xs[j])[q]'(by omega)) := List.getElem?_eq_getElem (by omega)
          obtain ⟨_, u, g, _⟩ := hc j _ q _ hx hq'
          exact ⟨u, g⟩
        have had : ad = ⟨ad.block, ad.off, none⟩ := by
          obtain ⟨u, g⟩ := hall 0 hpos 0 (by omega)
          have := spot_of g
          obtain ⟨b, o, sp⟩ := ad
          cases sp with
          | none => rfl
          | some z => simp [Addr.add] at this
        have hadd : ∀ k, ad.add k = ⟨ad.block, ad.off + k, none⟩ := by
          intro k; rw [had]; exact add_addr _ _ _
        have hbl : ad.block < w.heap.size := by
          obtain ⟨u, g⟩ := hall 0 hpos 0 (by omega)
          rw [hadd] at g
          unfold World.cell? at g
          simp only at g
          cases ho : w.heap[ad.block]? with
          | none => rw [ho] at g; simp at g
          | some o => exact (Array.getElem?_eq_some_iff.1 ho).1
        let g (j q : Nat) : Value := (w.cell? ⟨ad.block, ad.off + j * 4 + q, none⟩).getD undef
        have hg : ∀ j, j < xs.length → ∀ q, q < 4 → w.cell? ⟨ad.block, ad.off + j * 4 + q, none⟩ = (#[g j 0, g j 1, g j 2, g j 3] : Array Value)[q]? := by
          intro j hj q hq
          obtain ⟨u, h⟩ := hall j hj q hq
          rw [hadd, ← Nat.add_assoc] at h
          have : g j q = u := by simp only [g, h, Option.getD_some]
          rw [h]
          match q, hq with
          | 0, _ => simp [this]
          | 1, _ => simp [this]
          | 2, _ => simp [this]
          | 3, _ => simp [this]
        refine ⟨some ad, cap, ad.block, ad.off, fun j => #[g j 0, g j 1, g j 2, g j 3], h1, fun _ => by rw [← had], fun _ => hbl, fun _ _ => rfl, hg, ?_⟩
        intro j x q c hx hq
        obtain ⟨_, u, h, hu⟩ := hc j x q c hx hq
        have hj := (List.getElem?_eq_some_iff.mp hx).1
        have hq4 : q < 4 := by rw [← hel j x hx]; exact (List.getElem?_eq_some_iff.mp hq).1
        refine ⟨u, ?_, hu⟩
        rw [← hg j hj q hq4, ← h, hadd, Nat.add_assoc]
  obtain ⟨lp, cap, b, off, f, rfl, hlp, hb, hsz, hc, hcell⟩ := key
  obtain ⟨u, hu, hpick⟩ := pick_of rfl hcell hsz hdv xs.length (Nat.le_refl _) hsel (fun j h1 h2 => by omega)
  have hmain := back_voters a0 a1 a2 dv u b off xs.length cap lp f w (fun v W W' => ∃ m', After W0 m s W m' s' W' ∧ V W0 m' v r) (by omega) hlp hb hsz hc hpick ?_
  · refine (callsIn_wide.1 hmain).mono ?_
    rintro e W'' ⟨v, Wc, Wc', rfl, hbw, ⟨m', hA, hv⟩, hO⟩
    exact ⟨v, m', rfl, After_wrap hr hbw hA hO, hv⟩
  · intro W hW
    refine (hcall W u (Rel_grow hr hW) hu).mono ?_
    rintro e W' ⟨v, m', rfl, hA, hv⟩
    obtain ⟨p, l, c, rfl⟩ := slice_of_A hv hsl
    refine ⟨p, l, c, rfl, ⟨m', hA, hv⟩, hA.size, ?_⟩
    intro b h1 h2
    rcases hA.frame b h2 with h | ⟨r0, pl, h3, h4, _⟩
    · exact h
    · have := (hr.blk r0 pl h3).2
      omega
theorem xs_ok : XOK Tryz.prog xs := by
  intro f cf h
  unfold xs at h
  split at h
  · obtain rfl := Option.some.inj h
    exact ⟨106, rfl, back_ok, _, Tryz.func95, by kernel_rfl, by kernel_rfl⟩
  · cases h
end Go.Proofs.YtfllmhjjfapnmaaGreat

