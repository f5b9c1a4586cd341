/- The iterator slices.Backward over entries. No statement of the seat is proved here. -/
import Derived.RangeFuncFrom
import Derived.RangeFuncBox
import Derived.RangeFuncLeaves
import Derived.Shelf.Abstract
import Derived.WalkKit
import Derived.OwnWalkIn
import Derived.TacticsInMore
import Derived.LoopNIn
import Derived.LoopIn
import Derived.Test.YtfllmhjjfapnmaaGreatVZTab
import Derived.Test.YtfllmhjjfapnmaaGreatVZVE
namespace Go.Proofs.YtfllmhjjfapnmaaGreat
open Go Go.VI Go.RowKit Go.Shelf
attribute [local go_sem] Oper.semAt_some
set_option maxRecDepth 100000 in
set_option maxHeartbeats 2000000 in
theorem back1_in (F : Fence) (n : Nat) (hF : F.fn 143) (hro : F.round = none) (hn : 1 ≤ n) (l Bs n₀ b off len cap : Nat) (lp : Option Addr) (f : Nat → Array Value) (hreach : len * 8 ≤ 140737488351232) (hlp : 0 < len → lp = some ⟨b, off, none⟩) (hb : 0 < len → b < n₀) (hBn : Bs < n₀) (J : Nat → World → Prop) (Jx : World → Prop)
    (hf : ∀ j, j < len → (f j).size = 4)
    (hY : ∀ k j W, j + (k + 1) = len → J k W → YieldAt F (n - 1) Tryz.prog l #[.int .i64 (j : Int), .agg (f j)] W fun e W' =>
      (e = .returned (.bool true) ∧ J (k + 1) W' ∧ Below n₀ W W') ∨ (e = .returned (.bool false) ∧ Jx W'))
    (W : World) (hBs : W.cell? ⟨Bs, 0, none⟩ = some (.slice lp len cap)) (hc : ∀ j, j < len → ∀ q, q < 4 → W.cell? ⟨b, off + j * 4 + q, none⟩ = (f j)[q]?) (h0 : J 0 W) :
    CallsIn F n Tryz.prog 143 #[.func (.yield l) #[] #[], .pointer (some ⟨Bs, 0, none⟩)] W fun e W' => (∃ v, e = .returned v) ∧ (J len W' ∨ Jx W') := by
  refine callsIn_of_wp Tryz.func143 rfl hF ?_ hro
  simp only [Tryz.ntmps143, List.size_toArray, List.length_cons, List.length_nil, Nat.reduceAdd, Nat.reduceSub, Array.replicate_succ, Array.replicate_zero, List.push_toArray, List.append_toArray, List.nil_append, List.cons_append]
  gi_wp2
  gi_loopw [3] (fun i wr => ∃ k : Nat, k ≤ len ∧ i = .int .i64 ((len : Int) - 1 - k) ∧ J k wr ∧ Below n₀ W wr)
    (fun i _ => (intOf i + 1).toNat)
  case atStart => exact ⟨0, Nat.zero_le _, by simp, h0, Below.refl _ _⟩
  case round =>
    obtain ⟨k, hk, rfl, hJs, hnx⟩ := hrel
    by_cases hlt : k < len
    · obtain rfl := hlp (by omega)
      replace hb := hb (by omega)
      obtain ⟨j, hj⟩ : ∃ j : Nat, j + (k + 1) = len := ⟨len - 1 - k, by omega⟩
      have hji : (len : Int) - 1 - k = (j : Int) := by omega
      rw [hji]
      obtain ⟨c0, c1, c2, c3, hfj⟩ : ∃ c0 c1 c2 c3, f j = #[c0, c1, c2, c3] := by
        have := hf j (by omega)
        generalize f j = a at this
        match a, this with
        | ⟨[c0, c1, c2, c3]⟩, _ => exact ⟨c0, c1, c2, c3, rfl⟩
      have hcx : ∀ q, q < 4 → wr.cell? ⟨b, off + j * 4 + q, none⟩ = (f j)[q]? := fun q hq => (hnx.cell (p := ⟨b, off + j * 4 + q, none⟩) hb).trans (hc j (by omega) q hq)
      have hc0 : wr.cell? ⟨b, off + j * 4, none⟩ = some c0 := by have := hcx 0 (by omega); rw [hfj] at this; exact this
      have hc1 : wr.cell? ⟨b, off + j * 4 + 1, none⟩ = some c1 := by have := hcx 1 (by omega); rw [hfj] at this; exact this
      have hc2 : wr.cell? ⟨b, off + j * 4 + 2, none⟩ = some c2 := by have := hcx 2 (by omega); rw [hfj] at this; exact this
      have hc3 : wr.cell? ⟨b, off + j * 4 + 3, none⟩ = some c3 := by have := hcx 3 (by omega); rw [hfj] at this; exact this
      obtain ⟨fn, tmps, assign, body, hy, hR⟩ := hY k j wr hj hJs
      rw [hfj] at hy
      have hBs' := (hnx.cell (p := ⟨Bs, 0, none⟩) hBn).trans hBs
      clear hcx hji
      gi_wp2
      refine hR.mono ?_
      rintro e W3 (⟨rfl, hJ3, hk3⟩ | ⟨rfl, hJx3⟩)
      · gi_wp2
        go_roundw
        case rel => exact ⟨k + 1, by omega, by congr 1; omega, hJ3, hnx.trans hk3⟩
        case measure => first | (simp [intOf]; done) | (simp [intOf]; omega)
      · gi_wp2
        refine bodyPost_ret (results_none rfl _ _ _) rfl ?_
        exact ⟨⟨_, rfl⟩, .inr hJx3⟩
    · obtain rfl : k = len := by omega
      gi_wp2
      go_end0
      exact ⟨⟨_, rfl⟩, .inl hJs⟩
set_option maxHeartbeats 1000000 in
theorem backward_in (F : Fence) (n : Nat) (hF : F.fn 129) (hro : F.round = none) (a : Option Addr) (len cap : Nat) (w : World) :
    CallsIn F n Tryz.prog 129 #[.slice a len cap] w fun e w' => e = .returned (.func (.func 143) #[] #[.pointer (some ⟨w.heap.size, 0, none⟩)]) ∧ w' = w.alloc (.cells #[.slice a len cap] 26) := by
  refine callsIn_of_wp Tryz.func129 rfl hF ?_ hro
  simp only [Tryz.ntmps129, List.size_toArray, List.length_cons, List.length_nil, Nat.reduceAdd, Nat.reduceSub, Array.replicate_succ, Array.replicate_zero, List.push_toArray, List.append_toArray, List.nil_append, List.cons_append]
  gi_wp2
  go_ret
  exact ⟨rfl, rfl⟩
def Over (N : Nat) (A B : World) : Prop := A.heap.size ≤ B.heap.size ∧ ∀ b, N ≤ b → b < A.heap.size → B.heap[b]? = A.heap[b]?
structure Out (N M : Nat) (A B : World) : Prop where
  os : B.os = A.os
  tape : B.tape = A.tape
  output : B.output = A.output
  size : B.heap.size = A.heap.size
  block : ∀ b, (b < N ∨ M ≤ b) → B.heap[b]? = A.heap[b]?
theorem Out.refl (N M : Nat) (A : World) : Out N M A A := ⟨rfl, rfl, rfl, rfl, fun _ _ => rfl⟩
theorem Out.putObj {N M : Nat} {A B : World} (h : Out N M A B) {l : Nat} (h1 : N ≤ l) (h2 : l < M) (o : Obj) : Out N M A (B.putObj l o) :=
  ⟨h.os, h.tape, h.output, by rw [World.putObj_size]; exact h.size, fun b hb => by rw [World.putObj_heap_other (by omega)]; exact h.block b hb⟩
theorem Out.setCell {N M : Nat} {A B : World} (h : Out N M A B) {l : Nat} (h1 : N ≤ l) (h2 : l < M) (v : Value) : Out N M A (B.setCell ⟨l, 0, none⟩ v) :=
  ⟨h.os, h.tape, h.output, by rw [← h.size]; simp [World.setCell], fun b hb => by rw [Below.heap_setCell _ _ _ b (by show b ≠ l; omega)]; exact h.block b hb⟩
theorem rangeFunc_at {F : Fence} {n : Nat} {P : Program} {g : Operand} {ps : Array Tmp} {assign body : Code} {Q : Exit → Act → World → Prop} {a : Act} {w : World} (hro : F.round = none) (h1 : 1 ≤ n) {gf : Nat} {lb : Array Value} (hg : a.eval g = .func (.func gf) #[] lb) (hFg : F.fn gf)
    (eg : ∀ args w, (callFunc gf args).run P w = .ok (.enter gf args) w)
    (h : ∀ fn, F.fn fn → ∀ rec : LoopState → Option Code → Loop, rec = (fun st pe => { state := st, pending := pe, fn, tmps := a.tmps, params := ps, assign, body, defers := w.heap.size }) → ∀ W1, W1 = (w.alloc (.deferred (some []))).alloc (.loop (rec .ready none)) →
      CallsIn F (n - 1) P gf (#[.func (.yield (w.heap.size + 1)) #[] #[]] ++ lb) W1 (rangePost F n P (w.heap.size + 1) Q { a with defers := { target := .collected w.heap.size, args := #[] } :: a.defers })) :
    (Code.rangeFunc g ps assign body).wpIn F n P Q a w := by
  refine wpIn_rangeFunc ?_
  intro fn hfn
  rw [hro]
  obtain ⟨W1, hW1⟩ : ∃ W1, W1 = (w.alloc (.deferred (some []))).alloc (.loop { state := .ready, pending := none, fn, tmps := a.tmps, params := ps, assign, body, defers := w.heap.size }) := ⟨_, rfl⟩
  have hcall := h fn hfn _ rfl W1 hW1
  refine ⟨w.heap.size + 1, [{ target := .collected w.heap.size, args := #[] }], W1, { target := .fn (.func gf) lb, args := #[.func (.yield (w.heap.size + 1)) #[] #[]] }, W1, gf, _, W1, ?_, ?_, ?_, ?_, (fun _ => h1), hcall⟩
  · rw [hW1]; exact run_enterLoop_outer _ _ _ _ _
  · simp only [resolve, hg]
    simp [go_sem]
  · intro f' hf'
    simp [Target.leads] at hf'
    subst hf'; exact hFg
  · simp [invoke, go_sem, eg]
def Vis (f : Nat → Array Value) (j : Nat) (n : Int) (p : Option Addr) (l c : Nat) : Prop := ∃ i t : Int, f j = #[.int .u64 i, .int .u64 t, .int .i64 n, .slice p l c]
def Pick (f : Nat → Array Value) (len : Nat) (u dv : Value) (k : Nat) : Prop :=
  (∃ j0 p l c, j0 + k < len ∧ Vis f j0 2 p l c ∧ u = .slice p l c ∧ ∀ j, j0 < j → j < len → ∃ n p l c, n ≠ 2 ∧ Vis f j n p l c) ∨ (u = dv ∧ ∀ j, j < len → ∃ n p l c, n ≠ 2 ∧ Vis f j n p l c)
theorem Pick.round {f : Nat → Array Value} {len k j : Nat} {u dv : Value} (h : Pick f len u dv k) (hj : j + (k + 1) = len) : ∃ i t n p l c, f j = #[.int .u64 i, .int .u64 t, .int .i64 n, .slice p l c] ∧ (n = 2 → u = .slice p l c) ∧ (n ≠ 2 → Pick f len u dv (k + 1)) := by
  rcases h with ⟨j0, p, l, c, h1, h2, h3, h4⟩ | ⟨h1, h2⟩
  · by_cases hjj : j0 = j
    · subst hjj
      obtain ⟨i, t, h2⟩ := h2
      exact ⟨i, t, 2, p, l, c, h2, fun _ => h3, fun h => absurd rfl h⟩
    · obtain ⟨n, p', l', c', hn, i, t, hv⟩ := h4 j (by omega) (by omega)
      exact ⟨i, t, n, p', l', c', hv, fun h => absurd h hn, fun _ => .inl ⟨j0, p, l, c, by omega, h2, h3, h4⟩⟩
  · obtain ⟨n, p', l', c', hn, i, t, hv⟩ := h2 j (by omega)
    exact ⟨i, t, n, p', l', c', hv, fun h => absurd h hn, fun _ => .inr ⟨h1, h2⟩⟩
theorem results_cell {fn : Func} {p : Tmp} {ty : TypeId} {tmps : Array Value} {w : World} {a : Addr} {v : Value} (h : fn.results = #[.cell p ty]) (hp : tmps.getD p undef = .pointer (some a)) (hc : w.cell? a = some v) (el : TypeId) (hu : Tryz.prog.underlying ty = some (.slice el)) : (results fn tmps).run Tryz.prog w = .ok v w := by
  have hp' : tmps[p]?.getD undef = .pointer (some a) := by simpa using hp
  simp [results, h, hp', asAddr, loadVar, isAgg, run_underlying hu, go_sem, hc]
set_option maxRecDepth 100000 in
set_option maxHeartbeats 2000000 in
theorem back_voters (a0 a1 a2 dv u : Value) (b off len cap : Nat) (lp : Option Addr) (f : Nat → Array Value) (w : World) (Post : Value → World → World → Prop)
    (hreach : len * 8 ≤ 140737488351232) (hlp : 0 < len → lp = some ⟨b, off, none⟩) (hb : 0 < len → b < w.heap.size) (hf : ∀ j, j < len → (f j).size = 4)
    (hc : ∀ j, j < len → ∀ q, q < 4 → w.cell? ⟨b, off + j * 4 + q, none⟩ = (f j)[q]?)
    (hstop : Pick f len u dv 0)
    (hcall : ∀ W, Below w.heap.size w W → Calls Tryz.prog 106 #[u] W fun e W' => ∃ p l c, e = .returned (.slice p l c) ∧ Post (.slice p l c) W W' ∧ Over w.heap.size W W') :
    CallsIn Fence.wide 5 Tryz.prog 95 #[.agg #[a0, a1, a2, dv, .slice lp len cap]] w fun e W'' =>
      ∃ v Wc Wc', e = .returned v ∧ Below w.heap.size w Wc ∧ Post v Wc Wc' ∧ Out w.heap.size Wc.heap.size Wc' W'' := by
  refine callsIn_of_wp_marks Tryz.func95 rfl trivial ?_
  simp only [Tryz.ntmps95, List.size_toArray, List.length_cons, List.length_nil, Nat.reduceAdd, Nat.reduceSub, Array.replicate_succ, Array.replicate_zero, List.push_toArray, List.append_toArray, List.nil_append, List.cons_append]
  gi_wp2
  refine ⟨trivial, (backward_in Fence.wide 4 trivial rfl lp len cap _).mono ?_⟩
  rintro e w' ⟨rfl, rfl⟩
  gi_wp2
  generalize hw3 : ((w.alloc (Obj.cells #[a0, a1, a2, dv, Value.slice lp len cap] 28)).alloc (Obj.cells #[Value.slice none 0 0] 29)).alloc (Obj.cells #[Value.slice lp len cap] 26) = w3
  have hs3 : w3.heap.size = w.heap.size + 3 := by rw [← hw3]; simp
  have hb3 : Below w.heap.size w w3 := by
    rw [← hw3]
    exact ((((Below.refl _ w).alloc (Nat.le_refl _) _).alloc (by simp) _).alloc (by simp; omega) _)
  have h30 : w3.heap[w.heap.size]? = some (.cells #[a0, a1, a2, dv, Value.slice lp len cap] 28) := by
    rw [← hw3]
    exact ((Below.heap_alloc _ _ _ (by simp; omega)).trans (Below.heap_alloc _ _ _ (by simp))).trans (World.alloc_heap_new w _)
  have h31 : w3.heap[w.heap.size + 1]? = some (.cells #[Value.slice none 0 0] 29) := by
    rw [← hw3]
    refine (Below.heap_alloc _ _ _ (by simp)).trans ?_
    have := World.alloc_heap_new (w.alloc (Obj.cells #[a0, a1, a2, dv, Value.slice lp len cap] 28)) (Obj.cells #[Value.slice none 0 0] 29)
    rwa [World.size_alloc] at this
  have h32 : w3.heap[w.heap.size + 2]? = some (.cells #[Value.slice lp len cap] 26) := by
    rw [← hw3]
    have := World.alloc_heap_new ((w.alloc (Obj.cells #[a0, a1, a2, dv, Value.slice lp len cap] 28)).alloc (Obj.cells #[Value.slice none 0 0] 29)) (Obj.cells #[Value.slice lp len cap] 26)
    rwa [World.size_alloc, World.size_alloc] at this
  clear hw3
  refine rangeFunc_at rfl (by omega) rfl trivial (enters_of Tryz.func143 (by kernel_rfl) rfl) ?_
  intro fn hfn rec hrec W1 hW1
  rw [hs3] at hrec ⊢
  have hL1 : W1.heap[w.heap.size + 3 + 1]? = some (.loop (rec .ready none)) := by
    rw [hW1, ← hs3]; have := World.alloc_heap_new (w3.alloc (.deferred (some []))) (.loop (rec .ready none)); rwa [World.size_alloc] at this
  have hK1 : W1.heap[w.heap.size + 3]? = some (.deferred (some [])) := by
    rw [hW1, ← hs3]; exact (Below.heap_alloc _ _ _ (by simp)).trans (World.alloc_heap_new w3 _)
  have hB1 : Below (w.heap.size + 3) w3 W1 := by
    rw [hW1]; exact ((Below.refl _ w3).alloc (by omega) _).alloc (by simp; omega) _
  clear hW1
  have hBs : W1.cell? ⟨w.heap.size + 2, 0, none⟩ = some (.slice lp len cap) := by
    rw [hB1.cell (p := ⟨w.heap.size + 2, 0, none⟩) (by show w.heap.size + 2 < _; omega)]
    simp [World.cell?, h32]
  have hcs : ∀ j, j < len → ∀ q, q < 4 → W1.cell? ⟨b, off + j * 4 + q, none⟩ = (f j)[q]? := by
    intro j hj q hq
    have hb := hb (by omega)
    rw [hB1.cell (p := ⟨b, off + j * 4 + q, none⟩) (by show b < _; omega), hb3.cell (p := ⟨b, off + j * 4 + q, none⟩) hb]
    exact hc j hj q hq
  refine (back1_in Fence.wide 4 trivial rfl (by omega) (w.heap.size + 3 + 1) (w.heap.size + 2) (w.heap.size + 3) b off len cap lp f hreach hlp (fun h => by have := hb h; omega) (by omega)
    (fun k W => Below (w.heap.size + 3) w3 W ∧ W.heap[w.heap.size + 3 + 1]? = some (.loop (rec .ready none)) ∧ W.heap[w.heap.size + 3]? = some (.deferred (some [])) ∧ Pick f len u dv k)
    (fun W => W.heap[w.heap.size + 3 + 1]? = some (.loop (rec .done (some .ret))) ∧ W.heap[w.heap.size + 3]? = some (.deferred (some [])) ∧ ∃ v Wc Wc', W.cell? ⟨w.heap.size + 1, 0, none⟩ = some v ∧ Below w.heap.size w Wc ∧ w.heap.size + 5 ≤ Wc.heap.size ∧ Post v Wc Wc' ∧ Out w.heap.size Wc.heap.size Wc' W)
    hf ?_ W1 hBs hcs ⟨hB1, hL1, hK1, hstop⟩).mono ?_
  · rintro k j W hj ⟨hB, hL, hK, hst⟩
    have hlt : w.heap.size + 3 + 1 < W.heap.size := (Array.getElem?_eq_some_iff.1 hL).1
    obtain ⟨i, t, n, p, l, c, hfj, hn2, hnn⟩ := hst.round hj
    rw [hfj]
    have hy := run_yield (P := Tryz.prog) (args := #[.int .i64 (j : Int), .agg #[.int .u64 i, .int .u64 t, .int .i64 n, .slice p l c]]) hL (by rw [hrec]; rfl)
    rw [hrec] at hy
    refine ⟨fn, _, _, _, hy, roundIn_of_wpIn trivial ?_⟩
    have HR : Hid (rec = _) := hrec
    clear hrec
    clear hy hfj hcs hBs hL1 hK1 hB1 hc
    gi_wp2
    have hL2 : (W.alloc (Obj.cells #[Value.int IntKind.u64 i, Value.int IntKind.u64 t, Value.int IntKind.i64 n, Value.slice p l c] 25)).heap[w.heap.size + 3 + 1]? = some (.loop (rec .ready none)) := (Below.heap_alloc _ _ _ hlt).trans hL
    have hK2 : (W.alloc (Obj.cells #[Value.int IntKind.u64 i, Value.int IntKind.u64 t, Value.int IntKind.i64 n, Value.slice p l c] 25)).heap[w.heap.size + 3]? = some (.deferred (some [])) := (Below.heap_alloc _ _ _ (by omega)).trans hK
    have hB2 : Below (w.heap.size + 3) w3 (W.alloc (Obj.cells #[Value.int IntKind.u64 i, Value.int IntKind.u64 t, Value.int IntKind.i64 n, Value.slice p l c] 25)) := hB.alloc (by omega) _
    have hBW : Below (w.heap.size + 3) W (W.alloc (Obj.cells #[Value.int IntKind.u64 i, Value.int IntKind.u64 t, Value.int IntKind.i64 n, Value.slice p l c] 25)) := (Below.refl _ W).alloc (by omega) _
    have hE2 := World.alloc_heap_new W (Obj.cells #[Value.int IntKind.u64 i, Value.int IntKind.u64 t, Value.int IntKind.i64 n, Value.slice p l c] 25)
    have hS2 := World.size_alloc (w := W) (o := Obj.cells #[Value.int IntKind.u64 i, Value.int IntKind.u64 t, Value.int IntKind.i64 n, Value.slice p l c] 25)
    generalize W.alloc (Obj.cells #[Value.int IntKind.u64 i, Value.int IntKind.u64 t, Value.int IntKind.i64 n, Value.slice p l c] 25) = W2 at *
    refine ⟨_, run_beginRound hL2 (by rw [HR.out]), ?_⟩
    have hL3 : (W2.putObj (w.heap.size + 3 + 1) (.loop { rec .ready none with state := .busy })).heap[w.heap.size + 3 + 1]? = some (.loop { rec .ready none with state := .busy }) := World.putObj_heap_same (by omega)
    have hK3 : (W2.putObj (w.heap.size + 3 + 1) (.loop { rec .ready none with state := .busy })).heap[w.heap.size + 3]? = some (.deferred (some [])) := (World.putObj_heap_other (by omega)).trans hK2
    have hB3 : Below (w.heap.size + 3) w3 (W2.putObj (w.heap.size + 3 + 1) (.loop { rec .ready none with state := .busy })) := hB2.trans (belowK_b (w := w3) (by omega) W2 _ _ _ (by omega) hL2 rfl rfl)
    have hBW3 : Below (w.heap.size + 3) W (W2.putObj (w.heap.size + 3 + 1) (.loop { rec .ready none with state := .busy })) := hBW.trans (belowK_b (w := w3) (by omega) W2 _ _ _ (by omega) hL2 rfl rfl)
    have hE3 : (W2.putObj (w.heap.size + 3 + 1) (.loop { rec .ready none with state := .busy })).heap[W.heap.size]? = some (Obj.cells #[Value.int IntKind.u64 i, Value.int IntKind.u64 t, Value.int IntKind.i64 n, Value.slice p l c] 25) := (World.putObj_heap_other (by omega)).trans hE2
    have hS3 := World.putObj_size (w := W2) (r := w.heap.size + 3 + 1) (o := .loop { rec .ready none with state := .busy })
    generalize W2.putObj (w.heap.size + 3 + 1) (.loop { rec .ready none with state := .busy }) = W3 at *
    clear hL hK hB hL2 hK2 hB2 hBW hE2
    have hEc : W3.cell? ⟨W.heap.size, 2, none⟩ = some (.int .i64 n) := by simp [World.cell?, hE3]
    have hEd : W3.cell? ⟨W.heap.size, 3, none⟩ = some (.slice p l c) := by simp [World.cell?, hE3]
    by_cases hn : n = 2
    · subst hn
      have hu := hn2 rfl
      have hcl := callsIn_wide (n := 2).2 (hcall W3 (hb3.trans (hB3.mono (by omega))))
      rw [hu] at hcl
      have h3lt : w.heap.size + 5 ≤ W3.heap.size := by rw [hS3, hS2]; omega
      gi_wp2
      refine ⟨trivial, (show CallsIn (Fence.wide.inRound (w.heap.size + 3 + 1)) 2 Tryz.prog 106 #[.slice p l c] W3 _ from hcl).mono ?_⟩
      rintro e W5 ⟨p', l', c', rfl, hPost, hO1, hO2⟩
      have h51 : W5.heap[w.heap.size + 1]? = some (.cells #[Value.slice none 0 0] 29) := (hO2 _ (by omega) (by omega)).trans ((hB3.block _ (by omega)).trans h31)
      have hc51 : W5.cell? ⟨w.heap.size + 1, 0, none⟩ = some (.slice none 0 0) := by simp [World.cell?, h51]
      have hf51 : W5.frozen? ⟨w.heap.size + 1, 0, none⟩ = false := by simp [World.frozen?, h51]
      have hL5 : (W5.setCell ⟨w.heap.size + 1, 0, none⟩ (.slice p' l' c')).heap[w.heap.size + 3 + 1]? = some (.loop { rec .ready none with state := .busy }) := (Below.heap_setCell _ _ _ _ (by show w.heap.size + 3 + 1 ≠ w.heap.size + 1; omega)).trans ((hO2 _ (by omega) (by omega)).trans hL3)
      have hK5 : (W5.setCell ⟨w.heap.size + 1, 0, none⟩ (.slice p' l' c')).heap[w.heap.size + 3]? = some (.deferred (some [])) := (Below.heap_setCell _ _ _ _ (by show w.heap.size + 3 ≠ w.heap.size + 1; omega)).trans ((hO2 _ (by omega) (by omega)).trans hK3)
      have hcr : (W5.setCell ⟨w.heap.size + 1, 0, none⟩ (.slice p' l' c')).cell? ⟨w.heap.size + 1, 0, none⟩ = some (.slice p' l' c') := World.cell?_setCell_same' _ _ _ (by rw [hc51]; rfl)
      have hOut : Out w.heap.size W3.heap.size W5 (W5.setCell ⟨w.heap.size + 1, 0, none⟩ (.slice p' l' c')) := (Out.refl _ _ _).setCell (by omega) (by omega) _
      clear hL3 hK3 hcl hO2 hn2 hnn
      gi_wp2
      refine ⟨_, _, run_endRound (some .ret) hL5, .inr ⟨rfl, ?_, (World.putObj_heap_other (by omega)).trans hK5, .slice p' l' c', W3, W5, ?_, hb3.trans (hB3.mono (by omega)), h3lt, hPost, hOut.putObj (by omega) (by omega) _⟩⟩
      · rw [HR.out]; exact World.putObj_heap_same (Array.getElem?_eq_some_iff.1 hL5).1
      · rw [← hcr]; exact World.cell?_of_block (World.putObj_heap_other (by show w.heap.size + 1 ≠ _; omega))
    · clear hcall hstop
      gi_wp2
      refine ⟨_, _, run_endRound none hL3, .inl ⟨rfl, ⟨hB3.trans (belowK_b (w := w3) (by omega) W3 _ _ _ (by omega) hL3 rfl rfl), ?_, (World.putObj_heap_other (by omega)).trans hK3⟩, hBW3.trans (belowK_b (w := w3) (by omega) W3 _ _ _ (by omega) hL3 rfl rfl)⟩⟩
      rw [HR.out]
      exact World.putObj_heap_same (by omega)
  · clear hcs hBs hL1 hK1 hB1
    rintro e W5 ⟨⟨v, rfl⟩, ⟨hB, hL, hK, hst⟩ | ⟨hL, hK, v', Wc, Wc', hcell, hbw, hwc, hPost, hOut⟩⟩
    · have hu : u = dv := by
        unfold Pick at hst
        rcases hst with ⟨j0, p, l, c, h, _⟩ | ⟨h, _⟩
        · omega
        · exact h
      refine ⟨none, _, by have := run_endLoop (P := Tryz.prog) hL (by rw [hrec]; simp); rw [hrec] at this; exact this, ?_⟩
      generalize hW6 : W5.putObj (w.heap.size + 3 + 1) _ = W6
      have hB6 : Below (w.heap.size + 3) w3 W6 := by rw [← hW6]; exact hB.trans (belowK_b (w := w3) (by omega) W5 _ _ _ (by omega) hL rfl rfl)
      have hK6 : W6.heap[w.heap.size + 3]? = some (.deferred (some [])) := by rw [← hW6]; exact (World.putObj_heap_other (by omega)).trans hK
      have hS6 : w.heap.size + 5 ≤ W6.heap.size := by rw [← hW6, World.putObj_size]; have := (Array.getElem?_eq_some_iff.1 hL).1; omega
      have hd6 : W6.cell? ⟨w.heap.size, 3, none⟩ = some dv := by
        rw [hB6.cell (p := ⟨w.heap.size, 3, none⟩) (by show w.heap.size < _; omega)]; simp [World.cell?, h30]
      have hcl := callsIn_wide (n := 4).2 (hcall W6 (hb3.trans (hB6.mono (by omega))))
      rw [hu] at hcl
      have h61 : W6.heap[w.heap.size + 1]? = some (.cells #[Value.slice none 0 0] 29) := (hB6.block _ (by omega)).trans h31
      clear hW6 hrec hL hK hB
      gi_wp2
      refine ⟨trivial, hcl.mono ?_⟩
      rintro e W7 ⟨p', l', c', rfl, hPost, hO1, hO2⟩
      have h71 : W7.heap[w.heap.size + 1]? = some (.cells #[Value.slice none 0 0] 29) := (hO2 _ (by omega) (by omega)).trans h61
      have hc7 : W7.cell? ⟨w.heap.size + 1, 0, none⟩ = some (.slice none 0 0) := by simp [World.cell?, h71]
      have hf7 : W7.frozen? ⟨w.heap.size + 1, 0, none⟩ = false := by simp [World.frozen?, h71]
      have hcr : (W7.setCell ⟨w.heap.size + 1, 0, none⟩ (.slice p' l' c')).cell? ⟨w.heap.size + 1, 0, none⟩ = some (.slice p' l' c') := World.cell?_setCell_same' _ _ _ (by rw [hc7]; rfl)
      have hK7 : (W7.setCell ⟨w.heap.size + 1, 0, none⟩ (.slice p' l' c')).heap[w.heap.size + 3]? = some (.deferred (some [])) := (Below.heap_setCell _ _ _ _ (by show w.heap.size + 3 ≠ w.heap.size + 1; omega)).trans ((hO2 _ (by omega) (by omega)).trans hK6)
      have hOut : Out w.heap.size W6.heap.size W7 (W7.setCell ⟨w.heap.size + 1, 0, none⟩ (.slice p' l' c')) := (Out.refl _ _ _).setCell (by omega) (by omega) _
      gi_wp2
      refine ⟨by simp, .inl ⟨_, _, rfl, run_takeDeferred hK7, ?_⟩⟩
      refine ⟨.slice p' l' c', ?_, .slice p' l' c', W6, W7, rfl, hb3.trans (hB6.mono (by omega)), hPost, hOut.putObj (by omega) (by omega) _⟩
      refine results_cell rfl rfl ?_ _ rfl
      rw [← hcr]; exact World.cell?_of_block (World.putObj_heap_other (by show w.heap.size + 1 ≠ _; omega))
    · refine ⟨some .ret, _, by have := run_endLoop (P := Tryz.prog) hL (by rw [hrec]; simp); rw [hrec] at this; exact this, ?_⟩
      generalize hW6 : W5.putObj (w.heap.size + 3 + 1) _ = W6
      have hK6 : W6.heap[w.heap.size + 3]? = some (.deferred (some [])) := by rw [← hW6]; exact (World.putObj_heap_other (by omega)).trans hK
      have hc6 : W6.cell? ⟨w.heap.size + 1, 0, none⟩ = some v' := by rw [← hW6, ← hcell]; exact World.cell?_of_block (World.putObj_heap_other (by show w.heap.size + 1 ≠ _; omega))
      have hOut6 : Out w.heap.size Wc.heap.size Wc' W6 := by rw [← hW6]; exact hOut.putObj (by omega) (by omega) _
      clear hW6 hrec hL hK hcall
      gi_wp2
      refine ⟨by simp, .inl ⟨_, _, rfl, run_takeDeferred hK6, ?_⟩⟩
      refine ⟨v', ?_, v', Wc, Wc', rfl, hbw, hPost, hOut6.putObj (by omega) (by omega) _⟩
      refine results_cell rfl rfl ?_ _ rfl
      rw [← hc6]; exact World.cell?_of_block (World.putObj_heap_other (by show w.heap.size + 1 ≠ _; omega))
end Go.Proofs.YtfllmhjjfapnmaaGreat

