/- slices.Insert at elements of any size: the library's own text walked (turned from the worked proofs at strings). No statement of the seat is proved here. -/
import Derived.Shelf.Spec.SlicesInsert
import Derived.Shelf.Spec.SlicesInsertGrow
import Derived.Test.YthibbbfhkfebkaaGreatVZVC
import Derived.Shelf.Small.Strs
namespace Go.VI
open Go Go.Shelf Go.RowKit Go.Lib Go.Proofs
variable {P : Program} {ρ : Ren}
structure InsLays (P : Program) (ρ : Ren) (k B : Nat) (zv : Value) : Prop where
  mixed : P.follows .mixedOrders = true
  f22 : ∃ nm tg, P.funcs[ρ.f 22]? = some { Body2.n22 ρ with name := nm, targs := tg }
  ov : ∀ args w, (callFunc (ρ.f 29) args).run P w = ((Extern.SlicesOverlaps.overlaps #[(ρ.t 24), (ρ.t 24)] #[(ρ.t 4)] args).run P w).andThen fun v w' => .ok (.value v) w'
  t0 : P.underlying (ρ.t 0) = some (TypeDesc.tuple #[])
  a0 : ∀ w, (isAgg (ρ.t 0)).run P w = .ok false w
  z0 : ∀ w, (Go.sizeOf (ρ.t 0)).run P w = .ok 1 w
  v0 : ∀ w, (zeroValue (ρ.t 0)).run P w = .ok (Value.tuple #[]) w
  t3 : P.underlying (ρ.t 3) = some (TypeDesc.int IntKind.i64)
  a3 : ∀ w, (isAgg (ρ.t 3)).run P w = .ok false w
  z3 : ∀ w, (Go.sizeOf (ρ.t 3)).run P w = .ok 1 w
  v3 : ∀ w, (zeroValue (ρ.t 3)).run P w = .ok (Value.int IntKind.i64 0) w
  t4 : P.underlying (ρ.t 4) = some (TypeDesc.bool)
  a4 : ∀ w, (isAgg (ρ.t 4)).run P w = .ok false w
  z4 : ∀ w, (Go.sizeOf (ρ.t 4)).run P w = .ok 1 w
  v4 : ∀ w, (zeroValue (ρ.t 4)).run P w = .ok (Value.bool false) w
  z9 : ∀ w, (Go.sizeOf (ρ.t 9)).run P w = .ok k w
  t24 : P.underlying (ρ.t 24) = some (TypeDesc.slice (ρ.t 9))
  a24 : ∀ w, (isAgg (ρ.t 24)).run P w = .ok false w
  z24 : ∀ w, (Go.sizeOf (ρ.t 24)).run P w = .ok 1 w
  v24 : ∀ w, (zeroValue (ρ.t 24)).run P w = .ok (Value.slice none 0 0) w
  i9 : (P.info? (ρ.t 9)).map (fun i => (i.zero, i.size, i.bytes)) = some (some zv, k, B)
  hk : 0 < k
  hz : zv.cells.size = k
  nb : P.underlying (ρ.t 9) ≠ some (.int .u8)
theorem run_copy_k (w : World) (dT sT ty elem : TypeId) (k b o dLen dCap : Nat) (a : Addr) (sLen sCap q : Nat) (cs : List Value)
    (hu : P.underlying dT = some (.slice elem)) (hs : (P.info? elem).map (·.size) = some k) (hq : q = Nat.min sLen dLen) (hn : cs.length = q * k)
    (hsrc : ∀ j v, cs[j]? = some v → w.cell? (a.add j) = some v) (hc : ∀ j, j < cs.length → (w.cell? ⟨b, o + j, none⟩).isSome = true) (hf : ∀ j, j < cs.length → w.frozen? ⟨b, o + j, none⟩ = false) (h1 : ∀ v ∈ cs, v.oneCell' = true) :
    (Builtin.copy_ #[dT, sT] ty #[.slice (some ⟨b, o, none⟩) dLen dCap, .slice (some a) sLen sCap]).run P w = .ok (goInt q) (w.setCells b o cs) := by
  have hl := run_loadCells_list (P := P) w a cs hsrc
  have hst := run_storeCells_cells (P := P) b o cs 0 w (by simpa using hc) (by simpa using hf) h1
  obtain ⟨i, hi, hik⟩ := Option.map_eq_some_iff.mp hs
  rw [hn] at hl
  simp only [Nat.add_zero] at hst
  simp [Builtin.copy_, run_underlying hu, Builtin.lenOf, sizeOf, typeInfo, hi, hik, Builtin.firstCells, ← hq, hl, hst]
set_option maxHeartbeats 4000000 in
set_option maxRecDepth 100000 in
theorem insK_shift {k B : Nat} {zv : Value} (L : InsLays P ρ k B zv) (b off n c i vb voff m vc : Nat) (cs vs : List Value) (w : World) (hi : i < n) (hm : 0 < m) (hroom : n + m ≤ c) (hc63 : c ≤ 9223372036854775807) (hvb : vb ≠ b)
    (hcl : cs.length = n * k) (hvl : vs.length = m * k)
    (hcs : ∀ j v, cs[j]? = some v → w.cell? ⟨b, off + j, none⟩ = some v) (hsp : ∀ j, j < (n + m) * k → (w.cell? ⟨b, off + j, none⟩).isSome = true) (hfz : ∀ j, j < (n + m) * k → w.frozen? ⟨b, off + j, none⟩ = false)
    (hvs : ∀ j v, vs[j]? = some v → w.cell? ⟨vb, voff + j, none⟩ = some v) (h1c : ∀ v ∈ cs, v.oneCell' = true) (h1v : ∀ v ∈ vs, v.oneCell' = true)
    (tA tB : TypeId) (kA kB : Nat) (hsa : w.shape? vb = some (tA, kA)) (hsb : w.shape? b = some (tB, kB)) (hkB : kB ≠ 0) (hfa : w.frozen? ⟨vb, voff, none⟩ = false) (hfe : w.frozen? ⟨vb, kA, none⟩ = false) :
    Calls P (ρ.f 22) #[.slice (some ⟨b, off, none⟩) n c, .int .i64 i, .slice (some ⟨vb, voff, none⟩) m vc] w fun e w' =>
      e = .returned (.slice (some ⟨b, off, none⟩) (n + m) c) ∧ w' = (w.drew.setCells b (off + (i + m) * k) (cs.drop (i * k))).setCells b (off + i * k) vs := by
  have t0 := L.t0; have a0 := L.a0; have z0 := L.z0; have v0 := L.v0; have t3 := L.t3; have a3 := L.a3; have z3 := L.z3; have v3 := L.v3; have t4 := L.t4; have a4 := L.a4; have z4 := L.z4; have v4 := L.v4; have z9 := L.z9; have t24 := L.t24; have a24 := L.a24; have z24 := L.z24; have v24 := L.v24
  have u0 := run_underlying L.t0; have u3 := run_underlying L.t3; have u4 := run_underlying L.t4; have u24 := run_underlying L.t24
  have hk := L.hk
  have hz1 : ¬ ((m : Int) = 0) := by omega
  have hz2 : ¬ ((i : Int) = (n : Int)) := by omega
  have hsz : (P.info? (ρ.t 9)).map (·.size) = some k := by
    obtain ⟨i0, hi0, h0, h1, h2⟩ := info_parts L.i9
    rw [hi0]; simp [h1]
  have hov : ∀ lb cb, (callFunc (ρ.f 29) #[.slice (some ⟨vb, voff, none⟩) m vc, .slice (some ⟨b, off + (i + m) * k, none⟩) lb cb]).run P w = .ok (.value (.bool false)) w := fun lb cb => by
    rw [L.ov, Lib.run_overlaps_apart w (ρ.t 24) (ρ.t 4) (ρ.t 9) L.t24 k L.z9 ⟨vb, voff, none⟩ ⟨b, off + (i + m) * k, none⟩ m vc lb cb hvb tA tB kA kB hsa hsb hkB hfa hfe]
    rfl
  have hdl : (cs.drop (i * k)).length = (n - i) * k := by rw [List.length_drop, hcl, Nat.sub_mul]
  have hmul1 : (n - i) * k + (i + m) * k = (n + m) * k := by rw [← Nat.add_mul]; congr 1; omega
  have hmul2 : m * k + i * k ≤ (n + m) * k := by rw [← Nat.add_mul]; exact Nat.mul_le_mul_right _ (by omega)
  have mixed := L.mixed
  have hw1 : IntKind.i64.wrap ((i : Int) + (m : Int)) = (i : Int) + (m : Int) := by rw [IntKind.wrap_i64]; omega
  have hb1 : (0 : Int) ≤ (i : Int) + (m : Int) := by omega
  have hin : i ≤ n := by omega
  have htn : ((i : Int) + (m : Int)).toNat = i + m := by omega
  have hb2 : ¬ (c = i + m) := by omega
  have hb3 : (i : Int) ≤ (n : Int) + (m : Int) := by omega
  have hb4 : ¬ (c = i) := by omega
  have hcp1 : ∀ ty dc sc, (Builtin.copy_ #[(ρ.t 24), (ρ.t 24)] ty #[.slice (some ⟨b, off + (i + m) * k, none⟩) (n + m - (i + m)) dc, .slice (some ⟨b, off + i * k, none⟩) (n + m - i) sc]).run P w.drew = .ok (goInt ((n - i : Nat) : Int)) (w.drew.setCells b (off + (i + m) * k) (cs.drop (i * k))) := fun ty dc sc =>
    run_copy_k w.drew _ _ ty (ρ.t 9) k b (off + (i + m) * k) (n + m - (i + m)) dc ⟨b, off + i * k, none⟩ (n + m - i) sc (n - i) (cs.drop (i * k)) L.t24 hsz (by simp only [Nat.min_def]; split <;> omega) hdl
      (fun j v hj => by rw [Addr.add_lit, Nat.add_assoc]; exact hcs (i * k + j) v (by rwa [List.getElem?_drop] at hj))
      (fun j hj => by rw [Nat.add_assoc]; exact hsp _ (by omega)) (fun j hj => by rw [Nat.add_assoc]; exact hfz _ (by omega)) (fun v hv => h1c v (List.mem_of_mem_drop hv))
  obtain ⟨W1, hW1⟩ : ∃ W1, W1 = w.drew.setCells b (off + (i + m) * k) (cs.drop (i * k)) := ⟨_, rfl⟩
  have hsp1 : ∀ q, q < (n + m) * k → (W1.cell? ⟨b, off + q, none⟩).isSome = true := fun q hq => by
    rw [hW1]
    exact isSome_setCells b _ _ _ (fun j hj => by rw [Nat.add_assoc]; exact hsp _ (by omega)) _ (hsp q hq)
  have hcp2 : ∀ (W : World), (∀ x, W.cell? x = W1.cell? x) → (∀ x, W.frozen? x = W1.frozen? x) → ∀ ty dc, (Builtin.copy_ #[(ρ.t 24), (ρ.t 24)] ty #[.slice (some ⟨b, off + i * k, none⟩) (n + m - i) dc, .slice (some ⟨vb, voff, none⟩) m vc]).run P W = .ok (goInt m) (W.setCells b (off + i * k) vs) := fun W hWc hWf ty dc =>
    run_copy_k W _ _ ty (ρ.t 9) k b (off + i * k) (n + m - i) dc ⟨vb, voff, none⟩ m vc m vs L.t24 hsz (by simp only [Nat.min_def]; split <;> omega) hvl
      (fun j v hj => by
        rw [Addr.add_lit, hWc, hW1, World.cell?_setCells_out b _ _ _ _ (fun h _ => absurd h hvb)]
        exact hvs j v hj)
      (fun j hj => by rw [hWc, Nat.add_assoc]; exact hsp1 _ (by omega)) (fun j hj => by rw [hWf, hW1, World.frozen?_setCells, Nat.add_assoc]; exact hfz _ (by omega)) h1v
  rw [← hW1] at hcp1
  obtain ⟨nm, tg, F22⟩ := L.f22
  go_enter F22, Body2.n22_ntmps ρ
  go_wp2_with (simp only [hov])
  go_region_law_o (refine step_copy_runI rfl _ _ (ρ.t 24) (ρ.t 24) rfl _ _ (by simp [Act.eval, Act.put]) (by simp [Act.eval, Act.put]) (hcp1 _ _ _) ?_)
  go_wp2_with (at_builtin; refine wpList_copy_runI _ rfl _ _ (ρ.t 24) (ρ.t 24) rfl _ _ rfl rfl (hcp2 _ (fun _ => rfl) (fun _ => rfl) _ _) ?_)
  go_ret
  first | exact ⟨rfl, rfl⟩ | exact ⟨rfl, by rw [hW1]⟩
set_option maxHeartbeats 4000000 in
set_option maxRecDepth 100000 in
theorem insK_end_room {k B : Nat} {zv : Value} (L : InsLays P ρ k B zv) (b off n c vb voff m vc : Nat) (vs : List Value) (w : World) (hm : 0 < m) (hroom : n + m ≤ c)
    (hvl : vs.length = m * k) (hsp : ∀ j, j < m * k → (w.cell? ⟨b, off + n * k + j, none⟩).isSome = true) (hfz : ∀ j, j < m * k → w.frozen? ⟨b, off + n * k + j, none⟩ = false)
    (hvs : ∀ j v, vs[j]? = some v → w.cell? ⟨vb, voff + j, none⟩ = some v) (h1v : ∀ v ∈ vs, v.oneCell' = true) :
    Calls P (ρ.f 22) #[.slice (some ⟨b, off, none⟩) n c, .int .i64 n, .slice (some ⟨vb, voff, none⟩) m vc] w fun e w' =>
      e = .returned (.slice (some ⟨b, off, none⟩) (n + m) c) ∧ w' = w.setCells b (off + n * k) vs := by
  have t0 := L.t0; have a0 := L.a0; have z0 := L.z0; have v0 := L.v0; have t3 := L.t3; have a3 := L.a3; have z3 := L.z3; have v3 := L.v3; have t4 := L.t4; have a4 := L.a4; have z4 := L.z4; have v4 := L.v4; have z9 := L.z9; have t24 := L.t24; have a24 := L.a24; have z24 := L.z24; have v24 := L.v24
  have u0 := run_underlying L.t0; have u3 := run_underlying L.t3; have u4 := run_underlying L.t4; have u24 := run_underlying L.t24
  have mixed := L.mixed
  obtain ⟨i0, hi0, hz0, hzs, hzb⟩ := info_parts L.i9
  have hz1 : ¬ ((m : Int) = 0) := by omega
  have hsrc : Src P i0.size (ρ.t 24) (.slice (some ⟨vb, voff, none⟩) m vc) m vs w := by
    rw [hzs]
    exact Src.ofSlice w L.t24 ⟨vb, voff, none⟩ m vc vs hvl (fun j u hj => by rw [Addr.add_lit]; exact hvs j u hj) h1v
  have hrun : ∀ ty, (Builtin.append_ #[(ρ.t 24), (ρ.t 24)] ty #[.slice (some ⟨b, off, none⟩) n c, .slice (some ⟨vb, voff, none⟩) m vc]).run P w = .ok (.slice (some ⟨b, off, none⟩) (n + m) c) (w.setCells b (off + n * k) vs) := fun ty => by
    have := run_append_room_src w (ρ.t 24) (ρ.t 24) ty (ρ.t 9) i0 L.t24 hi0 b off n c _ m vs hsrc hroom (by rw [hvl, hzs]; exact hsp) (by rw [hvl, hzs]; exact hfz)
    rw [hzs] at this
    exact this
  obtain ⟨nm, tg, F22⟩ := L.f22
  go_enter F22, Body2.n22_ntmps ρ
  go_wp2_with (at_builtin; refine Lib.wpList_append_run _ rfl _ _ _ _ rfl _ _ rfl rfl _ _ (hrun _) ?_)
  go_ret
  exact ⟨rfl, rfl⟩
set_option maxHeartbeats 4000000 in
set_option maxRecDepth 100000 in
theorem insK_end_grow {k B : Nat} {zv : Value} (L : InsLays P ρ k B zv) (base : Option Addr) (n c vb voff m vc : Nat) (cs vs : List Value) (w : World) (hm : 0 < m) (hnc : n ≤ c) (hroom : c < n + m) (h63 : n + m ≤ 9223372036854775807) (hbig : (n + m) * B ≤ 140737488355328)
    (hcl : cs.length = n * k) (hvl : vs.length = m * k) (hnil : base = none → n = 0)
    (hcs : ∀ a, base = some a → ∀ j v, cs[j]? = some v → w.cell? (a.add j) = some v)
    (hvs : ∀ j v, vs[j]? = some v → w.cell? ⟨vb, voff + j, none⟩ = some v) (h1v : ∀ v ∈ vs, v.oneCell' = true) :
    Calls P (ρ.f 22) #[.slice base n c, .int .i64 n, .slice (some ⟨vb, voff, none⟩) m vc] w fun e w' =>
      e = .returned (.slice (some ⟨w.heap.size, 0, none⟩) (n + m) (grownCap w (n + m) c (ρ.t 9))) ∧
      w' = w.drew.alloc (.cells ((cs ++ vs).toArray ++ Builtin.zeroCells zv.cells (grownCap w (n + m) c (ρ.t 9) - (n + m))) (ρ.t 9)) := by
  have t0 := L.t0; have a0 := L.a0; have z0 := L.z0; have v0 := L.v0; have t3 := L.t3; have a3 := L.a3; have z3 := L.z3; have v3 := L.v3; have t4 := L.t4; have a4 := L.a4; have z4 := L.z4; have v4 := L.v4; have z9 := L.z9; have t24 := L.t24; have a24 := L.a24; have z24 := L.z24; have v24 := L.v24
  have u0 := run_underlying L.t0; have u3 := run_underlying L.t3; have u4 := run_underlying L.t4; have u24 := run_underlying L.t24
  have mixed := L.mixed
  obtain ⟨i0, hi0, hz0, hzs, hzb⟩ := info_parts L.i9
  have hz1 : ¬ ((m : Int) = 0) := by omega
  have hsrc : Src P i0.size (ρ.t 24) (.slice (some ⟨vb, voff, none⟩) m vc) m vs w := by
    rw [hzs]
    exact Src.ofSlice w L.t24 ⟨vb, voff, none⟩ m vc vs hvl (fun j u hj => by rw [Addr.add_lit]; exact hvs j u hj) h1v
  have hold : (Builtin.firstCells i0.size n (.slice base n c)).run P w.drew = .ok cs.toArray w.drew := by
    rw [hzs]
    cases base with
    | none =>
      have h0 := hnil rfl
      subst h0
      have hc0 : cs = [] := List.length_eq_zero_iff.1 (by simpa using hcl)
      rw [hc0]
      exact run_firstCells_none w.drew k 0 0 c
    | some a => exact run_firstCells_some w.drew k n a n c cs hcl (fun j v hj => hcs a rfl j v hj)
  have hrun : ∀ ty, (Builtin.append_ #[(ρ.t 24), (ρ.t 24)] ty #[.slice base n c, .slice (some ⟨vb, voff, none⟩) m vc]).run P w = _ := fun ty =>
    run_append_grow_src w (ρ.t 24) (ρ.t 24) ty (ρ.t 9) i0 _ L.t24 hi0 hz0 base n c cs hold _ m vs hsrc hroom (by omega) (by rw [hzb]; exact growslice_fits hroom hbig)
  generalize zv.cells = zc at hrun ⊢
  obtain ⟨nm, tg, F22⟩ := L.f22
  go_enter F22, Body2.n22_ntmps ρ
  cases base with
  | none =>
    have h0 := hnil rfl
    subst h0
    go_wp2_with (at_builtin; refine Lib.wpList_append_run _ rfl _ _ _ _ rfl _ _ rfl rfl _ _ (hrun _) ?_)
    go_ret
    exact ⟨rfl, rfl⟩
  | some a =>
    obtain ⟨ab, ao, asp⟩ := a
    go_wp2_with (at_builtin; refine Lib.wpList_append_run _ rfl _ _ _ _ rfl _ _ rfl rfl _ _ (hrun _) ?_)
    all_goals (go_ret; exact ⟨rfl, rfl⟩)
set_option maxHeartbeats 4000000 in
set_option maxRecDepth 100000 in
theorem insK_grow {k B : Nat} {zv : Value} (L : InsLays P ρ k B zv) (b off n c i vb voff m vc : Nat) (cs vs : List Value) (w : World) (hi : i < n) (hm : 0 < m) (hnc : n ≤ c) (hroom : c < n + m) (h63 : n + m ≤ 9223372036854775807) (hbig : (n + m) * B ≤ 140737488355328)
    (hcl : cs.length = n * k) (hvl : vs.length = m * k)
    (hcs : ∀ j v, cs[j]? = some v → w.cell? ⟨b, off + j, none⟩ = some v)
    (hvs : ∀ j v, vs[j]? = some v → w.cell? ⟨vb, voff + j, none⟩ = some v) (h1c : ∀ v ∈ cs, v.oneCell' = true) (h1v : ∀ v ∈ vs, v.oneCell' = true) :
    Calls P (ρ.f 22) #[.slice (some ⟨b, off, none⟩) n c, .int .i64 i, .slice (some ⟨vb, voff, none⟩) m vc] w fun e w' =>
      e = .returned (.slice (some ⟨w.heap.size, 0, none⟩) (n + m) (grownCap w (n + m) c (ρ.t 9))) ∧
      w' = (((w.alloc (.cells ((cs.take (i * k)).toArray ++ Builtin.zeroCells zv.cells (n + m - i) ++ Builtin.zeroCells zv.cells (grownCap w (n + m) c (ρ.t 9) - (n + m))) (ρ.t 9))).drew.setCells w.heap.size (i * k) vs).drew).setCells w.heap.size ((i + m) * k) (cs.drop (i * k)) := by
  have t0 := L.t0; have a0 := L.a0; have z0 := L.z0; have v0 := L.v0; have t3 := L.t3; have a3 := L.a3; have z3 := L.z3; have v3 := L.v3; have t4 := L.t4; have a4 := L.a4; have z4 := L.z4; have v4 := L.v4; have z9 := L.z9; have t24 := L.t24; have a24 := L.a24; have z24 := L.z24; have v24 := L.v24
  have u0 := run_underlying L.t0; have u3 := run_underlying L.t3; have u4 := run_underlying L.t4; have u24 := run_underlying L.t24
  have mixed := L.mixed
  have hk := L.hk
  obtain ⟨i0, hi0, hz0, hzs, hzb⟩ := info_parts L.i9
  have hz1 : ¬ ((m : Int) = 0) := by omega
  have hz2 : ¬ ((i : Int) = (n : Int)) := by omega
  have hz3 : (c : Int) < (n : Int) + (m : Int) := by omega
  have hsz : (P.info? (ρ.t 9)).map (·.size) = some k := by rw [hi0]; simp [hzs]
  have hnk : 0 < n * k := Nat.mul_pos (by omega) hk
  have hmk : 0 < m * k := Nat.mul_pos hm hk
  have hbw : b < w.heap.size := block_lt_of_cell (hcs 0 _ (List.getElem?_eq_getElem (by omega)))
  have hvw : vb < w.heap.size := block_lt_of_cell (hvs 0 _ (List.getElem?_eq_getElem (by omega)))
  have hkk : (n : Int) + (m : Int) - (i : Int) = ((n + m - i : Nat) : Int) := by omega
  have hik : i + (n + m - i) = n + m := by omega
  have hmul1 : (n - i) * k + (i + m) * k = (n + m) * k := by rw [← Nat.add_mul]; congr 1; omega
  have hmul2 : m * k + i * k ≤ (n + m) * k := by rw [← Nat.add_mul]; exact Nat.mul_le_mul_right _ (by omega)
  have hmul3 : i * k ≤ n * k := Nat.mul_le_mul_right _ (by omega)
  have hold : (Builtin.firstCells i0.size i (.slice (some ⟨b, off, none⟩) i c)).run P w.drew = .ok (cs.take (i * k)).toArray w.drew := by
    rw [hzs]
    exact run_firstCells_some w.drew k i ⟨b, off, none⟩ i c (cs.take (i * k)) (by rw [List.length_take]; omega) (fun j v hj => by
      rw [Addr.add_lit]
      rw [List.getElem?_take] at hj
      split at hj
      · exact hcs j v hj
      · cases hj)
  have hB2 : (n + m - i) * i0.bytes ≤ 281474976710656 := by
    rw [hzb]
    have : (n + m - i) * B ≤ (n + m) * B := Nat.mul_le_mul_right _ (by omega)
    omega
  have hrz : ∀ ty, (Builtin.append_ #[(ρ.t 24), (ρ.t 3)] ty #[.slice (some ⟨b, off, none⟩) i c, .int .i64 ((n : Int) + (m : Int) - (i : Int))]).run P w =
      .ok (.slice (some ⟨w.heap.size, 0, none⟩) (n + m) (grownCap w (n + m) c (ρ.t 9))) (w.drew.alloc (.cells ((cs.take (i * k)).toArray ++ Builtin.zeroCells zv.cells (n + m - i) ++ Builtin.zeroCells zv.cells (grownCap w (n + m) c (ρ.t 9) - (n + m))) (ρ.t 9))) := fun ty => by
    have h := Lib.run_append_grow_zeros w (ρ.t 24) (ρ.t 3) ty (ρ.t 9) i0 _ .i64 .i64 L.t24 L.t3 hi0 hz0 (some ⟨b, off, none⟩) i c (cs.take (i * k)) hold (n + m - i) (by omega) (by omega) (by omega) (by omega) hB2 (by rw [hzb, hik]; exact growslice_fits hroom hbig)
    rw [hik] at h
    rw [hkk]
    exact h
  obtain ⟨G, hG⟩ : ∃ G, G = grownCap w (n + m) c (ρ.t 9) := ⟨_, rfl⟩
  obtain ⟨ROW, hROW⟩ : ∃ ROW : Array Value, ROW = (cs.take (i * k)).toArray ++ Builtin.zeroCells zv.cells (n + m - i) ++ Builtin.zeroCells zv.cells (G - (n + m)) := ⟨_, rfl⟩
  rw [← hG] at hrz ⊢
  rw [← hROW] at hrz ⊢
  have hRl : (n + m) * k ≤ ROW.size := by
    rw [hROW, Array.size_append, Array.size_append, size_zeroCells, size_zeroCells, L.hz, List.size_toArray, List.length_take, Nat.min_eq_left (by omega), ← Nat.add_mul, hik]
    omega
  obtain ⟨W1, hW1⟩ : ∃ W1, W1 = w.drew.alloc (.cells ROW (ρ.t 9)) := ⟨_, rfl⟩
  rw [← hW1] at hrz
  have hN : ∀ j, j < (n + m) * k → (W1.cell? ⟨w.heap.size, j, none⟩).isSome = true := fun j hj => by
    rw [hW1, World.cell?_alloc_at (w := w.drew) ROW _ w.heap.size j rfl, Array.getElem?_eq_getElem (by omega)]; rfl
  have hNf : ∀ j, W1.frozen? ⟨w.heap.size, j, none⟩ = false := fun j => by rw [hW1]; exact World.frozen?_alloc_at (w := w.drew) ROW _ w.heap.size j rfl
  have hOb : ∀ j v, w.cell? ⟨b, j, none⟩ = some v → W1.cell? ⟨b, j, none⟩ = some v := fun j v h => by rw [hW1, World.cell?_alloc_past (w := w.drew) _ b j hbw]; exact h
  have hOv : ∀ j v, w.cell? ⟨vb, j, none⟩ = some v → W1.cell? ⟨vb, j, none⟩ = some v := fun j v h => by rw [hW1, World.cell?_alloc_past (w := w.drew) _ vb j hvw]; exact h
  have hcpA : ∀ (W : World), (∀ x, W.cell? x = W1.cell? x) → (∀ x, W.frozen? x = W1.frozen? x) → ∀ ty dc, (Builtin.copy_ #[(ρ.t 24), (ρ.t 24)] ty #[.slice (some ⟨w.heap.size, i * k, none⟩) (n + m - i) dc, .slice (some ⟨vb, voff, none⟩) m vc]).run P W = .ok (goInt m) (W.setCells w.heap.size (i * k) vs) := fun W hWc hWf ty dc =>
    run_copy_k W _ _ ty (ρ.t 9) k w.heap.size (i * k) (n + m - i) dc ⟨vb, voff, none⟩ m vc m vs L.t24 hsz (by simp only [Nat.min_def]; split <;> omega) hvl
      (fun j v hj => by rw [Addr.add_lit, hWc]; exact hOv _ v (hvs j v hj))
      (fun j hj => by rw [hWc]; exact hN _ (by omega)) (fun j hj => by rw [hWf]; exact hNf _) h1v
  have hGn : n + m ≤ G := by rw [hG]; exact grownCap_ge w _ _ _
  have hG63 : G ≤ 9223372036854775807 := by
    have := grownCap_le_maxLen w (n + m) c (ρ.t 9) (by unfold maxLen; omega)
    rw [← hG] at this
    unfold maxLen at this
    omega
  have hGi : ¬ (G = i) := by omega
  have hGim : ¬ (G = i + m) := by omega
  have hci : ¬ (c = i) := by omega
  have hbN : b ≠ w.heap.size := by omega
  have hdl : (cs.drop (i * k)).length = (n - i) * k := by rw [List.length_drop, hcl, Nat.sub_mul]
  have hcpB : ∀ (W : World), (∀ x, W.cell? x = (W1.setCells w.heap.size (i * k) vs).cell? x) → (∀ x, W.frozen? x = (W1.setCells w.heap.size (i * k) vs).frozen? x) → ∀ ty dc sc, (Builtin.copy_ #[(ρ.t 24), (ρ.t 24)] ty #[.slice (some ⟨w.heap.size, (i + m) * k, none⟩) (n + m - (i + m)) dc, .slice (some ⟨b, off + i * k, none⟩) (n - i) sc]).run P W = .ok (goInt ((n - i : Nat) : Int)) (W.setCells w.heap.size ((i + m) * k) (cs.drop (i * k))) := fun W hWc hWf ty dc sc =>
    run_copy_k W _ _ ty (ρ.t 9) k w.heap.size ((i + m) * k) (n + m - (i + m)) dc ⟨b, off + i * k, none⟩ (n - i) sc (n - i) (cs.drop (i * k)) L.t24 hsz (by simp only [Nat.min_def]; split <;> omega) hdl
      (fun j v hj => by
        rw [Addr.add_lit, hWc, World.cell?_setCells_out _ _ _ _ _ (fun h _ => absurd h hbN), Nat.add_assoc]
        exact hOb _ v (hcs (i * k + j) v (by rwa [List.getElem?_drop] at hj)))
      (fun j hj => by rw [hWc]; exact isSome_setCells _ _ _ _ (fun t ht => hN _ (by omega)) _ (hN _ (by omega)))
      (fun j hj => by rw [hWf, World.frozen?_setCells]; exact hNf _) (fun v hv => h1c v (List.mem_of_mem_drop hv))
  subst hW1
  have hE1 : ∀ x, ((w.alloc (.cells ROW (ρ.t 9))).drew).cell? x = (w.drew.alloc (.cells ROW (ρ.t 9))).cell? x := fun x => rfl
  have hE2 : ∀ x, ((w.alloc (.cells ROW (ρ.t 9))).drew).frozen? x = (w.drew.alloc (.cells ROW (ρ.t 9))).frozen? x := fun x => rfl
  have hF1 : ∀ x, (((w.alloc (.cells ROW (ρ.t 9))).drew.setCells w.heap.size (i * k) vs).drew).cell? x = ((w.drew.alloc (.cells ROW (ρ.t 9))).setCells w.heap.size (i * k) vs).cell? x := fun x => rfl
  have hF2 : ∀ x, (((w.alloc (.cells ROW (ρ.t 9))).drew.setCells w.heap.size (i * k) vs).drew).frozen? x = ((w.drew.alloc (.cells ROW (ρ.t 9))).setCells w.heap.size (i * k) vs).frozen? x := fun x => rfl
  have hw1 : IntKind.i64.wrap ((i : Int) + (m : Int)) = (i : Int) + (m : Int) := by rw [IntKind.wrap_i64]; omega
  have hb1 : (0 : Int) ≤ (i : Int) + (m : Int) := by omega
  have hin : i ≤ n := by omega
  have htn : ((i : Int) + (m : Int)).toNat = i + m := by omega
  have hb3 : (i : Int) ≤ (n : Int) := by omega
  clear hkk hik hold hROW hG hRl
  obtain ⟨nm, tg, F22⟩ := L.f22
  go_enter F22, Body2.n22_ntmps ρ
  go_wp2_with (first
    | (at_builtin; refine Lib.wpList_append_run _ rfl _ _ _ _ rfl _ _ rfl rfl _ _ (hrz _) ?_)
    | (at_builtin; refine wpList_copy_runI _ rfl _ _ (ρ.t 24) (ρ.t 24) rfl _ _ rfl rfl (hcpA _ hE1 hE2 _ _) ?_)
    | (at_builtin; refine wpList_copy_runI _ rfl _ _ (ρ.t 24) (ρ.t 24) rfl _ _ rfl rfl (hcpB _ (fun _ => rfl) (fun _ => rfl) _ _ _) ?_))
  go_region_law_o (refine step_copy_runI rfl _ _ (ρ.t 24) (ρ.t 24) rfl (.slice (some ⟨w.heap.size, (i + m) * k, none⟩) (n + m - (i + m)) (G - (i + m))) (.slice (some ⟨b, off + i * k, none⟩) (n - i) (c - i)) (by simp [Act.eval, Act.put]) (by simp [Act.eval, Act.put]) (hcpB _ hF1 hF2 (ρ.t 3) (G - (i + m)) (c - i)) ?_)
  go_wp2
  go_ret
  exact ⟨rfl, rfl⟩
end Go.VI
/- slices.Insert at elements of any size is what the abstract machine has. No statement of the seat is proved here. -/
namespace Go.VI
open Go Go.RowKit Go.Shelf
variable {P : Program} {W0 : World} {m : PM} {s : Mem} {w : World}
theorem idx_lt {i z n q : Nat} (hi : i < n) (hq : q < z) : i * z + q < n * z := by
  have : (i + 1) * z ≤ n * z := Nat.mul_le_mul_right _ hi
  rw [Nat.add_mul] at this
  omega
theorem row_news {pl : Pl} {row : Row} {n z : Nat} (hR : CellsOK P W0 m w pl row) (h1 : row.sz = z) (hz : 0 < z) (hn : n ≤ row.els.length) :
    ∃ cs : List Value, cs.length = n * z ∧ (∀ j v, cs[j]? = some v → w.cell? ⟨pl.blk, 0 + j, none⟩ = some v) ∧ (∀ v ∈ cs, v.oneCell' = true) ∧
      (∀ (i : Nat) (x : List AV) (q : Nat) (c : AV), (row.els.take n)[i]? = some x → x[q]? = some c → ∃ u, cs[i * z + q]? = some u ∧ V W0 m u c) := by
  obtain ⟨arr, fz, g1, g2, g3, g4, gf⟩ := hR.ex
  have hE : pl.e = z := hR.e.trans h1
  have hl := hR.len
  rw [hE] at g2 g4
  have hle : n * z ≤ pl.cap * z := Nat.mul_le_mul_right _ (by omega)
  refine ⟨arr.toList.take (n * z), by rw [List.length_take, Array.length_toList]; omega, ?_, ?_, ?_⟩
  · intro j v hj
    rw [List.getElem?_take] at hj
    split at hj
    · simp only [World.cell?, g1, Nat.zero_add]
      rw [Array.getElem?_toList] at hj
      simpa using hj
    · cases hj
  · intro v hv
    obtain ⟨j, hj⟩ := List.mem_iff_getElem?.mp hv
    rw [List.getElem?_take] at hj
    split at hj
    · rename_i hjn
      have hd : j / z < n := (Nat.div_lt_iff_lt_mul hz).mpr hjn
      have hmd : j % z < z := Nat.mod_lt _ hz
      obtain ⟨x, hx⟩ : ∃ x, row.els[j / z]? = some x := ⟨_, List.getElem?_eq_getElem (by omega)⟩
      have hxl := (hR.szs _ x hx).1
      obtain ⟨c, hc⟩ : ∃ c, x[j % z]? = some c := ⟨_, List.getElem?_eq_getElem (by omega)⟩
      obtain ⟨u, q1, q2⟩ := g4 _ x _ c hx hc
      rw [show j / z * z + j % z = j by rw [Nat.mul_comm]; exact Nat.div_add_mod j z] at q1
      rw [Array.getElem?_toList, q1] at hj
      obtain rfl := Option.some.inj hj
      exact q2.one ((hR.szs _ x hx).2 _ c hc)
    · cases hj
  · intro i x q c hx hq
    have hin : i < n := by
      have := (List.getElem?_eq_some_iff.mp hx).1
      rw [List.length_take] at this; omega
    have hx' : row.els[i]? = some x := by rw [List.getElem?_take, if_pos hin] at hx; exact hx
    have hq0 : q < z := by have := (List.getElem?_eq_some_iff.mp hq).1; rw [(hR.szs i x hx').1, h1] at this; exact this
    obtain ⟨u, q1, q2⟩ := g4 i x q c hx' hq
    refine ⟨u, ?_, q2⟩
    rw [List.getElem?_take, if_pos (idx_lt hin hq0), Array.getElem?_toList]; exact q1
theorem ins_ok {ρ : Ren} {z B : Nat} {zv : Value} (L : InsLays P ρ z B zv) : PrimOK P (ρ.f 22) (.ins (ρ.t 9) z B) := by
  intro W0 m s w vs avs s' r hr hV h hf
  have hz := L.hk
  have hzl := L.hz
  replace h : insA (ρ.t 9) z B avs s = some (r, s') := h
  unfold insA at h
  split at h
  case h_2 => cases h
  rename_i x i q mm zz
  simp only [Option.bind_eq_bind] at h
  obtain ⟨k, hk, h1⟩ := Option.bind_eq_some_iff.mp h
  obtain ⟨rq, hrq, h2⟩ := Option.bind_eq_some_iff.mp h1
  clear h h1
  by_cases hc : 0 < mm ∧ mm ≤ rq.els.length ∧ rq.ty = ρ.t 9 ∧ rq.sz = z ∧ zz = z
  case neg => rw [if_neg hc] at h2; cases h2
  rw [if_pos hc] at h2
  obtain ⟨c1, c2, c3, c4, rfl⟩ := hc
  obtain ⟨vx, vi, vy, rfl⟩ : ∃ a b c, vs = #[a, b, c] := by
    have := hV.1
    match vs, this with
    | ⟨[a, b, c]⟩, _ => exact ⟨a, b, c, rfl⟩
  have hvx : V W0 m vx x := hV.2 0 _ _ rfl rfl
  have hvi : V W0 m vi (.int .i64 i) := hV.2 1 _ _ rfl rfl
  have hvy : V W0 m vy (.own q 0 mm zz) := hV.2 2 _ _ rfl rfl
  obtain rfl := hvi.inv_int
  have hik : i = (k : Int) := by
    unfold toNat? at hk
    split at hk
    · have := Option.some.inj hk; omega
    · cases hk
  subst hik
  obtain ⟨voff, vc, pq, rfl, ⟨hmq, hpq⟩, _, hmv, hoq, _⟩ := hvy.inv_own
  have hvo : voff = 0 := by rw [hoq (.inr rfl), Nat.zero_mul]
  subst hvo
  have hRq := (hr.row q pq rq hmq hrq).cs hpq
  obtain ⟨ys, y1, y2, y3, y4⟩ := row_news hRq c4 hz c2
  obtain ⟨aq, fq, e1, e2, _, _, ef⟩ := hRq.ex
  have hfq : fq = (0, 0) := by
    rcases ef with h | ⟨_, h⟩
    · exact h
    · rw [hRq.ty, c3] at h; exact absurd h L.nb
  have hsa : w.shape? pq.blk = some (pq.ty, aq.size) := by simp only [World.shape?, e1]
  have hfa : ∀ o, w.frozen? ⟨pq.blk, o, none⟩ = false := fun o => by
    simp only [World.frozen?, e1, hfq]; simp
  have hys : ∀ (i : Nat) (x : List AV), (rq.els.take mm)[i]? = some x → x.length = zz ∧ ∀ (q : Nat) (y : AV), x[q]? = some y → isCell y = true := by
    intro i x hx
    rw [List.getElem?_take] at hx
    split at hx
    · rw [← c4]; exact hRq.szs i x hx
    · cases hx
  have hyl : (rq.els.take mm).length = mm := by rw [List.length_take]; omega
  have newRow : ∀ (n0 cap : Nat) (cells zs : List Value) (els : List (List AV)) (s0 : Mem) (m0 : PM) (w1 : World) (_ : Rel P W0 m0 s0 w) (_ : m0 s0.next = none) (_ : cells.length = (n0 + mm) * zz) (_ : els.length = n0 + mm)
      (_ : Below w.heap.size w w1) (_ : w1.heap[w.heap.size]? = some (.cells (cells ++ zs).toArray (ρ.t 9) (0, 0))) (_ : n0 + mm ≤ cap) (_ : zs.length = (cap - (n0 + mm)) * zz) (_ : cap ≤ maxLen)
      (_ : ∀ (i : Nat) (x : List AV), els[i]? = some x → x.length = zz ∧ ∀ (q : Nat) (y : AV), x[q]? = some y → isCell y = true)
      (_ : ∀ (i : Nat) (x : List AV) (q : Nat) (y : AV), els[i]? = some x → x[q]? = some y → ∃ v, cells[i * zz + q]? = some v ∧ V W0 m0 v y),
      ∃ m', After P W0 m0 s0 w m' (s0.push ⟨ρ.t 9, zz, els⟩) w1 ∧ V W0 m' (.slice (some ⟨w.heap.size, 0, none⟩) (n0 + mm) cap) (.own s0.next 0 (n0 + mm) zz) := by
    intro n0 cap cells zs els s0 m0 w1 hr0 hf0 hol hel hbw hgw hcl hcap hmx hsz hvl
    have := newRow_ok (P := P) (ty := ρ.t 9) (sz := zz) (els := els) (cap := cap) (c := (cells ++ zs).toArray) hr0 hf0 w1 hbw hgw hmx (by omega) (by rw [List.size_toArray, List.length_append, hol, hcap, ← Nat.add_mul]; congr 1; omega) hsz (by
      intro i x q y hi hq
      obtain ⟨u, g1, g2⟩ := hvl i x q y hi hq
      refine ⟨u, ?_, g2⟩
      rw [List.getElem?_toArray, List.getElem?_append_left (List.getElem?_eq_some_iff.mp g1).1]; exact g1)
    rw [hel] at this
    exact this
  have zlen : ∀ j, (Builtin.zeroCells zv.cells j).toList.length = j * zz := fun j => by
    rw [Array.length_toList, size_zeroCells, hzl]
  have grown : ∀ (n0 cap0 : Nat) (olds : List Value) (els : List (List AV)) (s0 : Mem) (m0 : PM) (_ : Rel P W0 m0 s0 w) (_ : m0 s0.next = none) (_ : VI.roomOk (n0 + mm) B = true) (_ : olds.length = n0 * zz) (_ : els.length = n0 + mm)
      (_ : ∀ (i : Nat) (x : List AV), els[i]? = some x → x.length = zz ∧ ∀ (q : Nat) (y : AV), x[q]? = some y → isCell y = true)
      (_ : ∀ (i : Nat) (x : List AV) (q : Nat) (y : AV), els[i]? = some x → x[q]? = some y → ∃ v, (olds ++ ys)[i * zz + q]? = some v ∧ V W0 m0 v y),
      ∃ m', After P W0 m0 s0 w m' (s0.push ⟨ρ.t 9, zz, els⟩) (w.drew.alloc (.cells ((olds ++ ys).toArray ++ Builtin.zeroCells zv.cells (grownCap w (n0 + mm) cap0 (ρ.t 9) - (n0 + mm))) (ρ.t 9))) ∧
        V W0 m' (.slice (some ⟨w.heap.size, 0, none⟩) (n0 + mm) (grownCap w (n0 + mm) cap0 (ρ.t 9))) (.own s0.next 0 (n0 + mm) zz) := by
    intro n0 cap0 olds els s0 m0 hr0 hf0 hroom hol hel hsz hvl
    obtain ⟨r1, r2⟩ := roomOk_iff hroom
    have hcg : n0 + mm ≤ grownCap w (n0 + mm) cap0 (ρ.t 9) := grownCap_ge w _ _ _
    refine newRow n0 _ (olds ++ ys) (Builtin.zeroCells zv.cells (grownCap w (n0 + mm) cap0 (ρ.t 9) - (n0 + mm))).toList els s0 m0 _ hr0 hf0 (by rw [List.length_append, hol, y1, Nat.add_mul]) hel (below_grow w _) ?_ hcg (by rw [zlen]) (grownCap_le_maxLen w _ _ _ (by simp only [maxLen]; omega)) hsz hvl
    have := heap_alloc_new w.drew (.cells ((olds ++ ys).toArray ++ Builtin.zeroCells zv.cells (grownCap w (n0 + mm) cap0 (ρ.t 9) - (n0 + mm))) (ρ.t 9))
    refine Eq.trans this ?_
    congr 2
    apply Array.ext'
    simp
  have hx3 : x = .nilS ∨ x = .emp ∨ ∃ r n q, x = .own r 0 n q := by
    clear newRow grown
    split at h2
    · exact .inl rfl
    · exact .inr (.inl rfl)
    · exact .inr (.inr ⟨_, _, _, rfl⟩)
    · cases h2
  rcases hx3 with rfl | rfl | ⟨rr, n0, z0, rfl⟩
  · -- nil
    simp only at h2
    by_cases hh : k = 0 ∧ VI.roomOk mm B = true
    case neg => rw [if_neg hh] at h2; cases h2
    rw [if_pos hh] at h2
    obtain ⟨rfl, rfl⟩ := Prod.mk.inj (Option.some.inj h2)
    obtain ⟨rfl, hroom⟩ := hh
    obtain rfl := hvx.inv_nilS
    obtain ⟨r1, r2⟩ := roomOk_iff hroom
    obtain ⟨m', hA, hVV⟩ := grown 0 0 [] (rq.els.take mm) s m hr (hf _ (Nat.le_refl _) (by rw [Mem.next_push]; omega)) (by rw [Nat.zero_add]; exact hroom) (by simp) (by rw [hyl, Nat.zero_add]) hys (by simpa using y4)
    refine (insK_end_grow L none 0 0 pq.blk 0 mm vc [] ys w c1 (Nat.le_refl _) (by omega) (by omega) (by rw [Nat.zero_add]; exact r2) (by simp) y1 (fun _ => rfl) (by intro a ha; cases ha) y2 y3).mono ?_
    rintro en w' ⟨rfl, rfl⟩
    rw [Nat.zero_add] at hVV hA ⊢
    exact ⟨_, m', rfl, hA, hVV⟩
  · -- empty
    simp only at h2
    by_cases hh : k = 0 ∧ VI.roomOk mm B = true
    case neg => rw [if_neg hh] at h2; cases h2
    rw [if_pos hh] at h2
    obtain ⟨rfl, rfl⟩ := Prod.mk.inj (Option.some.inj h2)
    obtain ⟨rfl, hroom⟩ := hh
    obtain ⟨ax, rfl⟩ := hvx.inv_emp
    obtain ⟨r1, r2⟩ := roomOk_iff hroom
    obtain ⟨m', hA, hVV⟩ := grown 0 0 [] (rq.els.take mm) s m hr (hf _ (Nat.le_refl _) (by rw [Mem.next_push]; omega)) (by rw [Nat.zero_add]; exact hroom) (by simp) (by rw [hyl, Nat.zero_add]) hys (by simpa using y4)
    refine (insK_end_grow L (some ax) 0 0 pq.blk 0 mm vc [] ys w c1 (Nat.le_refl _) (by omega) (by omega) (by rw [Nat.zero_add]; exact r2) (by simp) y1 (fun _ => rfl) (by intro a _ j v hj; cases hj) y2 y3).mono ?_
    rintro en w' ⟨rfl, rfl⟩
    rw [Nat.zero_add] at hVV hA ⊢
    exact ⟨_, m', rfl, hA, hVV⟩
  · -- a row of its own
    simp only at h2
    obtain ⟨row, hrow, h3⟩ := Option.bind_eq_some_iff.mp h2
    clear h2
    split at h3
    case isFalse => cases h3
    rename_i hh
    obtain ⟨d1, d2, d3, d4, d5, d6, d7⟩ := hh
    obtain ⟨rfl, rfl⟩ := Prod.mk.inj (Option.some.inj h3)
    obtain ⟨r1, r2⟩ := roomOk_iff d7
    obtain ⟨off, cp, pl, rfl, ⟨hm, hp⟩, hcp, hnc, ha, _⟩ := hvx.inv_own
    have hoff : off = 0 := by rw [ha (.inr rfl), Nat.zero_mul]
    subst hoff
    have hR := (hr.row rr pl row hm hrow).cs hp
    obtain ⟨cs, x1, x2, x3, x4⟩ := row_news hR d4 hz d2
    obtain ⟨arr, fz, g1, g2, g3, g4, gf⟩ := hR.ex
    have hE : pl.e = zz := hR.e.trans d4
    have hT := hR.ty
    have hrlt := hr.wf.lt hrow
    rw [hE] at g2
    have hfn : m s.next = none := hf _ (Nat.le_refl _) (by rw [Mem.next_push, Mem.next_put]; omega)
    have hvb : pq.blk ≠ pl.blk := fun e => d5 (hr.inj q rr pq pl rq row hmq hm hrq hrow e)
    have hxs : ∀ (i : Nat) (x : List AV), (row.els.take n0)[i]? = some x → x.length = zz ∧ ∀ (q : Nat) (y : AV), x[q]? = some y → isCell y = true := by
      intro i x hx
      rw [List.getElem?_take] at hx
      split at hx
      · rw [← d4]; exact hR.szs i x hx
      · cases hx
    have hxl : (row.els.take n0).length = n0 := by rw [List.length_take]; omega
    have hkn0 : k * zz ≤ n0 * zz := Nat.mul_le_mul_right _ d1
    let els := (row.els.take n0).take k ++ rq.els.take mm ++ (row.els.take n0).drop k
    let all := cs.take (k * zz) ++ ys ++ cs.drop (k * zz)
    have hall : all.length = (n0 + mm) * zz := by simp only [all, List.length_append, List.length_take, List.length_drop, x1, y1, Nat.add_mul]; omega
    have hels : els.length = n0 + mm := by simp only [els, List.length_append, List.length_take, List.length_drop, hxl, hyl] ; omega
    have hone : ∀ (i : Nat) (x : List AV), els[i]? = some x → (x.length = zz ∧ ∀ (q : Nat) (y : AV), x[q]? = some y → isCell y = true) ∧ ∀ (q : Nat) (y : AV), x[q]? = some y → ∃ v, all[i * zz + q]? = some v ∧ V W0 m v y := by
      intro i x hx
      have lk1 : ((row.els.take n0).take k).length = k := by rw [List.length_take, hxl]; omega
      have lk2 : (cs.take (k * zz)).length = k * zz := by rw [List.length_take, x1]; omega
      have qz : ∀ {q : Nat} {y : AV}, x.length = zz → x[q]? = some y → q < zz := fun h1 h2 => by have := (List.getElem?_eq_some_iff.mp h2).1; omega
      simp only [els, List.append_assoc] at hx
      by_cases h1 : i < k
      · rw [List.getElem?_append_left (by omega), List.getElem?_take, if_pos h1] at hx
        refine ⟨hxs i x hx, fun q y hq => ?_⟩
        obtain ⟨u, u1, u2⟩ := x4 i x q y hx hq
        have := idx_lt h1 (qz (hxs i x hx).1 hq)
        refine ⟨u, ?_, u2⟩
        simp only [all, List.append_assoc]
        rw [List.getElem?_append_left (by omega), List.getElem?_take, if_pos (by omega)]; exact u1
      · have hki : k * zz ≤ i * zz := Nat.mul_le_mul_right _ (by omega)
        rw [List.getElem?_append_right (by omega), lk1] at hx
        by_cases h2 : i - k < mm
        · rw [List.getElem?_append_left (by omega)] at hx
          refine ⟨hys _ x hx, fun q y hq => ?_⟩
          obtain ⟨u, u1, u2⟩ := y4 (i - k) x q y hx hq
          have := idx_lt h2 (qz (hys _ x hx).1 hq)
          refine ⟨u, ?_, u2⟩
          simp only [all, List.append_assoc]
          rw [Nat.sub_mul] at this u1
          rw [List.getElem?_append_right (by omega), lk2, List.getElem?_append_left (by omega)]
          rw [← u1]; congr 1; omega
        · have hkm : (k + mm) * zz ≤ i * zz := Nat.mul_le_mul_right _ (by omega)
          rw [Nat.add_mul] at hkm
          rw [List.getElem?_append_right (by omega), hyl, List.getElem?_drop] at hx
          refine ⟨hxs _ x hx, fun q y hq => ?_⟩
          obtain ⟨u, u1, u2⟩ := x4 _ x q y hx hq
          have e0 : k + (i - k - mm) = i - mm := by omega
          rw [e0, Nat.sub_mul] at u1
          refine ⟨u, ?_, u2⟩
          simp only [all, List.append_assoc]
          rw [List.getElem?_append_right (by omega), lk2, List.getElem?_append_right (by omega), List.getElem?_drop, y1]
          rw [← u1]; congr 1; omega
    have inplace : n0 + mm ≤ cp → ∀ w1 : World, (w1.os = w.os ∧ w1.tape = w.tape ∧ w1.output = w.output ∧ w1.heap.size = w.heap.size) → (∀ j, j ≠ pl.blk → w1.heap[j]? = w.heap[j]?) →
        w1.heap[pl.blk]? = some (.cells (all ++ arr.toList.drop ((n0 + mm) * zz)).toArray pl.ty fz) → ∃ m', After P W0 m s w m' ((s.put rr none).push ⟨ρ.t 9, zz, els⟩) w1 ∧ V W0 m' (.slice (some ⟨pl.blk, 0, none⟩) (n0 + mm) cp) (.own s.next 0 (n0 + mm) zz) := by
      intro hfit w1 hw1 ho1 hg1
      have hfz : (n0 + mm) * zz ≤ pl.cap * zz := Nat.mul_le_mul_right _ (by omega)
      have hlen : (all ++ arr.toList.drop ((n0 + mm) * zz)).toArray.size = arr.size := by
        rw [List.size_toArray, List.length_append, hall, List.length_drop, Array.length_toList]; omega
      have hA := After.rebind (P := P) (w1 := w1) hr hfn hm hp hrow d6 (row' := ⟨ρ.t 9, zz, els⟩) d3.symm d4.symm (by rw [hels]; omega) (all ++ arr.toList.drop ((n0 + mm) * zz)).toArray hw1 ho1 hg1 (by rw [hlen]; exact gf) (by rw [hE, hlen]; omega) (by rw [d4]; intro i x hi; exact (hone i x hi).1) (by
        intro i x q y hi hq
        obtain ⟨u, u1, u2⟩ := (hone i x hi).2 q y hq
        refine ⟨u, ?_, u2⟩
        rw [d4, List.getElem?_toArray, List.getElem?_append_left (List.getElem?_eq_some_iff.mp u1).1]; exact u1)
      exact ⟨_, hA, V.own' (off := 0) (i := 0) (cp := cp) (pl := pl) (upd_same _ _ _) hp (by omega) hfit (by intro _; simp) hE⟩
    have harr : ∀ (j : Nat) (v : Value), cs[j]? = some v → arr.toList[j]? = some v := by
      intro j v hj
      have := x2 j v hj
      simp only [World.cell?, g1, Nat.zero_add] at this
      rw [Array.getElem?_toList]; simpa using this
    have hcsarr : cs = arr.toList.take (n0 * zz) := by
      apply List.ext_getElem?
      intro j
      by_cases hj : j < n0 * zz
      · obtain ⟨v, hv⟩ : ∃ v, cs[j]? = some v := ⟨_, List.getElem?_eq_getElem (by omega)⟩
        rw [hv, List.getElem?_take, if_pos hj, harr j v hv]
      · rw [List.getElem?_eq_none (by omega), List.getElem?_eq_none (by rw [List.length_take]; omega)]
    have hal : arr.toList.length = arr.size := Array.length_toList ..
    have hst := Step.put hr.wf hrlt d6 none (fun _ => rfl)
    have hkill := After.kill hr hrlt d6
    have conc : ∀ {m' : PM} {w1 : World}, After P W0 m (s.put rr none) w m' ((s.put rr none).push ⟨ρ.t 9, zz, els⟩) w1 → After P W0 m s w m' ((s.put rr none).push ⟨ρ.t 9, zz, els⟩) w1 := fun hA => After.trans hst (Step.push hst.wf _) hkill hA
    by_cases hkn : k = n0
    · subst hkn
      have hall2 : all = cs ++ ys := by simp only [all]; rw [List.take_of_length_le (by omega), List.drop_of_length_le (by omega), List.append_nil]
      by_cases hfit : k + mm ≤ cp
      · have hfz : (k + mm) * zz ≤ pl.cap * zz := Nat.mul_le_mul_right _ (by omega)
        rw [Nat.add_mul] at hfz
        obtain ⟨m', hA, hVV⟩ := inplace hfit (w.setCells pl.blk (0 + k * zz) ys) (setCells_rest _ _ _ _) (fun j hj => setCells_far _ _ _ w j hj) (by
          rw [setCells_row ys (0 + k * zz) w arr g1 (by omega)]
          congr 2
          rw [hall2, hcsarr, y1, Nat.zero_add, Nat.add_mul])
        refine (insK_end_room L pl.blk 0 k cp pq.blk 0 mm vc ys w c1 hfit y1 ?_ ?_ y2 y3).mono ?_
        · intro j hj
          simp only [World.cell?, g1]
          rw [Array.getElem?_eq_getElem (by omega)]; rfl
        · intro j hj
          simp only [World.frozen?, g1]
          exact gf.at_ (by omega)
        · rintro en w' ⟨rfl, rfl⟩
          exact ⟨_, m', rfl, hA, hVV⟩
      · obtain ⟨m', hA, hVV⟩ := grown k cp cs els (s.put rr none) m hkill.rel (by rw [Mem.next_put]; exact hfn) d7 x1 hels (fun i x hi => (hone i x hi).1) (fun i x q y hi hq => by have := (hone i x hi).2 q y hq; rw [hall2] at this; exact this)
        refine (insK_end_grow L (some ⟨pl.blk, 0, none⟩) k cp pq.blk 0 mm vc cs ys w c1 hnc (by omega) (by omega) r2 x1 y1 (fun h => by cases h) ?_ y2 y3).mono ?_
        · intro a ha j v hj
          cases ha
          rw [add_addr]; exact x2 j v hj
        · rintro en w' ⟨rfl, rfl⟩
          exact ⟨_, m', rfl, conc hA, hVV⟩
    · have hknlt : k < n0 := by omega
      have hd : (cs.drop (k * zz)).length = n0 * zz - k * zz := by rw [List.length_drop, x1]
      by_cases hfit : n0 + mm ≤ cp
      · have hfz : (n0 + mm) * zz ≤ pl.cap * zz := Nat.mul_le_mul_right _ (by omega)
        have hfz2 := hfz
        rw [Nat.add_mul] at hfz2
        have hkmz : (k + mm) * zz = k * zz + mm * zz := Nat.add_mul ..
        have hnmz : (n0 + mm) * zz = n0 * zz + mm * zz := Nat.add_mul ..
        have hmz : 0 < mm * zz := Nat.mul_pos c1 hz
        obtain ⟨m', hA, hVV⟩ := inplace hfit ((w.drew.setCells pl.blk (0 + (k + mm) * zz) (cs.drop (k * zz))).setCells pl.blk (0 + k * zz) ys) (by
          obtain ⟨q1, q2, q3, q4⟩ := setCells_rest pl.blk ys (0 + k * zz) (w.drew.setCells pl.blk (0 + (k + mm) * zz) (cs.drop (k * zz)))
          obtain ⟨p1, p2, p3, p4⟩ := setCells_rest pl.blk (cs.drop (k * zz)) (0 + (k + mm) * zz) w.drew
          exact ⟨q1.trans p1, q2.trans p2, q3.trans p3, q4.trans p4⟩) (fun j hj => by rw [setCells_far _ _ _ _ j hj, setCells_far _ _ _ _ j hj]; rfl) (by
          have s1 := setCells_row (g := pl.blk) (cs.drop (k * zz)) (0 + (k + mm) * zz) w.drew arr g1 (by omega)
          have s2 := setCells_row (g := pl.blk) ys (0 + k * zz) _ _ s1 (by simp only [List.size_toArray, List.length_append, List.length_take, List.length_drop]; omega)
          refine s2.trans ?_
          congr 2
          simp only [Nat.zero_add, hd, y1]
          have e1 : (arr.toList.take ((k + mm) * zz)).length = (k + mm) * zz := by rw [List.length_take]; omega
          rw [List.append_assoc (arr.toList.take ((k + mm) * zz)), List.take_append_of_le_length (by omega), List.take_take, Nat.min_eq_left (by omega), ← hkmz, List.drop_append_of_le_length (by omega), List.drop_of_length_le (by omega), List.nil_append]
          simp only [all]
          rw [hcsarr, List.take_take, Nat.min_eq_left hkn0, show (k + mm) * zz + (n0 * zz - k * zz) = (n0 + mm) * zz by omega]
          simp only [List.append_assoc])
        refine (insK_shift L pl.blk 0 n0 cp k pq.blk 0 mm vc cs ys w hknlt c1 hfit (by have := g3; simp only [maxLen] at this; omega) hvb x1 y1 x2 ?_ ?_ y2 x3 y3 pq.ty pl.ty aq.size arr.size hsa (by simp only [World.shape?, g1]) (by omega) (hfa _) (hfa _)).mono ?_
        · intro j hj
          simp only [World.cell?, g1]
          rw [Array.getElem?_eq_getElem (by omega)]; rfl
        · intro j hj
          simp only [World.frozen?, g1]
          exact gf.at_ (by omega)
        · rintro en w' ⟨rfl, rfl⟩
          exact ⟨_, m', rfl, hA, hVV⟩
      · have hcg : n0 + mm ≤ grownCap w (n0 + mm) cp (ρ.t 9) := grownCap_ge w _ _ _
        have hkmz : (k + mm) * zz = k * zz + mm * zz := Nat.add_mul ..
        have hnmz : (n0 + mm) * zz = n0 * zz + mm * zz := Nat.add_mul ..
        have hnkz : (n0 + mm - k) * zz = n0 * zz + mm * zz - k * zz := by rw [Nat.sub_mul, Nat.add_mul]
        have hgz : (n0 + mm) * zz ≤ grownCap w (n0 + mm) cp (ρ.t 9) * zz := Nat.mul_le_mul_right _ hcg
        have hgsub : (grownCap w (n0 + mm) cp (ρ.t 9) - (n0 + mm)) * zz = grownCap w (n0 + mm) cp (ρ.t 9) * zz - (n0 + mm) * zz := Nat.sub_mul ..
        let c0 := (cs.take (k * zz)).toArray ++ Builtin.zeroCells zv.cells (n0 + mm - k) ++ Builtin.zeroCells zv.cells (grownCap w (n0 + mm) cp (ρ.t 9) - (n0 + mm))
        let wa := w.alloc (.cells c0 (ρ.t 9))
        have hga : wa.heap[w.heap.size]? = some (.cells c0 (ρ.t 9) (0, 0)) := heap_alloc_new w _
        have hc0 : c0.toList = cs.take (k * zz) ++ ((Builtin.zeroCells zv.cells (n0 + mm - k)).toList ++ (Builtin.zeroCells zv.cells (grownCap w (n0 + mm) cp (ρ.t 9) - (n0 + mm))).toList) := by simp [c0]
        have hcsz : c0.size = grownCap w (n0 + mm) cp (ρ.t 9) * zz := by
          rw [← Array.length_toList, hc0, List.length_append, List.length_append, zlen, zlen, List.length_take, x1]; omega
        have hcl : c0.toList.length = grownCap w (n0 + mm) cp (ρ.t 9) * zz := by rw [Array.length_toList]; exact hcsz
        have s1 := setCells_row (g := w.heap.size) ys (k * zz) wa.drew c0 hga (by omega)
        have s2 := setCells_row (g := w.heap.size) (cs.drop (k * zz)) ((k + mm) * zz) ((wa.drew.setCells w.heap.size (k * zz) ys).drew) _ s1 (by simp only [List.size_toArray, List.length_append, List.length_take, List.length_drop]; omega)
        obtain ⟨m', hA, hVV⟩ := newRow n0 (grownCap w (n0 + mm) cp (ρ.t 9)) all (Builtin.zeroCells zv.cells (grownCap w (n0 + mm) cp (ρ.t 9) - (n0 + mm))).toList els (s.put rr none) m _ hkill.rel (by rw [Mem.next_put]; exact hfn) hall hels (by
            obtain ⟨q1, q2, q3, q4⟩ := setCells_rest w.heap.size (cs.drop (k * zz)) ((k + mm) * zz) ((wa.drew.setCells w.heap.size (k * zz) ys).drew)
            obtain ⟨p1, p2, p3, p4⟩ := setCells_rest w.heap.size ys (k * zz) wa.drew
            have hbw := Below.alloc (Below.refl w.heap.size w) (Nat.le_refl _) (.cells c0 (ρ.t 9))
            exact ⟨(q1.trans p1).trans hbw.os, (q2.trans p2).trans hbw.tape, (q3.trans p3).trans hbw.output, by rw [q4]; show _ ≤ (wa.drew.setCells w.heap.size (k * zz) ys).heap.size; rw [p4]; exact hbw.size, fun b hb => by
              rw [setCells_far _ _ _ _ b (by omega)]
              show (wa.drew.setCells w.heap.size (k * zz) ys).heap[b]? = _
              rw [setCells_far _ _ _ _ b (by omega)]
              exact hbw.block b hb⟩) (by
            refine s2.trans ?_
            congr 2
            have e1 : (cs.take (k * zz)).length = k * zz := by rw [List.length_take]; omega
            have e2 : c0.toList.take (k * zz) = cs.take (k * zz) := by rw [hc0, List.take_append_of_le_length (by omega), List.take_of_length_le (by omega)]
            have e3 : (cs.take (k * zz) ++ ys).length = (k + mm) * zz := by rw [List.length_append, e1, y1, hkmz]
            have e4 : c0.toList.drop ((n0 + mm) * zz) = (Builtin.zeroCells zv.cells (grownCap w (n0 + mm) cp (ρ.t 9) - (n0 + mm))).toList := by
              rw [hc0, ← List.append_assoc, List.drop_append_of_le_length (by rw [List.length_append, zlen, e1]; omega), List.drop_of_length_le (by rw [List.length_append, zlen, e1]; omega), List.nil_append]
            simp only [hd, e2, y1, ← hkmz]
            generalize hB : c0.toList.drop ((k + mm) * zz) = B2
            generalize hA2 : cs.take (k * zz) ++ ys = A at e3
            have t1 : (A ++ B2).take ((k + mm) * zz) = A := by rw [List.take_append_of_le_length (by omega), List.take_of_length_le (by omega)]
            have t2 : (A ++ B2).drop ((k + mm) * zz + (n0 * zz - k * zz)) = c0.toList.drop ((n0 + mm) * zz) := by
              rw [List.drop_append, List.drop_of_length_le (by omega), List.nil_append, ← hB, List.drop_drop, e3]
              congr 1; omega
            rw [t1, t2, e4, ← hA2]) hcg (by rw [zlen]) (grownCap_le_maxLen w _ _ _ (by simp only [maxLen]; omega)) (fun i x hi => (hone i x hi).1) (fun i x q y hi hq => (hone i x hi).2 q y hq)
        refine (insK_grow L pl.blk 0 n0 cp k pq.blk 0 mm vc cs ys w hknlt c1 hnc (by omega) (by omega) r2 x1 y1 x2 y2 x3 y3).mono ?_
        rintro en w' ⟨rfl, rfl⟩
        exact ⟨_, m', rfl, conc hA, hVV⟩
end Go.VI
/- How strings compare is what the abstract machine has. No statement of the seat is proved here. -/
namespace Go.VI
open Go Go.Shelf Go.RowKit Go.Proofs
variable {P : Program} {ρ : Ren}
theorem cmpS_eq : ∀ a b : List UInt8, cmpS a b = Lib.compareBytes a b
  | [], [] => rfl
  | [], _ :: _ => rfl
  | _ :: _, [] => rfl
  | x :: a, y :: b => by
    have ih := cmpS_eq a b
    simp only [cmpS, Lib.compareBytes, Op.bytesLess] at ih ⊢
    by_cases h1 : x < y
    · simp [h1]
    · by_cases h2 : y < x
      · have h3 : ¬ x = y := fun e => by subst e; exact h1 h2
        simp [h1, h2, h3]
      · have h3 : x = y := by
          apply UInt8.toNat_inj.mp
          have e1 : ¬ x.toNat < y.toNat := fun h => h1 (UInt8.lt_iff_toNat_lt.mpr h)
          have e2 : ¬ y.toNat < x.toNat := fun h => h2 (UInt8.lt_iff_toNat_lt.mpr h)
          omega
        subst h3
        simp [h1, ← ih]
theorem cmp_ok (L : Lays.n213 P ρ) : PrimOK P (ρ.f 213) .cmp := by
  intro W0 m s w vs avs s' r hr hV h hf
  unfold primA at h
  split at h
  · rename_i hp; cases hp
  · rename_i a b _
    obtain ⟨rfl, rfl⟩ := Prod.mk.inj (Option.some.inj h)
    obtain ⟨va, vb, rfl⟩ : ∃ x y, vs = #[x, y] := by
      have := hV.1
      match vs, this with
      | ⟨[x, y]⟩, _ => exact ⟨x, y, rfl⟩
    obtain ⟨x, rfl, rfl⟩ := (hV.2 0 _ _ rfl rfl : V W0 m va (.str a)).inv_str
    obtain ⟨y, rfl, rfl⟩ := (hV.2 1 _ _ rfl rfl : V W0 m vb (.str b)).inv_str
    refine (Go.Proofs.Any.bytealg_CompareString L x y w).mono ?_
    rintro en w' ⟨rfl, rfl⟩
    rw [← cmpS_eq]
    exact ⟨_, m, rfl, .refl hr, .int _ _⟩
  · cases h
end Go.VI

