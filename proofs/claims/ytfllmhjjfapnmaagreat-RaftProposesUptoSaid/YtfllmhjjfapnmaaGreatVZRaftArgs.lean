/- States as arguments. No statement of the seat is proved here. -/
import Derived.Test.YtfllmhjjfapnmaaGreatVZLogArgs
import Derived.Test.YtfllmhjjfapnmaaGreatVZRaftV
import Derived.Test.YtfllmhjjfapnmaaGreatVZVE
namespace Go.Proofs.YtfllmhjjfapnmaaGreat
open Go Go.VI
set_option maxRecDepth 100000
theorem wf_inU {n : Int} (h : (Lit.int .u64 n).wf = true) : InU n := by
  simpa [InU, Lit.wf, IntKind.min, IntKind.max, IntKind.signed, IntKind.bits] using h
theorem ty_log {d : Nat} {c : List AV} (h : Ty Tryz.prog upTo (d + 5) 28 c) : ∃ (l : Log) (v w : AV), c = [.int .u64 l.base.index, .int .u64 l.base.term, .int .i64 l.base.kind, v, w] ∧ (∀ s D, Byt s D v l.base.data) ∧ (∀ s D, Ents s D w l.l) ∧ l.Wf := by
  obtain ⟨x, _, hx, k1, y, _, rfl, k2, rfl⟩ := Ty.fields (ts := [25, 26]) (by kernel_rfl) h
  obtain ⟨e, v, rfl, g2, g3⟩ := ty_entry k1
  obtain ⟨w, es, rfl, q1, q2, q3⟩ := ty_entries k2
  exact ⟨⟨e, es⟩, v, w, hx, fun s D => Sl.of_isSl g2 (byteC_len _), q1, g3, q2, Nat.lt_of_le_of_lt q3 (by decide)⟩
theorem ty_ints {d : Nat} {c : List AV} (h : Ty Tryz.prog upTo (d + 2) 29 c) : ∃ v l, c = [v] ∧ isSl v (intsA .i64 l) ∧ l.length ≤ upTo := by
  rcases Ty.slice (e := 3) (by kernel_rfl) h with rfl | ⟨xs, rfl, h1, h2⟩
  · exact ⟨.nilS, [], rfl, .inl ⟨rfl, rfl⟩, by simp⟩
  · have e1 : Tryz.prog.bytesOf 3 = 8 := by kernel_rfl
    rw [e1] at h1
    have : ∃ l : List Int, xs = intsA .i64 l := by
      clear h h1
      induction xs with
      | nil => exact ⟨[], rfl⟩
      | cons x xs ih =>
        obtain ⟨l, g1⟩ := ih (fun y hy => h2 y (List.mem_cons_of_mem _ hy))
        obtain ⟨n, g2, _⟩ := Ty.int (k := .i64) (by kernel_rfl) (h2 x (List.mem_cons_self ..))
        exact ⟨n :: l, by rw [g1, g2]; rfl⟩
    obtain ⟨l, rfl⟩ := this
    rw [intsA_len] at h1
    exact ⟨_, l, rfl, .inr rfl, by omega⟩
theorem ty_peers {d : Nat} {c : List AV} (h : Ty Tryz.prog upTo (d + 3) 30 c) : ∃ v ps, c = [v] ∧ isSl v (peersC ps) ∧ ps.length ≤ upTo ∧ ∀ p ∈ ps, InU p.2.1 ∧ InU p.2.2 := by
  rcases Ty.slice (e := 86) (by kernel_rfl) h with rfl | ⟨xs, rfl, h1, h2⟩
  · exact ⟨.nilS, [], rfl, .inl ⟨rfl, rfl⟩, by simp, by simp⟩
  · have e1 : Tryz.prog.bytesOf 86 = 24 := by kernel_rfl
    rw [e1] at h1
    have : ∃ l : List Peer, xs = peersC l ∧ ∀ p ∈ l, InU p.2.1 ∧ InU p.2.2 := by
      clear h h1
      induction xs with
      | nil => exact ⟨[], rfl, by simp⟩
      | cons x xs ih =>
        obtain ⟨l, g1, g2⟩ := ih (fun y hy => h2 y (List.mem_cons_of_mem _ hy))
        obtain ⟨a, _, rfl, h3, b, _, rfl, h4, c, _, rfl, h5, rfl⟩ := Ty.fields (ts := [3, 22, 22]) (by kernel_rfl) (h2 x (List.mem_cons_self ..))
        obtain ⟨n, rfl, _⟩ := Ty.int (k := .i64) (by kernel_rfl) h3
        obtain ⟨m, rfl, m1⟩ := Ty.int (k := .u64) (by kernel_rfl) h4
        obtain ⟨k, rfl, k1⟩ := Ty.int (k := .u64) (by kernel_rfl) h5
        refine ⟨(n, m, k) :: l, by rw [g1]; rfl, ?_⟩
        intro p hp
        rcases List.mem_cons.mp hp with rfl | hp
        · exact ⟨wf_inU m1, wf_inU k1⟩
        · exact g2 p hp
    obtain ⟨l, rfl, g⟩ := this
    rw [peersC_len] at h1
    exact ⟨_, l, rfl, .inr rfl, by omega, g⟩
theorem tyV_raft {d : Nat} {c : AV} (h : TyV Tryz.prog upTo (d + 6) 32 c) : ∃ r : Raft, (∀ s D, RaftV s D c r) ∧ r.Wf := by
  obtain ⟨h1, a, h2, h3⟩ := h
  obtain ⟨x0, _, hx, t0, x1, _, rfl, t1, x2, _, rfl, t2, x3, _, rfl, t3, x4, _, rfl, t4, x5, _, rfl, t5, x6, _, rfl, t6, x7, _, rfl, t7, x8, _, rfl, t8, x9, _, rfl, t9, rfl⟩ := Ty.fields (ts := [3, 22, 3, 28, 22, 3, 3, 3, 29, 30]) (by kernel_rfl) h1
  obtain ⟨n0, rfl, _⟩ := Ty.int (k := .i64) (by kernel_rfl) t0
  obtain ⟨n1, rfl, w1⟩ := Ty.int (k := .u64) (by kernel_rfl) t1
  obtain ⟨n2, rfl, _⟩ := Ty.int (k := .i64) (by kernel_rfl) t2
  obtain ⟨l, v, w, rfl, q1, q2, q3⟩ := ty_log t3
  obtain ⟨n4, rfl, w4⟩ := Ty.int (k := .u64) (by kernel_rfl) t4
  obtain ⟨n5, rfl, _⟩ := Ty.int (k := .i64) (by kernel_rfl) t5
  obtain ⟨n6, rfl, _⟩ := Ty.int (k := .i64) (by kernel_rfl) t6
  obtain ⟨n7, rfl, _⟩ := Ty.int (k := .i64) (by kernel_rfl) t7
  obtain ⟨vv, vs, rfl, v1, v2⟩ := ty_ints t8
  obtain ⟨pv, ps, rfl, p1, p2, p3⟩ := ty_peers t9
  have : cAgg Tryz.prog 32 = some true := by kernel_rfl
  rw [this] at h2
  obtain rfl := Option.some.inj h2
  refine ⟨⟨n0, n1, n2, l, n4, n5, n6, n7, vs, ps⟩, fun s D => ⟨cells c, by simpa using h3, v, w, vv, pv, by rw [hx]; rfl, q1 s D, q2 s D, Sl.of_isSl v1 (intsA_sz _ _), Sl.of_isSl p1 (peersC_sz _)⟩, q3, Nat.lt_of_le_of_lt v2 (by decide), Nat.lt_of_le_of_lt p2 (by decide), p3, wf_inU w1, wf_inU w4⟩
end Go.Proofs.YtfllmhjjfapnmaaGreat

