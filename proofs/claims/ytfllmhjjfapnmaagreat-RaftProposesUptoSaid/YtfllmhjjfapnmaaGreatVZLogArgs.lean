/- Logs and entries as arguments. No statement of the seat is proved here. -/
import Derived.Test.YtfllmhjjfapnmaaGreatVZLA
import Derived.Test.YtfllmhjjfapnmaaGreatVZVE
namespace Go.Proofs.YtfllmhjjfapnmaaGreat
open Go Go.VI
set_option maxRecDepth 100000
set_option linter.unusedSimpArgs false
theorem wf_u8 {n : Int} (h : (Lit.int .u8 n).wf = true) : 0 ≤ n ∧ n ≤ 255 := by
  simpa [Lit.wf, IntKind.min, IntKind.max, IntKind.signed, IntKind.bits] using h
theorem ty_bytes {d : Nat} {c : List AV} (h : Ty Tryz.prog upTo (d + 2) 23 c) : ∃ v bs, c = [v] ∧ isSl v (List.map byteC bs) ∧ bs.length ≤ upTo := by
  rcases Ty.slice (e := 5) (by kernel_rfl) h with rfl | ⟨xs, rfl, h1, h2⟩
  · exact ⟨.nilS, [], rfl, .inl ⟨rfl, rfl⟩, by simp⟩
  · have e1 : Tryz.prog.bytesOf 5 = 1 := by kernel_rfl
    rw [e1, Nat.mul_one] at h1
    have : ∃ bs : List UInt8, xs = bs.map byteC := by
      clear h h1
      induction xs with
      | nil => exact ⟨[], rfl⟩
      | cons x xs ih =>
        obtain ⟨bs, g1⟩ := ih (fun y hy => h2 y (List.mem_cons_of_mem _ hy))
        obtain ⟨n, g2, g3⟩ := Ty.int (k := .u8) (by kernel_rfl) (h2 x (List.mem_cons_self ..))
        have g4 := wf_u8 g3
        refine ⟨UInt8.ofNat n.toNat :: bs, ?_⟩
        rw [g1, g2, List.map_cons]
        congr 1
        simp only [byteC, UInt8.toNat_ofNat']
        congr 2
        omega
    obtain ⟨bs, rfl⟩ := this
    rw [List.length_map] at h1
    exact ⟨_, bs, rfl, .inr rfl, h1⟩
theorem ty_entry {d : Nat} {c : List AV} (h : Ty Tryz.prog upTo (d + 3) 25 c) : ∃ (e : Entry) (v : AV), c = [.int .u64 e.index, .int .u64 e.term, .int .i64 e.kind, v] ∧ isSl v (List.map byteC e.data) ∧ e.Wf := by
  obtain ⟨a, _, rfl, h1, b, _, rfl, h2, c, _, rfl, h3, d, _, rfl, h4, rfl⟩ := Ty.fields (ts := [22, 22, 3, 23]) (by kernel_rfl) h
  obtain ⟨x, rfl, hx⟩ := Ty.int (k := .u64) (by kernel_rfl) h1
  obtain ⟨y, rfl, hy⟩ := Ty.int (k := .u64) (by kernel_rfl) h2
  obtain ⟨z, rfl, hz⟩ := Ty.int (k := .i64) (by kernel_rfl) h3
  obtain ⟨v, bs, rfl, g1, g2⟩ := ty_bytes h4
  refine ⟨⟨x, y, z, bs⟩, v, rfl, g1, ?_, ?_, ?_, ?_⟩
  · exact wf_u64 hx
  · exact wf_u64 hy
  · exact wf_i64 hz
  · have : upTo < 1000000000000 := by decide
    show bs.length < 1000000000000; omega
theorem isSl.cells {v : AV} {xs : List (List AV)} (h : isSl v xs) : isCell v = true := by
  rcases h with ⟨rfl, _⟩ | rfl <;> rfl
theorem ty_entries {d : Nat} {c : List AV} (h : Ty Tryz.prog upTo (d + 4) 26 c) : ∃ (v : AV) (es : List Entry), c = [v] ∧ (∀ s D, Ents s D v es) ∧ (∀ e ∈ es, e.Wf) ∧ es.length ≤ upTo := by
  rcases Ty.slice (e := 25) (by kernel_rfl) h with rfl | ⟨xs, rfl, h1, h2⟩
  · exact ⟨.nilS, [], rfl, fun s D => ⟨[], Sl.nil _ _ _, EntsC.nil _ _⟩, by simp, Nat.zero_le _⟩
  · have e1 : Tryz.prog.bytesOf 25 = 48 := by kernel_rfl
    rw [e1] at h1
    have : ∃ es : List Entry, xs.length = es.length ∧ (∀ s D, EntsC s D xs es) ∧ ∀ e ∈ es, e.Wf := by
      clear h h1
      induction xs with
      | nil => exact ⟨[], rfl, fun s D => EntsC.nil _ _, by simp⟩
      | cons x xs ih =>
        obtain ⟨es, g0, g1, g2⟩ := ih (fun y hy => h2 y (List.mem_cons_of_mem _ hy))
        obtain ⟨e, v, rfl, g3, g4⟩ := ty_entry (h2 x (List.mem_cons_self ..))
        refine ⟨e :: es, by simp [g0], fun s D => ?_, ?_⟩
        · exact EntsC.append (EntsC.one ⟨v, rfl, Sl.of_isSl g3 (byteC_len _)⟩) (g1 s D)
        · intro y hy
          rcases List.mem_cons.mp hy with rfl | hy
          · exact g4
          · exact g2 y hy
    obtain ⟨es, g0, g1, g2⟩ := this
    exact ⟨_, es, rfl, fun s D => ⟨xs, Sl.of_sl (g1 s D).sizes, g1 s D⟩, g2, by omega⟩
theorem tyV_entry {d : Nat} {c : AV} (h : TyV Tryz.prog upTo (d + 3) 25 c) : ∃ (e : Entry) (v : AV), c = .agg [.int .u64 e.index, .int .u64 e.term, .int .i64 e.kind, v] ∧ (∀ s D, Byt s D v e.data) ∧ e.Wf := by
  obtain ⟨h1, a, h2, h3⟩ := h
  obtain ⟨e, v, g1, g2, g3⟩ := ty_entry h1
  have : cAgg Tryz.prog 25 = some true := by kernel_rfl
  rw [this] at h2
  obtain rfl := Option.some.inj h2
  refine ⟨e, v, ?_, fun s D => Sl.of_isSl g2 (byteC_len _), g3⟩
  rw [← g1]; simpa using h3
end Go.Proofs.YtfllmhjjfapnmaaGreat

