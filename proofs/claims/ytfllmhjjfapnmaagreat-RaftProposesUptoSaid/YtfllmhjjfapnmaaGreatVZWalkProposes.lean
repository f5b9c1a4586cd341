/- The law RaftProposes at all its arguments. -/
import Derived.Test.YtfllmhjjfapnmaaGreatVZLawProposes
import Derived.Test.YtfllmhjjfapnmaaGreatVZRaftArgs
import Derived.Test.YtfllmhjjfapnmaaGreatVZVE
namespace Go.Proofs.YtfllmhjjfapnmaaGreat
open Go Go.VI
set_option maxRecDepth 100000
theorem raftProposes_walk : ∀ avs, TyVs Tryz.prog upTo 9 Tryz.f5.params.toList avs → ∃ k s', run (compX Tryz.prog xs) k 5 avs Mem.zero = some (.bool true, s') := by
  intro avs h
  obtain ⟨c, _, rfl, h1, c2, _, rfl, h2, rfl⟩ := h
  obtain ⟨r, g1, g2⟩ := tyV_raft h1
  obtain ⟨e, v, rfl, g3, g4⟩ := tyV_entry h2
  exact C_run (proposes_c g1 g2 g3 g4) tab_le
end Go.Proofs.YtfllmhjjfapnmaaGreat

