/- The law RaftChecks at all its arguments. -/
import Derived.Test.YtfllmhjjfapnmaaGreatVZLawChecks
import Derived.Test.YtfllmhjjfapnmaaGreatVZRaftArgs2
import Derived.Test.YtfllmhjjfapnmaaGreatVZVE
namespace Go.Proofs.YtfllmhjjfapnmaaGreat
open Go Go.VI
set_option maxRecDepth 100000
theorem raftChecks_walk : ∀ avs, TyVs Tryz.prog upTo 9 Tryz.f4.params.toList avs → ∃ k s', run (compX Tryz.prog xs) k 4 avs Mem.zero = some (.bool true, s') := by
  intro avs h
  obtain ⟨c, _, rfl, h1, c2, _, rfl, h2, c3, _, rfl, h3, rfl⟩ := h
  obtain ⟨r, g1, g2⟩ := tyV_raft h1
  obtain ⟨m, cs, rfl, g3, g4⟩ := tyV_msg h2
  obtain ⟨l, g5, g6⟩ := tyV_ints h3
  exact C_run (checks_c g1 g2 g3 g4 g5 g6) tab_le
end Go.Proofs.YtfllmhjjfapnmaaGreat
