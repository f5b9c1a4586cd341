/- The law RaftTicks at all its arguments. -/
import Derived.Test.YtfllmhjjfapnmaaGreatVZLawTicks
import Derived.Test.YtfllmhjjfapnmaaGreatVZRaftArgs
import Derived.Test.YtfllmhjjfapnmaaGreatVZVE
namespace Go.Proofs.YtfllmhjjfapnmaaGreat
open Go Go.VI
set_option maxRecDepth 100000
theorem raftTicks_walk : ∀ avs, TyVs Tryz.prog upTo 9 Tryz.f3.params.toList avs → ∃ k s', run (compX Tryz.prog xs) k 3 avs Mem.zero = some (.bool true, s') := by
  intro avs h
  obtain ⟨c, _, rfl, h1, rfl⟩ := h
  obtain ⟨r, g1, g2⟩ := tyV_raft h1
  exact C_run (ticks_c g1 g2) tab_le
end Go.Proofs.YtfllmhjjfapnmaaGreat
