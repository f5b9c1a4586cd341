/- Keys handed over: the document's way. No statement of the seat is proved here. -/
import Derived.Test.YthibbbfhkfebkaaGreatVZMF
import Derived.Test.YthibbbfhkfebkaaGreatVZVE
namespace Go.Proofs.YthibbbfhkfebkaaGreat
open Go Go.VI
set_option linter.unusedSimpArgs false
attribute [local irreducible] Ws Wp W C
set_option maxHeartbeats 8000000
end Go.Proofs.YthibbbfhkfebkaaGreat

