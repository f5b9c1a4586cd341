/-
  No cell of these rows narrows 'for every input' (looked for: loops, veiled, ifaces, maps, wideKeys, modest, calm, conditions, laid).
  DERIVED. THE GIVEN ROWS OF THIS SEAT. 5 by the template 'for every input the law returns true; each argument reads behind the call as it read before'; 0 by the template 'total and deterministic' (their statements: YthibbbfhkfebkaaGreatTotals.lean).
  GIVEN WITH THE SEED: the statements are not yours to turn. If you find one false, say at which input.
  Laid BY PROGRAM, IN A SANDBOX (cutbox-rows.mjs): the forced cells as the released guide's own fill.sh prints them over the translation da78878b93b64c0b… (all of the seat's roots in one cut). By AI agents, Wed Nov 11 2026. No macro, syntax, notation, axiom, sorry.
-/
import Derived.Test.YthibbbfhkfebkaaGreatChecked
import GoSem.Claim
import GoSem.ClaimJoined
import GoSem.ClaimMapViews
import Derived.JoinedTies
import Derived.KernelRfl
namespace Go.Proofs.YthibbbfhkfebkaaGreat
/- THE CELL 'sum', in the pinned program and in every row, IS THE sha256 OF THE DUMP (.gsa) THAT YthibbbfhkfebkaaGreatProg.lean LOADS. Nothing in Lean hashes anything: it is a label: what it is worth is what the hold of that sum in a sandbox is worth. -/
noncomputable def Tryz.pinned : Pinned := { name := "ythibbbfhkfebkaagreat", sum := "da78878b93b64c0bfbb2b236bc33bdb30962c3586a566a1e6154c9c3497dfd83", checked := Tryz.checked }
namespace Rows
def none {H : Type} : Left H := { results := [], args := [] }

/-- 'gudgeonlaw19.TablePrepares': WHATEVER THE INPUT: true; the input reads as it did. -/
def tablePreparesSpec : ChangeSpec := { name := "tablePrepares", fn := fun _ => fun
  | [d1, d2] => { results := [.lit (.bool true)], args := [d1, d2] }
  | _ => none }
def tablePreparesRow : OpenClaim := { program := "ythibbbfhkfebkaagreat", sum := "da78878b93b64c0bfbb2b236bc33bdb30962c3586a566a1e6154c9c3497dfd83", func := "gudgeon/gudgeonlaw19.TablePrepares", spec := "tablePrepares", inPlace := ["internal/bytealg.abigen_runtime_cmpstring", "slices.overlaps[gudgeon/api.Intent]", "slices.overlaps[gudgeon/api.Hold]", "slices.overlaps[gudgeon/api.Mark]"], unfollowed := true, recurses := true, apart := false }
def TablePreparesSaid : Prop := tablePreparesRow.holds Tryz.pinned (OpenSpec.ofChange tablePreparesSpec)

/-- ITS FALSE NEIGHBOUR: 'it returns false'. Refute it at one input. -/
def tablePreparesWrong : ChangeSpec := { name := "tablePrepares", fn := fun _ => fun
  | [d1, d2] => { results := [.lit (.bool false)], args := [d1, d2] }
  | _ => none }
def TablePreparesWrongFalsely : Prop := tablePreparesRow.holds Tryz.pinned (OpenSpec.ofChange tablePreparesWrong)

/-- 'gudgeonlaw19.TableFinishes': WHATEVER THE INPUT: true; the input reads as it did. -/
def tableFinishesSpec : ChangeSpec := { name := "tableFinishes", fn := fun _ => fun
  | [d1, d2, d3] => { results := [.lit (.bool true)], args := [d1, d2, d3] }
  | _ => none }
def tableFinishesRow : OpenClaim := { program := "ythibbbfhkfebkaagreat", sum := "da78878b93b64c0bfbb2b236bc33bdb30962c3586a566a1e6154c9c3497dfd83", func := "gudgeon/gudgeonlaw19.TableFinishes", spec := "tableFinishes", inPlace := ["internal/bytealg.abigen_runtime_cmpstring", "slices.overlaps[gudgeon/api.Intent]", "slices.overlaps[gudgeon/api.Hold]", "slices.overlaps[gudgeon/api.Mark]"], unfollowed := true, recurses := true, apart := false }
def TableFinishesSaid : Prop := tableFinishesRow.holds Tryz.pinned (OpenSpec.ofChange tableFinishesSpec)

/-- ITS FALSE NEIGHBOUR: 'it returns false'. Refute it at one input. -/
def tableFinishesWrong : ChangeSpec := { name := "tableFinishes", fn := fun _ => fun
  | [d1, d2, d3] => { results := [.lit (.bool false)], args := [d1, d2, d3] }
  | _ => none }
def TableFinishesWrongFalsely : Prop := tableFinishesRow.holds Tryz.pinned (OpenSpec.ofChange tableFinishesWrong)

/-- 'gudgeonlaw19.TableMoves': WHATEVER THE INPUT: true; the input reads as it did. -/
def tableMovesSpec : ChangeSpec := { name := "tableMoves", fn := fun _ => fun
  | [d1, d2, d3] => { results := [.lit (.bool true)], args := [d1, d2, d3] }
  | _ => none }
def tableMovesRow : OpenClaim := { program := "ythibbbfhkfebkaagreat", sum := "da78878b93b64c0bfbb2b236bc33bdb30962c3586a566a1e6154c9c3497dfd83", func := "gudgeon/gudgeonlaw19.TableMoves", spec := "tableMoves", inPlace := ["internal/bytealg.abigen_runtime_cmpstring", "slices.overlaps[gudgeon/api.Intent]", "slices.overlaps[gudgeon/api.Hold]", "slices.overlaps[gudgeon/api.Mark]"], unfollowed := true, recurses := true, apart := false }
def TableMovesSaid : Prop := tableMovesRow.holds Tryz.pinned (OpenSpec.ofChange tableMovesSpec)

/-- ITS FALSE NEIGHBOUR: 'it returns false'. Refute it at one input. -/
def tableMovesWrong : ChangeSpec := { name := "tableMoves", fn := fun _ => fun
  | [d1, d2, d3] => { results := [.lit (.bool false)], args := [d1, d2, d3] }
  | _ => none }
def TableMovesWrongFalsely : Prop := tableMovesRow.holds Tryz.pinned (OpenSpec.ofChange tableMovesWrong)

/-- 'gudgeonlaw19.TableHands': WHATEVER THE INPUT: true; the input reads as it did. -/
def tableHandsSpec : ChangeSpec := { name := "tableHands", fn := fun _ => fun
  | [d1, d2, d3] => { results := [.lit (.bool true)], args := [d1, d2, d3] }
  | _ => none }
def tableHandsRow : OpenClaim := { program := "ythibbbfhkfebkaagreat", sum := "da78878b93b64c0bfbb2b236bc33bdb30962c3586a566a1e6154c9c3497dfd83", func := "gudgeon/gudgeonlaw19.TableHands", spec := "tableHands", inPlace := ["internal/bytealg.abigen_runtime_cmpstring", "slices.overlaps[gudgeon/api.Intent]", "slices.overlaps[gudgeon/api.Hold]", "slices.overlaps[gudgeon/api.Mark]"], unfollowed := true, recurses := true, apart := false }
def TableHandsSaid : Prop := tableHandsRow.holds Tryz.pinned (OpenSpec.ofChange tableHandsSpec)

/-- ITS FALSE NEIGHBOUR: 'it returns false'. Refute it at one input. -/
def tableHandsWrong : ChangeSpec := { name := "tableHands", fn := fun _ => fun
  | [d1, d2, d3] => { results := [.lit (.bool false)], args := [d1, d2, d3] }
  | _ => none }
def TableHandsWrongFalsely : Prop := tableHandsRow.holds Tryz.pinned (OpenSpec.ofChange tableHandsWrong)

/-- 'gudgeonlaw19.TableRises': WHATEVER THE INPUT: true; the input reads as it did. -/
def tableRisesSpec : ChangeSpec := { name := "tableRises", fn := fun _ => fun
  | [d1, d2] => { results := [.lit (.bool true)], args := [d1, d2] }
  | _ => none }
def tableRisesRow : OpenClaim := { program := "ythibbbfhkfebkaagreat", sum := "da78878b93b64c0bfbb2b236bc33bdb30962c3586a566a1e6154c9c3497dfd83", func := "gudgeon/gudgeonlaw19.TableRises", spec := "tableRises", inPlace := ["internal/bytealg.abigen_runtime_cmpstring", "slices.overlaps[gudgeon/api.Intent]", "slices.overlaps[gudgeon/api.Hold]", "slices.overlaps[gudgeon/api.Mark]"], unfollowed := true, recurses := true, apart := false }
def TableRisesSaid : Prop := tableRisesRow.holds Tryz.pinned (OpenSpec.ofChange tableRisesSpec)

/-- ITS FALSE NEIGHBOUR: 'it returns false'. Refute it at one input. -/
def tableRisesWrong : ChangeSpec := { name := "tableRises", fn := fun _ => fun
  | [d1, d2] => { results := [.lit (.bool false)], args := [d1, d2] }
  | _ => none }
def TableRisesWrongFalsely : Prop := tableRisesRow.holds Tryz.pinned (OpenSpec.ofChange tableRisesWrong)

/- THE SECOND FORM. 'bulk': how many values and letters a reading holds, each counted each time it is reached (what is shared counts as often as it is met; a slice's spare places count too). A statement '..UptoSaid' is the law's where the arguments, and the package variables that the reading takes, are together of bulk at most 1048576: NARROWER than '..Said'. Prove '..Said' where nothing that the law and all that it calls make is longer than what came in: it says more and counts as full. Else prove '..UptoSaid'. A law counts once. -/
mutual
def uptoBulk {H : Type} : DataW H → Nat
  | .lit (.string bytes) => bytes.length + 1
  | .lit _ => 1
  | .nil => 1
  | .ptr d => uptoBulk d + 1
  | .slice elems spare => uptoBulkAll elems + uptoBulkAll spare + 1
  | .agg parts => uptoBulkAll parts + 1
  | .iface _ d => uptoBulk d + 1
  | .map entries => uptoBulkEntries entries + 1
  | .held _ => 1
def uptoBulkAll {H : Type} : List (DataW H) → Nat
  | [] => 0
  | d :: r => uptoBulk d + uptoBulkAll r
def uptoBulkEntries {H : Type} : List (Lit × DataW H) → Nat
  | [] => 0
  | x :: r => uptoBulkEntry x + uptoBulkEntries r
def uptoBulkEntry {H : Type} : Lit × DataW H → Nat
  | (.string bytes, d) => bytes.length + uptoBulk d + 1
  | (_, d) => uptoBulk d + 1
 end
def uptoSmall : (H : Type) → List (DataW H) → Bool := fun _ ds => decide (uptoBulkAll ds ≤ 1048576)
def OpenSpec.upto (s : _root_.Go.ChangeSpec) : _root_.Go.OpenSpec := { _root_.Go.OpenSpec.ofChange s with cond := some uptoSmall }

/-- 'gudgeonlaw19.TablePrepares', WHERE WHAT IT READS IS OF BULK AT MOST 1048576: true; the input reads as it did. -/
def tablePreparesUptoRow : OpenClaim := { program := "ythibbbfhkfebkaagreat", sum := "da78878b93b64c0bfbb2b236bc33bdb30962c3586a566a1e6154c9c3497dfd83", func := "gudgeon/gudgeonlaw19.TablePrepares", spec := "tablePrepares", inPlace := ["internal/bytealg.abigen_runtime_cmpstring", "slices.overlaps[gudgeon/api.Intent]", "slices.overlaps[gudgeon/api.Hold]", "slices.overlaps[gudgeon/api.Mark]"], unfollowed := true, recurses := true, apart := false, narrowed := true }
def TablePreparesUptoSaid : Prop := tablePreparesUptoRow.holds Tryz.pinned (OpenSpec.upto tablePreparesSpec)

/-- 'gudgeonlaw19.TableFinishes', WHERE WHAT IT READS IS OF BULK AT MOST 1048576: true; the input reads as it did. -/
def tableFinishesUptoRow : OpenClaim := { program := "ythibbbfhkfebkaagreat", sum := "da78878b93b64c0bfbb2b236bc33bdb30962c3586a566a1e6154c9c3497dfd83", func := "gudgeon/gudgeonlaw19.TableFinishes", spec := "tableFinishes", inPlace := ["internal/bytealg.abigen_runtime_cmpstring", "slices.overlaps[gudgeon/api.Intent]", "slices.overlaps[gudgeon/api.Hold]", "slices.overlaps[gudgeon/api.Mark]"], unfollowed := true, recurses := true, apart := false, narrowed := true }
def TableFinishesUptoSaid : Prop := tableFinishesUptoRow.holds Tryz.pinned (OpenSpec.upto tableFinishesSpec)

/-- 'gudgeonlaw19.TableMoves', WHERE WHAT IT READS IS OF BULK AT MOST 1048576: true; the input reads as it did. -/
def tableMovesUptoRow : OpenClaim := { program := "ythibbbfhkfebkaagreat", sum := "da78878b93b64c0bfbb2b236bc33bdb30962c3586a566a1e6154c9c3497dfd83", func := "gudgeon/gudgeonlaw19.TableMoves", spec := "tableMoves", inPlace := ["internal/bytealg.abigen_runtime_cmpstring", "slices.overlaps[gudgeon/api.Intent]", "slices.overlaps[gudgeon/api.Hold]", "slices.overlaps[gudgeon/api.Mark]"], unfollowed := true, recurses := true, apart := false, narrowed := true }
def TableMovesUptoSaid : Prop := tableMovesUptoRow.holds Tryz.pinned (OpenSpec.upto tableMovesSpec)

/-- 'gudgeonlaw19.TableHands', WHERE WHAT IT READS IS OF BULK AT MOST 1048576: true; the input reads as it did. -/
def tableHandsUptoRow : OpenClaim := { program := "ythibbbfhkfebkaagreat", sum := "da78878b93b64c0bfbb2b236bc33bdb30962c3586a566a1e6154c9c3497dfd83", func := "gudgeon/gudgeonlaw19.TableHands", spec := "tableHands", inPlace := ["internal/bytealg.abigen_runtime_cmpstring", "slices.overlaps[gudgeon/api.Intent]", "slices.overlaps[gudgeon/api.Hold]", "slices.overlaps[gudgeon/api.Mark]"], unfollowed := true, recurses := true, apart := false, narrowed := true }
def TableHandsUptoSaid : Prop := tableHandsUptoRow.holds Tryz.pinned (OpenSpec.upto tableHandsSpec)

/-- 'gudgeonlaw19.TableRises', WHERE WHAT IT READS IS OF BULK AT MOST 1048576: true; the input reads as it did. -/
def tableRisesUptoRow : OpenClaim := { program := "ythibbbfhkfebkaagreat", sum := "da78878b93b64c0bfbb2b236bc33bdb30962c3586a566a1e6154c9c3497dfd83", func := "gudgeon/gudgeonlaw19.TableRises", spec := "tableRises", inPlace := ["internal/bytealg.abigen_runtime_cmpstring", "slices.overlaps[gudgeon/api.Intent]", "slices.overlaps[gudgeon/api.Hold]", "slices.overlaps[gudgeon/api.Mark]"], unfollowed := true, recurses := true, apart := false, narrowed := true }
def TableRisesUptoSaid : Prop := tableRisesUptoRow.holds Tryz.pinned (OpenSpec.upto tableRisesSpec)

end Rows
end Go.Proofs.YthibbbfhkfebkaaGreat
