/-
  No cell of these rows narrows 'for every input' (looked for: loops, veiled, ifaces, maps, wideKeys, modest, calm, conditions, laid).
  DERIVED. THE GIVEN ROWS OF THIS SEAT. 5 by the template 'for every input the law returns true; each argument reads behind the call as it read before'; 0 by the template 'total and deterministic' (their statements: YtfghbndlpppkcaaTotals.lean).
  GIVEN WITH THE SEED: the statements are not yours to turn. If you find one false, say at which input.
  Laid BY PROGRAM, IN A SANDBOX (cutbox-rows.mjs): the forced cells as the released guide's own fill.sh prints them over the translation 672e3fc3a845f864… (all of the seat's roots in one cut). By AI agents, Wed Nov 11 2026. No macro, syntax, notation, axiom, sorry.
-/
import Derived.Test.YtfghbndlpppkcaaChecked
import GoSem.Claim
import GoSem.ClaimJoined
import GoSem.ClaimMapViews
import Derived.JoinedTies
import Derived.KernelRfl
namespace Go.Proofs.Ytfghbndlpppkcaa
/- THE CELL 'sum', in the pinned program and in every row, IS THE sha256 OF THE DUMP (.gsa) THAT YtfghbndlpppkcaaProg.lean LOADS. Nothing in Lean hashes anything: it is a label: what it is worth is what the hold of that sum in a sandbox is worth. -/
noncomputable def Try.pinned : Pinned := { name := "ytfghbndlpppkcaa", sum := "672e3fc3a845f864f421ae671fcf5bf47f353645f3cc89e00ce751c4d3cb2c1c", checked := Try.checked }
namespace Rows
def none {H : Type} : Left H := { results := [], args := [] }

/-- 'gudgeonlaw13.RlogAppends': WHATEVER THE INPUT: true; the input reads as it did. -/
def rlogAppendsSpec : ChangeSpec := { name := "rlogAppends", fn := fun _ => fun
  | [d1, d2] => { results := [.lit (.bool true)], args := [d1, d2] }
  | _ => none }
def rlogAppendsRow : OpenClaim := { program := "ytfghbndlpppkcaa", sum := "672e3fc3a845f864f421ae671fcf5bf47f353645f3cc89e00ce751c4d3cb2c1c", func := "gudgeon/gudgeonlaw13.RlogAppends", spec := "rlogAppends", unfollowed := true, recurses := true, apart := false }
def RlogAppendsSaid : Prop := rlogAppendsRow.holds Try.pinned (OpenSpec.ofChange rlogAppendsSpec)

/-- ITS FALSE NEIGHBOUR: 'it returns false'. Refute it at one input. -/
def rlogAppendsWrong : ChangeSpec := { name := "rlogAppends", fn := fun _ => fun
  | [d1, d2] => { results := [.lit (.bool false)], args := [d1, d2] }
  | _ => none }
def RlogAppendsWrongFalsely : Prop := rlogAppendsRow.holds Try.pinned (OpenSpec.ofChange rlogAppendsWrong)

/-- 'gudgeonlaw13.RlogMerges': WHATEVER THE INPUT: true; the input reads as it did. -/
def rlogMergesSpec : ChangeSpec := { name := "rlogMerges", fn := fun _ => fun
  | [d1, d2, d3] => { results := [.lit (.bool true)], args := [d1, d2, d3] }
  | _ => none }
def rlogMergesRow : OpenClaim := { program := "ytfghbndlpppkcaa", sum := "672e3fc3a845f864f421ae671fcf5bf47f353645f3cc89e00ce751c4d3cb2c1c", func := "gudgeon/gudgeonlaw13.RlogMerges", spec := "rlogMerges", unfollowed := true, recurses := true, apart := false }
def RlogMergesSaid : Prop := rlogMergesRow.holds Try.pinned (OpenSpec.ofChange rlogMergesSpec)

/-- ITS FALSE NEIGHBOUR: 'it returns false'. Refute it at one input. -/
def rlogMergesWrong : ChangeSpec := { name := "rlogMerges", fn := fun _ => fun
  | [d1, d2, d3] => { results := [.lit (.bool false)], args := [d1, d2, d3] }
  | _ => none }
def RlogMergesWrongFalsely : Prop := rlogMergesRow.holds Try.pinned (OpenSpec.ofChange rlogMergesWrong)

/-- 'gudgeonlaw13.RlogFull': WHATEVER THE INPUT: true; the input reads as it did. -/
def rlogFullSpec : ChangeSpec := { name := "rlogFull", fn := fun _ => fun
  | [d] => { results := [.lit (.bool true)], args := [d] }
  | _ => none }
def rlogFullRow : OpenClaim := { program := "ytfghbndlpppkcaa", sum := "672e3fc3a845f864f421ae671fcf5bf47f353645f3cc89e00ce751c4d3cb2c1c", func := "gudgeon/gudgeonlaw13.RlogFull", spec := "rlogFull", unfollowed := true, recurses := true, apart := false }
def RlogFullSaid : Prop := rlogFullRow.holds Try.pinned (OpenSpec.ofChange rlogFullSpec)

/-- ITS FALSE NEIGHBOUR: 'it returns false'. Refute it at one input. -/
def rlogFullWrong : ChangeSpec := { name := "rlogFull", fn := fun _ => fun
  | [d] => { results := [.lit (.bool false)], args := [d] }
  | _ => none }
def RlogFullWrongFalsely : Prop := rlogFullRow.holds Try.pinned (OpenSpec.ofChange rlogFullWrong)

/-- 'gudgeonlaw13.RlogKeeps': WHATEVER THE INPUT: true; the input reads as it did. -/
def rlogKeepsSpec : ChangeSpec := { name := "rlogKeeps", fn := fun _ => fun
  | [d1, d2, d3] => { results := [.lit (.bool true)], args := [d1, d2, d3] }
  | _ => none }
def rlogKeepsRow : OpenClaim := { program := "ytfghbndlpppkcaa", sum := "672e3fc3a845f864f421ae671fcf5bf47f353645f3cc89e00ce751c4d3cb2c1c", func := "gudgeon/gudgeonlaw13.RlogKeeps", spec := "rlogKeeps", unfollowed := true, recurses := true, apart := false }
def RlogKeepsSaid : Prop := rlogKeepsRow.holds Try.pinned (OpenSpec.ofChange rlogKeepsSpec)

/-- ITS FALSE NEIGHBOUR: 'it returns false'. Refute it at one input. -/
def rlogKeepsWrong : ChangeSpec := { name := "rlogKeeps", fn := fun _ => fun
  | [d1, d2, d3] => { results := [.lit (.bool false)], args := [d1, d2, d3] }
  | _ => none }
def RlogKeepsWrongFalsely : Prop := rlogKeepsRow.holds Try.pinned (OpenSpec.ofChange rlogKeepsWrong)

/-- 'gudgeonlaw13.RlogTells': WHATEVER THE INPUT: true; the input reads as it did. -/
def rlogTellsSpec : ChangeSpec := { name := "rlogTells", fn := fun _ => fun
  | [d1, d2, d3] => { results := [.lit (.bool true)], args := [d1, d2, d3] }
  | _ => none }
def rlogTellsRow : OpenClaim := { program := "ytfghbndlpppkcaa", sum := "672e3fc3a845f864f421ae671fcf5bf47f353645f3cc89e00ce751c4d3cb2c1c", func := "gudgeon/gudgeonlaw13.RlogTells", spec := "rlogTells", unfollowed := true, recurses := true, apart := false }
def RlogTellsSaid : Prop := rlogTellsRow.holds Try.pinned (OpenSpec.ofChange rlogTellsSpec)

/-- ITS FALSE NEIGHBOUR: 'it returns false'. Refute it at one input. -/
def rlogTellsWrong : ChangeSpec := { name := "rlogTells", fn := fun _ => fun
  | [d1, d2, d3] => { results := [.lit (.bool false)], args := [d1, d2, d3] }
  | _ => none }
def RlogTellsWrongFalsely : Prop := rlogTellsRow.holds Try.pinned (OpenSpec.ofChange rlogTellsWrong)

/- THE SECOND FORM. 'bulk': how many values and letters a reading holds, each counted each time it is reached (what is shared counts as often as it is met; a slice's spare places count too). A statement '..UptoSaid' is the law's where the arguments, and the package variables that the reading takes, are together of bulk at most 1048576: NARROWER than '..Said'. Prove '..Said' where nothing that the law and all that it calls make is longer than what came in: it says more and counts as full. Else prove '..UptoSaid'. A law counts once. -/
mutual
def uptoBulk {H : Type} : DataW H → Nat
  | .lit (.string bytes) => bytes.length + 1
  | .lit _ => 1
  | .nil => 1
  | .ptr d => uptoBulk d + 1
  | .slice elems spare => uptoBulkAll elems + uptoBulkAll spare + 1
  | .agg parts => uptoBulkAll parts + 1
  | .iface _ d => uptoBulk d + 1
  | .map entries => uptoBulkEntries entries + 1
  | .held _ => 1
def uptoBulkAll {H : Type} : List (DataW H) → Nat
  | [] => 0
  | d :: r => uptoBulk d + uptoBulkAll r
def uptoBulkEntries {H : Type} : List (Lit × DataW H) → Nat
  | [] => 0
  | x :: r => uptoBulkEntry x + uptoBulkEntries r
def uptoBulkEntry {H : Type} : Lit × DataW H → Nat
  | (.string bytes, d) => bytes.length + uptoBulk d + 1
  | (_, d) => uptoBulk d + 1
 end
def uptoSmall : (H : Type) → List (DataW H) → Bool := fun _ ds => decide (uptoBulkAll ds ≤ 1048576)
def OpenSpec.upto (s : _root_.Go.ChangeSpec) : _root_.Go.OpenSpec := { _root_.Go.OpenSpec.ofChange s with cond := some uptoSmall }

/-- 'gudgeonlaw13.RlogAppends', WHERE WHAT IT READS IS OF BULK AT MOST 1048576: true; the input reads as it did. -/
def rlogAppendsUptoRow : OpenClaim := { program := "ytfghbndlpppkcaa", sum := "672e3fc3a845f864f421ae671fcf5bf47f353645f3cc89e00ce751c4d3cb2c1c", func := "gudgeon/gudgeonlaw13.RlogAppends", spec := "rlogAppends", unfollowed := true, recurses := true, apart := false, narrowed := true }
def RlogAppendsUptoSaid : Prop := rlogAppendsUptoRow.holds Try.pinned (OpenSpec.upto rlogAppendsSpec)

/-- 'gudgeonlaw13.RlogMerges', WHERE WHAT IT READS IS OF BULK AT MOST 1048576: true; the input reads as it did. -/
def rlogMergesUptoRow : OpenClaim := { program := "ytfghbndlpppkcaa", sum := "672e3fc3a845f864f421ae671fcf5bf47f353645f3cc89e00ce751c4d3cb2c1c", func := "gudgeon/gudgeonlaw13.RlogMerges", spec := "rlogMerges", unfollowed := true, recurses := true, apart := false, narrowed := true }
def RlogMergesUptoSaid : Prop := rlogMergesUptoRow.holds Try.pinned (OpenSpec.upto rlogMergesSpec)

/-- 'gudgeonlaw13.RlogFull', WHERE WHAT IT READS IS OF BULK AT MOST 1048576: true; the input reads as it did. -/
def rlogFullUptoRow : OpenClaim := { program := "ytfghbndlpppkcaa", sum := "672e3fc3a845f864f421ae671fcf5bf47f353645f3cc89e00ce751c4d3cb2c1c", func := "gudgeon/gudgeonlaw13.RlogFull", spec := "rlogFull", unfollowed := true, recurses := true, apart := false, narrowed := true }
def RlogFullUptoSaid : Prop := rlogFullUptoRow.holds Try.pinned (OpenSpec.upto rlogFullSpec)

/-- 'gudgeonlaw13.RlogKeeps', WHERE WHAT IT READS IS OF BULK AT MOST 1048576: true; the input reads as it did. -/
def rlogKeepsUptoRow : OpenClaim := { program := "ytfghbndlpppkcaa", sum := "672e3fc3a845f864f421ae671fcf5bf47f353645f3cc89e00ce751c4d3cb2c1c", func := "gudgeon/gudgeonlaw13.RlogKeeps", spec := "rlogKeeps", unfollowed := true, recurses := true, apart := false, narrowed := true }
def RlogKeepsUptoSaid : Prop := rlogKeepsUptoRow.holds Try.pinned (OpenSpec.upto rlogKeepsSpec)

/-- 'gudgeonlaw13.RlogTells', WHERE WHAT IT READS IS OF BULK AT MOST 1048576: true; the input reads as it did. -/
def rlogTellsUptoRow : OpenClaim := { program := "ytfghbndlpppkcaa", sum := "672e3fc3a845f864f421ae671fcf5bf47f353645f3cc89e00ce751c4d3cb2c1c", func := "gudgeon/gudgeonlaw13.RlogTells", spec := "rlogTells", unfollowed := true, recurses := true, apart := false, narrowed := true }
def RlogTellsUptoSaid : Prop := rlogTellsUptoRow.holds Try.pinned (OpenSpec.upto rlogTellsSpec)

end Rows
end Go.Proofs.Ytfghbndlpppkcaa
