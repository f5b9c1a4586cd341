/-
  No cell of these rows narrows 'for every input' (looked for: loops, veiled, ifaces, maps, wideKeys, modest, calm, conditions, laid).
  DERIVED. THE GIVEN ROWS OF THIS SEAT. 5 by the template 'for every input the law returns true; each argument reads behind the call as it read before'; 0 by the template 'total and deterministic' (their statements: YtfllmhjjfapnmaaGreatTotals.lean).
  GIVEN WITH THE SEED: the statements are not yours to turn. If you find one false, say at which input.
  Laid BY PROGRAM, IN A SANDBOX (cutbox-rows.mjs): the forced cells as the released guide's own fill.sh prints them over the translation e63c57019bd30c71… (all of the seat's roots in one cut). By AI agents, Wed Nov 11 2026. No macro, syntax, notation, axiom, sorry.
-/
import Derived.Test.YtfllmhjjfapnmaaGreatChecked
import GoSem.Claim
import GoSem.ClaimJoined
import GoSem.ClaimMapViews
import Derived.JoinedTies
import Derived.KernelRfl
namespace Go.Proofs.YtfllmhjjfapnmaaGreat
/- THE CELL 'sum', in the pinned program and in every row, IS THE sha256 OF THE DUMP (.gsa) THAT YtfllmhjjfapnmaaGreatProg.lean LOADS. Nothing in Lean hashes anything: it is a label: what it is worth is what the hold of that sum in a sandbox is worth. -/
noncomputable def Tryz.pinned : Pinned := { name := "ytfllmhjjfapnmaagreat", sum := "e63c57019bd30c71fd472850f32569995423bdae6a9e18c3762dceb5853595f0", checked := Tryz.checked }
namespace Rows
def none {H : Type} : Left H := { results := [], args := [] }

/-- 'gudgeonlaw14.RaftTicks': WHATEVER THE INPUT: true; the input reads as it did. -/
def raftTicksSpec : ChangeSpec := { name := "raftTicks", fn := fun _ => fun
  | [d] => { results := [.lit (.bool true)], args := [d] }
  | _ => none }
def raftTicksRow : OpenClaim := { program := "ytfllmhjjfapnmaagreat", sum := "e63c57019bd30c71fd472850f32569995423bdae6a9e18c3762dceb5853595f0", func := "gudgeon/gudgeonlaw14.RaftTicks", spec := "raftTicks", unfollowed := true, recurses := true, apart := false }
def RaftTicksSaid : Prop := raftTicksRow.holds Tryz.pinned (OpenSpec.ofChange raftTicksSpec)

/-- ITS FALSE NEIGHBOUR: 'it returns false'. Refute it at one input. -/
def raftTicksWrong : ChangeSpec := { name := "raftTicks", fn := fun _ => fun
  | [d] => { results := [.lit (.bool false)], args := [d] }
  | _ => none }
def RaftTicksWrongFalsely : Prop := raftTicksRow.holds Tryz.pinned (OpenSpec.ofChange raftTicksWrong)

/-- 'gudgeonlaw14.RaftChecks': WHATEVER THE INPUT: true; the input reads as it did. -/
def raftChecksSpec : ChangeSpec := { name := "raftChecks", fn := fun _ => fun
  | [d1, d2, d3] => { results := [.lit (.bool true)], args := [d1, d2, d3] }
  | _ => none }
def raftChecksRow : OpenClaim := { program := "ytfllmhjjfapnmaagreat", sum := "e63c57019bd30c71fd472850f32569995423bdae6a9e18c3762dceb5853595f0", func := "gudgeon/gudgeonlaw14.RaftChecks", spec := "raftChecks", unfollowed := true, recurses := true, apart := false }
def RaftChecksSaid : Prop := raftChecksRow.holds Tryz.pinned (OpenSpec.ofChange raftChecksSpec)

/-- ITS FALSE NEIGHBOUR: 'it returns false'. Refute it at one input. -/
def raftChecksWrong : ChangeSpec := { name := "raftChecks", fn := fun _ => fun
  | [d1, d2, d3] => { results := [.lit (.bool false)], args := [d1, d2, d3] }
  | _ => none }
def RaftChecksWrongFalsely : Prop := raftChecksRow.holds Tryz.pinned (OpenSpec.ofChange raftChecksWrong)

/-- 'gudgeonlaw14.RaftProposes': WHATEVER THE INPUT: true; the input reads as it did. -/
def raftProposesSpec : ChangeSpec := { name := "raftProposes", fn := fun _ => fun
  | [d1, d2] => { results := [.lit (.bool true)], args := [d1, d2] }
  | _ => none }
def raftProposesRow : OpenClaim := { program := "ytfllmhjjfapnmaagreat", sum := "e63c57019bd30c71fd472850f32569995423bdae6a9e18c3762dceb5853595f0", func := "gudgeon/gudgeonlaw14.RaftProposes", spec := "raftProposes", unfollowed := true, recurses := true, apart := false }
def RaftProposesSaid : Prop := raftProposesRow.holds Tryz.pinned (OpenSpec.ofChange raftProposesSpec)

/-- ITS FALSE NEIGHBOUR: 'it returns false'. Refute it at one input. -/
def raftProposesWrong : ChangeSpec := { name := "raftProposes", fn := fun _ => fun
  | [d1, d2] => { results := [.lit (.bool false)], args := [d1, d2] }
  | _ => none }
def RaftProposesWrongFalsely : Prop := raftProposesRow.holds Tryz.pinned (OpenSpec.ofChange raftProposesWrong)

/-- 'gudgeonlaw14.RaftSteps': WHATEVER THE INPUT: true; the input reads as it did. -/
def raftStepsSpec : ChangeSpec := { name := "raftSteps", fn := fun _ => fun
  | [d1, d2] => { results := [.lit (.bool true)], args := [d1, d2] }
  | _ => none }
def raftStepsRow : OpenClaim := { program := "ytfllmhjjfapnmaagreat", sum := "e63c57019bd30c71fd472850f32569995423bdae6a9e18c3762dceb5853595f0", func := "gudgeon/gudgeonlaw14.RaftSteps", spec := "raftSteps", inPlace := ["slices.overlaps[int]"], unfollowed := true, recurses := true, apart := false }
def RaftStepsSaid : Prop := raftStepsRow.holds Tryz.pinned (OpenSpec.ofChange raftStepsSpec)

/-- ITS FALSE NEIGHBOUR: 'it returns false'. Refute it at one input. -/
def raftStepsWrong : ChangeSpec := { name := "raftSteps", fn := fun _ => fun
  | [d1, d2] => { results := [.lit (.bool false)], args := [d1, d2] }
  | _ => none }
def RaftStepsWrongFalsely : Prop := raftStepsRow.holds Tryz.pinned (OpenSpec.ofChange raftStepsWrong)

/-- 'gudgeonlaw14.RaftSafe': WHATEVER THE INPUT: true; the input reads as it did. -/
def raftSafeSpec : ChangeSpec := { name := "raftSafe", fn := fun _ => fun
  | [d1, d2] => { results := [.lit (.bool true)], args := [d1, d2] }
  | _ => none }
def raftSafeRow : OpenClaim := { program := "ytfllmhjjfapnmaagreat", sum := "e63c57019bd30c71fd472850f32569995423bdae6a9e18c3762dceb5853595f0", func := "gudgeon/gudgeonlaw14.RaftSafe", spec := "raftSafe", inPlace := ["slices.overlaps[int]"], unfollowed := true, recurses := true, apart := false }
def RaftSafeSaid : Prop := raftSafeRow.holds Tryz.pinned (OpenSpec.ofChange raftSafeSpec)

/-- ITS FALSE NEIGHBOUR: 'it returns false'. Refute it at one input. -/
def raftSafeWrong : ChangeSpec := { name := "raftSafe", fn := fun _ => fun
  | [d1, d2] => { results := [.lit (.bool false)], args := [d1, d2] }
  | _ => none }
def RaftSafeWrongFalsely : Prop := raftSafeRow.holds Tryz.pinned (OpenSpec.ofChange raftSafeWrong)

/- THE SECOND FORM. 'bulk': how many values and letters a reading holds, each counted each time it is reached (what is shared counts as often as it is met; a slice's spare places count too). A statement '..UptoSaid' is the law's where the arguments, and the package variables that the reading takes, are together of bulk at most 1048576: NARROWER than '..Said'. Prove '..Said' where nothing that the law and all that it calls make is longer than what came in: it says more and counts as full. Else prove '..UptoSaid'. A law counts once. -/
mutual
def uptoBulk {H : Type} : DataW H → Nat
  | .lit (.string bytes) => bytes.length + 1
  | .lit _ => 1
  | .nil => 1
  | .ptr d => uptoBulk d + 1
  | .slice elems spare => uptoBulkAll elems + uptoBulkAll spare + 1
  | .agg parts => uptoBulkAll parts + 1
  | .iface _ d => uptoBulk d + 1
  | .map entries => uptoBulkEntries entries + 1
  | .held _ => 1
def uptoBulkAll {H : Type} : List (DataW H) → Nat
  | [] => 0
  | d :: r => uptoBulk d + uptoBulkAll r
def uptoBulkEntries {H : Type} : List (Lit × DataW H) → Nat
  | [] => 0
  | x :: r => uptoBulkEntry x + uptoBulkEntries r
def uptoBulkEntry {H : Type} : Lit × DataW H → Nat
  | (.string bytes, d) => bytes.length + uptoBulk d + 1
  | (_, d) => uptoBulk d + 1
 end
def uptoSmall : (H : Type) → List (DataW H) → Bool := fun _ ds => decide (uptoBulkAll ds ≤ 1048576)
def OpenSpec.upto (s : _root_.Go.ChangeSpec) : _root_.Go.OpenSpec := { _root_.Go.OpenSpec.ofChange s with cond := some uptoSmall }

/-- 'gudgeonlaw14.RaftTicks', WHERE WHAT IT READS IS OF BULK AT MOST 1048576: true; the input reads as it did. -/
def raftTicksUptoRow : OpenClaim := { program := "ytfllmhjjfapnmaagreat", sum := "e63c57019bd30c71fd472850f32569995423bdae6a9e18c3762dceb5853595f0", func := "gudgeon/gudgeonlaw14.RaftTicks", spec := "raftTicks", unfollowed := true, recurses := true, apart := false, narrowed := true }
def RaftTicksUptoSaid : Prop := raftTicksUptoRow.holds Tryz.pinned (OpenSpec.upto raftTicksSpec)

/-- 'gudgeonlaw14.RaftChecks', WHERE WHAT IT READS IS OF BULK AT MOST 1048576: true; the input reads as it did. -/
def raftChecksUptoRow : OpenClaim := { program := "ytfllmhjjfapnmaagreat", sum := "e63c57019bd30c71fd472850f32569995423bdae6a9e18c3762dceb5853595f0", func := "gudgeon/gudgeonlaw14.RaftChecks", spec := "raftChecks", unfollowed := true, recurses := true, apart := false, narrowed := true }
def RaftChecksUptoSaid : Prop := raftChecksUptoRow.holds Tryz.pinned (OpenSpec.upto raftChecksSpec)

/-- 'gudgeonlaw14.RaftProposes', WHERE WHAT IT READS IS OF BULK AT MOST 1048576: true; the input reads as it did. -/
def raftProposesUptoRow : OpenClaim := { program := "ytfllmhjjfapnmaagreat", sum := "e63c57019bd30c71fd472850f32569995423bdae6a9e18c3762dceb5853595f0", func := "gudgeon/gudgeonlaw14.RaftProposes", spec := "raftProposes", unfollowed := true, recurses := true, apart := false, narrowed := true }
def RaftProposesUptoSaid : Prop := raftProposesUptoRow.holds Tryz.pinned (OpenSpec.upto raftProposesSpec)

/-- 'gudgeonlaw14.RaftSteps', WHERE WHAT IT READS IS OF BULK AT MOST 1048576: true; the input reads as it did. -/
def raftStepsUptoRow : OpenClaim := { program := "ytfllmhjjfapnmaagreat", sum := "e63c57019bd30c71fd472850f32569995423bdae6a9e18c3762dceb5853595f0", func := "gudgeon/gudgeonlaw14.RaftSteps", spec := "raftSteps", inPlace := ["slices.overlaps[int]"], unfollowed := true, recurses := true, apart := false, narrowed := true }
def RaftStepsUptoSaid : Prop := raftStepsUptoRow.holds Tryz.pinned (OpenSpec.upto raftStepsSpec)

/-- 'gudgeonlaw14.RaftSafe', WHERE WHAT IT READS IS OF BULK AT MOST 1048576: true; the input reads as it did. -/
def raftSafeUptoRow : OpenClaim := { program := "ytfllmhjjfapnmaagreat", sum := "e63c57019bd30c71fd472850f32569995423bdae6a9e18c3762dceb5853595f0", func := "gudgeon/gudgeonlaw14.RaftSafe", spec := "raftSafe", inPlace := ["slices.overlaps[int]"], unfollowed := true, recurses := true, apart := false, narrowed := true }
def RaftSafeUptoSaid : Prop := raftSafeUptoRow.holds Tryz.pinned (OpenSpec.upto raftSafeSpec)

end Rows
end Go.Proofs.YtfllmhjjfapnmaaGreat
