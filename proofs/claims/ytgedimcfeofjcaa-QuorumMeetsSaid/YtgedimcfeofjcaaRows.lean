/-
  No cell of these rows narrows 'for every input' (looked for: loops, veiled, ifaces, maps, wideKeys, modest, calm, conditions, laid).
  DERIVED. THE GIVEN ROWS OF THIS SEAT. 5 by the template 'for every input the law returns true; each argument reads behind the call as it read before'; 0 by the template 'total and deterministic' (their statements: YtgedimcfeofjcaaTotals.lean).
  GIVEN WITH THE SEED: the statements are not yours to turn. If you find one false, say at which input.
  Laid BY PROGRAM, IN A SANDBOX (cutbox-rows.mjs): the forced cells as the released guide's own fill.sh prints them over the translation 654822fbc57e0101… (all of the seat's roots in one cut). By AI agents, Wed Nov 11 2026. No macro, syntax, notation, axiom, sorry.
-/
import Derived.Test.YtgedimcfeofjcaaChecked
import GoSem.Claim
import GoSem.ClaimJoined
import GoSem.ClaimMapViews
import Derived.JoinedTies
import Derived.KernelRfl
namespace Go.Proofs.Ytgedimcfeofjcaa
/- THE CELL 'sum', in the pinned program and in every row, IS THE sha256 OF THE DUMP (.gsa) THAT YtgedimcfeofjcaaProg.lean LOADS. Nothing in Lean hashes anything: it is a label: what it is worth is what the hold of that sum in a sandbox is worth. -/
noncomputable def Try.pinned : Pinned := { name := "ytgedimcfeofjcaa", sum := "654822fbc57e01017f8211b90084818e947ebe4e7e9de5eb9a38dd7c22db3502", checked := Try.checked }
namespace Rows
def none {H : Type} : Left H := { results := [], args := [] }

/-- 'gudgeonlaw12.QuorumCounts': WHATEVER THE INPUT: true; the input reads as it did. -/
def quorumCountsSpec : ChangeSpec := { name := "quorumCounts", fn := fun _ => fun
  | [d1, d2] => { results := [.lit (.bool true)], args := [d1, d2] }
  | _ => none }
def quorumCountsRow : OpenClaim := { program := "ytgedimcfeofjcaa", sum := "654822fbc57e01017f8211b90084818e947ebe4e7e9de5eb9a38dd7c22db3502", func := "gudgeon/gudgeonlaw12.QuorumCounts", spec := "quorumCounts", unfollowed := true, recurses := true, apart := false }
def QuorumCountsSaid : Prop := quorumCountsRow.holds Try.pinned (OpenSpec.ofChange quorumCountsSpec)

/-- ITS FALSE NEIGHBOUR: 'it returns false'. Refute it at one input. -/
def quorumCountsWrong : ChangeSpec := { name := "quorumCounts", fn := fun _ => fun
  | [d1, d2] => { results := [.lit (.bool false)], args := [d1, d2] }
  | _ => none }
def QuorumCountsWrongFalsely : Prop := quorumCountsRow.holds Try.pinned (OpenSpec.ofChange quorumCountsWrong)

/-- 'gudgeonlaw12.QuorumNeeds': WHATEVER THE INPUT: true; the input reads as it did. -/
def quorumNeedsSpec : ChangeSpec := { name := "quorumNeeds", fn := fun _ => fun
  | [d] => { results := [.lit (.bool true)], args := [d] }
  | _ => none }
def quorumNeedsRow : OpenClaim := { program := "ytgedimcfeofjcaa", sum := "654822fbc57e01017f8211b90084818e947ebe4e7e9de5eb9a38dd7c22db3502", func := "gudgeon/gudgeonlaw12.QuorumNeeds", spec := "quorumNeeds", unfollowed := true, recurses := true, apart := false }
def QuorumNeedsSaid : Prop := quorumNeedsRow.holds Try.pinned (OpenSpec.ofChange quorumNeedsSpec)

/-- ITS FALSE NEIGHBOUR: 'it returns false'. Refute it at one input. -/
def quorumNeedsWrong : ChangeSpec := { name := "quorumNeeds", fn := fun _ => fun
  | [d] => { results := [.lit (.bool false)], args := [d] }
  | _ => none }
def QuorumNeedsWrongFalsely : Prop := quorumNeedsRow.holds Try.pinned (OpenSpec.ofChange quorumNeedsWrong)

/-- 'gudgeonlaw12.QuorumCommits': WHATEVER THE INPUT: true; the input reads as it did. -/
def quorumCommitsSpec : ChangeSpec := { name := "quorumCommits", fn := fun _ => fun
  | [d1, d2] => { results := [.lit (.bool true)], args := [d1, d2] }
  | _ => none }
def quorumCommitsRow : OpenClaim := { program := "ytgedimcfeofjcaa", sum := "654822fbc57e01017f8211b90084818e947ebe4e7e9de5eb9a38dd7c22db3502", func := "gudgeon/gudgeonlaw12.QuorumCommits", spec := "quorumCommits", unfollowed := true, recurses := true, apart := false }
def QuorumCommitsSaid : Prop := quorumCommitsRow.holds Try.pinned (OpenSpec.ofChange quorumCommitsSpec)

/-- ITS FALSE NEIGHBOUR: 'it returns false'. Refute it at one input. -/
def quorumCommitsWrong : ChangeSpec := { name := "quorumCommits", fn := fun _ => fun
  | [d1, d2] => { results := [.lit (.bool false)], args := [d1, d2] }
  | _ => none }
def QuorumCommitsWrongFalsely : Prop := quorumCommitsRow.holds Try.pinned (OpenSpec.ofChange quorumCommitsWrong)

/-- 'gudgeonlaw12.QuorumRises': WHATEVER THE INPUT: true; the input reads as it did. -/
def quorumRisesSpec : ChangeSpec := { name := "quorumRises", fn := fun _ => fun
  | [d1, d2, d3] => { results := [.lit (.bool true)], args := [d1, d2, d3] }
  | _ => none }
def quorumRisesRow : OpenClaim := { program := "ytgedimcfeofjcaa", sum := "654822fbc57e01017f8211b90084818e947ebe4e7e9de5eb9a38dd7c22db3502", func := "gudgeon/gudgeonlaw12.QuorumRises", spec := "quorumRises", unfollowed := true, recurses := true, apart := false }
def QuorumRisesSaid : Prop := quorumRisesRow.holds Try.pinned (OpenSpec.ofChange quorumRisesSpec)

/-- ITS FALSE NEIGHBOUR: 'it returns false'. Refute it at one input. -/
def quorumRisesWrong : ChangeSpec := { name := "quorumRises", fn := fun _ => fun
  | [d1, d2, d3] => { results := [.lit (.bool false)], args := [d1, d2, d3] }
  | _ => none }
def QuorumRisesWrongFalsely : Prop := quorumRisesRow.holds Try.pinned (OpenSpec.ofChange quorumRisesWrong)

/-- 'gudgeonlaw12.QuorumMeets': WHATEVER THE INPUT: true; the input reads as it did. -/
def quorumMeetsSpec : ChangeSpec := { name := "quorumMeets", fn := fun _ => fun
  | [d1, d2, d3] => { results := [.lit (.bool true)], args := [d1, d2, d3] }
  | _ => none }
def quorumMeetsRow : OpenClaim := { program := "ytgedimcfeofjcaa", sum := "654822fbc57e01017f8211b90084818e947ebe4e7e9de5eb9a38dd7c22db3502", func := "gudgeon/gudgeonlaw12.QuorumMeets", spec := "quorumMeets", unfollowed := true, recurses := true, apart := false }
def QuorumMeetsSaid : Prop := quorumMeetsRow.holds Try.pinned (OpenSpec.ofChange quorumMeetsSpec)

/-- ITS FALSE NEIGHBOUR: 'it returns false'. Refute it at one input. -/
def quorumMeetsWrong : ChangeSpec := { name := "quorumMeets", fn := fun _ => fun
  | [d1, d2, d3] => { results := [.lit (.bool false)], args := [d1, d2, d3] }
  | _ => none }
def QuorumMeetsWrongFalsely : Prop := quorumMeetsRow.holds Try.pinned (OpenSpec.ofChange quorumMeetsWrong)

/- THE SECOND FORM. 'bulk': how many values and letters a reading holds, each counted each time it is reached (what is shared counts as often as it is met; a slice's spare places count too). A statement '..UptoSaid' is the law's where the arguments, and the package variables that the reading takes, are together of bulk at most 1048576: NARROWER than '..Said'. Prove '..Said' where nothing that the law and all that it calls make is longer than what came in: it says more and counts as full. Else prove '..UptoSaid'. A law counts once. -/
mutual
def uptoBulk {H : Type} : DataW H → Nat
  | .lit (.string bytes) => bytes.length + 1
  | .lit _ => 1
  | .nil => 1
  | .ptr d => uptoBulk d + 1
  | .slice elems spare => uptoBulkAll elems + uptoBulkAll spare + 1
  | .agg parts => uptoBulkAll parts + 1
  | .iface _ d => uptoBulk d + 1
  | .map entries => uptoBulkEntries entries + 1
  | .held _ => 1
def uptoBulkAll {H : Type} : List (DataW H) → Nat
  | [] => 0
  | d :: r => uptoBulk d + uptoBulkAll r
def uptoBulkEntries {H : Type} : List (Lit × DataW H) → Nat
  | [] => 0
  | x :: r => uptoBulkEntry x + uptoBulkEntries r
def uptoBulkEntry {H : Type} : Lit × DataW H → Nat
  | (.string bytes, d) => bytes.length + uptoBulk d + 1
  | (_, d) => uptoBulk d + 1
 end
def uptoSmall : (H : Type) → List (DataW H) → Bool := fun _ ds => decide (uptoBulkAll ds ≤ 1048576)
def OpenSpec.upto (s : _root_.Go.ChangeSpec) : _root_.Go.OpenSpec := { _root_.Go.OpenSpec.ofChange s with cond := some uptoSmall }

/-- 'gudgeonlaw12.QuorumCounts', WHERE WHAT IT READS IS OF BULK AT MOST 1048576: true; the input reads as it did. -/
def quorumCountsUptoRow : OpenClaim := { program := "ytgedimcfeofjcaa", sum := "654822fbc57e01017f8211b90084818e947ebe4e7e9de5eb9a38dd7c22db3502", func := "gudgeon/gudgeonlaw12.QuorumCounts", spec := "quorumCounts", unfollowed := true, recurses := true, apart := false, narrowed := true }
def QuorumCountsUptoSaid : Prop := quorumCountsUptoRow.holds Try.pinned (OpenSpec.upto quorumCountsSpec)

/-- 'gudgeonlaw12.QuorumNeeds', WHERE WHAT IT READS IS OF BULK AT MOST 1048576: true; the input reads as it did. -/
def quorumNeedsUptoRow : OpenClaim := { program := "ytgedimcfeofjcaa", sum := "654822fbc57e01017f8211b90084818e947ebe4e7e9de5eb9a38dd7c22db3502", func := "gudgeon/gudgeonlaw12.QuorumNeeds", spec := "quorumNeeds", unfollowed := true, recurses := true, apart := false, narrowed := true }
def QuorumNeedsUptoSaid : Prop := quorumNeedsUptoRow.holds Try.pinned (OpenSpec.upto quorumNeedsSpec)

/-- 'gudgeonlaw12.QuorumCommits', WHERE WHAT IT READS IS OF BULK AT MOST 1048576: true; the input reads as it did. -/
def quorumCommitsUptoRow : OpenClaim := { program := "ytgedimcfeofjcaa", sum := "654822fbc57e01017f8211b90084818e947ebe4e7e9de5eb9a38dd7c22db3502", func := "gudgeon/gudgeonlaw12.QuorumCommits", spec := "quorumCommits", unfollowed := true, recurses := true, apart := false, narrowed := true }
def QuorumCommitsUptoSaid : Prop := quorumCommitsUptoRow.holds Try.pinned (OpenSpec.upto quorumCommitsSpec)

/-- 'gudgeonlaw12.QuorumRises', WHERE WHAT IT READS IS OF BULK AT MOST 1048576: true; the input reads as it did. -/
def quorumRisesUptoRow : OpenClaim := { program := "ytgedimcfeofjcaa", sum := "654822fbc57e01017f8211b90084818e947ebe4e7e9de5eb9a38dd7c22db3502", func := "gudgeon/gudgeonlaw12.QuorumRises", spec := "quorumRises", unfollowed := true, recurses := true, apart := false, narrowed := true }
def QuorumRisesUptoSaid : Prop := quorumRisesUptoRow.holds Try.pinned (OpenSpec.upto quorumRisesSpec)

/-- 'gudgeonlaw12.QuorumMeets', WHERE WHAT IT READS IS OF BULK AT MOST 1048576: true; the input reads as it did. -/
def quorumMeetsUptoRow : OpenClaim := { program := "ytgedimcfeofjcaa", sum := "654822fbc57e01017f8211b90084818e947ebe4e7e9de5eb9a38dd7c22db3502", func := "gudgeon/gudgeonlaw12.QuorumMeets", spec := "quorumMeets", unfollowed := true, recurses := true, apart := false, narrowed := true }
def QuorumMeetsUptoSaid : Prop := quorumMeetsUptoRow.holds Try.pinned (OpenSpec.upto quorumMeetsSpec)

end Rows
end Go.Proofs.Ytgedimcfeofjcaa
