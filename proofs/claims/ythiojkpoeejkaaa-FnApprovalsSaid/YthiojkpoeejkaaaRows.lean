/-
  No cell of these rows narrows 'for every input' (looked for: loops, veiled, ifaces, maps, wideKeys, modest, calm, conditions, laid).
  DERIVED. THE GIVEN ROWS OF THIS SEAT. 7 by the template 'for every input the law returns true; each argument reads behind the call as it read before'; 0 by the template 'total and deterministic' (their statements: YthiojkpoeejkaaaTotals.lean).
  GIVEN WITH THE SEED: the statements are not yours to turn. If you find one false, say at which input.
  Laid BY PROGRAM, IN A SANDBOX (cutbox-rows.mjs): the forced cells as the released guide's own fill.sh prints them over the translation 936ca858c4ebf8cc… (all of the seat's roots in one cut). By AI agents, Wed Nov 11 2026. No macro, syntax, notation, axiom, sorry.
-/
import Derived.Test.YthiojkpoeejkaaaChecked
import GoSem.Claim
import GoSem.ClaimJoined
import GoSem.ClaimMapViews
import Derived.JoinedTies
import Derived.KernelRfl
namespace Go.Proofs.Ythiojkpoeejkaaa
/- THE CELL 'sum', in the pinned program and in every row, IS THE sha256 OF THE DUMP (.gsa) THAT YthiojkpoeejkaaaProg.lean LOADS. Nothing in Lean hashes anything: it is a label: what it is worth is what the hold of that sum in a sandbox is worth. -/
noncomputable def Try.pinned : Pinned := { name := "ythiojkpoeejkaaa", sum := "936ca858c4ebf8cc3f463a0ce07da0aad766a98ab41bef830b37423de4057819", checked := Try.checked }
namespace Rows
def none {H : Type} : Left H := { results := [], args := [] }

/-- 'laws.FnApprovals': WHATEVER THE INPUT: true; the input reads as it did. -/
def fnApprovalsSpec : ChangeSpec := { name := "fnApprovals", fn := fun _ => fun
  | [d] => { results := [.lit (.bool true)], args := [d] }
  | _ => none }
def fnApprovalsRow : OpenClaim := { program := "ythiojkpoeejkaaa", sum := "936ca858c4ebf8cc3f463a0ce07da0aad766a98ab41bef830b37423de4057819", func := "loop.example/g03202/laws.FnApprovals", spec := "fnApprovals", unfollowed := true, recurses := true, apart := false }
def FnApprovalsSaid : Prop := fnApprovalsRow.holds Try.pinned (OpenSpec.ofChange fnApprovalsSpec)

/-- ITS FALSE NEIGHBOUR: 'it returns false'. Refute it at one input. -/
def fnApprovalsWrong : ChangeSpec := { name := "fnApprovals", fn := fun _ => fun
  | [d] => { results := [.lit (.bool false)], args := [d] }
  | _ => none }
def FnApprovalsWrongFalsely : Prop := fnApprovalsRow.holds Try.pinned (OpenSpec.ofChange fnApprovalsWrong)

/-- 'laws.FnProfiles': WHATEVER THE INPUT: true; the input reads as it did. -/
def fnProfilesSpec : ChangeSpec := { name := "fnProfiles", fn := fun _ => fun
  | [d] => { results := [.lit (.bool true)], args := [d] }
  | _ => none }
def fnProfilesRow : OpenClaim := { program := "ythiojkpoeejkaaa", sum := "936ca858c4ebf8cc3f463a0ce07da0aad766a98ab41bef830b37423de4057819", func := "loop.example/g03202/laws.FnProfiles", spec := "fnProfiles", unfollowed := true, recurses := true, apart := false }
def FnProfilesSaid : Prop := fnProfilesRow.holds Try.pinned (OpenSpec.ofChange fnProfilesSpec)

/-- ITS FALSE NEIGHBOUR: 'it returns false'. Refute it at one input. -/
def fnProfilesWrong : ChangeSpec := { name := "fnProfiles", fn := fun _ => fun
  | [d] => { results := [.lit (.bool false)], args := [d] }
  | _ => none }
def FnProfilesWrongFalsely : Prop := fnProfilesRow.holds Try.pinned (OpenSpec.ofChange fnProfilesWrong)

/-- 'laws.FnScores': WHATEVER THE INPUT: true; the input reads as it did. -/
def fnScoresSpec : ChangeSpec := { name := "fnScores", fn := fun _ => fun
  | [d] => { results := [.lit (.bool true)], args := [d] }
  | _ => none }
def fnScoresRow : OpenClaim := { program := "ythiojkpoeejkaaa", sum := "936ca858c4ebf8cc3f463a0ce07da0aad766a98ab41bef830b37423de4057819", func := "loop.example/g03202/laws.FnScores", spec := "fnScores", unfollowed := true, recurses := true, apart := false }
def FnScoresSaid : Prop := fnScoresRow.holds Try.pinned (OpenSpec.ofChange fnScoresSpec)

/-- ITS FALSE NEIGHBOUR: 'it returns false'. Refute it at one input. -/
def fnScoresWrong : ChangeSpec := { name := "fnScores", fn := fun _ => fun
  | [d] => { results := [.lit (.bool false)], args := [d] }
  | _ => none }
def FnScoresWrongFalsely : Prop := fnScoresRow.holds Try.pinned (OpenSpec.ofChange fnScoresWrong)

/-- 'laws.FnPairs': WHATEVER THE INPUT: true; the input reads as it did. -/
def fnPairsSpec : ChangeSpec := { name := "fnPairs", fn := fun _ => fun
  | [d] => { results := [.lit (.bool true)], args := [d] }
  | _ => none }
def fnPairsRow : OpenClaim := { program := "ythiojkpoeejkaaa", sum := "936ca858c4ebf8cc3f463a0ce07da0aad766a98ab41bef830b37423de4057819", func := "loop.example/g03202/laws.FnPairs", spec := "fnPairs", unfollowed := true, recurses := true, apart := false }
def FnPairsSaid : Prop := fnPairsRow.holds Try.pinned (OpenSpec.ofChange fnPairsSpec)

/-- ITS FALSE NEIGHBOUR: 'it returns false'. Refute it at one input. -/
def fnPairsWrong : ChangeSpec := { name := "fnPairs", fn := fun _ => fun
  | [d] => { results := [.lit (.bool false)], args := [d] }
  | _ => none }
def FnPairsWrongFalsely : Prop := fnPairsRow.holds Try.pinned (OpenSpec.ofChange fnPairsWrong)

/-- 'laws.FnPeaks': WHATEVER THE INPUT: true; the input reads as it did. -/
def fnPeaksSpec : ChangeSpec := { name := "fnPeaks", fn := fun _ => fun
  | [d] => { results := [.lit (.bool true)], args := [d] }
  | _ => none }
def fnPeaksRow : OpenClaim := { program := "ythiojkpoeejkaaa", sum := "936ca858c4ebf8cc3f463a0ce07da0aad766a98ab41bef830b37423de4057819", func := "loop.example/g03202/laws.FnPeaks", spec := "fnPeaks", unfollowed := true, recurses := true, apart := false }
def FnPeaksSaid : Prop := fnPeaksRow.holds Try.pinned (OpenSpec.ofChange fnPeaksSpec)

/-- ITS FALSE NEIGHBOUR: 'it returns false'. Refute it at one input. -/
def fnPeaksWrong : ChangeSpec := { name := "fnPeaks", fn := fun _ => fun
  | [d] => { results := [.lit (.bool false)], args := [d] }
  | _ => none }
def FnPeaksWrongFalsely : Prop := fnPeaksRow.holds Try.pinned (OpenSpec.ofChange fnPeaksWrong)

/-- 'laws.FnRounds': WHATEVER THE INPUT: true; the input reads as it did. -/
def fnRoundsSpec : ChangeSpec := { name := "fnRounds", fn := fun _ => fun
  | [d] => { results := [.lit (.bool true)], args := [d] }
  | _ => none }
def fnRoundsRow : OpenClaim := { program := "ythiojkpoeejkaaa", sum := "936ca858c4ebf8cc3f463a0ce07da0aad766a98ab41bef830b37423de4057819", func := "loop.example/g03202/laws.FnRounds", spec := "fnRounds", unfollowed := true, recurses := true, apart := false }
def FnRoundsSaid : Prop := fnRoundsRow.holds Try.pinned (OpenSpec.ofChange fnRoundsSpec)

/-- ITS FALSE NEIGHBOUR: 'it returns false'. Refute it at one input. -/
def fnRoundsWrong : ChangeSpec := { name := "fnRounds", fn := fun _ => fun
  | [d] => { results := [.lit (.bool false)], args := [d] }
  | _ => none }
def FnRoundsWrongFalsely : Prop := fnRoundsRow.holds Try.pinned (OpenSpec.ofChange fnRoundsWrong)

/-- 'laws.FnPaths': WHATEVER THE INPUT: true; the input reads as it did. -/
def fnPathsSpec : ChangeSpec := { name := "fnPaths", fn := fun _ => fun
  | [d] => { results := [.lit (.bool true)], args := [d] }
  | _ => none }
def fnPathsRow : OpenClaim := { program := "ythiojkpoeejkaaa", sum := "936ca858c4ebf8cc3f463a0ce07da0aad766a98ab41bef830b37423de4057819", func := "loop.example/g03202/laws.FnPaths", spec := "fnPaths", unfollowed := true, recurses := true, apart := false }
def FnPathsSaid : Prop := fnPathsRow.holds Try.pinned (OpenSpec.ofChange fnPathsSpec)

/-- ITS FALSE NEIGHBOUR: 'it returns false'. Refute it at one input. -/
def fnPathsWrong : ChangeSpec := { name := "fnPaths", fn := fun _ => fun
  | [d] => { results := [.lit (.bool false)], args := [d] }
  | _ => none }
def FnPathsWrongFalsely : Prop := fnPathsRow.holds Try.pinned (OpenSpec.ofChange fnPathsWrong)

/- THE SECOND FORM. 'bulk': how many values and letters a reading holds, each counted each time it is reached (what is shared counts as often as it is met; a slice's spare places count too). A statement '..UptoSaid' is the law's where the arguments, and the package variables that the reading takes, are together of bulk at most 1048576: NARROWER than '..Said'. Prove '..Said' where nothing that the law and all that it calls make is longer than what came in: it says more and counts as full. Else prove '..UptoSaid'. A law counts once. -/
mutual
def uptoBulk {H : Type} : DataW H → Nat
  | .lit (.string bytes) => bytes.length + 1
  | .lit _ => 1
  | .nil => 1
  | .ptr d => uptoBulk d + 1
  | .slice elems spare => uptoBulkAll elems + uptoBulkAll spare + 1
  | .agg parts => uptoBulkAll parts + 1
  | .iface _ d => uptoBulk d + 1
  | .map entries => uptoBulkEntries entries + 1
  | .held _ => 1
def uptoBulkAll {H : Type} : List (DataW H) → Nat
  | [] => 0
  | d :: r => uptoBulk d + uptoBulkAll r
def uptoBulkEntries {H : Type} : List (Lit × DataW H) → Nat
  | [] => 0
  | x :: r => uptoBulkEntry x + uptoBulkEntries r
def uptoBulkEntry {H : Type} : Lit × DataW H → Nat
  | (.string bytes, d) => bytes.length + uptoBulk d + 1
  | (_, d) => uptoBulk d + 1
 end
def uptoSmall : (H : Type) → List (DataW H) → Bool := fun _ ds => decide (uptoBulkAll ds ≤ 1048576)
def OpenSpec.upto (s : _root_.Go.ChangeSpec) : _root_.Go.OpenSpec := { _root_.Go.OpenSpec.ofChange s with cond := some uptoSmall }

/-- 'laws.FnApprovals', WHERE WHAT IT READS IS OF BULK AT MOST 1048576: true; the input reads as it did. -/
def fnApprovalsUptoRow : OpenClaim := { program := "ythiojkpoeejkaaa", sum := "936ca858c4ebf8cc3f463a0ce07da0aad766a98ab41bef830b37423de4057819", func := "loop.example/g03202/laws.FnApprovals", spec := "fnApprovals", unfollowed := true, recurses := true, apart := false, narrowed := true }
def FnApprovalsUptoSaid : Prop := fnApprovalsUptoRow.holds Try.pinned (OpenSpec.upto fnApprovalsSpec)

/-- 'laws.FnProfiles', WHERE WHAT IT READS IS OF BULK AT MOST 1048576: true; the input reads as it did. -/
def fnProfilesUptoRow : OpenClaim := { program := "ythiojkpoeejkaaa", sum := "936ca858c4ebf8cc3f463a0ce07da0aad766a98ab41bef830b37423de4057819", func := "loop.example/g03202/laws.FnProfiles", spec := "fnProfiles", unfollowed := true, recurses := true, apart := false, narrowed := true }
def FnProfilesUptoSaid : Prop := fnProfilesUptoRow.holds Try.pinned (OpenSpec.upto fnProfilesSpec)

/-- 'laws.FnScores', WHERE WHAT IT READS IS OF BULK AT MOST 1048576: true; the input reads as it did. -/
def fnScoresUptoRow : OpenClaim := { program := "ythiojkpoeejkaaa", sum := "936ca858c4ebf8cc3f463a0ce07da0aad766a98ab41bef830b37423de4057819", func := "loop.example/g03202/laws.FnScores", spec := "fnScores", unfollowed := true, recurses := true, apart := false, narrowed := true }
def FnScoresUptoSaid : Prop := fnScoresUptoRow.holds Try.pinned (OpenSpec.upto fnScoresSpec)

/-- 'laws.FnPairs', WHERE WHAT IT READS IS OF BULK AT MOST 1048576: true; the input reads as it did. -/
def fnPairsUptoRow : OpenClaim := { program := "ythiojkpoeejkaaa", sum := "936ca858c4ebf8cc3f463a0ce07da0aad766a98ab41bef830b37423de4057819", func := "loop.example/g03202/laws.FnPairs", spec := "fnPairs", unfollowed := true, recurses := true, apart := false, narrowed := true }
def FnPairsUptoSaid : Prop := fnPairsUptoRow.holds Try.pinned (OpenSpec.upto fnPairsSpec)

/-- 'laws.FnPeaks', WHERE WHAT IT READS IS OF BULK AT MOST 1048576: true; the input reads as it did. -/
def fnPeaksUptoRow : OpenClaim := { program := "ythiojkpoeejkaaa", sum := "936ca858c4ebf8cc3f463a0ce07da0aad766a98ab41bef830b37423de4057819", func := "loop.example/g03202/laws.FnPeaks", spec := "fnPeaks", unfollowed := true, recurses := true, apart := false, narrowed := true }
def FnPeaksUptoSaid : Prop := fnPeaksUptoRow.holds Try.pinned (OpenSpec.upto fnPeaksSpec)

/-- 'laws.FnRounds', WHERE WHAT IT READS IS OF BULK AT MOST 1048576: true; the input reads as it did. -/
def fnRoundsUptoRow : OpenClaim := { program := "ythiojkpoeejkaaa", sum := "936ca858c4ebf8cc3f463a0ce07da0aad766a98ab41bef830b37423de4057819", func := "loop.example/g03202/laws.FnRounds", spec := "fnRounds", unfollowed := true, recurses := true, apart := false, narrowed := true }
def FnRoundsUptoSaid : Prop := fnRoundsUptoRow.holds Try.pinned (OpenSpec.upto fnRoundsSpec)

/-- 'laws.FnPaths', WHERE WHAT IT READS IS OF BULK AT MOST 1048576: true; the input reads as it did. -/
def fnPathsUptoRow : OpenClaim := { program := "ythiojkpoeejkaaa", sum := "936ca858c4ebf8cc3f463a0ce07da0aad766a98ab41bef830b37423de4057819", func := "loop.example/g03202/laws.FnPaths", spec := "fnPaths", unfollowed := true, recurses := true, apart := false, narrowed := true }
def FnPathsUptoSaid : Prop := fnPathsUptoRow.holds Try.pinned (OpenSpec.upto fnPathsSpec)

end Rows
end Go.Proofs.Ythiojkpoeejkaaa
