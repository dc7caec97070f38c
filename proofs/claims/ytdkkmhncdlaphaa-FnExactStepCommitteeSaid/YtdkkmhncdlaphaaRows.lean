/-
  No cell of these rows narrows 'for every input' (looked for: loops, veiled, ifaces, maps, wideKeys, modest, calm, conditions, laid).
  DERIVED. THE GIVEN ROWS OF THIS SEAT. 9 by the template 'for every input the law returns true; each argument reads behind the call as it read before'; 0 by the template 'total and deterministic' (their statements: YtdkkmhncdlaphaaTotals.lean).
  GIVEN WITH THE SEED: the statements are not yours to turn. If you find one false, say at which input.
  Laid BY PROGRAM, IN A SANDBOX (cutbox-rows.mjs): the forced cells as the released guide's own fill.sh prints them over the translation fd8a7ce53c3b5449… (all of the seat's roots in one cut). By AI agents, Wed Nov 11 2026. No macro, syntax, notation, axiom, sorry.
-/
import Derived.Test.YtdkkmhncdlaphaaChecked
import GoSem.Claim
import GoSem.ClaimJoined
import GoSem.ClaimMapViews
import Derived.JoinedTies
import Derived.KernelRfl
namespace Go.Proofs.Ytdkkmhncdlaphaa
/- THE CELL 'sum', in the pinned program and in every row, IS THE sha256 OF THE DUMP (.gsa) THAT YtdkkmhncdlaphaaProg.lean LOADS. Nothing in Lean hashes anything: it is a label: what it is worth is what the hold of that sum in a sandbox is worth. -/
noncomputable def Try.pinned : Pinned := { name := "ytdkkmhncdlaphaa", sum := "fd8a7ce53c3b5449910eda8165a6346f809dcfba044785e78581a30329edbef9", checked := Try.checked }
namespace Rows
def none {H : Type} : Left H := { results := [], args := [] }

/-- 'laws.FnExactSeatsFor': WHATEVER THE INPUT: true; the input reads as it did. -/
def fnExactSeatsForSpec : ChangeSpec := { name := "fnExactSeatsFor", fn := fun _ => fun
  | [d1, d2, d3] => { results := [.lit (.bool true)], args := [d1, d2, d3] }
  | _ => none }
def fnExactSeatsForRow : OpenClaim := { program := "ytdkkmhncdlaphaa", sum := "fd8a7ce53c3b5449910eda8165a6346f809dcfba044785e78581a30329edbef9", func := "loop.example/g03202/laws.FnExactSeatsFor", spec := "fnExactSeatsFor", unfollowed := true, recurses := true, apart := false }
def FnExactSeatsForSaid : Prop := fnExactSeatsForRow.holds Try.pinned (OpenSpec.ofChange fnExactSeatsForSpec)

/-- ITS FALSE NEIGHBOUR: 'it returns false'. Refute it at one input. -/
def fnExactSeatsForWrong : ChangeSpec := { name := "fnExactSeatsFor", fn := fun _ => fun
  | [d1, d2, d3] => { results := [.lit (.bool false)], args := [d1, d2, d3] }
  | _ => none }
def FnExactSeatsForWrongFalsely : Prop := fnExactSeatsForRow.holds Try.pinned (OpenSpec.ofChange fnExactSeatsForWrong)

/-- 'laws.FnExactApprovalScores': WHATEVER THE INPUT: true; the input reads as it did. -/
def fnExactApprovalScoresSpec : ChangeSpec := { name := "fnExactApprovalScores", fn := fun _ => fun
  | [d] => { results := [.lit (.bool true)], args := [d] }
  | _ => none }
def fnExactApprovalScoresRow : OpenClaim := { program := "ytdkkmhncdlaphaa", sum := "fd8a7ce53c3b5449910eda8165a6346f809dcfba044785e78581a30329edbef9", func := "loop.example/g03202/laws.FnExactApprovalScores", spec := "fnExactApprovalScores", unfollowed := true, recurses := true, apart := false }
def FnExactApprovalScoresSaid : Prop := fnExactApprovalScoresRow.holds Try.pinned (OpenSpec.ofChange fnExactApprovalScoresSpec)

/-- ITS FALSE NEIGHBOUR: 'it returns false'. Refute it at one input. -/
def fnExactApprovalScoresWrong : ChangeSpec := { name := "fnExactApprovalScores", fn := fun _ => fun
  | [d] => { results := [.lit (.bool false)], args := [d] }
  | _ => none }
def FnExactApprovalScoresWrongFalsely : Prop := fnExactApprovalScoresRow.holds Try.pinned (OpenSpec.ofChange fnExactApprovalScoresWrong)

/-- 'laws.FnExactCountVoters': WHATEVER THE INPUT: true; the input reads as it did. -/
def fnExactCountVotersSpec : ChangeSpec := { name := "fnExactCountVoters", fn := fun _ => fun
  | [d] => { results := [.lit (.bool true)], args := [d] }
  | _ => none }
def fnExactCountVotersRow : OpenClaim := { program := "ytdkkmhncdlaphaa", sum := "fd8a7ce53c3b5449910eda8165a6346f809dcfba044785e78581a30329edbef9", func := "loop.example/g03202/laws.FnExactCountVoters", spec := "fnExactCountVoters", unfollowed := true, recurses := true, apart := false }
def FnExactCountVotersSaid : Prop := fnExactCountVotersRow.holds Try.pinned (OpenSpec.ofChange fnExactCountVotersSpec)

/-- ITS FALSE NEIGHBOUR: 'it returns false'. Refute it at one input. -/
def fnExactCountVotersWrong : ChangeSpec := { name := "fnExactCountVoters", fn := fun _ => fun
  | [d] => { results := [.lit (.bool false)], args := [d] }
  | _ => none }
def FnExactCountVotersWrongFalsely : Prop := fnExactCountVotersRow.holds Try.pinned (OpenSpec.ofChange fnExactCountVotersWrong)

/-- 'laws.FnExactStepCommittee': WHATEVER THE INPUT: true; the input reads as it did. -/
def fnExactStepCommitteeSpec : ChangeSpec := { name := "fnExactStepCommittee", fn := fun _ => fun
  | [d1, d2] => { results := [.lit (.bool true)], args := [d1, d2] }
  | _ => none }
def fnExactStepCommitteeRow : OpenClaim := { program := "ytdkkmhncdlaphaa", sum := "fd8a7ce53c3b5449910eda8165a6346f809dcfba044785e78581a30329edbef9", func := "loop.example/g03202/laws.FnExactStepCommittee", spec := "fnExactStepCommittee", unfollowed := true, recurses := true, apart := false }
def FnExactStepCommitteeSaid : Prop := fnExactStepCommitteeRow.holds Try.pinned (OpenSpec.ofChange fnExactStepCommitteeSpec)

/-- ITS FALSE NEIGHBOUR: 'it returns false'. Refute it at one input. -/
def fnExactStepCommitteeWrong : ChangeSpec := { name := "fnExactStepCommittee", fn := fun _ => fun
  | [d1, d2] => { results := [.lit (.bool false)], args := [d1, d2] }
  | _ => none }
def FnExactStepCommitteeWrongFalsely : Prop := fnExactStepCommitteeRow.holds Try.pinned (OpenSpec.ofChange fnExactStepCommitteeWrong)

/-- 'laws.FnExactCommitteesOf': WHATEVER THE INPUT: true; the input reads as it did. -/
def fnExactCommitteesOfSpec : ChangeSpec := { name := "fnExactCommitteesOf", fn := fun _ => fun
  | [d1, d2] => { results := [.lit (.bool true)], args := [d1, d2] }
  | _ => none }
def fnExactCommitteesOfRow : OpenClaim := { program := "ytdkkmhncdlaphaa", sum := "fd8a7ce53c3b5449910eda8165a6346f809dcfba044785e78581a30329edbef9", func := "loop.example/g03202/laws.FnExactCommitteesOf", spec := "fnExactCommitteesOf", unfollowed := true, recurses := true, apart := false }
def FnExactCommitteesOfSaid : Prop := fnExactCommitteesOfRow.holds Try.pinned (OpenSpec.ofChange fnExactCommitteesOfSpec)

/-- ITS FALSE NEIGHBOUR: 'it returns false'. Refute it at one input. -/
def fnExactCommitteesOfWrong : ChangeSpec := { name := "fnExactCommitteesOf", fn := fun _ => fun
  | [d1, d2] => { results := [.lit (.bool false)], args := [d1, d2] }
  | _ => none }
def FnExactCommitteesOfWrongFalsely : Prop := fnExactCommitteesOfRow.holds Try.pinned (OpenSpec.ofChange fnExactCommitteesOfWrong)

/-- 'laws.FnExactIsJust': WHATEVER THE INPUT: true; the input reads as it did. -/
def fnExactIsJustSpec : ChangeSpec := { name := "fnExactIsJust", fn := fun _ => fun
  | [d1, d2, d3] => { results := [.lit (.bool true)], args := [d1, d2, d3] }
  | _ => none }
def fnExactIsJustRow : OpenClaim := { program := "ytdkkmhncdlaphaa", sum := "fd8a7ce53c3b5449910eda8165a6346f809dcfba044785e78581a30329edbef9", func := "loop.example/g03202/laws.FnExactIsJust", spec := "fnExactIsJust", unfollowed := true, recurses := true, apart := false }
def FnExactIsJustSaid : Prop := fnExactIsJustRow.holds Try.pinned (OpenSpec.ofChange fnExactIsJustSpec)

/-- ITS FALSE NEIGHBOUR: 'it returns false'. Refute it at one input. -/
def fnExactIsJustWrong : ChangeSpec := { name := "fnExactIsJust", fn := fun _ => fun
  | [d1, d2, d3] => { results := [.lit (.bool false)], args := [d1, d2, d3] }
  | _ => none }
def FnExactIsJustWrongFalsely : Prop := fnExactIsJustRow.holds Try.pinned (OpenSpec.ofChange fnExactIsJustWrong)

/-- 'laws.FnExactBestCommittee': WHATEVER THE INPUT: true; the input reads as it did. -/
def fnExactBestCommitteeSpec : ChangeSpec := { name := "fnExactBestCommittee", fn := fun _ => fun
  | [d1, d2] => { results := [.lit (.bool true)], args := [d1, d2] }
  | _ => none }
def fnExactBestCommitteeRow : OpenClaim := { program := "ytdkkmhncdlaphaa", sum := "fd8a7ce53c3b5449910eda8165a6346f809dcfba044785e78581a30329edbef9", func := "loop.example/g03202/laws.FnExactBestCommittee", spec := "fnExactBestCommittee", unfollowed := true, recurses := true, apart := false }
def FnExactBestCommitteeSaid : Prop := fnExactBestCommitteeRow.holds Try.pinned (OpenSpec.ofChange fnExactBestCommitteeSpec)

/-- ITS FALSE NEIGHBOUR: 'it returns false'. Refute it at one input. -/
def fnExactBestCommitteeWrong : ChangeSpec := { name := "fnExactBestCommittee", fn := fun _ => fun
  | [d1, d2] => { results := [.lit (.bool false)], args := [d1, d2] }
  | _ => none }
def FnExactBestCommitteeWrongFalsely : Prop := fnExactBestCommitteeRow.holds Try.pinned (OpenSpec.ofChange fnExactBestCommitteeWrong)

/-- 'laws.FnExactCoverCommittee': WHATEVER THE INPUT: true; the input reads as it did. -/
def fnExactCoverCommitteeSpec : ChangeSpec := { name := "fnExactCoverCommittee", fn := fun _ => fun
  | [d1, d2] => { results := [.lit (.bool true)], args := [d1, d2] }
  | _ => none }
def fnExactCoverCommitteeRow : OpenClaim := { program := "ytdkkmhncdlaphaa", sum := "fd8a7ce53c3b5449910eda8165a6346f809dcfba044785e78581a30329edbef9", func := "loop.example/g03202/laws.FnExactCoverCommittee", spec := "fnExactCoverCommittee", unfollowed := true, recurses := true, apart := false }
def FnExactCoverCommitteeSaid : Prop := fnExactCoverCommitteeRow.holds Try.pinned (OpenSpec.ofChange fnExactCoverCommitteeSpec)

/-- ITS FALSE NEIGHBOUR: 'it returns false'. Refute it at one input. -/
def fnExactCoverCommitteeWrong : ChangeSpec := { name := "fnExactCoverCommittee", fn := fun _ => fun
  | [d1, d2] => { results := [.lit (.bool false)], args := [d1, d2] }
  | _ => none }
def FnExactCoverCommitteeWrongFalsely : Prop := fnExactCoverCommitteeRow.holds Try.pinned (OpenSpec.ofChange fnExactCoverCommitteeWrong)

/-- 'laws.FnExactCommitteeScore': WHATEVER THE INPUT: true; the input reads as it did. -/
def fnExactCommitteeScoreSpec : ChangeSpec := { name := "fnExactCommitteeScore", fn := fun _ => fun
  | [d1, d2] => { results := [.lit (.bool true)], args := [d1, d2] }
  | _ => none }
def fnExactCommitteeScoreRow : OpenClaim := { program := "ytdkkmhncdlaphaa", sum := "fd8a7ce53c3b5449910eda8165a6346f809dcfba044785e78581a30329edbef9", func := "loop.example/g03202/laws.FnExactCommitteeScore", spec := "fnExactCommitteeScore", unfollowed := true, recurses := true, apart := false }
def FnExactCommitteeScoreSaid : Prop := fnExactCommitteeScoreRow.holds Try.pinned (OpenSpec.ofChange fnExactCommitteeScoreSpec)

/-- ITS FALSE NEIGHBOUR: 'it returns false'. Refute it at one input. -/
def fnExactCommitteeScoreWrong : ChangeSpec := { name := "fnExactCommitteeScore", fn := fun _ => fun
  | [d1, d2] => { results := [.lit (.bool false)], args := [d1, d2] }
  | _ => none }
def FnExactCommitteeScoreWrongFalsely : Prop := fnExactCommitteeScoreRow.holds Try.pinned (OpenSpec.ofChange fnExactCommitteeScoreWrong)

/- THE SECOND FORM. 'bulk': how many values and letters a reading holds, each counted each time it is reached (what is shared counts as often as it is met; a slice's spare places count too). A statement '..UptoSaid' is the law's where the arguments, and the package variables that the reading takes, are together of bulk at most 1048576: NARROWER than '..Said'. Prove '..Said' where nothing that the law and all that it calls make is longer than what came in: it says more and counts as full. Else prove '..UptoSaid'. A law counts once. -/
mutual
def uptoBulk {H : Type} : DataW H → Nat
  | .lit (.string bytes) => bytes.length + 1
  | .lit _ => 1
  | .nil => 1
  | .ptr d => uptoBulk d + 1
  | .slice elems spare => uptoBulkAll elems + uptoBulkAll spare + 1
  | .agg parts => uptoBulkAll parts + 1
  | .iface _ d => uptoBulk d + 1
  | .map entries => uptoBulkEntries entries + 1
  | .held _ => 1
def uptoBulkAll {H : Type} : List (DataW H) → Nat
  | [] => 0
  | d :: r => uptoBulk d + uptoBulkAll r
def uptoBulkEntries {H : Type} : List (Lit × DataW H) → Nat
  | [] => 0
  | x :: r => uptoBulkEntry x + uptoBulkEntries r
def uptoBulkEntry {H : Type} : Lit × DataW H → Nat
  | (.string bytes, d) => bytes.length + uptoBulk d + 1
  | (_, d) => uptoBulk d + 1
 end
def uptoSmall : (H : Type) → List (DataW H) → Bool := fun _ ds => decide (uptoBulkAll ds ≤ 1048576)
def OpenSpec.upto (s : _root_.Go.ChangeSpec) : _root_.Go.OpenSpec := { _root_.Go.OpenSpec.ofChange s with cond := some uptoSmall }

/-- 'laws.FnExactSeatsFor', WHERE WHAT IT READS IS OF BULK AT MOST 1048576: true; the input reads as it did. -/
def fnExactSeatsForUptoRow : OpenClaim := { program := "ytdkkmhncdlaphaa", sum := "fd8a7ce53c3b5449910eda8165a6346f809dcfba044785e78581a30329edbef9", func := "loop.example/g03202/laws.FnExactSeatsFor", spec := "fnExactSeatsFor", unfollowed := true, recurses := true, apart := false, narrowed := true }
def FnExactSeatsForUptoSaid : Prop := fnExactSeatsForUptoRow.holds Try.pinned (OpenSpec.upto fnExactSeatsForSpec)

/-- 'laws.FnExactApprovalScores', WHERE WHAT IT READS IS OF BULK AT MOST 1048576: true; the input reads as it did. -/
def fnExactApprovalScoresUptoRow : OpenClaim := { program := "ytdkkmhncdlaphaa", sum := "fd8a7ce53c3b5449910eda8165a6346f809dcfba044785e78581a30329edbef9", func := "loop.example/g03202/laws.FnExactApprovalScores", spec := "fnExactApprovalScores", unfollowed := true, recurses := true, apart := false, narrowed := true }
def FnExactApprovalScoresUptoSaid : Prop := fnExactApprovalScoresUptoRow.holds Try.pinned (OpenSpec.upto fnExactApprovalScoresSpec)

/-- 'laws.FnExactCountVoters', WHERE WHAT IT READS IS OF BULK AT MOST 1048576: true; the input reads as it did. -/
def fnExactCountVotersUptoRow : OpenClaim := { program := "ytdkkmhncdlaphaa", sum := "fd8a7ce53c3b5449910eda8165a6346f809dcfba044785e78581a30329edbef9", func := "loop.example/g03202/laws.FnExactCountVoters", spec := "fnExactCountVoters", unfollowed := true, recurses := true, apart := false, narrowed := true }
def FnExactCountVotersUptoSaid : Prop := fnExactCountVotersUptoRow.holds Try.pinned (OpenSpec.upto fnExactCountVotersSpec)

/-- 'laws.FnExactStepCommittee', WHERE WHAT IT READS IS OF BULK AT MOST 1048576: true; the input reads as it did. -/
def fnExactStepCommitteeUptoRow : OpenClaim := { program := "ytdkkmhncdlaphaa", sum := "fd8a7ce53c3b5449910eda8165a6346f809dcfba044785e78581a30329edbef9", func := "loop.example/g03202/laws.FnExactStepCommittee", spec := "fnExactStepCommittee", unfollowed := true, recurses := true, apart := false, narrowed := true }
def FnExactStepCommitteeUptoSaid : Prop := fnExactStepCommitteeUptoRow.holds Try.pinned (OpenSpec.upto fnExactStepCommitteeSpec)

/-- 'laws.FnExactCommitteesOf', WHERE WHAT IT READS IS OF BULK AT MOST 1048576: true; the input reads as it did. -/
def fnExactCommitteesOfUptoRow : OpenClaim := { program := "ytdkkmhncdlaphaa", sum := "fd8a7ce53c3b5449910eda8165a6346f809dcfba044785e78581a30329edbef9", func := "loop.example/g03202/laws.FnExactCommitteesOf", spec := "fnExactCommitteesOf", unfollowed := true, recurses := true, apart := false, narrowed := true }
def FnExactCommitteesOfUptoSaid : Prop := fnExactCommitteesOfUptoRow.holds Try.pinned (OpenSpec.upto fnExactCommitteesOfSpec)

/-- 'laws.FnExactIsJust', WHERE WHAT IT READS IS OF BULK AT MOST 1048576: true; the input reads as it did. -/
def fnExactIsJustUptoRow : OpenClaim := { program := "ytdkkmhncdlaphaa", sum := "fd8a7ce53c3b5449910eda8165a6346f809dcfba044785e78581a30329edbef9", func := "loop.example/g03202/laws.FnExactIsJust", spec := "fnExactIsJust", unfollowed := true, recurses := true, apart := false, narrowed := true }
def FnExactIsJustUptoSaid : Prop := fnExactIsJustUptoRow.holds Try.pinned (OpenSpec.upto fnExactIsJustSpec)

/-- 'laws.FnExactBestCommittee', WHERE WHAT IT READS IS OF BULK AT MOST 1048576: true; the input reads as it did. -/
def fnExactBestCommitteeUptoRow : OpenClaim := { program := "ytdkkmhncdlaphaa", sum := "fd8a7ce53c3b5449910eda8165a6346f809dcfba044785e78581a30329edbef9", func := "loop.example/g03202/laws.FnExactBestCommittee", spec := "fnExactBestCommittee", unfollowed := true, recurses := true, apart := false, narrowed := true }
def FnExactBestCommitteeUptoSaid : Prop := fnExactBestCommitteeUptoRow.holds Try.pinned (OpenSpec.upto fnExactBestCommitteeSpec)

/-- 'laws.FnExactCoverCommittee', WHERE WHAT IT READS IS OF BULK AT MOST 1048576: true; the input reads as it did. -/
def fnExactCoverCommitteeUptoRow : OpenClaim := { program := "ytdkkmhncdlaphaa", sum := "fd8a7ce53c3b5449910eda8165a6346f809dcfba044785e78581a30329edbef9", func := "loop.example/g03202/laws.FnExactCoverCommittee", spec := "fnExactCoverCommittee", unfollowed := true, recurses := true, apart := false, narrowed := true }
def FnExactCoverCommitteeUptoSaid : Prop := fnExactCoverCommitteeUptoRow.holds Try.pinned (OpenSpec.upto fnExactCoverCommitteeSpec)

/-- 'laws.FnExactCommitteeScore', WHERE WHAT IT READS IS OF BULK AT MOST 1048576: true; the input reads as it did. -/
def fnExactCommitteeScoreUptoRow : OpenClaim := { program := "ytdkkmhncdlaphaa", sum := "fd8a7ce53c3b5449910eda8165a6346f809dcfba044785e78581a30329edbef9", func := "loop.example/g03202/laws.FnExactCommitteeScore", spec := "fnExactCommitteeScore", unfollowed := true, recurses := true, apart := false, narrowed := true }
def FnExactCommitteeScoreUptoSaid : Prop := fnExactCommitteeScoreUptoRow.holds Try.pinned (OpenSpec.upto fnExactCommitteeScoreSpec)

end Rows
end Go.Proofs.Ytdkkmhncdlaphaa
