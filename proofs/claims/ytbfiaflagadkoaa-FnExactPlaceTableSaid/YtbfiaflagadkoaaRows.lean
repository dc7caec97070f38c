/-
  No cell of these rows narrows 'for every input' (looked for: loops, veiled, ifaces, maps, wideKeys, modest, calm, conditions, laid).
  DERIVED. THE GIVEN ROWS OF THIS SEAT. 12 by the template 'for every input the law returns true; each argument reads behind the call as it read before'; 0 by the template 'total and deterministic' (their statements: YtbfiaflagadkoaaTotals.lean).
  GIVEN WITH THE SEED: the statements are not yours to turn. If you find one false, say at which input.
  Laid BY PROGRAM, IN A SANDBOX (cutbox-rows.mjs): the forced cells as the released guide's own fill.sh prints them over the translation 19350aacd48a2ac0… (all of the seat's roots in one cut). By AI agents, Wed Nov 11 2026. No macro, syntax, notation, axiom, sorry.
-/
import Derived.Test.YtbfiaflagadkoaaChecked
import GoSem.Claim
import GoSem.ClaimJoined
import GoSem.ClaimMapViews
import Derived.JoinedTies
import Derived.KernelRfl
namespace Go.Proofs.Ytbfiaflagadkoaa
/- THE CELL 'sum', in the pinned program and in every row, IS THE sha256 OF THE DUMP (.gsa) THAT YtbfiaflagadkoaaProg.lean LOADS. Nothing in Lean hashes anything: it is a label: what it is worth is what the hold of that sum in a sandbox is worth. -/
noncomputable def Try.pinned : Pinned := { name := "ytbfiaflagadkoaa", sum := "19350aacd48a2ac0a4422db15ff24b4447fc9129e4e99d146df43f4dbab6155b", checked := Try.checked }
namespace Rows
def none {H : Type} : Left H := { results := [], args := [] }

/-- 'laws.FnExactMaximinScores': WHATEVER THE INPUT: true; the input reads as it did. -/
def fnExactMaximinScoresSpec : ChangeSpec := { name := "fnExactMaximinScores", fn := fun _ => fun
  | [d] => { results := [.lit (.bool true)], args := [d] }
  | _ => none }
def fnExactMaximinScoresRow : OpenClaim := { program := "ytbfiaflagadkoaa", sum := "19350aacd48a2ac0a4422db15ff24b4447fc9129e4e99d146df43f4dbab6155b", func := "loop.example/g03202/laws.FnExactMaximinScores", spec := "fnExactMaximinScores", unfollowed := true, recurses := true, apart := false }
def FnExactMaximinScoresSaid : Prop := fnExactMaximinScoresRow.holds Try.pinned (OpenSpec.ofChange fnExactMaximinScoresSpec)

/-- ITS FALSE NEIGHBOUR: 'it returns false'. Refute it at one input. -/
def fnExactMaximinScoresWrong : ChangeSpec := { name := "fnExactMaximinScores", fn := fun _ => fun
  | [d] => { results := [.lit (.bool false)], args := [d] }
  | _ => none }
def FnExactMaximinScoresWrongFalsely : Prop := fnExactMaximinScoresRow.holds Try.pinned (OpenSpec.ofChange fnExactMaximinScoresWrong)

/-- 'laws.FnExactTopCycle': WHATEVER THE INPUT: true; the input reads as it did. -/
def fnExactTopCycleSpec : ChangeSpec := { name := "fnExactTopCycle", fn := fun _ => fun
  | [d] => { results := [.lit (.bool true)], args := [d] }
  | _ => none }
def fnExactTopCycleRow : OpenClaim := { program := "ytbfiaflagadkoaa", sum := "19350aacd48a2ac0a4422db15ff24b4447fc9129e4e99d146df43f4dbab6155b", func := "loop.example/g03202/laws.FnExactTopCycle", spec := "fnExactTopCycle", unfollowed := true, recurses := true, apart := false }
def FnExactTopCycleSaid : Prop := fnExactTopCycleRow.holds Try.pinned (OpenSpec.ofChange fnExactTopCycleSpec)

/-- ITS FALSE NEIGHBOUR: 'it returns false'. Refute it at one input. -/
def fnExactTopCycleWrong : ChangeSpec := { name := "fnExactTopCycle", fn := fun _ => fun
  | [d] => { results := [.lit (.bool false)], args := [d] }
  | _ => none }
def FnExactTopCycleWrongFalsely : Prop := fnExactTopCycleRow.holds Try.pinned (OpenSpec.ofChange fnExactTopCycleWrong)

/-- 'laws.FnExactMarginMatrix': WHATEVER THE INPUT: true; the input reads as it did. -/
def fnExactMarginMatrixSpec : ChangeSpec := { name := "fnExactMarginMatrix", fn := fun _ => fun
  | [d] => { results := [.lit (.bool true)], args := [d] }
  | _ => none }
def fnExactMarginMatrixRow : OpenClaim := { program := "ytbfiaflagadkoaa", sum := "19350aacd48a2ac0a4422db15ff24b4447fc9129e4e99d146df43f4dbab6155b", func := "loop.example/g03202/laws.FnExactMarginMatrix", spec := "fnExactMarginMatrix", unfollowed := true, recurses := true, apart := false }
def FnExactMarginMatrixSaid : Prop := fnExactMarginMatrixRow.holds Try.pinned (OpenSpec.ofChange fnExactMarginMatrixSpec)

/-- ITS FALSE NEIGHBOUR: 'it returns false'. Refute it at one input. -/
def fnExactMarginMatrixWrong : ChangeSpec := { name := "fnExactMarginMatrix", fn := fun _ => fun
  | [d] => { results := [.lit (.bool false)], args := [d] }
  | _ => none }
def FnExactMarginMatrixWrongFalsely : Prop := fnExactMarginMatrixRow.holds Try.pinned (OpenSpec.ofChange fnExactMarginMatrixWrong)

/-- 'laws.FnExactCountVoters': WHATEVER THE INPUT: true; the input reads as it did. -/
def fnExactCountVotersSpec : ChangeSpec := { name := "fnExactCountVoters", fn := fun _ => fun
  | [d] => { results := [.lit (.bool true)], args := [d] }
  | _ => none }
def fnExactCountVotersRow : OpenClaim := { program := "ytbfiaflagadkoaa", sum := "19350aacd48a2ac0a4422db15ff24b4447fc9129e4e99d146df43f4dbab6155b", func := "loop.example/g03202/laws.FnExactCountVoters", spec := "fnExactCountVoters", unfollowed := true, recurses := true, apart := false }
def FnExactCountVotersSaid : Prop := fnExactCountVotersRow.holds Try.pinned (OpenSpec.ofChange fnExactCountVotersSpec)

/-- ITS FALSE NEIGHBOUR: 'it returns false'. Refute it at one input. -/
def fnExactCountVotersWrong : ChangeSpec := { name := "fnExactCountVoters", fn := fun _ => fun
  | [d] => { results := [.lit (.bool false)], args := [d] }
  | _ => none }
def FnExactCountVotersWrongFalsely : Prop := fnExactCountVotersRow.holds Try.pinned (OpenSpec.ofChange fnExactCountVotersWrong)

/-- 'laws.FnExactCommitteeScore': WHATEVER THE INPUT: true; the input reads as it did. -/
def fnExactCommitteeScoreSpec : ChangeSpec := { name := "fnExactCommitteeScore", fn := fun _ => fun
  | [d1, d2] => { results := [.lit (.bool true)], args := [d1, d2] }
  | _ => none }
def fnExactCommitteeScoreRow : OpenClaim := { program := "ytbfiaflagadkoaa", sum := "19350aacd48a2ac0a4422db15ff24b4447fc9129e4e99d146df43f4dbab6155b", func := "loop.example/g03202/laws.FnExactCommitteeScore", spec := "fnExactCommitteeScore", unfollowed := true, recurses := true, apart := false }
def FnExactCommitteeScoreSaid : Prop := fnExactCommitteeScoreRow.holds Try.pinned (OpenSpec.ofChange fnExactCommitteeScoreSpec)

/-- ITS FALSE NEIGHBOUR: 'it returns false'. Refute it at one input. -/
def fnExactCommitteeScoreWrong : ChangeSpec := { name := "fnExactCommitteeScore", fn := fun _ => fun
  | [d1, d2] => { results := [.lit (.bool false)], args := [d1, d2] }
  | _ => none }
def FnExactCommitteeScoreWrongFalsely : Prop := fnExactCommitteeScoreRow.holds Try.pinned (OpenSpec.ofChange fnExactCommitteeScoreWrong)

/-- 'laws.FnExactIsWorstRestricted': WHATEVER THE INPUT: true; the input reads as it did. -/
def fnExactIsWorstRestrictedSpec : ChangeSpec := { name := "fnExactIsWorstRestricted", fn := fun _ => fun
  | [d] => { results := [.lit (.bool true)], args := [d] }
  | _ => none }
def fnExactIsWorstRestrictedRow : OpenClaim := { program := "ytbfiaflagadkoaa", sum := "19350aacd48a2ac0a4422db15ff24b4447fc9129e4e99d146df43f4dbab6155b", func := "loop.example/g03202/laws.FnExactIsWorstRestricted", spec := "fnExactIsWorstRestricted", unfollowed := true, recurses := true, apart := false }
def FnExactIsWorstRestrictedSaid : Prop := fnExactIsWorstRestrictedRow.holds Try.pinned (OpenSpec.ofChange fnExactIsWorstRestrictedSpec)

/-- ITS FALSE NEIGHBOUR: 'it returns false'. Refute it at one input. -/
def fnExactIsWorstRestrictedWrong : ChangeSpec := { name := "fnExactIsWorstRestricted", fn := fun _ => fun
  | [d] => { results := [.lit (.bool false)], args := [d] }
  | _ => none }
def FnExactIsWorstRestrictedWrongFalsely : Prop := fnExactIsWorstRestrictedRow.holds Try.pinned (OpenSpec.ofChange fnExactIsWorstRestrictedWrong)

/-- 'laws.FnExactPlaceTable': WHATEVER THE INPUT: true; the input reads as it did. -/
def fnExactPlaceTableSpec : ChangeSpec := { name := "fnExactPlaceTable", fn := fun _ => fun
  | [d] => { results := [.lit (.bool true)], args := [d] }
  | _ => none }
def fnExactPlaceTableRow : OpenClaim := { program := "ytbfiaflagadkoaa", sum := "19350aacd48a2ac0a4422db15ff24b4447fc9129e4e99d146df43f4dbab6155b", func := "loop.example/g03202/laws.FnExactPlaceTable", spec := "fnExactPlaceTable", unfollowed := true, recurses := true, apart := false }
def FnExactPlaceTableSaid : Prop := fnExactPlaceTableRow.holds Try.pinned (OpenSpec.ofChange fnExactPlaceTableSpec)

/-- ITS FALSE NEIGHBOUR: 'it returns false'. Refute it at one input. -/
def fnExactPlaceTableWrong : ChangeSpec := { name := "fnExactPlaceTable", fn := fun _ => fun
  | [d] => { results := [.lit (.bool false)], args := [d] }
  | _ => none }
def FnExactPlaceTableWrongFalsely : Prop := fnExactPlaceTableRow.holds Try.pinned (OpenSpec.ofChange fnExactPlaceTableWrong)

/-- 'laws.FnExactBucklinLevel': WHATEVER THE INPUT: true; the input reads as it did. -/
def fnExactBucklinLevelSpec : ChangeSpec := { name := "fnExactBucklinLevel", fn := fun _ => fun
  | [d] => { results := [.lit (.bool true)], args := [d] }
  | _ => none }
def fnExactBucklinLevelRow : OpenClaim := { program := "ytbfiaflagadkoaa", sum := "19350aacd48a2ac0a4422db15ff24b4447fc9129e4e99d146df43f4dbab6155b", func := "loop.example/g03202/laws.FnExactBucklinLevel", spec := "fnExactBucklinLevel", unfollowed := true, recurses := true, apart := false }
def FnExactBucklinLevelSaid : Prop := fnExactBucklinLevelRow.holds Try.pinned (OpenSpec.ofChange fnExactBucklinLevelSpec)

/-- ITS FALSE NEIGHBOUR: 'it returns false'. Refute it at one input. -/
def fnExactBucklinLevelWrong : ChangeSpec := { name := "fnExactBucklinLevel", fn := fun _ => fun
  | [d] => { results := [.lit (.bool false)], args := [d] }
  | _ => none }
def FnExactBucklinLevelWrongFalsely : Prop := fnExactBucklinLevelRow.holds Try.pinned (OpenSpec.ofChange fnExactBucklinLevelWrong)

/-- 'laws.FnExactMajorityAt': WHATEVER THE INPUT: true; the input reads as it did. -/
def fnExactMajorityAtSpec : ChangeSpec := { name := "fnExactMajorityAt", fn := fun _ => fun
  | [d] => { results := [.lit (.bool true)], args := [d] }
  | _ => none }
def fnExactMajorityAtRow : OpenClaim := { program := "ytbfiaflagadkoaa", sum := "19350aacd48a2ac0a4422db15ff24b4447fc9129e4e99d146df43f4dbab6155b", func := "loop.example/g03202/laws.FnExactMajorityAt", spec := "fnExactMajorityAt", unfollowed := true, recurses := true, apart := false }
def FnExactMajorityAtSaid : Prop := fnExactMajorityAtRow.holds Try.pinned (OpenSpec.ofChange fnExactMajorityAtSpec)

/-- ITS FALSE NEIGHBOUR: 'it returns false'. Refute it at one input. -/
def fnExactMajorityAtWrong : ChangeSpec := { name := "fnExactMajorityAt", fn := fun _ => fun
  | [d] => { results := [.lit (.bool false)], args := [d] }
  | _ => none }
def FnExactMajorityAtWrongFalsely : Prop := fnExactMajorityAtRow.holds Try.pinned (OpenSpec.ofChange fnExactMajorityAtWrong)

/-- 'laws.FnExactBucklinWinner': WHATEVER THE INPUT: true; the input reads as it did. -/
def fnExactBucklinWinnerSpec : ChangeSpec := { name := "fnExactBucklinWinner", fn := fun _ => fun
  | [d] => { results := [.lit (.bool true)], args := [d] }
  | _ => none }
def fnExactBucklinWinnerRow : OpenClaim := { program := "ytbfiaflagadkoaa", sum := "19350aacd48a2ac0a4422db15ff24b4447fc9129e4e99d146df43f4dbab6155b", func := "loop.example/g03202/laws.FnExactBucklinWinner", spec := "fnExactBucklinWinner", unfollowed := true, recurses := true, apart := false }
def FnExactBucklinWinnerSaid : Prop := fnExactBucklinWinnerRow.holds Try.pinned (OpenSpec.ofChange fnExactBucklinWinnerSpec)

/-- ITS FALSE NEIGHBOUR: 'it returns false'. Refute it at one input. -/
def fnExactBucklinWinnerWrong : ChangeSpec := { name := "fnExactBucklinWinner", fn := fun _ => fun
  | [d] => { results := [.lit (.bool false)], args := [d] }
  | _ => none }
def FnExactBucklinWinnerWrongFalsely : Prop := fnExactBucklinWinnerRow.holds Try.pinned (OpenSpec.ofChange fnExactBucklinWinnerWrong)

/-- 'laws.FnExactDropCandidate': WHATEVER THE INPUT: true; the input reads as it did. -/
def fnExactDropCandidateSpec : ChangeSpec := { name := "fnExactDropCandidate", fn := fun _ => fun
  | [d1, d2] => { results := [.lit (.bool true)], args := [d1, d2] }
  | _ => none }
def fnExactDropCandidateRow : OpenClaim := { program := "ytbfiaflagadkoaa", sum := "19350aacd48a2ac0a4422db15ff24b4447fc9129e4e99d146df43f4dbab6155b", func := "loop.example/g03202/laws.FnExactDropCandidate", spec := "fnExactDropCandidate", unfollowed := true, recurses := true, apart := false }
def FnExactDropCandidateSaid : Prop := fnExactDropCandidateRow.holds Try.pinned (OpenSpec.ofChange fnExactDropCandidateSpec)

/-- ITS FALSE NEIGHBOUR: 'it returns false'. Refute it at one input. -/
def fnExactDropCandidateWrong : ChangeSpec := { name := "fnExactDropCandidate", fn := fun _ => fun
  | [d1, d2] => { results := [.lit (.bool false)], args := [d1, d2] }
  | _ => none }
def FnExactDropCandidateWrongFalsely : Prop := fnExactDropCandidateRow.holds Try.pinned (OpenSpec.ofChange fnExactDropCandidateWrong)

/-- 'laws.FnApprovals': WHATEVER THE INPUT: true; the input reads as it did. -/
def fnApprovalsSpec : ChangeSpec := { name := "fnApprovals", fn := fun _ => fun
  | [d] => { results := [.lit (.bool true)], args := [d] }
  | _ => none }
def fnApprovalsRow : OpenClaim := { program := "ytbfiaflagadkoaa", sum := "19350aacd48a2ac0a4422db15ff24b4447fc9129e4e99d146df43f4dbab6155b", func := "loop.example/g03202/laws.FnApprovals", spec := "fnApprovals", unfollowed := true, recurses := true, apart := false }
def FnApprovalsSaid : Prop := fnApprovalsRow.holds Try.pinned (OpenSpec.ofChange fnApprovalsSpec)

/-- ITS FALSE NEIGHBOUR: 'it returns false'. Refute it at one input. -/
def fnApprovalsWrong : ChangeSpec := { name := "fnApprovals", fn := fun _ => fun
  | [d] => { results := [.lit (.bool false)], args := [d] }
  | _ => none }
def FnApprovalsWrongFalsely : Prop := fnApprovalsRow.holds Try.pinned (OpenSpec.ofChange fnApprovalsWrong)

/- THE SECOND FORM. 'bulk': how many values and letters a reading holds, each counted each time it is reached (what is shared counts as often as it is met; a slice's spare places count too). A statement '..UptoSaid' is the law's where the arguments, and the package variables that the reading takes, are together of bulk at most 1048576: NARROWER than '..Said'. Prove '..Said' where nothing that the law and all that it calls make is longer than what came in: it says more and counts as full. Else prove '..UptoSaid'. A law counts once. -/
mutual
def uptoBulk {H : Type} : DataW H → Nat
  | .lit (.string bytes) => bytes.length + 1
  | .lit _ => 1
  | .nil => 1
  | .ptr d => uptoBulk d + 1
  | .slice elems spare => uptoBulkAll elems + uptoBulkAll spare + 1
  | .agg parts => uptoBulkAll parts + 1
  | .iface _ d => uptoBulk d + 1
  | .map entries => uptoBulkEntries entries + 1
  | .held _ => 1
def uptoBulkAll {H : Type} : List (DataW H) → Nat
  | [] => 0
  | d :: r => uptoBulk d + uptoBulkAll r
def uptoBulkEntries {H : Type} : List (Lit × DataW H) → Nat
  | [] => 0
  | x :: r => uptoBulkEntry x + uptoBulkEntries r
def uptoBulkEntry {H : Type} : Lit × DataW H → Nat
  | (.string bytes, d) => bytes.length + uptoBulk d + 1
  | (_, d) => uptoBulk d + 1
 end
def uptoSmall : (H : Type) → List (DataW H) → Bool := fun _ ds => decide (uptoBulkAll ds ≤ 1048576)
def OpenSpec.upto (s : _root_.Go.ChangeSpec) : _root_.Go.OpenSpec := { _root_.Go.OpenSpec.ofChange s with cond := some uptoSmall }

/-- 'laws.FnExactMaximinScores', WHERE WHAT IT READS IS OF BULK AT MOST 1048576: true; the input reads as it did. -/
def fnExactMaximinScoresUptoRow : OpenClaim := { program := "ytbfiaflagadkoaa", sum := "19350aacd48a2ac0a4422db15ff24b4447fc9129e4e99d146df43f4dbab6155b", func := "loop.example/g03202/laws.FnExactMaximinScores", spec := "fnExactMaximinScores", unfollowed := true, recurses := true, apart := false, narrowed := true }
def FnExactMaximinScoresUptoSaid : Prop := fnExactMaximinScoresUptoRow.holds Try.pinned (OpenSpec.upto fnExactMaximinScoresSpec)

/-- 'laws.FnExactTopCycle', WHERE WHAT IT READS IS OF BULK AT MOST 1048576: true; the input reads as it did. -/
def fnExactTopCycleUptoRow : OpenClaim := { program := "ytbfiaflagadkoaa", sum := "19350aacd48a2ac0a4422db15ff24b4447fc9129e4e99d146df43f4dbab6155b", func := "loop.example/g03202/laws.FnExactTopCycle", spec := "fnExactTopCycle", unfollowed := true, recurses := true, apart := false, narrowed := true }
def FnExactTopCycleUptoSaid : Prop := fnExactTopCycleUptoRow.holds Try.pinned (OpenSpec.upto fnExactTopCycleSpec)

/-- 'laws.FnExactMarginMatrix', WHERE WHAT IT READS IS OF BULK AT MOST 1048576: true; the input reads as it did. -/
def fnExactMarginMatrixUptoRow : OpenClaim := { program := "ytbfiaflagadkoaa", sum := "19350aacd48a2ac0a4422db15ff24b4447fc9129e4e99d146df43f4dbab6155b", func := "loop.example/g03202/laws.FnExactMarginMatrix", spec := "fnExactMarginMatrix", unfollowed := true, recurses := true, apart := false, narrowed := true }
def FnExactMarginMatrixUptoSaid : Prop := fnExactMarginMatrixUptoRow.holds Try.pinned (OpenSpec.upto fnExactMarginMatrixSpec)

/-- 'laws.FnExactCountVoters', WHERE WHAT IT READS IS OF BULK AT MOST 1048576: true; the input reads as it did. -/
def fnExactCountVotersUptoRow : OpenClaim := { program := "ytbfiaflagadkoaa", sum := "19350aacd48a2ac0a4422db15ff24b4447fc9129e4e99d146df43f4dbab6155b", func := "loop.example/g03202/laws.FnExactCountVoters", spec := "fnExactCountVoters", unfollowed := true, recurses := true, apart := false, narrowed := true }
def FnExactCountVotersUptoSaid : Prop := fnExactCountVotersUptoRow.holds Try.pinned (OpenSpec.upto fnExactCountVotersSpec)

/-- 'laws.FnExactCommitteeScore', WHERE WHAT IT READS IS OF BULK AT MOST 1048576: true; the input reads as it did. -/
def fnExactCommitteeScoreUptoRow : OpenClaim := { program := "ytbfiaflagadkoaa", sum := "19350aacd48a2ac0a4422db15ff24b4447fc9129e4e99d146df43f4dbab6155b", func := "loop.example/g03202/laws.FnExactCommitteeScore", spec := "fnExactCommitteeScore", unfollowed := true, recurses := true, apart := false, narrowed := true }
def FnExactCommitteeScoreUptoSaid : Prop := fnExactCommitteeScoreUptoRow.holds Try.pinned (OpenSpec.upto fnExactCommitteeScoreSpec)

/-- 'laws.FnExactIsWorstRestricted', WHERE WHAT IT READS IS OF BULK AT MOST 1048576: true; the input reads as it did. -/
def fnExactIsWorstRestrictedUptoRow : OpenClaim := { program := "ytbfiaflagadkoaa", sum := "19350aacd48a2ac0a4422db15ff24b4447fc9129e4e99d146df43f4dbab6155b", func := "loop.example/g03202/laws.FnExactIsWorstRestricted", spec := "fnExactIsWorstRestricted", unfollowed := true, recurses := true, apart := false, narrowed := true }
def FnExactIsWorstRestrictedUptoSaid : Prop := fnExactIsWorstRestrictedUptoRow.holds Try.pinned (OpenSpec.upto fnExactIsWorstRestrictedSpec)

/-- 'laws.FnExactPlaceTable', WHERE WHAT IT READS IS OF BULK AT MOST 1048576: true; the input reads as it did. -/
def fnExactPlaceTableUptoRow : OpenClaim := { program := "ytbfiaflagadkoaa", sum := "19350aacd48a2ac0a4422db15ff24b4447fc9129e4e99d146df43f4dbab6155b", func := "loop.example/g03202/laws.FnExactPlaceTable", spec := "fnExactPlaceTable", unfollowed := true, recurses := true, apart := false, narrowed := true }
def FnExactPlaceTableUptoSaid : Prop := fnExactPlaceTableUptoRow.holds Try.pinned (OpenSpec.upto fnExactPlaceTableSpec)

/-- 'laws.FnExactBucklinLevel', WHERE WHAT IT READS IS OF BULK AT MOST 1048576: true; the input reads as it did. -/
def fnExactBucklinLevelUptoRow : OpenClaim := { program := "ytbfiaflagadkoaa", sum := "19350aacd48a2ac0a4422db15ff24b4447fc9129e4e99d146df43f4dbab6155b", func := "loop.example/g03202/laws.FnExactBucklinLevel", spec := "fnExactBucklinLevel", unfollowed := true, recurses := true, apart := false, narrowed := true }
def FnExactBucklinLevelUptoSaid : Prop := fnExactBucklinLevelUptoRow.holds Try.pinned (OpenSpec.upto fnExactBucklinLevelSpec)

/-- 'laws.FnExactMajorityAt', WHERE WHAT IT READS IS OF BULK AT MOST 1048576: true; the input reads as it did. -/
def fnExactMajorityAtUptoRow : OpenClaim := { program := "ytbfiaflagadkoaa", sum := "19350aacd48a2ac0a4422db15ff24b4447fc9129e4e99d146df43f4dbab6155b", func := "loop.example/g03202/laws.FnExactMajorityAt", spec := "fnExactMajorityAt", unfollowed := true, recurses := true, apart := false, narrowed := true }
def FnExactMajorityAtUptoSaid : Prop := fnExactMajorityAtUptoRow.holds Try.pinned (OpenSpec.upto fnExactMajorityAtSpec)

/-- 'laws.FnExactBucklinWinner', WHERE WHAT IT READS IS OF BULK AT MOST 1048576: true; the input reads as it did. -/
def fnExactBucklinWinnerUptoRow : OpenClaim := { program := "ytbfiaflagadkoaa", sum := "19350aacd48a2ac0a4422db15ff24b4447fc9129e4e99d146df43f4dbab6155b", func := "loop.example/g03202/laws.FnExactBucklinWinner", spec := "fnExactBucklinWinner", unfollowed := true, recurses := true, apart := false, narrowed := true }
def FnExactBucklinWinnerUptoSaid : Prop := fnExactBucklinWinnerUptoRow.holds Try.pinned (OpenSpec.upto fnExactBucklinWinnerSpec)

/-- 'laws.FnExactDropCandidate', WHERE WHAT IT READS IS OF BULK AT MOST 1048576: true; the input reads as it did. -/
def fnExactDropCandidateUptoRow : OpenClaim := { program := "ytbfiaflagadkoaa", sum := "19350aacd48a2ac0a4422db15ff24b4447fc9129e4e99d146df43f4dbab6155b", func := "loop.example/g03202/laws.FnExactDropCandidate", spec := "fnExactDropCandidate", unfollowed := true, recurses := true, apart := false, narrowed := true }
def FnExactDropCandidateUptoSaid : Prop := fnExactDropCandidateUptoRow.holds Try.pinned (OpenSpec.upto fnExactDropCandidateSpec)

/-- 'laws.FnApprovals', WHERE WHAT IT READS IS OF BULK AT MOST 1048576: true; the input reads as it did. -/
def fnApprovalsUptoRow : OpenClaim := { program := "ytbfiaflagadkoaa", sum := "19350aacd48a2ac0a4422db15ff24b4447fc9129e4e99d146df43f4dbab6155b", func := "loop.example/g03202/laws.FnApprovals", spec := "fnApprovals", unfollowed := true, recurses := true, apart := false, narrowed := true }
def FnApprovalsUptoSaid : Prop := fnApprovalsUptoRow.holds Try.pinned (OpenSpec.upto fnApprovalsSpec)

end Rows
end Go.Proofs.Ytbfiaflagadkoaa
