/-
  No cell of these rows narrows 'for every input' (looked for: loops, veiled, ifaces, maps, wideKeys, modest, calm, conditions, laid).
  DERIVED. THE GIVEN ROWS OF THIS SEAT. 12 by the template 'for every input the law returns true; each argument reads behind the call as it read before'; 0 by the template 'total and deterministic' (their statements: YtblkbdfndbpndaaGreatTotals.lean).
  GIVEN WITH THE SEED: the statements are not yours to turn. If you find one false, say at which input.
  Laid BY PROGRAM, IN A SANDBOX (cutbox-rows.mjs): the forced cells as the released guide's own fill.sh prints them over the translation 6dd46bd3f17a66d7… (all of the seat's roots in one cut). By AI agents, Wed Nov 11 2026. No macro, syntax, notation, axiom, sorry.
-/
import Derived.Test.YtblkbdfndbpndaaGreatChecked
import GoSem.Claim
import GoSem.ClaimJoined
import GoSem.ClaimMapViews
import Derived.JoinedTies
import Derived.KernelRfl
namespace Go.Proofs.YtblkbdfndbpndaaGreat
/- THE CELL 'sum', in the pinned program and in every row, IS THE sha256 OF THE DUMP (.gsa) THAT YtblkbdfndbpndaaGreatProg.lean LOADS. Nothing in Lean hashes anything: it is a label: what it is worth is what the hold of that sum in a sandbox is worth. -/
noncomputable def Tryz.pinned : Pinned := { name := "ytblkbdfndbpndaagreat", sum := "6dd46bd3f17a66d766fa87ce181d2a2f18f5de96ef2f25834a39dc29de429b7e", checked := Tryz.checked }
namespace Rows
def none {H : Type} : Left H := { results := [], args := [] }

/-- 'laws.FnExactWinnerBy': WHATEVER THE INPUT: true; the input reads as it did. -/
def fnExactWinnerBySpec : ChangeSpec := { name := "fnExactWinnerBy", fn := fun _ => fun
  | [d1, d2] => { results := [.lit (.bool true)], args := [d1, d2] }
  | _ => none }
def fnExactWinnerByRow : OpenClaim := { program := "ytblkbdfndbpndaagreat", sum := "6dd46bd3f17a66d766fa87ce181d2a2f18f5de96ef2f25834a39dc29de429b7e", func := "loop.example/g03202/laws.FnExactWinnerBy", spec := "fnExactWinnerBy", unfollowed := true, recurses := true, apart := false }
def FnExactWinnerBySaid : Prop := fnExactWinnerByRow.holds Tryz.pinned (OpenSpec.ofChange fnExactWinnerBySpec)

/-- ITS FALSE NEIGHBOUR: 'it returns false'. Refute it at one input. -/
def fnExactWinnerByWrong : ChangeSpec := { name := "fnExactWinnerBy", fn := fun _ => fun
  | [d1, d2] => { results := [.lit (.bool false)], args := [d1, d2] }
  | _ => none }
def FnExactWinnerByWrongFalsely : Prop := fnExactWinnerByRow.holds Tryz.pinned (OpenSpec.ofChange fnExactWinnerByWrong)

/-- 'laws.FnExactWinnersBy': WHATEVER THE INPUT: true; the input reads as it did. -/
def fnExactWinnersBySpec : ChangeSpec := { name := "fnExactWinnersBy", fn := fun _ => fun
  | [d1, d2] => { results := [.lit (.bool true)], args := [d1, d2] }
  | _ => none }
def fnExactWinnersByRow : OpenClaim := { program := "ytblkbdfndbpndaagreat", sum := "6dd46bd3f17a66d766fa87ce181d2a2f18f5de96ef2f25834a39dc29de429b7e", func := "loop.example/g03202/laws.FnExactWinnersBy", spec := "fnExactWinnersBy", unfollowed := true, recurses := true, apart := false }
def FnExactWinnersBySaid : Prop := fnExactWinnersByRow.holds Tryz.pinned (OpenSpec.ofChange fnExactWinnersBySpec)

/-- ITS FALSE NEIGHBOUR: 'it returns false'. Refute it at one input. -/
def fnExactWinnersByWrong : ChangeSpec := { name := "fnExactWinnersBy", fn := fun _ => fun
  | [d1, d2] => { results := [.lit (.bool false)], args := [d1, d2] }
  | _ => none }
def FnExactWinnersByWrongFalsely : Prop := fnExactWinnersByRow.holds Tryz.pinned (OpenSpec.ofChange fnExactWinnersByWrong)

/-- 'laws.FnExactSplitFailure': WHATEVER THE INPUT: true; the input reads as it did. -/
def fnExactSplitFailureSpec : ChangeSpec := { name := "fnExactSplitFailure", fn := fun _ => fun
  | [d1, d2, d3] => { results := [.lit (.bool true)], args := [d1, d2, d3] }
  | _ => none }
def fnExactSplitFailureRow : OpenClaim := { program := "ytblkbdfndbpndaagreat", sum := "6dd46bd3f17a66d766fa87ce181d2a2f18f5de96ef2f25834a39dc29de429b7e", func := "loop.example/g03202/laws.FnExactSplitFailure", spec := "fnExactSplitFailure", unfollowed := true, recurses := true, apart := false }
def FnExactSplitFailureSaid : Prop := fnExactSplitFailureRow.holds Tryz.pinned (OpenSpec.ofChange fnExactSplitFailureSpec)

/-- ITS FALSE NEIGHBOUR: 'it returns false'. Refute it at one input. -/
def fnExactSplitFailureWrong : ChangeSpec := { name := "fnExactSplitFailure", fn := fun _ => fun
  | [d1, d2, d3] => { results := [.lit (.bool false)], args := [d1, d2, d3] }
  | _ => none }
def FnExactSplitFailureWrongFalsely : Prop := fnExactSplitFailureRow.holds Tryz.pinned (OpenSpec.ofChange fnExactSplitFailureWrong)

/-- 'laws.FnExactMissesCondorcet': WHATEVER THE INPUT: true; the input reads as it did. -/
def fnExactMissesCondorcetSpec : ChangeSpec := { name := "fnExactMissesCondorcet", fn := fun _ => fun
  | [d1, d2] => { results := [.lit (.bool true)], args := [d1, d2] }
  | _ => none }
def fnExactMissesCondorcetRow : OpenClaim := { program := "ytblkbdfndbpndaagreat", sum := "6dd46bd3f17a66d766fa87ce181d2a2f18f5de96ef2f25834a39dc29de429b7e", func := "loop.example/g03202/laws.FnExactMissesCondorcet", spec := "fnExactMissesCondorcet", unfollowed := true, recurses := true, apart := false }
def FnExactMissesCondorcetSaid : Prop := fnExactMissesCondorcetRow.holds Tryz.pinned (OpenSpec.ofChange fnExactMissesCondorcetSpec)

/-- ITS FALSE NEIGHBOUR: 'it returns false'. Refute it at one input. -/
def fnExactMissesCondorcetWrong : ChangeSpec := { name := "fnExactMissesCondorcet", fn := fun _ => fun
  | [d1, d2] => { results := [.lit (.bool false)], args := [d1, d2] }
  | _ => none }
def FnExactMissesCondorcetWrongFalsely : Prop := fnExactMissesCondorcetRow.holds Tryz.pinned (OpenSpec.ofChange fnExactMissesCondorcetWrong)

/-- 'laws.FnExactAbstainGain': WHATEVER THE INPUT: true; the input reads as it did. -/
def fnExactAbstainGainSpec : ChangeSpec := { name := "fnExactAbstainGain", fn := fun _ => fun
  | [d1, d2] => { results := [.lit (.bool true)], args := [d1, d2] }
  | _ => none }
def fnExactAbstainGainRow : OpenClaim := { program := "ytblkbdfndbpndaagreat", sum := "6dd46bd3f17a66d766fa87ce181d2a2f18f5de96ef2f25834a39dc29de429b7e", func := "loop.example/g03202/laws.FnExactAbstainGain", spec := "fnExactAbstainGain", unfollowed := true, recurses := true, apart := false }
def FnExactAbstainGainSaid : Prop := fnExactAbstainGainRow.holds Tryz.pinned (OpenSpec.ofChange fnExactAbstainGainSpec)

/-- ITS FALSE NEIGHBOUR: 'it returns false'. Refute it at one input. -/
def fnExactAbstainGainWrong : ChangeSpec := { name := "fnExactAbstainGain", fn := fun _ => fun
  | [d1, d2] => { results := [.lit (.bool false)], args := [d1, d2] }
  | _ => none }
def FnExactAbstainGainWrongFalsely : Prop := fnExactAbstainGainRow.holds Tryz.pinned (OpenSpec.ofChange fnExactAbstainGainWrong)

/-- 'laws.FnExactMissesMajority': WHATEVER THE INPUT: true; the input reads as it did. -/
def fnExactMissesMajoritySpec : ChangeSpec := { name := "fnExactMissesMajority", fn := fun _ => fun
  | [d1, d2] => { results := [.lit (.bool true)], args := [d1, d2] }
  | _ => none }
def fnExactMissesMajorityRow : OpenClaim := { program := "ytblkbdfndbpndaagreat", sum := "6dd46bd3f17a66d766fa87ce181d2a2f18f5de96ef2f25834a39dc29de429b7e", func := "loop.example/g03202/laws.FnExactMissesMajority", spec := "fnExactMissesMajority", unfollowed := true, recurses := true, apart := false }
def FnExactMissesMajoritySaid : Prop := fnExactMissesMajorityRow.holds Tryz.pinned (OpenSpec.ofChange fnExactMissesMajoritySpec)

/-- ITS FALSE NEIGHBOUR: 'it returns false'. Refute it at one input. -/
def fnExactMissesMajorityWrong : ChangeSpec := { name := "fnExactMissesMajority", fn := fun _ => fun
  | [d1, d2] => { results := [.lit (.bool false)], args := [d1, d2] }
  | _ => none }
def FnExactMissesMajorityWrongFalsely : Prop := fnExactMissesMajorityRow.holds Tryz.pinned (OpenSpec.ofChange fnExactMissesMajorityWrong)

/-- 'laws.FnExactRulesFor': WHATEVER THE INPUT: true; the input reads as it did. -/
def fnExactRulesForSpec : ChangeSpec := { name := "fnExactRulesFor", fn := fun _ => fun
  | [d1, d2] => { results := [.lit (.bool true)], args := [d1, d2] }
  | _ => none }
def fnExactRulesForRow : OpenClaim := { program := "ytblkbdfndbpndaagreat", sum := "6dd46bd3f17a66d766fa87ce181d2a2f18f5de96ef2f25834a39dc29de429b7e", func := "loop.example/g03202/laws.FnExactRulesFor", spec := "fnExactRulesFor", unfollowed := true, recurses := true, apart := false }
def FnExactRulesForSaid : Prop := fnExactRulesForRow.holds Tryz.pinned (OpenSpec.ofChange fnExactRulesForSpec)

/-- ITS FALSE NEIGHBOUR: 'it returns false'. Refute it at one input. -/
def fnExactRulesForWrong : ChangeSpec := { name := "fnExactRulesFor", fn := fun _ => fun
  | [d1, d2] => { results := [.lit (.bool false)], args := [d1, d2] }
  | _ => none }
def FnExactRulesForWrongFalsely : Prop := fnExactRulesForRow.holds Tryz.pinned (OpenSpec.ofChange fnExactRulesForWrong)

/-- 'laws.FnExactReversalFailure': WHATEVER THE INPUT: true; the input reads as it did. -/
def fnExactReversalFailureSpec : ChangeSpec := { name := "fnExactReversalFailure", fn := fun _ => fun
  | [d1, d2] => { results := [.lit (.bool true)], args := [d1, d2] }
  | _ => none }
def fnExactReversalFailureRow : OpenClaim := { program := "ytblkbdfndbpndaagreat", sum := "6dd46bd3f17a66d766fa87ce181d2a2f18f5de96ef2f25834a39dc29de429b7e", func := "loop.example/g03202/laws.FnExactReversalFailure", spec := "fnExactReversalFailure", unfollowed := true, recurses := true, apart := false }
def FnExactReversalFailureSaid : Prop := fnExactReversalFailureRow.holds Tryz.pinned (OpenSpec.ofChange fnExactReversalFailureSpec)

/-- ITS FALSE NEIGHBOUR: 'it returns false'. Refute it at one input. -/
def fnExactReversalFailureWrong : ChangeSpec := { name := "fnExactReversalFailure", fn := fun _ => fun
  | [d1, d2] => { results := [.lit (.bool false)], args := [d1, d2] }
  | _ => none }
def FnExactReversalFailureWrongFalsely : Prop := fnExactReversalFailureRow.holds Tryz.pinned (OpenSpec.ofChange fnExactReversalFailureWrong)

/-- 'laws.FnExactMonotoneFailure': WHATEVER THE INPUT: true; the input reads as it did. -/
def fnExactMonotoneFailureSpec : ChangeSpec := { name := "fnExactMonotoneFailure", fn := fun _ => fun
  | [d1, d2] => { results := [.lit (.bool true)], args := [d1, d2] }
  | _ => none }
def fnExactMonotoneFailureRow : OpenClaim := { program := "ytblkbdfndbpndaagreat", sum := "6dd46bd3f17a66d766fa87ce181d2a2f18f5de96ef2f25834a39dc29de429b7e", func := "loop.example/g03202/laws.FnExactMonotoneFailure", spec := "fnExactMonotoneFailure", unfollowed := true, recurses := true, apart := false }
def FnExactMonotoneFailureSaid : Prop := fnExactMonotoneFailureRow.holds Tryz.pinned (OpenSpec.ofChange fnExactMonotoneFailureSpec)

/-- ITS FALSE NEIGHBOUR: 'it returns false'. Refute it at one input. -/
def fnExactMonotoneFailureWrong : ChangeSpec := { name := "fnExactMonotoneFailure", fn := fun _ => fun
  | [d1, d2] => { results := [.lit (.bool false)], args := [d1, d2] }
  | _ => none }
def FnExactMonotoneFailureWrongFalsely : Prop := fnExactMonotoneFailureRow.holds Tryz.pinned (OpenSpec.ofChange fnExactMonotoneFailureWrong)

/-- 'laws.FnExactSpoilerOf': WHATEVER THE INPUT: true; the input reads as it did. -/
def fnExactSpoilerOfSpec : ChangeSpec := { name := "fnExactSpoilerOf", fn := fun _ => fun
  | [d1, d2] => { results := [.lit (.bool true)], args := [d1, d2] }
  | _ => none }
def fnExactSpoilerOfRow : OpenClaim := { program := "ytblkbdfndbpndaagreat", sum := "6dd46bd3f17a66d766fa87ce181d2a2f18f5de96ef2f25834a39dc29de429b7e", func := "loop.example/g03202/laws.FnExactSpoilerOf", spec := "fnExactSpoilerOf", unfollowed := true, recurses := true, apart := false }
def FnExactSpoilerOfSaid : Prop := fnExactSpoilerOfRow.holds Tryz.pinned (OpenSpec.ofChange fnExactSpoilerOfSpec)

/-- ITS FALSE NEIGHBOUR: 'it returns false'. Refute it at one input. -/
def fnExactSpoilerOfWrong : ChangeSpec := { name := "fnExactSpoilerOf", fn := fun _ => fun
  | [d1, d2] => { results := [.lit (.bool false)], args := [d1, d2] }
  | _ => none }
def FnExactSpoilerOfWrongFalsely : Prop := fnExactSpoilerOfRow.holds Tryz.pinned (OpenSpec.ofChange fnExactSpoilerOfWrong)

/-- 'laws.FnExactIsSettled': WHATEVER THE INPUT: true; the input reads as it did. -/
def fnExactIsSettledSpec : ChangeSpec := { name := "fnExactIsSettled", fn := fun _ => fun
  | [d1, d2, d3] => { results := [.lit (.bool true)], args := [d1, d2, d3] }
  | _ => none }
def fnExactIsSettledRow : OpenClaim := { program := "ytblkbdfndbpndaagreat", sum := "6dd46bd3f17a66d766fa87ce181d2a2f18f5de96ef2f25834a39dc29de429b7e", func := "loop.example/g03202/laws.FnExactIsSettled", spec := "fnExactIsSettled", unfollowed := true, recurses := true, apart := false }
def FnExactIsSettledSaid : Prop := fnExactIsSettledRow.holds Tryz.pinned (OpenSpec.ofChange fnExactIsSettledSpec)

/-- ITS FALSE NEIGHBOUR: 'it returns false'. Refute it at one input. -/
def fnExactIsSettledWrong : ChangeSpec := { name := "fnExactIsSettled", fn := fun _ => fun
  | [d1, d2, d3] => { results := [.lit (.bool false)], args := [d1, d2, d3] }
  | _ => none }
def FnExactIsSettledWrongFalsely : Prop := fnExactIsSettledRow.holds Tryz.pinned (OpenSpec.ofChange fnExactIsSettledWrong)

/-- 'laws.FnExactReachedBy': WHATEVER THE INPUT: true; the input reads as it did. -/
def fnExactReachedBySpec : ChangeSpec := { name := "fnExactReachedBy", fn := fun _ => fun
  | [d1, d2, d3] => { results := [.lit (.bool true)], args := [d1, d2, d3] }
  | _ => none }
def fnExactReachedByRow : OpenClaim := { program := "ytblkbdfndbpndaagreat", sum := "6dd46bd3f17a66d766fa87ce181d2a2f18f5de96ef2f25834a39dc29de429b7e", func := "loop.example/g03202/laws.FnExactReachedBy", spec := "fnExactReachedBy", unfollowed := true, recurses := true, apart := false }
def FnExactReachedBySaid : Prop := fnExactReachedByRow.holds Tryz.pinned (OpenSpec.ofChange fnExactReachedBySpec)

/-- ITS FALSE NEIGHBOUR: 'it returns false'. Refute it at one input. -/
def fnExactReachedByWrong : ChangeSpec := { name := "fnExactReachedBy", fn := fun _ => fun
  | [d1, d2, d3] => { results := [.lit (.bool false)], args := [d1, d2, d3] }
  | _ => none }
def FnExactReachedByWrongFalsely : Prop := fnExactReachedByRow.holds Tryz.pinned (OpenSpec.ofChange fnExactReachedByWrong)

/- THE SECOND FORM. 'bulk': how many values and letters a reading holds, each counted each time it is reached (what is shared counts as often as it is met; a slice's spare places count too). A statement '..UptoSaid' is the law's where the arguments, and the package variables that the reading takes, are together of bulk at most 1048576: NARROWER than '..Said'. Prove '..Said' where nothing that the law and all that it calls make is longer than what came in: it says more and counts as full. Else prove '..UptoSaid'. A law counts once. -/
mutual
def uptoBulk {H : Type} : DataW H → Nat
  | .lit (.string bytes) => bytes.length + 1
  | .lit _ => 1
  | .nil => 1
  | .ptr d => uptoBulk d + 1
  | .slice elems spare => uptoBulkAll elems + uptoBulkAll spare + 1
  | .agg parts => uptoBulkAll parts + 1
  | .iface _ d => uptoBulk d + 1
  | .map entries => uptoBulkEntries entries + 1
  | .held _ => 1
def uptoBulkAll {H : Type} : List (DataW H) → Nat
  | [] => 0
  | d :: r => uptoBulk d + uptoBulkAll r
def uptoBulkEntries {H : Type} : List (Lit × DataW H) → Nat
  | [] => 0
  | x :: r => uptoBulkEntry x + uptoBulkEntries r
def uptoBulkEntry {H : Type} : Lit × DataW H → Nat
  | (.string bytes, d) => bytes.length + uptoBulk d + 1
  | (_, d) => uptoBulk d + 1
 end
def uptoSmall : (H : Type) → List (DataW H) → Bool := fun _ ds => decide (uptoBulkAll ds ≤ 1048576)
def OpenSpec.upto (s : _root_.Go.ChangeSpec) : _root_.Go.OpenSpec := { _root_.Go.OpenSpec.ofChange s with cond := some uptoSmall }

/-- 'laws.FnExactWinnerBy', WHERE WHAT IT READS IS OF BULK AT MOST 1048576: true; the input reads as it did. -/
def fnExactWinnerByUptoRow : OpenClaim := { program := "ytblkbdfndbpndaagreat", sum := "6dd46bd3f17a66d766fa87ce181d2a2f18f5de96ef2f25834a39dc29de429b7e", func := "loop.example/g03202/laws.FnExactWinnerBy", spec := "fnExactWinnerBy", unfollowed := true, recurses := true, apart := false, narrowed := true }
def FnExactWinnerByUptoSaid : Prop := fnExactWinnerByUptoRow.holds Tryz.pinned (OpenSpec.upto fnExactWinnerBySpec)

/-- 'laws.FnExactWinnersBy', WHERE WHAT IT READS IS OF BULK AT MOST 1048576: true; the input reads as it did. -/
def fnExactWinnersByUptoRow : OpenClaim := { program := "ytblkbdfndbpndaagreat", sum := "6dd46bd3f17a66d766fa87ce181d2a2f18f5de96ef2f25834a39dc29de429b7e", func := "loop.example/g03202/laws.FnExactWinnersBy", spec := "fnExactWinnersBy", unfollowed := true, recurses := true, apart := false, narrowed := true }
def FnExactWinnersByUptoSaid : Prop := fnExactWinnersByUptoRow.holds Tryz.pinned (OpenSpec.upto fnExactWinnersBySpec)

/-- 'laws.FnExactSplitFailure', WHERE WHAT IT READS IS OF BULK AT MOST 1048576: true; the input reads as it did. -/
def fnExactSplitFailureUptoRow : OpenClaim := { program := "ytblkbdfndbpndaagreat", sum := "6dd46bd3f17a66d766fa87ce181d2a2f18f5de96ef2f25834a39dc29de429b7e", func := "loop.example/g03202/laws.FnExactSplitFailure", spec := "fnExactSplitFailure", unfollowed := true, recurses := true, apart := false, narrowed := true }
def FnExactSplitFailureUptoSaid : Prop := fnExactSplitFailureUptoRow.holds Tryz.pinned (OpenSpec.upto fnExactSplitFailureSpec)

/-- 'laws.FnExactMissesCondorcet', WHERE WHAT IT READS IS OF BULK AT MOST 1048576: true; the input reads as it did. -/
def fnExactMissesCondorcetUptoRow : OpenClaim := { program := "ytblkbdfndbpndaagreat", sum := "6dd46bd3f17a66d766fa87ce181d2a2f18f5de96ef2f25834a39dc29de429b7e", func := "loop.example/g03202/laws.FnExactMissesCondorcet", spec := "fnExactMissesCondorcet", unfollowed := true, recurses := true, apart := false, narrowed := true }
def FnExactMissesCondorcetUptoSaid : Prop := fnExactMissesCondorcetUptoRow.holds Tryz.pinned (OpenSpec.upto fnExactMissesCondorcetSpec)

/-- 'laws.FnExactAbstainGain', WHERE WHAT IT READS IS OF BULK AT MOST 1048576: true; the input reads as it did. -/
def fnExactAbstainGainUptoRow : OpenClaim := { program := "ytblkbdfndbpndaagreat", sum := "6dd46bd3f17a66d766fa87ce181d2a2f18f5de96ef2f25834a39dc29de429b7e", func := "loop.example/g03202/laws.FnExactAbstainGain", spec := "fnExactAbstainGain", unfollowed := true, recurses := true, apart := false, narrowed := true }
def FnExactAbstainGainUptoSaid : Prop := fnExactAbstainGainUptoRow.holds Tryz.pinned (OpenSpec.upto fnExactAbstainGainSpec)

/-- 'laws.FnExactMissesMajority', WHERE WHAT IT READS IS OF BULK AT MOST 1048576: true; the input reads as it did. -/
def fnExactMissesMajorityUptoRow : OpenClaim := { program := "ytblkbdfndbpndaagreat", sum := "6dd46bd3f17a66d766fa87ce181d2a2f18f5de96ef2f25834a39dc29de429b7e", func := "loop.example/g03202/laws.FnExactMissesMajority", spec := "fnExactMissesMajority", unfollowed := true, recurses := true, apart := false, narrowed := true }
def FnExactMissesMajorityUptoSaid : Prop := fnExactMissesMajorityUptoRow.holds Tryz.pinned (OpenSpec.upto fnExactMissesMajoritySpec)

/-- 'laws.FnExactRulesFor', WHERE WHAT IT READS IS OF BULK AT MOST 1048576: true; the input reads as it did. -/
def fnExactRulesForUptoRow : OpenClaim := { program := "ytblkbdfndbpndaagreat", sum := "6dd46bd3f17a66d766fa87ce181d2a2f18f5de96ef2f25834a39dc29de429b7e", func := "loop.example/g03202/laws.FnExactRulesFor", spec := "fnExactRulesFor", unfollowed := true, recurses := true, apart := false, narrowed := true }
def FnExactRulesForUptoSaid : Prop := fnExactRulesForUptoRow.holds Tryz.pinned (OpenSpec.upto fnExactRulesForSpec)

/-- 'laws.FnExactReversalFailure', WHERE WHAT IT READS IS OF BULK AT MOST 1048576: true; the input reads as it did. -/
def fnExactReversalFailureUptoRow : OpenClaim := { program := "ytblkbdfndbpndaagreat", sum := "6dd46bd3f17a66d766fa87ce181d2a2f18f5de96ef2f25834a39dc29de429b7e", func := "loop.example/g03202/laws.FnExactReversalFailure", spec := "fnExactReversalFailure", unfollowed := true, recurses := true, apart := false, narrowed := true }
def FnExactReversalFailureUptoSaid : Prop := fnExactReversalFailureUptoRow.holds Tryz.pinned (OpenSpec.upto fnExactReversalFailureSpec)

/-- 'laws.FnExactMonotoneFailure', WHERE WHAT IT READS IS OF BULK AT MOST 1048576: true; the input reads as it did. -/
def fnExactMonotoneFailureUptoRow : OpenClaim := { program := "ytblkbdfndbpndaagreat", sum := "6dd46bd3f17a66d766fa87ce181d2a2f18f5de96ef2f25834a39dc29de429b7e", func := "loop.example/g03202/laws.FnExactMonotoneFailure", spec := "fnExactMonotoneFailure", unfollowed := true, recurses := true, apart := false, narrowed := true }
def FnExactMonotoneFailureUptoSaid : Prop := fnExactMonotoneFailureUptoRow.holds Tryz.pinned (OpenSpec.upto fnExactMonotoneFailureSpec)

/-- 'laws.FnExactSpoilerOf', WHERE WHAT IT READS IS OF BULK AT MOST 1048576: true; the input reads as it did. -/
def fnExactSpoilerOfUptoRow : OpenClaim := { program := "ytblkbdfndbpndaagreat", sum := "6dd46bd3f17a66d766fa87ce181d2a2f18f5de96ef2f25834a39dc29de429b7e", func := "loop.example/g03202/laws.FnExactSpoilerOf", spec := "fnExactSpoilerOf", unfollowed := true, recurses := true, apart := false, narrowed := true }
def FnExactSpoilerOfUptoSaid : Prop := fnExactSpoilerOfUptoRow.holds Tryz.pinned (OpenSpec.upto fnExactSpoilerOfSpec)

/-- 'laws.FnExactIsSettled', WHERE WHAT IT READS IS OF BULK AT MOST 1048576: true; the input reads as it did. -/
def fnExactIsSettledUptoRow : OpenClaim := { program := "ytblkbdfndbpndaagreat", sum := "6dd46bd3f17a66d766fa87ce181d2a2f18f5de96ef2f25834a39dc29de429b7e", func := "loop.example/g03202/laws.FnExactIsSettled", spec := "fnExactIsSettled", unfollowed := true, recurses := true, apart := false, narrowed := true }
def FnExactIsSettledUptoSaid : Prop := fnExactIsSettledUptoRow.holds Tryz.pinned (OpenSpec.upto fnExactIsSettledSpec)

/-- 'laws.FnExactReachedBy', WHERE WHAT IT READS IS OF BULK AT MOST 1048576: true; the input reads as it did. -/
def fnExactReachedByUptoRow : OpenClaim := { program := "ytblkbdfndbpndaagreat", sum := "6dd46bd3f17a66d766fa87ce181d2a2f18f5de96ef2f25834a39dc29de429b7e", func := "loop.example/g03202/laws.FnExactReachedBy", spec := "fnExactReachedBy", unfollowed := true, recurses := true, apart := false, narrowed := true }
def FnExactReachedByUptoSaid : Prop := fnExactReachedByUptoRow.holds Tryz.pinned (OpenSpec.upto fnExactReachedBySpec)

end Rows
end Go.Proofs.YtblkbdfndbpndaaGreat
