/-
  No cell of these rows narrows 'for every input' (looked for: loops, veiled, ifaces, maps, wideKeys, modest, calm, conditions, laid).
  DERIVED. THE GIVEN ROWS OF THIS SEAT. 12 by the template 'for every input the law returns true; each argument reads behind the call as it read before'; 0 by the template 'total and deterministic' (their statements: YtccoamiblmobhaaTotals.lean).
  GIVEN WITH THE SEED: the statements are not yours to turn. If you find one false, say at which input.
  Laid BY PROGRAM, IN A SANDBOX (cutbox-rows.mjs): the forced cells as the released guide's own fill.sh prints them over the translation 561820708f75dfd2… (all of the seat's roots in one cut). By AI agents, Wed Nov 11 2026. No macro, syntax, notation, axiom, sorry.
-/
import Derived.Test.YtccoamiblmobhaaChecked
import GoSem.Claim
import GoSem.ClaimJoined
import GoSem.ClaimMapViews
import Derived.JoinedTies
import Derived.KernelRfl
namespace Go.Proofs.Ytccoamiblmobhaa
/- THE CELL 'sum', in the pinned program and in every row, IS THE sha256 OF THE DUMP (.gsa) THAT YtccoamiblmobhaaProg.lean LOADS. Nothing in Lean hashes anything: it is a label: what it is worth is what the hold of that sum in a sandbox is worth. -/
noncomputable def Try.pinned : Pinned := { name := "ytccoamiblmobhaa", sum := "561820708f75dfd26703c446d906166e4d312c00ed8828e62572ff3756c41a7d", checked := Try.checked }
namespace Rows
def none {H : Type} : Left H := { results := [], args := [] }

/-- 'laws.FnExactPairCount': WHATEVER THE INPUT: true; the input reads as it did. -/
def fnExactPairCountSpec : ChangeSpec := { name := "fnExactPairCount", fn := fun _ => fun
  | [d1, d2, d3] => { results := [.lit (.bool true)], args := [d1, d2, d3] }
  | _ => none }
def fnExactPairCountRow : OpenClaim := { program := "ytccoamiblmobhaa", sum := "561820708f75dfd26703c446d906166e4d312c00ed8828e62572ff3756c41a7d", func := "loop.example/g03202/laws.FnExactPairCount", spec := "fnExactPairCount", unfollowed := true, recurses := true, apart := false }
def FnExactPairCountSaid : Prop := fnExactPairCountRow.holds Try.pinned (OpenSpec.ofChange fnExactPairCountSpec)

/-- ITS FALSE NEIGHBOUR: 'it returns false'. Refute it at one input. -/
def fnExactPairCountWrong : ChangeSpec := { name := "fnExactPairCount", fn := fun _ => fun
  | [d1, d2, d3] => { results := [.lit (.bool false)], args := [d1, d2, d3] }
  | _ => none }
def FnExactPairCountWrongFalsely : Prop := fnExactPairCountRow.holds Try.pinned (OpenSpec.ofChange fnExactPairCountWrong)

/-- 'laws.FnExactMarginOf': WHATEVER THE INPUT: true; the input reads as it did. -/
def fnExactMarginOfSpec : ChangeSpec := { name := "fnExactMarginOf", fn := fun _ => fun
  | [d1, d2, d3] => { results := [.lit (.bool true)], args := [d1, d2, d3] }
  | _ => none }
def fnExactMarginOfRow : OpenClaim := { program := "ytccoamiblmobhaa", sum := "561820708f75dfd26703c446d906166e4d312c00ed8828e62572ff3756c41a7d", func := "loop.example/g03202/laws.FnExactMarginOf", spec := "fnExactMarginOf", unfollowed := true, recurses := true, apart := false }
def FnExactMarginOfSaid : Prop := fnExactMarginOfRow.holds Try.pinned (OpenSpec.ofChange fnExactMarginOfSpec)

/-- ITS FALSE NEIGHBOUR: 'it returns false'. Refute it at one input. -/
def fnExactMarginOfWrong : ChangeSpec := { name := "fnExactMarginOf", fn := fun _ => fun
  | [d1, d2, d3] => { results := [.lit (.bool false)], args := [d1, d2, d3] }
  | _ => none }
def FnExactMarginOfWrongFalsely : Prop := fnExactMarginOfRow.holds Try.pinned (OpenSpec.ofChange fnExactMarginOfWrong)

/-- 'laws.FnExactDoesCover': WHATEVER THE INPUT: true; the input reads as it did. -/
def fnExactDoesCoverSpec : ChangeSpec := { name := "fnExactDoesCover", fn := fun _ => fun
  | [d1, d2, d3] => { results := [.lit (.bool true)], args := [d1, d2, d3] }
  | _ => none }
def fnExactDoesCoverRow : OpenClaim := { program := "ytccoamiblmobhaa", sum := "561820708f75dfd26703c446d906166e4d312c00ed8828e62572ff3756c41a7d", func := "loop.example/g03202/laws.FnExactDoesCover", spec := "fnExactDoesCover", unfollowed := true, recurses := true, apart := false }
def FnExactDoesCoverSaid : Prop := fnExactDoesCoverRow.holds Try.pinned (OpenSpec.ofChange fnExactDoesCoverSpec)

/-- ITS FALSE NEIGHBOUR: 'it returns false'. Refute it at one input. -/
def fnExactDoesCoverWrong : ChangeSpec := { name := "fnExactDoesCover", fn := fun _ => fun
  | [d1, d2, d3] => { results := [.lit (.bool false)], args := [d1, d2, d3] }
  | _ => none }
def FnExactDoesCoverWrongFalsely : Prop := fnExactDoesCoverRow.holds Try.pinned (OpenSpec.ofChange fnExactDoesCoverWrong)

/-- 'laws.FnExactIsTransitive': WHATEVER THE INPUT: true; the input reads as it did. -/
def fnExactIsTransitiveSpec : ChangeSpec := { name := "fnExactIsTransitive", fn := fun _ => fun
  | [d] => { results := [.lit (.bool true)], args := [d] }
  | _ => none }
def fnExactIsTransitiveRow : OpenClaim := { program := "ytccoamiblmobhaa", sum := "561820708f75dfd26703c446d906166e4d312c00ed8828e62572ff3756c41a7d", func := "loop.example/g03202/laws.FnExactIsTransitive", spec := "fnExactIsTransitive", unfollowed := true, recurses := true, apart := false }
def FnExactIsTransitiveSaid : Prop := fnExactIsTransitiveRow.holds Try.pinned (OpenSpec.ofChange fnExactIsTransitiveSpec)

/-- ITS FALSE NEIGHBOUR: 'it returns false'. Refute it at one input. -/
def fnExactIsTransitiveWrong : ChangeSpec := { name := "fnExactIsTransitive", fn := fun _ => fun
  | [d] => { results := [.lit (.bool false)], args := [d] }
  | _ => none }
def FnExactIsTransitiveWrongFalsely : Prop := fnExactIsTransitiveRow.holds Try.pinned (OpenSpec.ofChange fnExactIsTransitiveWrong)

/-- 'laws.FnExactCondorcetLoser': WHATEVER THE INPUT: true; the input reads as it did. -/
def fnExactCondorcetLoserSpec : ChangeSpec := { name := "fnExactCondorcetLoser", fn := fun _ => fun
  | [d] => { results := [.lit (.bool true)], args := [d] }
  | _ => none }
def fnExactCondorcetLoserRow : OpenClaim := { program := "ytccoamiblmobhaa", sum := "561820708f75dfd26703c446d906166e4d312c00ed8828e62572ff3756c41a7d", func := "loop.example/g03202/laws.FnExactCondorcetLoser", spec := "fnExactCondorcetLoser", unfollowed := true, recurses := true, apart := false }
def FnExactCondorcetLoserSaid : Prop := fnExactCondorcetLoserRow.holds Try.pinned (OpenSpec.ofChange fnExactCondorcetLoserSpec)

/-- ITS FALSE NEIGHBOUR: 'it returns false'. Refute it at one input. -/
def fnExactCondorcetLoserWrong : ChangeSpec := { name := "fnExactCondorcetLoser", fn := fun _ => fun
  | [d] => { results := [.lit (.bool false)], args := [d] }
  | _ => none }
def FnExactCondorcetLoserWrongFalsely : Prop := fnExactCondorcetLoserRow.holds Try.pinned (OpenSpec.ofChange fnExactCondorcetLoserWrong)

/-- 'laws.FnExactCondorcetWinner': WHATEVER THE INPUT: true; the input reads as it did. -/
def fnExactCondorcetWinnerSpec : ChangeSpec := { name := "fnExactCondorcetWinner", fn := fun _ => fun
  | [d] => { results := [.lit (.bool true)], args := [d] }
  | _ => none }
def fnExactCondorcetWinnerRow : OpenClaim := { program := "ytccoamiblmobhaa", sum := "561820708f75dfd26703c446d906166e4d312c00ed8828e62572ff3756c41a7d", func := "loop.example/g03202/laws.FnExactCondorcetWinner", spec := "fnExactCondorcetWinner", unfollowed := true, recurses := true, apart := false }
def FnExactCondorcetWinnerSaid : Prop := fnExactCondorcetWinnerRow.holds Try.pinned (OpenSpec.ofChange fnExactCondorcetWinnerSpec)

/-- ITS FALSE NEIGHBOUR: 'it returns false'. Refute it at one input. -/
def fnExactCondorcetWinnerWrong : ChangeSpec := { name := "fnExactCondorcetWinner", fn := fun _ => fun
  | [d] => { results := [.lit (.bool false)], args := [d] }
  | _ => none }
def FnExactCondorcetWinnerWrongFalsely : Prop := fnExactCondorcetWinnerRow.holds Try.pinned (OpenSpec.ofChange fnExactCondorcetWinnerWrong)

/-- 'laws.FnExactUnbeatenOf': WHATEVER THE INPUT: true; the input reads as it did. -/
def fnExactUnbeatenOfSpec : ChangeSpec := { name := "fnExactUnbeatenOf", fn := fun _ => fun
  | [d] => { results := [.lit (.bool true)], args := [d] }
  | _ => none }
def fnExactUnbeatenOfRow : OpenClaim := { program := "ytccoamiblmobhaa", sum := "561820708f75dfd26703c446d906166e4d312c00ed8828e62572ff3756c41a7d", func := "loop.example/g03202/laws.FnExactUnbeatenOf", spec := "fnExactUnbeatenOf", unfollowed := true, recurses := true, apart := false }
def FnExactUnbeatenOfSaid : Prop := fnExactUnbeatenOfRow.holds Try.pinned (OpenSpec.ofChange fnExactUnbeatenOfSpec)

/-- ITS FALSE NEIGHBOUR: 'it returns false'. Refute it at one input. -/
def fnExactUnbeatenOfWrong : ChangeSpec := { name := "fnExactUnbeatenOf", fn := fun _ => fun
  | [d] => { results := [.lit (.bool false)], args := [d] }
  | _ => none }
def FnExactUnbeatenOfWrongFalsely : Prop := fnExactUnbeatenOfRow.holds Try.pinned (OpenSpec.ofChange fnExactUnbeatenOfWrong)

/-- 'laws.FnExactMarginMatrix': WHATEVER THE INPUT: true; the input reads as it did. -/
def fnExactMarginMatrixSpec : ChangeSpec := { name := "fnExactMarginMatrix", fn := fun _ => fun
  | [d] => { results := [.lit (.bool true)], args := [d] }
  | _ => none }
def fnExactMarginMatrixRow : OpenClaim := { program := "ytccoamiblmobhaa", sum := "561820708f75dfd26703c446d906166e4d312c00ed8828e62572ff3756c41a7d", func := "loop.example/g03202/laws.FnExactMarginMatrix", spec := "fnExactMarginMatrix", unfollowed := true, recurses := true, apart := false }
def FnExactMarginMatrixSaid : Prop := fnExactMarginMatrixRow.holds Try.pinned (OpenSpec.ofChange fnExactMarginMatrixSpec)

/-- ITS FALSE NEIGHBOUR: 'it returns false'. Refute it at one input. -/
def fnExactMarginMatrixWrong : ChangeSpec := { name := "fnExactMarginMatrix", fn := fun _ => fun
  | [d] => { results := [.lit (.bool false)], args := [d] }
  | _ => none }
def FnExactMarginMatrixWrongFalsely : Prop := fnExactMarginMatrixRow.holds Try.pinned (OpenSpec.ofChange fnExactMarginMatrixWrong)

/-- 'laws.FnExactUncoveredSet': WHATEVER THE INPUT: true; the input reads as it did. -/
def fnExactUncoveredSetSpec : ChangeSpec := { name := "fnExactUncoveredSet", fn := fun _ => fun
  | [d] => { results := [.lit (.bool true)], args := [d] }
  | _ => none }
def fnExactUncoveredSetRow : OpenClaim := { program := "ytccoamiblmobhaa", sum := "561820708f75dfd26703c446d906166e4d312c00ed8828e62572ff3756c41a7d", func := "loop.example/g03202/laws.FnExactUncoveredSet", spec := "fnExactUncoveredSet", unfollowed := true, recurses := true, apart := false }
def FnExactUncoveredSetSaid : Prop := fnExactUncoveredSetRow.holds Try.pinned (OpenSpec.ofChange fnExactUncoveredSetSpec)

/-- ITS FALSE NEIGHBOUR: 'it returns false'. Refute it at one input. -/
def fnExactUncoveredSetWrong : ChangeSpec := { name := "fnExactUncoveredSet", fn := fun _ => fun
  | [d] => { results := [.lit (.bool false)], args := [d] }
  | _ => none }
def FnExactUncoveredSetWrongFalsely : Prop := fnExactUncoveredSetRow.holds Try.pinned (OpenSpec.ofChange fnExactUncoveredSetWrong)

/-- 'laws.FnExactCopelandScores': WHATEVER THE INPUT: true; the input reads as it did. -/
def fnExactCopelandScoresSpec : ChangeSpec := { name := "fnExactCopelandScores", fn := fun _ => fun
  | [d] => { results := [.lit (.bool true)], args := [d] }
  | _ => none }
def fnExactCopelandScoresRow : OpenClaim := { program := "ytccoamiblmobhaa", sum := "561820708f75dfd26703c446d906166e4d312c00ed8828e62572ff3756c41a7d", func := "loop.example/g03202/laws.FnExactCopelandScores", spec := "fnExactCopelandScores", unfollowed := true, recurses := true, apart := false }
def FnExactCopelandScoresSaid : Prop := fnExactCopelandScoresRow.holds Try.pinned (OpenSpec.ofChange fnExactCopelandScoresSpec)

/-- ITS FALSE NEIGHBOUR: 'it returns false'. Refute it at one input. -/
def fnExactCopelandScoresWrong : ChangeSpec := { name := "fnExactCopelandScores", fn := fun _ => fun
  | [d] => { results := [.lit (.bool false)], args := [d] }
  | _ => none }
def FnExactCopelandScoresWrongFalsely : Prop := fnExactCopelandScoresRow.holds Try.pinned (OpenSpec.ofChange fnExactCopelandScoresWrong)

/-- 'laws.FnExactMaximinScores': WHATEVER THE INPUT: true; the input reads as it did. -/
def fnExactMaximinScoresSpec : ChangeSpec := { name := "fnExactMaximinScores", fn := fun _ => fun
  | [d] => { results := [.lit (.bool true)], args := [d] }
  | _ => none }
def fnExactMaximinScoresRow : OpenClaim := { program := "ytccoamiblmobhaa", sum := "561820708f75dfd26703c446d906166e4d312c00ed8828e62572ff3756c41a7d", func := "loop.example/g03202/laws.FnExactMaximinScores", spec := "fnExactMaximinScores", unfollowed := true, recurses := true, apart := false }
def FnExactMaximinScoresSaid : Prop := fnExactMaximinScoresRow.holds Try.pinned (OpenSpec.ofChange fnExactMaximinScoresSpec)

/-- ITS FALSE NEIGHBOUR: 'it returns false'. Refute it at one input. -/
def fnExactMaximinScoresWrong : ChangeSpec := { name := "fnExactMaximinScores", fn := fun _ => fun
  | [d] => { results := [.lit (.bool false)], args := [d] }
  | _ => none }
def FnExactMaximinScoresWrongFalsely : Prop := fnExactMaximinScoresRow.holds Try.pinned (OpenSpec.ofChange fnExactMaximinScoresWrong)

/-- 'laws.FnExactTopCycle': WHATEVER THE INPUT: true; the input reads as it did. -/
def fnExactTopCycleSpec : ChangeSpec := { name := "fnExactTopCycle", fn := fun _ => fun
  | [d] => { results := [.lit (.bool true)], args := [d] }
  | _ => none }
def fnExactTopCycleRow : OpenClaim := { program := "ytccoamiblmobhaa", sum := "561820708f75dfd26703c446d906166e4d312c00ed8828e62572ff3756c41a7d", func := "loop.example/g03202/laws.FnExactTopCycle", spec := "fnExactTopCycle", unfollowed := true, recurses := true, apart := false }
def FnExactTopCycleSaid : Prop := fnExactTopCycleRow.holds Try.pinned (OpenSpec.ofChange fnExactTopCycleSpec)

/-- ITS FALSE NEIGHBOUR: 'it returns false'. Refute it at one input. -/
def fnExactTopCycleWrong : ChangeSpec := { name := "fnExactTopCycle", fn := fun _ => fun
  | [d] => { results := [.lit (.bool false)], args := [d] }
  | _ => none }
def FnExactTopCycleWrongFalsely : Prop := fnExactTopCycleRow.holds Try.pinned (OpenSpec.ofChange fnExactTopCycleWrong)

/- THE SECOND FORM. 'bulk': how many values and letters a reading holds, each counted each time it is reached (what is shared counts as often as it is met; a slice's spare places count too). A statement '..UptoSaid' is the law's where the arguments, and the package variables that the reading takes, are together of bulk at most 1048576: NARROWER than '..Said'. Prove '..Said' where nothing that the law and all that it calls make is longer than what came in: it says more and counts as full. Else prove '..UptoSaid'. A law counts once. -/
mutual
def uptoBulk {H : Type} : DataW H → Nat
  | .lit (.string bytes) => bytes.length + 1
  | .lit _ => 1
  | .nil => 1
  | .ptr d => uptoBulk d + 1
  | .slice elems spare => uptoBulkAll elems + uptoBulkAll spare + 1
  | .agg parts => uptoBulkAll parts + 1
  | .iface _ d => uptoBulk d + 1
  | .map entries => uptoBulkEntries entries + 1
  | .held _ => 1
def uptoBulkAll {H : Type} : List (DataW H) → Nat
  | [] => 0
  | d :: r => uptoBulk d + uptoBulkAll r
def uptoBulkEntries {H : Type} : List (Lit × DataW H) → Nat
  | [] => 0
  | x :: r => uptoBulkEntry x + uptoBulkEntries r
def uptoBulkEntry {H : Type} : Lit × DataW H → Nat
  | (.string bytes, d) => bytes.length + uptoBulk d + 1
  | (_, d) => uptoBulk d + 1
 end
def uptoSmall : (H : Type) → List (DataW H) → Bool := fun _ ds => decide (uptoBulkAll ds ≤ 1048576)
def OpenSpec.upto (s : _root_.Go.ChangeSpec) : _root_.Go.OpenSpec := { _root_.Go.OpenSpec.ofChange s with cond := some uptoSmall }

/-- 'laws.FnExactPairCount', WHERE WHAT IT READS IS OF BULK AT MOST 1048576: true; the input reads as it did. -/
def fnExactPairCountUptoRow : OpenClaim := { program := "ytccoamiblmobhaa", sum := "561820708f75dfd26703c446d906166e4d312c00ed8828e62572ff3756c41a7d", func := "loop.example/g03202/laws.FnExactPairCount", spec := "fnExactPairCount", unfollowed := true, recurses := true, apart := false, narrowed := true }
def FnExactPairCountUptoSaid : Prop := fnExactPairCountUptoRow.holds Try.pinned (OpenSpec.upto fnExactPairCountSpec)

/-- 'laws.FnExactMarginOf', WHERE WHAT IT READS IS OF BULK AT MOST 1048576: true; the input reads as it did. -/
def fnExactMarginOfUptoRow : OpenClaim := { program := "ytccoamiblmobhaa", sum := "561820708f75dfd26703c446d906166e4d312c00ed8828e62572ff3756c41a7d", func := "loop.example/g03202/laws.FnExactMarginOf", spec := "fnExactMarginOf", unfollowed := true, recurses := true, apart := false, narrowed := true }
def FnExactMarginOfUptoSaid : Prop := fnExactMarginOfUptoRow.holds Try.pinned (OpenSpec.upto fnExactMarginOfSpec)

/-- 'laws.FnExactDoesCover', WHERE WHAT IT READS IS OF BULK AT MOST 1048576: true; the input reads as it did. -/
def fnExactDoesCoverUptoRow : OpenClaim := { program := "ytccoamiblmobhaa", sum := "561820708f75dfd26703c446d906166e4d312c00ed8828e62572ff3756c41a7d", func := "loop.example/g03202/laws.FnExactDoesCover", spec := "fnExactDoesCover", unfollowed := true, recurses := true, apart := false, narrowed := true }
def FnExactDoesCoverUptoSaid : Prop := fnExactDoesCoverUptoRow.holds Try.pinned (OpenSpec.upto fnExactDoesCoverSpec)

/-- 'laws.FnExactIsTransitive', WHERE WHAT IT READS IS OF BULK AT MOST 1048576: true; the input reads as it did. -/
def fnExactIsTransitiveUptoRow : OpenClaim := { program := "ytccoamiblmobhaa", sum := "561820708f75dfd26703c446d906166e4d312c00ed8828e62572ff3756c41a7d", func := "loop.example/g03202/laws.FnExactIsTransitive", spec := "fnExactIsTransitive", unfollowed := true, recurses := true, apart := false, narrowed := true }
def FnExactIsTransitiveUptoSaid : Prop := fnExactIsTransitiveUptoRow.holds Try.pinned (OpenSpec.upto fnExactIsTransitiveSpec)

/-- 'laws.FnExactCondorcetLoser', WHERE WHAT IT READS IS OF BULK AT MOST 1048576: true; the input reads as it did. -/
def fnExactCondorcetLoserUptoRow : OpenClaim := { program := "ytccoamiblmobhaa", sum := "561820708f75dfd26703c446d906166e4d312c00ed8828e62572ff3756c41a7d", func := "loop.example/g03202/laws.FnExactCondorcetLoser", spec := "fnExactCondorcetLoser", unfollowed := true, recurses := true, apart := false, narrowed := true }
def FnExactCondorcetLoserUptoSaid : Prop := fnExactCondorcetLoserUptoRow.holds Try.pinned (OpenSpec.upto fnExactCondorcetLoserSpec)

/-- 'laws.FnExactCondorcetWinner', WHERE WHAT IT READS IS OF BULK AT MOST 1048576: true; the input reads as it did. -/
def fnExactCondorcetWinnerUptoRow : OpenClaim := { program := "ytccoamiblmobhaa", sum := "561820708f75dfd26703c446d906166e4d312c00ed8828e62572ff3756c41a7d", func := "loop.example/g03202/laws.FnExactCondorcetWinner", spec := "fnExactCondorcetWinner", unfollowed := true, recurses := true, apart := false, narrowed := true }
def FnExactCondorcetWinnerUptoSaid : Prop := fnExactCondorcetWinnerUptoRow.holds Try.pinned (OpenSpec.upto fnExactCondorcetWinnerSpec)

/-- 'laws.FnExactUnbeatenOf', WHERE WHAT IT READS IS OF BULK AT MOST 1048576: true; the input reads as it did. -/
def fnExactUnbeatenOfUptoRow : OpenClaim := { program := "ytccoamiblmobhaa", sum := "561820708f75dfd26703c446d906166e4d312c00ed8828e62572ff3756c41a7d", func := "loop.example/g03202/laws.FnExactUnbeatenOf", spec := "fnExactUnbeatenOf", unfollowed := true, recurses := true, apart := false, narrowed := true }
def FnExactUnbeatenOfUptoSaid : Prop := fnExactUnbeatenOfUptoRow.holds Try.pinned (OpenSpec.upto fnExactUnbeatenOfSpec)

/-- 'laws.FnExactMarginMatrix', WHERE WHAT IT READS IS OF BULK AT MOST 1048576: true; the input reads as it did. -/
def fnExactMarginMatrixUptoRow : OpenClaim := { program := "ytccoamiblmobhaa", sum := "561820708f75dfd26703c446d906166e4d312c00ed8828e62572ff3756c41a7d", func := "loop.example/g03202/laws.FnExactMarginMatrix", spec := "fnExactMarginMatrix", unfollowed := true, recurses := true, apart := false, narrowed := true }
def FnExactMarginMatrixUptoSaid : Prop := fnExactMarginMatrixUptoRow.holds Try.pinned (OpenSpec.upto fnExactMarginMatrixSpec)

/-- 'laws.FnExactUncoveredSet', WHERE WHAT IT READS IS OF BULK AT MOST 1048576: true; the input reads as it did. -/
def fnExactUncoveredSetUptoRow : OpenClaim := { program := "ytccoamiblmobhaa", sum := "561820708f75dfd26703c446d906166e4d312c00ed8828e62572ff3756c41a7d", func := "loop.example/g03202/laws.FnExactUncoveredSet", spec := "fnExactUncoveredSet", unfollowed := true, recurses := true, apart := false, narrowed := true }
def FnExactUncoveredSetUptoSaid : Prop := fnExactUncoveredSetUptoRow.holds Try.pinned (OpenSpec.upto fnExactUncoveredSetSpec)

/-- 'laws.FnExactCopelandScores', WHERE WHAT IT READS IS OF BULK AT MOST 1048576: true; the input reads as it did. -/
def fnExactCopelandScoresUptoRow : OpenClaim := { program := "ytccoamiblmobhaa", sum := "561820708f75dfd26703c446d906166e4d312c00ed8828e62572ff3756c41a7d", func := "loop.example/g03202/laws.FnExactCopelandScores", spec := "fnExactCopelandScores", unfollowed := true, recurses := true, apart := false, narrowed := true }
def FnExactCopelandScoresUptoSaid : Prop := fnExactCopelandScoresUptoRow.holds Try.pinned (OpenSpec.upto fnExactCopelandScoresSpec)

/-- 'laws.FnExactMaximinScores', WHERE WHAT IT READS IS OF BULK AT MOST 1048576: true; the input reads as it did. -/
def fnExactMaximinScoresUptoRow : OpenClaim := { program := "ytccoamiblmobhaa", sum := "561820708f75dfd26703c446d906166e4d312c00ed8828e62572ff3756c41a7d", func := "loop.example/g03202/laws.FnExactMaximinScores", spec := "fnExactMaximinScores", unfollowed := true, recurses := true, apart := false, narrowed := true }
def FnExactMaximinScoresUptoSaid : Prop := fnExactMaximinScoresUptoRow.holds Try.pinned (OpenSpec.upto fnExactMaximinScoresSpec)

/-- 'laws.FnExactTopCycle', WHERE WHAT IT READS IS OF BULK AT MOST 1048576: true; the input reads as it did. -/
def fnExactTopCycleUptoRow : OpenClaim := { program := "ytccoamiblmobhaa", sum := "561820708f75dfd26703c446d906166e4d312c00ed8828e62572ff3756c41a7d", func := "loop.example/g03202/laws.FnExactTopCycle", spec := "fnExactTopCycle", unfollowed := true, recurses := true, apart := false, narrowed := true }
def FnExactTopCycleUptoSaid : Prop := fnExactTopCycleUptoRow.holds Try.pinned (OpenSpec.upto fnExactTopCycleSpec)

end Rows
end Go.Proofs.Ytccoamiblmobhaa
