/-
  No cell of these rows narrows 'for every input' (looked for: loops, veiled, ifaces, maps, wideKeys, modest, calm, conditions, laid).
  DERIVED. THE GIVEN ROWS OF THIS SEAT. 12 by the template 'for every input the law returns true; each argument reads behind the call as it read before'; 0 by the template 'total and deterministic' (their statements: YtpicmaggkginkaaTotals.lean).
  GIVEN WITH THE SEED: the statements are not yours to turn. If you find one false, say at which input.
  Laid BY PROGRAM, IN A SANDBOX (cutbox-rows.mjs): the forced cells as the released guide's own fill.sh prints them over the translation 40e9b1c05260223b… (all of the seat's roots in one cut). By AI agents, Wed Nov 11 2026. No macro, syntax, notation, axiom, sorry.
-/
import Derived.Test.YtpicmaggkginkaaChecked
import GoSem.Claim
import GoSem.ClaimJoined
import GoSem.ClaimMapViews
import Derived.JoinedTies
import Derived.KernelRfl
namespace Go.Proofs.Ytpicmaggkginkaa
/- THE CELL 'sum', in the pinned program and in every row, IS THE sha256 OF THE DUMP (.gsa) THAT YtpicmaggkginkaaProg.lean LOADS. Nothing in Lean hashes anything: it is a label: what it is worth is what the hold of that sum in a sandbox is worth. -/
noncomputable def Try.pinned : Pinned := { name := "ytpicmaggkginkaa", sum := "40e9b1c05260223b4c5e7b203992d74ce91b73cbca3269287c5b4dddd63e0290", checked := Try.checked }
namespace Rows
def none {H : Type} : Left H := { results := [], args := [] }

/-- 'laws.FnExactPathStrengths': WHATEVER THE INPUT: true; the input reads as it did. -/
def fnExactPathStrengthsSpec : ChangeSpec := { name := "fnExactPathStrengths", fn := fun _ => fun
  | [d] => { results := [.lit (.bool true)], args := [d] }
  | _ => none }
def fnExactPathStrengthsRow : OpenClaim := { program := "ytpicmaggkginkaa", sum := "40e9b1c05260223b4c5e7b203992d74ce91b73cbca3269287c5b4dddd63e0290", func := "loop.example/g03202/laws.FnExactPathStrengths", spec := "fnExactPathStrengths", unfollowed := true, recurses := true, apart := false }
def FnExactPathStrengthsSaid : Prop := fnExactPathStrengthsRow.holds Try.pinned (OpenSpec.ofChange fnExactPathStrengthsSpec)

/-- ITS FALSE NEIGHBOUR: 'it returns false'. Refute it at one input. -/
def fnExactPathStrengthsWrong : ChangeSpec := { name := "fnExactPathStrengths", fn := fun _ => fun
  | [d] => { results := [.lit (.bool false)], args := [d] }
  | _ => none }
def FnExactPathStrengthsWrongFalsely : Prop := fnExactPathStrengthsRow.holds Try.pinned (OpenSpec.ofChange fnExactPathStrengthsWrong)

/-- 'laws.FnExactSchulzeWinners': WHATEVER THE INPUT: true; the input reads as it did. -/
def fnExactSchulzeWinnersSpec : ChangeSpec := { name := "fnExactSchulzeWinners", fn := fun _ => fun
  | [d] => { results := [.lit (.bool true)], args := [d] }
  | _ => none }
def fnExactSchulzeWinnersRow : OpenClaim := { program := "ytpicmaggkginkaa", sum := "40e9b1c05260223b4c5e7b203992d74ce91b73cbca3269287c5b4dddd63e0290", func := "loop.example/g03202/laws.FnExactSchulzeWinners", spec := "fnExactSchulzeWinners", unfollowed := true, recurses := true, apart := false }
def FnExactSchulzeWinnersSaid : Prop := fnExactSchulzeWinnersRow.holds Try.pinned (OpenSpec.ofChange fnExactSchulzeWinnersSpec)

/-- ITS FALSE NEIGHBOUR: 'it returns false'. Refute it at one input. -/
def fnExactSchulzeWinnersWrong : ChangeSpec := { name := "fnExactSchulzeWinners", fn := fun _ => fun
  | [d] => { results := [.lit (.bool false)], args := [d] }
  | _ => none }
def FnExactSchulzeWinnersWrongFalsely : Prop := fnExactSchulzeWinnersRow.holds Try.pinned (OpenSpec.ofChange fnExactSchulzeWinnersWrong)

/-- 'laws.FnExactMajorityRanking': WHATEVER THE INPUT: true; the input reads as it did. -/
def fnExactMajorityRankingSpec : ChangeSpec := { name := "fnExactMajorityRanking", fn := fun _ => fun
  | [d] => { results := [.lit (.bool true)], args := [d] }
  | _ => none }
def fnExactMajorityRankingRow : OpenClaim := { program := "ytpicmaggkginkaa", sum := "40e9b1c05260223b4c5e7b203992d74ce91b73cbca3269287c5b4dddd63e0290", func := "loop.example/g03202/laws.FnExactMajorityRanking", spec := "fnExactMajorityRanking", unfollowed := true, recurses := true, apart := false }
def FnExactMajorityRankingSaid : Prop := fnExactMajorityRankingRow.holds Try.pinned (OpenSpec.ofChange fnExactMajorityRankingSpec)

/-- ITS FALSE NEIGHBOUR: 'it returns false'. Refute it at one input. -/
def fnExactMajorityRankingWrong : ChangeSpec := { name := "fnExactMajorityRanking", fn := fun _ => fun
  | [d] => { results := [.lit (.bool false)], args := [d] }
  | _ => none }
def FnExactMajorityRankingWrongFalsely : Prop := fnExactMajorityRankingRow.holds Try.pinned (OpenSpec.ofChange fnExactMajorityRankingWrong)

/-- 'laws.FnExactSlaterRanking': WHATEVER THE INPUT: true; the input reads as it did. -/
def fnExactSlaterRankingSpec : ChangeSpec := { name := "fnExactSlaterRanking", fn := fun _ => fun
  | [d] => { results := [.lit (.bool true)], args := [d] }
  | _ => none }
def fnExactSlaterRankingRow : OpenClaim := { program := "ytpicmaggkginkaa", sum := "40e9b1c05260223b4c5e7b203992d74ce91b73cbca3269287c5b4dddd63e0290", func := "loop.example/g03202/laws.FnExactSlaterRanking", spec := "fnExactSlaterRanking", unfollowed := true, recurses := true, apart := false }
def FnExactSlaterRankingSaid : Prop := fnExactSlaterRankingRow.holds Try.pinned (OpenSpec.ofChange fnExactSlaterRankingSpec)

/-- ITS FALSE NEIGHBOUR: 'it returns false'. Refute it at one input. -/
def fnExactSlaterRankingWrong : ChangeSpec := { name := "fnExactSlaterRanking", fn := fun _ => fun
  | [d] => { results := [.lit (.bool false)], args := [d] }
  | _ => none }
def FnExactSlaterRankingWrongFalsely : Prop := fnExactSlaterRankingRow.holds Try.pinned (OpenSpec.ofChange fnExactSlaterRankingWrong)

/-- 'laws.FnExactMedianPeak': WHATEVER THE INPUT: true; the input reads as it did. -/
def fnExactMedianPeakSpec : ChangeSpec := { name := "fnExactMedianPeak", fn := fun _ => fun
  | [d1, d2] => { results := [.lit (.bool true)], args := [d1, d2] }
  | _ => none }
def fnExactMedianPeakRow : OpenClaim := { program := "ytpicmaggkginkaa", sum := "40e9b1c05260223b4c5e7b203992d74ce91b73cbca3269287c5b4dddd63e0290", func := "loop.example/g03202/laws.FnExactMedianPeak", spec := "fnExactMedianPeak", unfollowed := true, recurses := true, apart := false }
def FnExactMedianPeakSaid : Prop := fnExactMedianPeakRow.holds Try.pinned (OpenSpec.ofChange fnExactMedianPeakSpec)

/-- ITS FALSE NEIGHBOUR: 'it returns false'. Refute it at one input. -/
def fnExactMedianPeakWrong : ChangeSpec := { name := "fnExactMedianPeak", fn := fun _ => fun
  | [d1, d2] => { results := [.lit (.bool false)], args := [d1, d2] }
  | _ => none }
def FnExactMedianPeakWrongFalsely : Prop := fnExactMedianPeakRow.holds Try.pinned (OpenSpec.ofChange fnExactMedianPeakWrong)

/-- 'laws.FnExactRoundCounts': WHATEVER THE INPUT: true; the input reads as it did. -/
def fnExactRoundCountsSpec : ChangeSpec := { name := "fnExactRoundCounts", fn := fun _ => fun
  | [d1, d2] => { results := [.lit (.bool true)], args := [d1, d2] }
  | _ => none }
def fnExactRoundCountsRow : OpenClaim := { program := "ytpicmaggkginkaa", sum := "40e9b1c05260223b4c5e7b203992d74ce91b73cbca3269287c5b4dddd63e0290", func := "loop.example/g03202/laws.FnExactRoundCounts", spec := "fnExactRoundCounts", unfollowed := true, recurses := true, apart := false }
def FnExactRoundCountsSaid : Prop := fnExactRoundCountsRow.holds Try.pinned (OpenSpec.ofChange fnExactRoundCountsSpec)

/-- ITS FALSE NEIGHBOUR: 'it returns false'. Refute it at one input. -/
def fnExactRoundCountsWrong : ChangeSpec := { name := "fnExactRoundCounts", fn := fun _ => fun
  | [d1, d2] => { results := [.lit (.bool false)], args := [d1, d2] }
  | _ => none }
def FnExactRoundCountsWrongFalsely : Prop := fnExactRoundCountsRow.holds Try.pinned (OpenSpec.ofChange fnExactRoundCountsWrong)

/-- 'laws.FnExactCoombsOrder': WHATEVER THE INPUT: true; the input reads as it did. -/
def fnExactCoombsOrderSpec : ChangeSpec := { name := "fnExactCoombsOrder", fn := fun _ => fun
  | [d] => { results := [.lit (.bool true)], args := [d] }
  | _ => none }
def fnExactCoombsOrderRow : OpenClaim := { program := "ytpicmaggkginkaa", sum := "40e9b1c05260223b4c5e7b203992d74ce91b73cbca3269287c5b4dddd63e0290", func := "loop.example/g03202/laws.FnExactCoombsOrder", spec := "fnExactCoombsOrder", unfollowed := true, recurses := true, apart := false }
def FnExactCoombsOrderSaid : Prop := fnExactCoombsOrderRow.holds Try.pinned (OpenSpec.ofChange fnExactCoombsOrderSpec)

/-- ITS FALSE NEIGHBOUR: 'it returns false'. Refute it at one input. -/
def fnExactCoombsOrderWrong : ChangeSpec := { name := "fnExactCoombsOrder", fn := fun _ => fun
  | [d] => { results := [.lit (.bool false)], args := [d] }
  | _ => none }
def FnExactCoombsOrderWrongFalsely : Prop := fnExactCoombsOrderRow.holds Try.pinned (OpenSpec.ofChange fnExactCoombsOrderWrong)

/-- 'laws.FnExactInstantOrder': WHATEVER THE INPUT: true; the input reads as it did. -/
def fnExactInstantOrderSpec : ChangeSpec := { name := "fnExactInstantOrder", fn := fun _ => fun
  | [d] => { results := [.lit (.bool true)], args := [d] }
  | _ => none }
def fnExactInstantOrderRow : OpenClaim := { program := "ytpicmaggkginkaa", sum := "40e9b1c05260223b4c5e7b203992d74ce91b73cbca3269287c5b4dddd63e0290", func := "loop.example/g03202/laws.FnExactInstantOrder", spec := "fnExactInstantOrder", unfollowed := true, recurses := true, apart := false }
def FnExactInstantOrderSaid : Prop := fnExactInstantOrderRow.holds Try.pinned (OpenSpec.ofChange fnExactInstantOrderSpec)

/-- ITS FALSE NEIGHBOUR: 'it returns false'. Refute it at one input. -/
def fnExactInstantOrderWrong : ChangeSpec := { name := "fnExactInstantOrder", fn := fun _ => fun
  | [d] => { results := [.lit (.bool false)], args := [d] }
  | _ => none }
def FnExactInstantOrderWrongFalsely : Prop := fnExactInstantOrderRow.holds Try.pinned (OpenSpec.ofChange fnExactInstantOrderWrong)

/-- 'laws.FnExactBaldwinOrder': WHATEVER THE INPUT: true; the input reads as it did. -/
def fnExactBaldwinOrderSpec : ChangeSpec := { name := "fnExactBaldwinOrder", fn := fun _ => fun
  | [d] => { results := [.lit (.bool true)], args := [d] }
  | _ => none }
def fnExactBaldwinOrderRow : OpenClaim := { program := "ytpicmaggkginkaa", sum := "40e9b1c05260223b4c5e7b203992d74ce91b73cbca3269287c5b4dddd63e0290", func := "loop.example/g03202/laws.FnExactBaldwinOrder", spec := "fnExactBaldwinOrder", unfollowed := true, recurses := true, apart := false }
def FnExactBaldwinOrderSaid : Prop := fnExactBaldwinOrderRow.holds Try.pinned (OpenSpec.ofChange fnExactBaldwinOrderSpec)

/-- ITS FALSE NEIGHBOUR: 'it returns false'. Refute it at one input. -/
def fnExactBaldwinOrderWrong : ChangeSpec := { name := "fnExactBaldwinOrder", fn := fun _ => fun
  | [d] => { results := [.lit (.bool false)], args := [d] }
  | _ => none }
def FnExactBaldwinOrderWrongFalsely : Prop := fnExactBaldwinOrderRow.holds Try.pinned (OpenSpec.ofChange fnExactBaldwinOrderWrong)

/-- 'laws.FnExactRunoffWinner': WHATEVER THE INPUT: true; the input reads as it did. -/
def fnExactRunoffWinnerSpec : ChangeSpec := { name := "fnExactRunoffWinner", fn := fun _ => fun
  | [d] => { results := [.lit (.bool true)], args := [d] }
  | _ => none }
def fnExactRunoffWinnerRow : OpenClaim := { program := "ytpicmaggkginkaa", sum := "40e9b1c05260223b4c5e7b203992d74ce91b73cbca3269287c5b4dddd63e0290", func := "loop.example/g03202/laws.FnExactRunoffWinner", spec := "fnExactRunoffWinner", unfollowed := true, recurses := true, apart := false }
def FnExactRunoffWinnerSaid : Prop := fnExactRunoffWinnerRow.holds Try.pinned (OpenSpec.ofChange fnExactRunoffWinnerSpec)

/-- ITS FALSE NEIGHBOUR: 'it returns false'. Refute it at one input. -/
def fnExactRunoffWinnerWrong : ChangeSpec := { name := "fnExactRunoffWinner", fn := fun _ => fun
  | [d] => { results := [.lit (.bool false)], args := [d] }
  | _ => none }
def FnExactRunoffWinnerWrongFalsely : Prop := fnExactRunoffWinnerRow.holds Try.pinned (OpenSpec.ofChange fnExactRunoffWinnerWrong)

/-- 'laws.FnExactLockedPairs': WHATEVER THE INPUT: true; the input reads as it did. -/
def fnExactLockedPairsSpec : ChangeSpec := { name := "fnExactLockedPairs", fn := fun _ => fun
  | [d] => { results := [.lit (.bool true)], args := [d] }
  | _ => none }
def fnExactLockedPairsRow : OpenClaim := { program := "ytpicmaggkginkaa", sum := "40e9b1c05260223b4c5e7b203992d74ce91b73cbca3269287c5b4dddd63e0290", func := "loop.example/g03202/laws.FnExactLockedPairs", spec := "fnExactLockedPairs", unfollowed := true, recurses := true, apart := false }
def FnExactLockedPairsSaid : Prop := fnExactLockedPairsRow.holds Try.pinned (OpenSpec.ofChange fnExactLockedPairsSpec)

/-- ITS FALSE NEIGHBOUR: 'it returns false'. Refute it at one input. -/
def fnExactLockedPairsWrong : ChangeSpec := { name := "fnExactLockedPairs", fn := fun _ => fun
  | [d] => { results := [.lit (.bool false)], args := [d] }
  | _ => none }
def FnExactLockedPairsWrongFalsely : Prop := fnExactLockedPairsRow.holds Try.pinned (OpenSpec.ofChange fnExactLockedPairsWrong)

/-- 'laws.FnExactPairsRanking': WHATEVER THE INPUT: true; the input reads as it did. -/
def fnExactPairsRankingSpec : ChangeSpec := { name := "fnExactPairsRanking", fn := fun _ => fun
  | [d] => { results := [.lit (.bool true)], args := [d] }
  | _ => none }
def fnExactPairsRankingRow : OpenClaim := { program := "ytpicmaggkginkaa", sum := "40e9b1c05260223b4c5e7b203992d74ce91b73cbca3269287c5b4dddd63e0290", func := "loop.example/g03202/laws.FnExactPairsRanking", spec := "fnExactPairsRanking", unfollowed := true, recurses := true, apart := false }
def FnExactPairsRankingSaid : Prop := fnExactPairsRankingRow.holds Try.pinned (OpenSpec.ofChange fnExactPairsRankingSpec)

/-- ITS FALSE NEIGHBOUR: 'it returns false'. Refute it at one input. -/
def fnExactPairsRankingWrong : ChangeSpec := { name := "fnExactPairsRanking", fn := fun _ => fun
  | [d] => { results := [.lit (.bool false)], args := [d] }
  | _ => none }
def FnExactPairsRankingWrongFalsely : Prop := fnExactPairsRankingRow.holds Try.pinned (OpenSpec.ofChange fnExactPairsRankingWrong)

/- THE SECOND FORM. 'bulk': how many values and letters a reading holds, each counted each time it is reached (what is shared counts as often as it is met; a slice's spare places count too). A statement '..UptoSaid' is the law's where the arguments, and the package variables that the reading takes, are together of bulk at most 1048576: NARROWER than '..Said'. Prove '..Said' where nothing that the law and all that it calls make is longer than what came in: it says more and counts as full. Else prove '..UptoSaid'. A law counts once. -/
mutual
def uptoBulk {H : Type} : DataW H → Nat
  | .lit (.string bytes) => bytes.length + 1
  | .lit _ => 1
  | .nil => 1
  | .ptr d => uptoBulk d + 1
  | .slice elems spare => uptoBulkAll elems + uptoBulkAll spare + 1
  | .agg parts => uptoBulkAll parts + 1
  | .iface _ d => uptoBulk d + 1
  | .map entries => uptoBulkEntries entries + 1
  | .held _ => 1
def uptoBulkAll {H : Type} : List (DataW H) → Nat
  | [] => 0
  | d :: r => uptoBulk d + uptoBulkAll r
def uptoBulkEntries {H : Type} : List (Lit × DataW H) → Nat
  | [] => 0
  | x :: r => uptoBulkEntry x + uptoBulkEntries r
def uptoBulkEntry {H : Type} : Lit × DataW H → Nat
  | (.string bytes, d) => bytes.length + uptoBulk d + 1
  | (_, d) => uptoBulk d + 1
 end
def uptoSmall : (H : Type) → List (DataW H) → Bool := fun _ ds => decide (uptoBulkAll ds ≤ 1048576)
def OpenSpec.upto (s : _root_.Go.ChangeSpec) : _root_.Go.OpenSpec := { _root_.Go.OpenSpec.ofChange s with cond := some uptoSmall }

/-- 'laws.FnExactPathStrengths', WHERE WHAT IT READS IS OF BULK AT MOST 1048576: true; the input reads as it did. -/
def fnExactPathStrengthsUptoRow : OpenClaim := { program := "ytpicmaggkginkaa", sum := "40e9b1c05260223b4c5e7b203992d74ce91b73cbca3269287c5b4dddd63e0290", func := "loop.example/g03202/laws.FnExactPathStrengths", spec := "fnExactPathStrengths", unfollowed := true, recurses := true, apart := false, narrowed := true }
def FnExactPathStrengthsUptoSaid : Prop := fnExactPathStrengthsUptoRow.holds Try.pinned (OpenSpec.upto fnExactPathStrengthsSpec)

/-- 'laws.FnExactSchulzeWinners', WHERE WHAT IT READS IS OF BULK AT MOST 1048576: true; the input reads as it did. -/
def fnExactSchulzeWinnersUptoRow : OpenClaim := { program := "ytpicmaggkginkaa", sum := "40e9b1c05260223b4c5e7b203992d74ce91b73cbca3269287c5b4dddd63e0290", func := "loop.example/g03202/laws.FnExactSchulzeWinners", spec := "fnExactSchulzeWinners", unfollowed := true, recurses := true, apart := false, narrowed := true }
def FnExactSchulzeWinnersUptoSaid : Prop := fnExactSchulzeWinnersUptoRow.holds Try.pinned (OpenSpec.upto fnExactSchulzeWinnersSpec)

/-- 'laws.FnExactMajorityRanking', WHERE WHAT IT READS IS OF BULK AT MOST 1048576: true; the input reads as it did. -/
def fnExactMajorityRankingUptoRow : OpenClaim := { program := "ytpicmaggkginkaa", sum := "40e9b1c05260223b4c5e7b203992d74ce91b73cbca3269287c5b4dddd63e0290", func := "loop.example/g03202/laws.FnExactMajorityRanking", spec := "fnExactMajorityRanking", unfollowed := true, recurses := true, apart := false, narrowed := true }
def FnExactMajorityRankingUptoSaid : Prop := fnExactMajorityRankingUptoRow.holds Try.pinned (OpenSpec.upto fnExactMajorityRankingSpec)

/-- 'laws.FnExactSlaterRanking', WHERE WHAT IT READS IS OF BULK AT MOST 1048576: true; the input reads as it did. -/
def fnExactSlaterRankingUptoRow : OpenClaim := { program := "ytpicmaggkginkaa", sum := "40e9b1c05260223b4c5e7b203992d74ce91b73cbca3269287c5b4dddd63e0290", func := "loop.example/g03202/laws.FnExactSlaterRanking", spec := "fnExactSlaterRanking", unfollowed := true, recurses := true, apart := false, narrowed := true }
def FnExactSlaterRankingUptoSaid : Prop := fnExactSlaterRankingUptoRow.holds Try.pinned (OpenSpec.upto fnExactSlaterRankingSpec)

/-- 'laws.FnExactMedianPeak', WHERE WHAT IT READS IS OF BULK AT MOST 1048576: true; the input reads as it did. -/
def fnExactMedianPeakUptoRow : OpenClaim := { program := "ytpicmaggkginkaa", sum := "40e9b1c05260223b4c5e7b203992d74ce91b73cbca3269287c5b4dddd63e0290", func := "loop.example/g03202/laws.FnExactMedianPeak", spec := "fnExactMedianPeak", unfollowed := true, recurses := true, apart := false, narrowed := true }
def FnExactMedianPeakUptoSaid : Prop := fnExactMedianPeakUptoRow.holds Try.pinned (OpenSpec.upto fnExactMedianPeakSpec)

/-- 'laws.FnExactRoundCounts', WHERE WHAT IT READS IS OF BULK AT MOST 1048576: true; the input reads as it did. -/
def fnExactRoundCountsUptoRow : OpenClaim := { program := "ytpicmaggkginkaa", sum := "40e9b1c05260223b4c5e7b203992d74ce91b73cbca3269287c5b4dddd63e0290", func := "loop.example/g03202/laws.FnExactRoundCounts", spec := "fnExactRoundCounts", unfollowed := true, recurses := true, apart := false, narrowed := true }
def FnExactRoundCountsUptoSaid : Prop := fnExactRoundCountsUptoRow.holds Try.pinned (OpenSpec.upto fnExactRoundCountsSpec)

/-- 'laws.FnExactCoombsOrder', WHERE WHAT IT READS IS OF BULK AT MOST 1048576: true; the input reads as it did. -/
def fnExactCoombsOrderUptoRow : OpenClaim := { program := "ytpicmaggkginkaa", sum := "40e9b1c05260223b4c5e7b203992d74ce91b73cbca3269287c5b4dddd63e0290", func := "loop.example/g03202/laws.FnExactCoombsOrder", spec := "fnExactCoombsOrder", unfollowed := true, recurses := true, apart := false, narrowed := true }
def FnExactCoombsOrderUptoSaid : Prop := fnExactCoombsOrderUptoRow.holds Try.pinned (OpenSpec.upto fnExactCoombsOrderSpec)

/-- 'laws.FnExactInstantOrder', WHERE WHAT IT READS IS OF BULK AT MOST 1048576: true; the input reads as it did. -/
def fnExactInstantOrderUptoRow : OpenClaim := { program := "ytpicmaggkginkaa", sum := "40e9b1c05260223b4c5e7b203992d74ce91b73cbca3269287c5b4dddd63e0290", func := "loop.example/g03202/laws.FnExactInstantOrder", spec := "fnExactInstantOrder", unfollowed := true, recurses := true, apart := false, narrowed := true }
def FnExactInstantOrderUptoSaid : Prop := fnExactInstantOrderUptoRow.holds Try.pinned (OpenSpec.upto fnExactInstantOrderSpec)

/-- 'laws.FnExactBaldwinOrder', WHERE WHAT IT READS IS OF BULK AT MOST 1048576: true; the input reads as it did. -/
def fnExactBaldwinOrderUptoRow : OpenClaim := { program := "ytpicmaggkginkaa", sum := "40e9b1c05260223b4c5e7b203992d74ce91b73cbca3269287c5b4dddd63e0290", func := "loop.example/g03202/laws.FnExactBaldwinOrder", spec := "fnExactBaldwinOrder", unfollowed := true, recurses := true, apart := false, narrowed := true }
def FnExactBaldwinOrderUptoSaid : Prop := fnExactBaldwinOrderUptoRow.holds Try.pinned (OpenSpec.upto fnExactBaldwinOrderSpec)

/-- 'laws.FnExactRunoffWinner', WHERE WHAT IT READS IS OF BULK AT MOST 1048576: true; the input reads as it did. -/
def fnExactRunoffWinnerUptoRow : OpenClaim := { program := "ytpicmaggkginkaa", sum := "40e9b1c05260223b4c5e7b203992d74ce91b73cbca3269287c5b4dddd63e0290", func := "loop.example/g03202/laws.FnExactRunoffWinner", spec := "fnExactRunoffWinner", unfollowed := true, recurses := true, apart := false, narrowed := true }
def FnExactRunoffWinnerUptoSaid : Prop := fnExactRunoffWinnerUptoRow.holds Try.pinned (OpenSpec.upto fnExactRunoffWinnerSpec)

/-- 'laws.FnExactLockedPairs', WHERE WHAT IT READS IS OF BULK AT MOST 1048576: true; the input reads as it did. -/
def fnExactLockedPairsUptoRow : OpenClaim := { program := "ytpicmaggkginkaa", sum := "40e9b1c05260223b4c5e7b203992d74ce91b73cbca3269287c5b4dddd63e0290", func := "loop.example/g03202/laws.FnExactLockedPairs", spec := "fnExactLockedPairs", unfollowed := true, recurses := true, apart := false, narrowed := true }
def FnExactLockedPairsUptoSaid : Prop := fnExactLockedPairsUptoRow.holds Try.pinned (OpenSpec.upto fnExactLockedPairsSpec)

/-- 'laws.FnExactPairsRanking', WHERE WHAT IT READS IS OF BULK AT MOST 1048576: true; the input reads as it did. -/
def fnExactPairsRankingUptoRow : OpenClaim := { program := "ytpicmaggkginkaa", sum := "40e9b1c05260223b4c5e7b203992d74ce91b73cbca3269287c5b4dddd63e0290", func := "loop.example/g03202/laws.FnExactPairsRanking", spec := "fnExactPairsRanking", unfollowed := true, recurses := true, apart := false, narrowed := true }
def FnExactPairsRankingUptoSaid : Prop := fnExactPairsRankingUptoRow.holds Try.pinned (OpenSpec.upto fnExactPairsRankingSpec)

end Rows
end Go.Proofs.Ytpicmaggkginkaa
