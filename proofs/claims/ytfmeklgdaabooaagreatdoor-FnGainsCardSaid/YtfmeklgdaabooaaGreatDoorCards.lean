/-
  DERIVED. GIVEN WITH THE SEED: THE CARDS: each row of YtfmeklgdaabooaaGreatDoorRows.lean that lists a variable, with what it lists TIED to the program's text (the seventh form; the later family's looks); each row that meets fmt, with fmt's text TOLD by the authors' own Lean function (tested against real Go, not proved from fmt's source: count such statements apart). THE CARD IS WHAT COUNTS. Prove the row's statement (the work); the ties are given (YtfmeklgdaabooaaGreatDoorTie.lean); close each card by the builder's one call (the guide's Derived/Test/ToyasCard.lean, 'card_holds'). Laid BY PROGRAM, IN A SANDBOX (cutbox-door.mjs). By AI agents, Wed Nov 11 2026. No macro, syntax, notation, axiom, sorry.
-/
import Derived.Test.YtfmeklgdaabooaaGreatDoorRows
import GoSem.ClaimSeven
namespace Go.Proofs.YtfmeklgdaabooaaGreatDoor
namespace Rows

/-- THE TIED CARD OF 'laws.FnGains'. -/
def fnGainsCard : Claim7 := { stood := { row := fnGainsRow, standIns := [], harness := (true, "251c382a8efb23d8fc972e5abeb13d1620b8ab23f1a4e513ae8ca2329bd53e77"), looks := false }, kinds := [], alts := [], laidByText := true, laidKinds := [.data, .data, .data], laidTests := true, laidLooks := .later }
def FnGainsCardSaid : Prop := Claim7.holds Tryz.pinned (.plain (OpenSpec.ofChange fnGainsSpec)) fnGainsCard

/-- THE SECOND FORM's CARD OF 'laws.FnGains'. -/
def fnGainsUptoCard : Claim7 := { stood := { row := fnGainsUptoRow, standIns := [], harness := (true, "251c382a8efb23d8fc972e5abeb13d1620b8ab23f1a4e513ae8ca2329bd53e77"), looks := false }, kinds := [], alts := [], laidByText := true, laidKinds := [.data, .data, .data], laidTests := true, laidLooks := .later }
def FnGainsUptoCardSaid : Prop := Claim7.holds Tryz.pinned (.plain (OpenSpec.upto fnGainsSpec)) fnGainsUptoCard
end Rows
end Go.Proofs.YtfmeklgdaabooaaGreatDoor
