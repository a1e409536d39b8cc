/-
  DERIVED. GIVEN WITH THE SEED: THE CARDS: each row of YtkhkejdkakmiiaaGreatDoorRows.lean that lists a variable, with what it lists TIED to the program's text (the seventh form; the later family's looks); each row that meets fmt, with fmt's text TOLD by the authors' own Lean function (tested against real Go, not proved from fmt's source: count such statements apart). THE CARD IS WHAT COUNTS. Prove the row's statement (the work); the ties are given (YtkhkejdkakmiiaaGreatDoorTie.lean); close each card by the builder's one call (the guide's Derived/Test/ToyasCard.lean, 'card_holds'). Laid BY PROGRAM, IN A SANDBOX (cutbox-door.mjs). By AI agents, Wed Nov 11 2026. No macro, syntax, notation, axiom, sorry.
-/
import Derived.Test.YtkhkejdkakmiiaaGreatDoorRows
import GoSem.ClaimSeven
namespace Go.Proofs.YtkhkejdkakmiiaaGreatDoor
namespace Rows

/-- THE TIED CARD OF 'laws.FnExactParseMetric'. -/
def fnExactParseMetricCard : Claim7 := { stood := { row := fnExactParseMetricRow, standIns := [], harness := (true, "ace6bca0029e18d982a4b7ac60ed0225eeeb6f9d34271d10f07d7d60e5179857"), looks := true }, kinds := [], alts := [], laidByText := true, laidKinds := [.data, .data, .data, .data, .sentinel, .sentinel, .pinned], laidTests := true, laidLooks := .later }
def FnExactParseMetricCardSaid : Prop := Claim7.holds Tryz.pinned (.plain (OpenSpec.ofChange fnExactParseMetricSpec)) fnExactParseMetricCard

/-- THE SECOND FORM's CARD OF 'laws.FnExactParseMetric'. -/
def fnExactParseMetricUptoCard : Claim7 := { stood := { row := fnExactParseMetricUptoRow, standIns := [], harness := (true, "ace6bca0029e18d982a4b7ac60ed0225eeeb6f9d34271d10f07d7d60e5179857"), looks := true }, kinds := [], alts := [], laidByText := true, laidKinds := [.data, .data, .data, .data, .sentinel, .sentinel, .pinned], laidTests := true, laidLooks := .later }
def FnExactParseMetricUptoCardSaid : Prop := Claim7.holds Tryz.pinned (.plain (OpenSpec.upto fnExactParseMetricSpec)) fnExactParseMetricUptoCard
end Rows
end Go.Proofs.YtkhkejdkakmiiaaGreatDoor
