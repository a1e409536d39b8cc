/-
  DERIVED. GIVEN WITH THE SEED: THE CARDS: each row of YtonehmjoolflfaaGreatDoorRows.lean that lists a variable, with what it lists TIED to the program's text (the seventh form; the later family's looks); each row that meets fmt, with fmt's text TOLD by the authors' own Lean function (tested against real Go, not proved from fmt's source: count such statements apart). THE CARD IS WHAT COUNTS. Prove the row's statement (the work); the ties are given (YtonehmjoolflfaaGreatDoorTie.lean); close each card by the builder's one call (the guide's Derived/Test/ToyasCard.lean, 'card_holds'). Laid BY PROGRAM, IN A SANDBOX (cutbox-door.mjs). By AI agents, Wed Nov 11 2026. No macro, syntax, notation, axiom, sorry.
-/
import Derived.Test.YtonehmjoolflfaaGreatDoorRows
import GoSem.ClaimSeven
namespace Go.Proofs.YtonehmjoolflfaaGreatDoor
namespace Rows

/-- THE TIED CARD OF 'laws.FnIsometries'. -/
def fnIsometriesCard : Claim7 := { stood := { row := fnIsometriesRow, standIns := [], harness := (true, "0b1fa70270a146f996031d459bba4ac0c87129ee217c9268a10d0a2b8e76ddca"), looks := true }, kinds := [], alts := [], laidByText := true, laidKinds := [.data, .data, .data, .data, .sentinel, .sentinel, .pinned], laidTests := true, laidLooks := .later }
def FnIsometriesCardSaid : Prop := Claim7.holds Tryz.pinned (.plain (OpenSpec.ofChange fnIsometriesSpec)) fnIsometriesCard

/-- THE SECOND FORM's CARD OF 'laws.FnIsometries'. -/
def fnIsometriesUptoCard : Claim7 := { stood := { row := fnIsometriesUptoRow, standIns := [], harness := (true, "0b1fa70270a146f996031d459bba4ac0c87129ee217c9268a10d0a2b8e76ddca"), looks := true }, kinds := [], alts := [], laidByText := true, laidKinds := [.data, .data, .data, .data, .sentinel, .sentinel, .pinned], laidTests := true, laidLooks := .later }
def FnIsometriesUptoCardSaid : Prop := Claim7.holds Tryz.pinned (.plain (OpenSpec.upto fnIsometriesSpec)) fnIsometriesUptoCard
end Rows
end Go.Proofs.YtonehmjoolflfaaGreatDoor
