/-
  DERIVED. GIVEN WITH THE SEED: THE CARDS: each row of YtbpihnpakolooaaGreatDoorRows.lean that lists a variable, with what it lists TIED to the program's text (the seventh form; the later family's looks); each row that meets fmt, with fmt's text TOLD by the authors' own Lean function (tested against real Go, not proved from fmt's source: count such statements apart). THE CARD IS WHAT COUNTS. Prove the row's statement (the work); the ties are given (YtbpihnpakolooaaGreatDoorTie.lean); close each card by the builder's one call (the guide's Derived/Test/ToyasCard.lean, 'card_holds'). Laid BY PROGRAM, IN A SANDBOX (cutbox-door.mjs). By AI agents, Wed Nov 11 2026. No macro, syntax, notation, axiom, sorry.
-/
import Derived.Test.YtbpihnpakolooaaGreatDoorRows
import GoSem.ClaimSeven
namespace Go.Proofs.YtbpihnpakolooaaGreatDoor
namespace Rows

/-- THE TIED CARD OF 'laws.FnCondensations'. -/
def fnCondensationsCard : Claim7 := { stood := { row := fnCondensationsRow, standIns := [], harness := (true, "400840cf631f2b92e6333d215df010691365802bb96910886fc850f236339580"), looks := false }, kinds := [], alts := [], laidByText := true, laidKinds := [.data], laidTests := true, laidLooks := .later }
def FnCondensationsCardSaid : Prop := Claim7.holds Tryz.pinned (.plain (OpenSpec.ofChange fnCondensationsSpec)) fnCondensationsCard

/-- THE TIED CARD OF 'laws.FnAnisotropics'. -/
def fnAnisotropicsCard : Claim7 := { stood := { row := fnAnisotropicsRow, standIns := [], harness := (true, "400840cf631f2b92e6333d215df010691365802bb96910886fc850f236339580"), looks := false }, kinds := [], alts := [], laidByText := true, laidKinds := [.data], laidTests := true, laidLooks := .later }
def FnAnisotropicsCardSaid : Prop := Claim7.holds Tryz.pinned (.plain (OpenSpec.ofChange fnAnisotropicsSpec)) fnAnisotropicsCard

/-- THE TIED CARD OF 'laws.FnSubgroups'. -/
def fnSubgroupsCard : Claim7 := { stood := { row := fnSubgroupsRow, standIns := [], harness := (true, "400840cf631f2b92e6333d215df010691365802bb96910886fc850f236339580"), looks := false }, kinds := [], alts := [], laidByText := true, laidKinds := [.data], laidTests := true, laidLooks := .later }
def FnSubgroupsCardSaid : Prop := Claim7.holds Tryz.pinned (.plain (OpenSpec.ofChange fnSubgroupsSpec)) fnSubgroupsCard

/-- THE SECOND FORM's CARD OF 'laws.FnCondensations'. -/
def fnCondensationsUptoCard : Claim7 := { stood := { row := fnCondensationsUptoRow, standIns := [], harness := (true, "400840cf631f2b92e6333d215df010691365802bb96910886fc850f236339580"), looks := false }, kinds := [], alts := [], laidByText := true, laidKinds := [.data], laidTests := true, laidLooks := .later }
def FnCondensationsUptoCardSaid : Prop := Claim7.holds Tryz.pinned (.plain (OpenSpec.upto fnCondensationsSpec)) fnCondensationsUptoCard

/-- THE SECOND FORM's CARD OF 'laws.FnAnisotropics'. -/
def fnAnisotropicsUptoCard : Claim7 := { stood := { row := fnAnisotropicsUptoRow, standIns := [], harness := (true, "400840cf631f2b92e6333d215df010691365802bb96910886fc850f236339580"), looks := false }, kinds := [], alts := [], laidByText := true, laidKinds := [.data], laidTests := true, laidLooks := .later }
def FnAnisotropicsUptoCardSaid : Prop := Claim7.holds Tryz.pinned (.plain (OpenSpec.upto fnAnisotropicsSpec)) fnAnisotropicsUptoCard

/-- THE SECOND FORM's CARD OF 'laws.FnSubgroups'. -/
def fnSubgroupsUptoCard : Claim7 := { stood := { row := fnSubgroupsUptoRow, standIns := [], harness := (true, "400840cf631f2b92e6333d215df010691365802bb96910886fc850f236339580"), looks := false }, kinds := [], alts := [], laidByText := true, laidKinds := [.data], laidTests := true, laidLooks := .later }
def FnSubgroupsUptoCardSaid : Prop := Claim7.holds Tryz.pinned (.plain (OpenSpec.upto fnSubgroupsSpec)) fnSubgroupsUptoCard
end Rows
end Go.Proofs.YtbpihnpakolooaaGreatDoor
