/-
  DERIVED. GIVEN WITH THE SEED: THE CARDS: each row of YtlekbkjkkoefnaaDoorRows.lean that lists a variable, with what it lists TIED to the program's text (the seventh form; the later family's looks); each row that meets fmt, with fmt's text TOLD by the authors' own Lean function (tested against real Go, not proved from fmt's source: count such statements apart). THE CARD IS WHAT COUNTS. Prove the row's statement (the work); the ties are given (YtlekbkjkkoefnaaDoorTie.lean); close each card by the builder's one call (the guide's Derived/Test/ToyasCard.lean, 'card_holds'). Laid BY PROGRAM, IN A SANDBOX (cutbox-door.mjs). By AI agents, Wed Nov 11 2026. No macro, syntax, notation, axiom, sorry.
-/
import Derived.Test.YtlekbkjkkoefnaaDoorRows
import GoSem.ClaimSeven
namespace Go.Proofs.YtlekbkjkkoefnaaDoor
namespace Rows

/-- THE TIED CARD OF 'laws.FnExactSubgroupMasks'. -/
def fnExactSubgroupMasksCard : Claim7 := { stood := { row := fnExactSubgroupMasksRow, standIns := [], harness := (true, "2d4e9b2b97f15c442f9acfc0679934a5bdf7222bb64170a63c691e66b013efea"), looks := false }, kinds := [], alts := [], laidByText := true, laidKinds := [.data], laidTests := true, laidLooks := .later }
def FnExactSubgroupMasksCardSaid : Prop := Claim7.holds Tryd.pinned (.plain (OpenSpec.ofChange fnExactSubgroupMasksSpec)) fnExactSubgroupMasksCard

/-- THE TIED CARD OF 'laws.FnExactIsotropicMasks'. -/
def fnExactIsotropicMasksCard : Claim7 := { stood := { row := fnExactIsotropicMasksRow, standIns := [], harness := (true, "2d4e9b2b97f15c442f9acfc0679934a5bdf7222bb64170a63c691e66b013efea"), looks := false }, kinds := [], alts := [], laidByText := true, laidKinds := [.data], laidTests := true, laidLooks := .later }
def FnExactIsotropicMasksCardSaid : Prop := Claim7.holds Tryd.pinned (.plain (OpenSpec.ofChange fnExactIsotropicMasksSpec)) fnExactIsotropicMasksCard

/-- THE TIED CARD OF 'laws.FnExactGreatestIsotropic'. -/
def fnExactGreatestIsotropicCard : Claim7 := { stood := { row := fnExactGreatestIsotropicRow, standIns := [], harness := (true, "2d4e9b2b97f15c442f9acfc0679934a5bdf7222bb64170a63c691e66b013efea"), looks := false }, kinds := [], alts := [], laidByText := true, laidKinds := [.data], laidTests := true, laidLooks := .later }
def FnExactGreatestIsotropicCardSaid : Prop := Claim7.holds Tryd.pinned (.plain (OpenSpec.ofChange fnExactGreatestIsotropicSpec)) fnExactGreatestIsotropicCard

/-- THE TIED CARD OF 'laws.FnExactLagrangianMasks'. -/
def fnExactLagrangianMasksCard : Claim7 := { stood := { row := fnExactLagrangianMasksRow, standIns := [], harness := (true, "2d4e9b2b97f15c442f9acfc0679934a5bdf7222bb64170a63c691e66b013efea"), looks := false }, kinds := [], alts := [], laidByText := true, laidKinds := [.data], laidTests := true, laidLooks := .later }
def FnExactLagrangianMasksCardSaid : Prop := Claim7.holds Tryd.pinned (.plain (OpenSpec.ofChange fnExactLagrangianMasksSpec)) fnExactLagrangianMasksCard

/-- THE TIED CARD OF 'laws.FnExactAreEquivalentMetrics'. -/
def fnExactAreEquivalentMetricsCard : Claim7 := { stood := { row := fnExactAreEquivalentMetricsRow, standIns := [], harness := (true, "2d4e9b2b97f15c442f9acfc0679934a5bdf7222bb64170a63c691e66b013efea"), looks := false }, kinds := [], alts := [], laidByText := true, laidKinds := [.data], laidTests := true, laidLooks := .later }
def FnExactAreEquivalentMetricsCardSaid : Prop := Claim7.holds Tryd.pinned (.plain (OpenSpec.ofChange fnExactAreEquivalentMetricsSpec)) fnExactAreEquivalentMetricsCard

/-- THE TIED CARD OF 'laws.FnExactMetricText'. -/
def fnExactMetricTextCard : Claim7 := { stood := { row := fnExactMetricTextRow, standIns := [], harness := (true, "2d4e9b2b97f15c442f9acfc0679934a5bdf7222bb64170a63c691e66b013efea"), looks := false }, kinds := [], alts := [], laidByText := true, laidKinds := [.data, .data, .data], laidTests := true, laidLooks := .later }
def FnExactMetricTextCardSaid : Prop := Claim7.holds Tryd.pinned (.plain (OpenSpec.ofChange fnExactMetricTextSpec)) fnExactMetricTextCard

/-- THE TIED CARD OF 'laws.FnExactIntegerMatrix'. -/
def fnExactIntegerMatrixCard : Claim7 := { stood := { row := fnExactIntegerMatrixRow, standIns := [], harness := (true, "2d4e9b2b97f15c442f9acfc0679934a5bdf7222bb64170a63c691e66b013efea"), looks := false }, kinds := [], alts := [], laidByText := true, laidKinds := [.data, .pinned], laidTests := true, laidLooks := .later }
def FnExactIntegerMatrixCardSaid : Prop := Claim7.holds Tryd.pinned (.plain (OpenSpec.ofChange fnExactIntegerMatrixSpec)) fnExactIntegerMatrixCard

/-- THE SECOND FORM's CARD OF 'laws.FnExactSubgroupMasks'. -/
def fnExactSubgroupMasksUptoCard : Claim7 := { stood := { row := fnExactSubgroupMasksUptoRow, standIns := [], harness := (true, "2d4e9b2b97f15c442f9acfc0679934a5bdf7222bb64170a63c691e66b013efea"), looks := false }, kinds := [], alts := [], laidByText := true, laidKinds := [.data], laidTests := true, laidLooks := .later }
def FnExactSubgroupMasksUptoCardSaid : Prop := Claim7.holds Tryd.pinned (.plain (OpenSpec.upto fnExactSubgroupMasksSpec)) fnExactSubgroupMasksUptoCard

/-- THE SECOND FORM's CARD OF 'laws.FnExactIsotropicMasks'. -/
def fnExactIsotropicMasksUptoCard : Claim7 := { stood := { row := fnExactIsotropicMasksUptoRow, standIns := [], harness := (true, "2d4e9b2b97f15c442f9acfc0679934a5bdf7222bb64170a63c691e66b013efea"), looks := false }, kinds := [], alts := [], laidByText := true, laidKinds := [.data], laidTests := true, laidLooks := .later }
def FnExactIsotropicMasksUptoCardSaid : Prop := Claim7.holds Tryd.pinned (.plain (OpenSpec.upto fnExactIsotropicMasksSpec)) fnExactIsotropicMasksUptoCard

/-- THE SECOND FORM's CARD OF 'laws.FnExactGreatestIsotropic'. -/
def fnExactGreatestIsotropicUptoCard : Claim7 := { stood := { row := fnExactGreatestIsotropicUptoRow, standIns := [], harness := (true, "2d4e9b2b97f15c442f9acfc0679934a5bdf7222bb64170a63c691e66b013efea"), looks := false }, kinds := [], alts := [], laidByText := true, laidKinds := [.data], laidTests := true, laidLooks := .later }
def FnExactGreatestIsotropicUptoCardSaid : Prop := Claim7.holds Tryd.pinned (.plain (OpenSpec.upto fnExactGreatestIsotropicSpec)) fnExactGreatestIsotropicUptoCard

/-- THE SECOND FORM's CARD OF 'laws.FnExactLagrangianMasks'. -/
def fnExactLagrangianMasksUptoCard : Claim7 := { stood := { row := fnExactLagrangianMasksUptoRow, standIns := [], harness := (true, "2d4e9b2b97f15c442f9acfc0679934a5bdf7222bb64170a63c691e66b013efea"), looks := false }, kinds := [], alts := [], laidByText := true, laidKinds := [.data], laidTests := true, laidLooks := .later }
def FnExactLagrangianMasksUptoCardSaid : Prop := Claim7.holds Tryd.pinned (.plain (OpenSpec.upto fnExactLagrangianMasksSpec)) fnExactLagrangianMasksUptoCard

/-- THE SECOND FORM's CARD OF 'laws.FnExactAreEquivalentMetrics'. -/
def fnExactAreEquivalentMetricsUptoCard : Claim7 := { stood := { row := fnExactAreEquivalentMetricsUptoRow, standIns := [], harness := (true, "2d4e9b2b97f15c442f9acfc0679934a5bdf7222bb64170a63c691e66b013efea"), looks := false }, kinds := [], alts := [], laidByText := true, laidKinds := [.data], laidTests := true, laidLooks := .later }
def FnExactAreEquivalentMetricsUptoCardSaid : Prop := Claim7.holds Tryd.pinned (.plain (OpenSpec.upto fnExactAreEquivalentMetricsSpec)) fnExactAreEquivalentMetricsUptoCard

/-- THE SECOND FORM's CARD OF 'laws.FnExactMetricText'. -/
def fnExactMetricTextUptoCard : Claim7 := { stood := { row := fnExactMetricTextUptoRow, standIns := [], harness := (true, "2d4e9b2b97f15c442f9acfc0679934a5bdf7222bb64170a63c691e66b013efea"), looks := false }, kinds := [], alts := [], laidByText := true, laidKinds := [.data, .data, .data], laidTests := true, laidLooks := .later }
def FnExactMetricTextUptoCardSaid : Prop := Claim7.holds Tryd.pinned (.plain (OpenSpec.upto fnExactMetricTextSpec)) fnExactMetricTextUptoCard

/-- THE SECOND FORM's CARD OF 'laws.FnExactIntegerMatrix'. -/
def fnExactIntegerMatrixUptoCard : Claim7 := { stood := { row := fnExactIntegerMatrixUptoRow, standIns := [], harness := (true, "2d4e9b2b97f15c442f9acfc0679934a5bdf7222bb64170a63c691e66b013efea"), looks := false }, kinds := [], alts := [], laidByText := true, laidKinds := [.data, .pinned], laidTests := true, laidLooks := .later }
def FnExactIntegerMatrixUptoCardSaid : Prop := Claim7.holds Tryd.pinned (.plain (OpenSpec.upto fnExactIntegerMatrixSpec)) fnExactIntegerMatrixUptoCard
end Rows
end Go.Proofs.YtlekbkjkkoefnaaDoor
