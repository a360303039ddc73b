/-
  DERIVED. GIVEN WITH THE SEED: THE CARDS: each row of YtlhhdpjnoainiaaDoorRows.lean that lists a variable, with what it lists TIED to the program's text (the seventh form; the later family's looks); each row that meets fmt, with fmt's text TOLD by the authors' own Lean function (tested against real Go, not proved from fmt's source: count such statements apart). THE CARD IS WHAT COUNTS. Prove the row's statement (the work); the ties are given (YtlhhdpjnoainiaaDoorTie.lean); close each card by the builder's one call (the guide's Derived/Test/ToyasCard.lean, 'card_holds'). Laid BY PROGRAM, IN A SANDBOX (cutbox-door.mjs). By AI agents, Wed Nov 11 2026. No macro, syntax, notation, axiom, sorry.
-/
import Derived.Test.YtlhhdpjnoainiaaDoorRows
import GoSem.ClaimSeven
namespace Go.Proofs.YtlhhdpjnoainiaaDoor
namespace Rows

/-- THE TIED CARD OF 'laws.FnExactGlobOk'. -/
def fnExactGlobOkCard : Claim7 := { stood := { row := fnExactGlobOkRow, standIns := [], harness := (true, "a8e6f250a74fb20b9ff447e27325ef37527d8d5f9f3120a7715da6db31a12b38"), looks := false }, kinds := [], alts := [], laidByText := true, laidKinds := [.data, .pinned], laidTests := true, laidLooks := .later }
def FnExactGlobOkCardSaid : Prop := Claim7.holds Tryd.pinned (.plain (OpenSpec.ofChange fnExactGlobOkSpec)) fnExactGlobOkCard

/-- THE TIED CARD OF 'laws.FnExactPathOk'. -/
def fnExactPathOkCard : Claim7 := { stood := { row := fnExactPathOkRow, standIns := [], harness := (true, "a8e6f250a74fb20b9ff447e27325ef37527d8d5f9f3120a7715da6db31a12b38"), looks := false }, kinds := [], alts := [], laidByText := true, laidKinds := [.data, .pinned], laidTests := true, laidLooks := .later }
def FnExactPathOkCardSaid : Prop := Claim7.holds Tryd.pinned (.plain (OpenSpec.ofChange fnExactPathOkSpec)) fnExactPathOkCard

/-- THE TIED CARD OF 'laws.FnExactSplitPath'. -/
def fnExactSplitPathCard : Claim7 := { stood := { row := fnExactSplitPathRow, standIns := [], harness := (true, "a8e6f250a74fb20b9ff447e27325ef37527d8d5f9f3120a7715da6db31a12b38"), looks := false }, kinds := [], alts := [], laidByText := true, laidKinds := [.data, .pinned], laidTests := true, laidLooks := .later }
def FnExactSplitPathCardSaid : Prop := Claim7.holds Tryd.pinned (.plain (OpenSpec.ofChange fnExactSplitPathSpec)) fnExactSplitPathCard

/-- THE TIED CARD OF 'laws.FnExactJoinPath'. -/
def fnExactJoinPathCard : Claim7 := { stood := { row := fnExactJoinPathRow, standIns := [], harness := (true, "a8e6f250a74fb20b9ff447e27325ef37527d8d5f9f3120a7715da6db31a12b38"), looks := false }, kinds := [], alts := [], laidByText := true, laidKinds := [.data, .pinned], laidTests := true, laidLooks := .later }
def FnExactJoinPathCardSaid : Prop := Claim7.holds Tryd.pinned (.plain (OpenSpec.ofChange fnExactJoinPathSpec)) fnExactJoinPathCard

/-- THE TIED CARD OF 'laws.FnExactParentPath'. -/
def fnExactParentPathCard : Claim7 := { stood := { row := fnExactParentPathRow, standIns := [], harness := (true, "a8e6f250a74fb20b9ff447e27325ef37527d8d5f9f3120a7715da6db31a12b38"), looks := false }, kinds := [], alts := [], laidByText := true, laidKinds := [.data, .pinned], laidTests := true, laidLooks := .later }
def FnExactParentPathCardSaid : Prop := Claim7.holds Tryd.pinned (.plain (OpenSpec.ofChange fnExactParentPathSpec)) fnExactParentPathCard

/-- THE TIED CARD OF 'laws.FnPaths'. -/
def fnPathsCard : Claim7 := { stood := { row := fnPathsRow, standIns := [], harness := (true, "a8e6f250a74fb20b9ff447e27325ef37527d8d5f9f3120a7715da6db31a12b38"), looks := false }, kinds := [], alts := [], laidByText := true, laidKinds := [.data, .pinned], laidTests := true, laidLooks := .later }
def FnPathsCardSaid : Prop := Claim7.holds Tryd.pinned (.plain (OpenSpec.ofChange fnPathsSpec)) fnPathsCard

/-- THE TIED CARD OF 'laws.FnExactUnderPath'. -/
def fnExactUnderPathCard : Claim7 := { stood := { row := fnExactUnderPathRow, standIns := [], harness := (true, "a8e6f250a74fb20b9ff447e27325ef37527d8d5f9f3120a7715da6db31a12b38"), looks := false }, kinds := [], alts := [], laidByText := true, laidKinds := [.data, .pinned], laidTests := true, laidLooks := .later }
def FnExactUnderPathCardSaid : Prop := Claim7.holds Tryd.pinned (.plain (OpenSpec.ofChange fnExactUnderPathSpec)) fnExactUnderPathCard

/-- THE TIED CARD OF 'laws.FnExactCovers'. -/
def fnExactCoversCard : Claim7 := { stood := { row := fnExactCoversRow, standIns := [], harness := (true, "a8e6f250a74fb20b9ff447e27325ef37527d8d5f9f3120a7715da6db31a12b38"), looks := false }, kinds := [], alts := [], laidByText := true, laidKinds := [.data, .pinned], laidTests := true, laidLooks := .later }
def FnExactCoversCardSaid : Prop := Claim7.holds Tryd.pinned (.plain (OpenSpec.ofChange fnExactCoversSpec)) fnExactCoversCard

/-- THE TIED CARD OF 'laws.FnExactCompareGlob'. -/
def fnExactCompareGlobCard : Claim7 := { stood := { row := fnExactCompareGlobRow, standIns := [], harness := (true, "a8e6f250a74fb20b9ff447e27325ef37527d8d5f9f3120a7715da6db31a12b38"), looks := false }, kinds := [], alts := [], laidByText := true, laidKinds := [.data, .pinned], laidTests := true, laidLooks := .later }
def FnExactCompareGlobCardSaid : Prop := Claim7.holds Tryd.pinned (.plain (OpenSpec.ofChange fnExactCompareGlobSpec)) fnExactCompareGlobCard

/-- THE TIED CARD OF 'laws.FnGlobOrder'. -/
def fnGlobOrderCard : Claim7 := { stood := { row := fnGlobOrderRow, standIns := [], harness := (true, "a8e6f250a74fb20b9ff447e27325ef37527d8d5f9f3120a7715da6db31a12b38"), looks := false }, kinds := [], alts := [], laidByText := true, laidKinds := [.data, .pinned], laidTests := true, laidLooks := .later }
def FnGlobOrderCardSaid : Prop := Claim7.holds Tryd.pinned (.plain (OpenSpec.ofChange fnGlobOrderSpec)) fnGlobOrderCard

/-- THE TIED CARD OF 'laws.FnExactMatchGlob'. -/
def fnExactMatchGlobCard : Claim7 := { stood := { row := fnExactMatchGlobRow, standIns := [], harness := (true, "a8e6f250a74fb20b9ff447e27325ef37527d8d5f9f3120a7715da6db31a12b38"), looks := false }, kinds := [], alts := [], laidByText := true, laidKinds := [.data, .pinned], laidTests := true, laidLooks := .later }
def FnExactMatchGlobCardSaid : Prop := Claim7.holds Tryd.pinned (.plain (OpenSpec.ofChange fnExactMatchGlobSpec)) fnExactMatchGlobCard

/-- THE TIED CARD OF 'laws.FnCovers'. -/
def fnCoversCard : Claim7 := { stood := { row := fnCoversRow, standIns := [], harness := (true, "a8e6f250a74fb20b9ff447e27325ef37527d8d5f9f3120a7715da6db31a12b38"), looks := false }, kinds := [], alts := [], laidByText := true, laidKinds := [.data, .pinned], laidTests := true, laidLooks := .later }
def FnCoversCardSaid : Prop := Claim7.holds Tryd.pinned (.plain (OpenSpec.ofChange fnCoversSpec)) fnCoversCard

/-- THE SECOND FORM's CARD OF 'laws.FnExactGlobOk'. -/
def fnExactGlobOkUptoCard : Claim7 := { stood := { row := fnExactGlobOkUptoRow, standIns := [], harness := (true, "a8e6f250a74fb20b9ff447e27325ef37527d8d5f9f3120a7715da6db31a12b38"), looks := false }, kinds := [], alts := [], laidByText := true, laidKinds := [.data, .pinned], laidTests := true, laidLooks := .later }
def FnExactGlobOkUptoCardSaid : Prop := Claim7.holds Tryd.pinned (.plain (OpenSpec.upto fnExactGlobOkSpec)) fnExactGlobOkUptoCard

/-- THE SECOND FORM's CARD OF 'laws.FnExactPathOk'. -/
def fnExactPathOkUptoCard : Claim7 := { stood := { row := fnExactPathOkUptoRow, standIns := [], harness := (true, "a8e6f250a74fb20b9ff447e27325ef37527d8d5f9f3120a7715da6db31a12b38"), looks := false }, kinds := [], alts := [], laidByText := true, laidKinds := [.data, .pinned], laidTests := true, laidLooks := .later }
def FnExactPathOkUptoCardSaid : Prop := Claim7.holds Tryd.pinned (.plain (OpenSpec.upto fnExactPathOkSpec)) fnExactPathOkUptoCard

/-- THE SECOND FORM's CARD OF 'laws.FnExactSplitPath'. -/
def fnExactSplitPathUptoCard : Claim7 := { stood := { row := fnExactSplitPathUptoRow, standIns := [], harness := (true, "a8e6f250a74fb20b9ff447e27325ef37527d8d5f9f3120a7715da6db31a12b38"), looks := false }, kinds := [], alts := [], laidByText := true, laidKinds := [.data, .pinned], laidTests := true, laidLooks := .later }
def FnExactSplitPathUptoCardSaid : Prop := Claim7.holds Tryd.pinned (.plain (OpenSpec.upto fnExactSplitPathSpec)) fnExactSplitPathUptoCard

/-- THE SECOND FORM's CARD OF 'laws.FnExactJoinPath'. -/
def fnExactJoinPathUptoCard : Claim7 := { stood := { row := fnExactJoinPathUptoRow, standIns := [], harness := (true, "a8e6f250a74fb20b9ff447e27325ef37527d8d5f9f3120a7715da6db31a12b38"), looks := false }, kinds := [], alts := [], laidByText := true, laidKinds := [.data, .pinned], laidTests := true, laidLooks := .later }
def FnExactJoinPathUptoCardSaid : Prop := Claim7.holds Tryd.pinned (.plain (OpenSpec.upto fnExactJoinPathSpec)) fnExactJoinPathUptoCard

/-- THE SECOND FORM's CARD OF 'laws.FnExactParentPath'. -/
def fnExactParentPathUptoCard : Claim7 := { stood := { row := fnExactParentPathUptoRow, standIns := [], harness := (true, "a8e6f250a74fb20b9ff447e27325ef37527d8d5f9f3120a7715da6db31a12b38"), looks := false }, kinds := [], alts := [], laidByText := true, laidKinds := [.data, .pinned], laidTests := true, laidLooks := .later }
def FnExactParentPathUptoCardSaid : Prop := Claim7.holds Tryd.pinned (.plain (OpenSpec.upto fnExactParentPathSpec)) fnExactParentPathUptoCard

/-- THE SECOND FORM's CARD OF 'laws.FnPaths'. -/
def fnPathsUptoCard : Claim7 := { stood := { row := fnPathsUptoRow, standIns := [], harness := (true, "a8e6f250a74fb20b9ff447e27325ef37527d8d5f9f3120a7715da6db31a12b38"), looks := false }, kinds := [], alts := [], laidByText := true, laidKinds := [.data, .pinned], laidTests := true, laidLooks := .later }
def FnPathsUptoCardSaid : Prop := Claim7.holds Tryd.pinned (.plain (OpenSpec.upto fnPathsSpec)) fnPathsUptoCard

/-- THE SECOND FORM's CARD OF 'laws.FnExactUnderPath'. -/
def fnExactUnderPathUptoCard : Claim7 := { stood := { row := fnExactUnderPathUptoRow, standIns := [], harness := (true, "a8e6f250a74fb20b9ff447e27325ef37527d8d5f9f3120a7715da6db31a12b38"), looks := false }, kinds := [], alts := [], laidByText := true, laidKinds := [.data, .pinned], laidTests := true, laidLooks := .later }
def FnExactUnderPathUptoCardSaid : Prop := Claim7.holds Tryd.pinned (.plain (OpenSpec.upto fnExactUnderPathSpec)) fnExactUnderPathUptoCard

/-- THE SECOND FORM's CARD OF 'laws.FnExactCovers'. -/
def fnExactCoversUptoCard : Claim7 := { stood := { row := fnExactCoversUptoRow, standIns := [], harness := (true, "a8e6f250a74fb20b9ff447e27325ef37527d8d5f9f3120a7715da6db31a12b38"), looks := false }, kinds := [], alts := [], laidByText := true, laidKinds := [.data, .pinned], laidTests := true, laidLooks := .later }
def FnExactCoversUptoCardSaid : Prop := Claim7.holds Tryd.pinned (.plain (OpenSpec.upto fnExactCoversSpec)) fnExactCoversUptoCard

/-- THE SECOND FORM's CARD OF 'laws.FnExactCompareGlob'. -/
def fnExactCompareGlobUptoCard : Claim7 := { stood := { row := fnExactCompareGlobUptoRow, standIns := [], harness := (true, "a8e6f250a74fb20b9ff447e27325ef37527d8d5f9f3120a7715da6db31a12b38"), looks := false }, kinds := [], alts := [], laidByText := true, laidKinds := [.data, .pinned], laidTests := true, laidLooks := .later }
def FnExactCompareGlobUptoCardSaid : Prop := Claim7.holds Tryd.pinned (.plain (OpenSpec.upto fnExactCompareGlobSpec)) fnExactCompareGlobUptoCard

/-- THE SECOND FORM's CARD OF 'laws.FnGlobOrder'. -/
def fnGlobOrderUptoCard : Claim7 := { stood := { row := fnGlobOrderUptoRow, standIns := [], harness := (true, "a8e6f250a74fb20b9ff447e27325ef37527d8d5f9f3120a7715da6db31a12b38"), looks := false }, kinds := [], alts := [], laidByText := true, laidKinds := [.data, .pinned], laidTests := true, laidLooks := .later }
def FnGlobOrderUptoCardSaid : Prop := Claim7.holds Tryd.pinned (.plain (OpenSpec.upto fnGlobOrderSpec)) fnGlobOrderUptoCard

/-- THE SECOND FORM's CARD OF 'laws.FnExactMatchGlob'. -/
def fnExactMatchGlobUptoCard : Claim7 := { stood := { row := fnExactMatchGlobUptoRow, standIns := [], harness := (true, "a8e6f250a74fb20b9ff447e27325ef37527d8d5f9f3120a7715da6db31a12b38"), looks := false }, kinds := [], alts := [], laidByText := true, laidKinds := [.data, .pinned], laidTests := true, laidLooks := .later }
def FnExactMatchGlobUptoCardSaid : Prop := Claim7.holds Tryd.pinned (.plain (OpenSpec.upto fnExactMatchGlobSpec)) fnExactMatchGlobUptoCard

/-- THE SECOND FORM's CARD OF 'laws.FnCovers'. -/
def fnCoversUptoCard : Claim7 := { stood := { row := fnCoversUptoRow, standIns := [], harness := (true, "a8e6f250a74fb20b9ff447e27325ef37527d8d5f9f3120a7715da6db31a12b38"), looks := false }, kinds := [], alts := [], laidByText := true, laidKinds := [.data, .pinned], laidTests := true, laidLooks := .later }
def FnCoversUptoCardSaid : Prop := Claim7.holds Tryd.pinned (.plain (OpenSpec.upto fnCoversSpec)) fnCoversUptoCard
end Rows
end Go.Proofs.YtlhhdpjnoainiaaDoor
