/-
  DERIVED. GIVEN WITH THE SEED: THE CARDS: each row of YtmjmjloiblbhcaaDoorRows.lean that lists a variable, with what it lists TIED to the program's text (the seventh form; the later family's looks); each row that meets fmt, with fmt's text TOLD by the authors' own Lean function (tested against real Go, not proved from fmt's source: count such statements apart). THE CARD IS WHAT COUNTS. Prove the row's statement (the work); the ties are given (YtmjmjloiblbhcaaDoorTie.lean); close each card by the builder's one call (the guide's Derived/Test/ToyasCard.lean, 'card_holds'). Laid BY PROGRAM, IN A SANDBOX (cutbox-door.mjs). By AI agents, Wed Nov 11 2026. No macro, syntax, notation, axiom, sorry.
-/
import Derived.Test.YtmjmjloiblbhcaaDoorRows
import GoSem.ClaimSeven
namespace Go.Proofs.YtmjmjloiblbhcaaDoor
namespace Rows

/-- THE TIED CARD OF 'laws.FnPolicyTexts'. -/
def fnPolicyTextsCard : Claim7 := { stood := { row := fnPolicyTextsRow, standIns := [], harness := (true, "742540b70cacd04c8184ef1df918c33da729be3a84ea48e6cd335f3f109fe7ee"), looks := false }, kinds := [], alts := [], laidByText := true, laidKinds := [.data, .pinned], laidTests := true, laidLooks := .later }
def FnPolicyTextsCardSaid : Prop := Claim7.holds Tryd.pinned (.plain (OpenSpec.ofChange fnPolicyTextsSpec)) fnPolicyTextsCard

/-- THE TIED CARD OF 'laws.FnExactMergePolicy'. -/
def fnExactMergePolicyCard : Claim7 := { stood := { row := fnExactMergePolicyRow, standIns := [], harness := (true, "742540b70cacd04c8184ef1df918c33da729be3a84ea48e6cd335f3f109fe7ee"), looks := false }, kinds := [], alts := [], laidByText := true, laidKinds := [.data, .pinned], laidTests := true, laidLooks := .later }
def FnExactMergePolicyCardSaid : Prop := Claim7.holds Tryd.pinned (.plain (OpenSpec.ofChange fnExactMergePolicySpec)) fnExactMergePolicyCard

/-- THE TIED CARD OF 'laws.FnMerged'. -/
def fnMergedCard : Claim7 := { stood := { row := fnMergedRow, standIns := [], harness := (true, "742540b70cacd04c8184ef1df918c33da729be3a84ea48e6cd335f3f109fe7ee"), looks := false }, kinds := [], alts := [], laidByText := true, laidKinds := [.data, .pinned], laidTests := true, laidLooks := .later }
def FnMergedCardSaid : Prop := Claim7.holds Tryd.pinned (.plain (OpenSpec.ofChange fnMergedSpec)) fnMergedCard

/-- THE SECOND FORM's CARD OF 'laws.FnPolicyTexts'. -/
def fnPolicyTextsUptoCard : Claim7 := { stood := { row := fnPolicyTextsUptoRow, standIns := [], harness := (true, "742540b70cacd04c8184ef1df918c33da729be3a84ea48e6cd335f3f109fe7ee"), looks := false }, kinds := [], alts := [], laidByText := true, laidKinds := [.data, .pinned], laidTests := true, laidLooks := .later }
def FnPolicyTextsUptoCardSaid : Prop := Claim7.holds Tryd.pinned (.plain (OpenSpec.upto fnPolicyTextsSpec)) fnPolicyTextsUptoCard

/-- THE SECOND FORM's CARD OF 'laws.FnExactMergePolicy'. -/
def fnExactMergePolicyUptoCard : Claim7 := { stood := { row := fnExactMergePolicyUptoRow, standIns := [], harness := (true, "742540b70cacd04c8184ef1df918c33da729be3a84ea48e6cd335f3f109fe7ee"), looks := false }, kinds := [], alts := [], laidByText := true, laidKinds := [.data, .pinned], laidTests := true, laidLooks := .later }
def FnExactMergePolicyUptoCardSaid : Prop := Claim7.holds Tryd.pinned (.plain (OpenSpec.upto fnExactMergePolicySpec)) fnExactMergePolicyUptoCard

/-- THE SECOND FORM's CARD OF 'laws.FnMerged'. -/
def fnMergedUptoCard : Claim7 := { stood := { row := fnMergedUptoRow, standIns := [], harness := (true, "742540b70cacd04c8184ef1df918c33da729be3a84ea48e6cd335f3f109fe7ee"), looks := false }, kinds := [], alts := [], laidByText := true, laidKinds := [.data, .pinned], laidTests := true, laidLooks := .later }
def FnMergedUptoCardSaid : Prop := Claim7.holds Tryd.pinned (.plain (OpenSpec.upto fnMergedSpec)) fnMergedUptoCard
end Rows
end Go.Proofs.YtmjmjloiblbhcaaDoor
