/-
  DERIVED. GIVEN WITH THE SEED: THE CARDS: each row of YtlhhdpjnoainiabDoorRows.lean that lists a variable, with what it lists TIED to the program's text (the seventh form; the later family's looks); each row that meets fmt, with fmt's text TOLD by the authors' own Lean function (tested against real Go, not proved from fmt's source: count such statements apart). THE CARD IS WHAT COUNTS. Prove the row's statement (the work); the ties are given (YtlhhdpjnoainiabDoorTie.lean); close each card by the builder's one call (the guide's Derived/Test/ToyasCard.lean, 'card_holds'). Laid BY PROGRAM, IN A SANDBOX (cutbox-door.mjs). By AI agents, Wed Nov 11 2026. No macro, syntax, notation, axiom, sorry.
-/
import Derived.Test.YtlhhdpjnoainiabDoorRows
import GoSem.ClaimSeven
namespace Go.Proofs.YtlhhdpjnoainiabDoor
namespace Rows

/-- THE TIED CARD OF 'laws.FnExactMatchAll'. -/
def fnExactMatchAllCard : Claim7 := { stood := { row := fnExactMatchAllRow, standIns := [], harness := (true, "786d9a61aac72b51a880d46dea7817a6f0fa4d73f184d8f7eb2131288eb59b04"), looks := false }, kinds := [], alts := [], laidByText := true, laidKinds := [.data, .pinned], laidTests := true, laidLooks := .later }
def FnExactMatchAllCardSaid : Prop := Claim7.holds Tryd.pinned (.plain (OpenSpec.ofChange fnExactMatchAllSpec)) fnExactMatchAllCard

/-- THE TIED CARD OF 'laws.FnExactPolicyOk'. -/
def fnExactPolicyOkCard : Claim7 := { stood := { row := fnExactPolicyOkRow, standIns := [], harness := (true, "786d9a61aac72b51a880d46dea7817a6f0fa4d73f184d8f7eb2131288eb59b04"), looks := false }, kinds := [], alts := [], laidByText := true, laidKinds := [.data, .pinned], laidTests := true, laidLooks := .later }
def FnExactPolicyOkCardSaid : Prop := Claim7.holds Tryd.pinned (.plain (OpenSpec.ofChange fnExactPolicyOkSpec)) fnExactPolicyOkCard

/-- THE TIED CARD OF 'laws.FnExactRuleFor'. -/
def fnExactRuleForCard : Claim7 := { stood := { row := fnExactRuleForRow, standIns := [], harness := (true, "786d9a61aac72b51a880d46dea7817a6f0fa4d73f184d8f7eb2131288eb59b04"), looks := false }, kinds := [], alts := [], laidByText := true, laidKinds := [.data, .pinned], laidTests := true, laidLooks := .later }
def FnExactRuleForCardSaid : Prop := Claim7.holds Tryd.pinned (.plain (OpenSpec.ofChange fnExactRuleForSpec)) fnExactRuleForCard

/-- THE TIED CARD OF 'laws.FnExactCapsOf'. -/
def fnExactCapsOfCard : Claim7 := { stood := { row := fnExactCapsOfRow, standIns := [], harness := (true, "786d9a61aac72b51a880d46dea7817a6f0fa4d73f184d8f7eb2131288eb59b04"), looks := false }, kinds := [], alts := [], laidByText := true, laidKinds := [.data, .pinned], laidTests := true, laidLooks := .later }
def FnExactCapsOfCardSaid : Prop := Claim7.holds Tryd.pinned (.plain (OpenSpec.ofChange fnExactCapsOfSpec)) fnExactCapsOfCard

/-- THE TIED CARD OF 'laws.FnExactAllowed'. -/
def fnExactAllowedCard : Claim7 := { stood := { row := fnExactAllowedRow, standIns := [], harness := (true, "786d9a61aac72b51a880d46dea7817a6f0fa4d73f184d8f7eb2131288eb59b04"), looks := false }, kinds := [], alts := [], laidByText := true, laidKinds := [.data, .pinned], laidTests := true, laidLooks := .later }
def FnExactAllowedCardSaid : Prop := Claim7.holds Tryd.pinned (.plain (OpenSpec.ofChange fnExactAllowedSpec)) fnExactAllowedCard

/-- THE TIED CARD OF 'laws.FnDenied'. -/
def fnDeniedCard : Claim7 := { stood := { row := fnDeniedRow, standIns := [], harness := (true, "786d9a61aac72b51a880d46dea7817a6f0fa4d73f184d8f7eb2131288eb59b04"), looks := false }, kinds := [], alts := [], laidByText := true, laidKinds := [.data, .pinned], laidTests := true, laidLooks := .later }
def FnDeniedCardSaid : Prop := Claim7.holds Tryd.pinned (.plain (OpenSpec.ofChange fnDeniedSpec)) fnDeniedCard

/-- THE TIED CARD OF 'laws.FnExactWeaker'. -/
def fnExactWeakerCard : Claim7 := { stood := { row := fnExactWeakerRow, standIns := [], harness := (true, "786d9a61aac72b51a880d46dea7817a6f0fa4d73f184d8f7eb2131288eb59b04"), looks := false }, kinds := [], alts := [], laidByText := true, laidKinds := [.data, .pinned], laidTests := true, laidLooks := .later }
def FnExactWeakerCardSaid : Prop := Claim7.holds Tryd.pinned (.plain (OpenSpec.ofChange fnExactWeakerSpec)) fnExactWeakerCard

/-- THE TIED CARD OF 'laws.FnExactPolicyText'. -/
def fnExactPolicyTextCard : Claim7 := { stood := { row := fnExactPolicyTextRow, standIns := [], harness := (true, "786d9a61aac72b51a880d46dea7817a6f0fa4d73f184d8f7eb2131288eb59b04"), looks := false }, kinds := [], alts := [], laidByText := true, laidKinds := [.data, .pinned], laidTests := true, laidLooks := .later }
def FnExactPolicyTextCardSaid : Prop := Claim7.holds Tryd.pinned (.plain (OpenSpec.ofChange fnExactPolicyTextSpec)) fnExactPolicyTextCard

/-- THE TIED CARD OF 'laws.FnExactParsePolicy'. -/
def fnExactParsePolicyCard : Claim7 := { stood := { row := fnExactParsePolicyRow, standIns := [], harness := (true, "786d9a61aac72b51a880d46dea7817a6f0fa4d73f184d8f7eb2131288eb59b04"), looks := false }, kinds := [], alts := [], laidByText := true, laidKinds := [.data, .pinned], laidTests := true, laidLooks := .later }
def FnExactParsePolicyCardSaid : Prop := Claim7.holds Tryd.pinned (.plain (OpenSpec.ofChange fnExactParsePolicySpec)) fnExactParsePolicyCard

/-- THE TIED CARD OF 'laws.FnPolicyTexts'. -/
def fnPolicyTextsCard : Claim7 := { stood := { row := fnPolicyTextsRow, standIns := [], harness := (true, "786d9a61aac72b51a880d46dea7817a6f0fa4d73f184d8f7eb2131288eb59b04"), looks := false }, kinds := [], alts := [], laidByText := true, laidKinds := [.data, .pinned], laidTests := true, laidLooks := .later }
def FnPolicyTextsCardSaid : Prop := Claim7.holds Tryd.pinned (.plain (OpenSpec.ofChange fnPolicyTextsSpec)) fnPolicyTextsCard

/-- THE TIED CARD OF 'laws.FnExactMergePolicy'. -/
def fnExactMergePolicyCard : Claim7 := { stood := { row := fnExactMergePolicyRow, standIns := [], harness := (true, "786d9a61aac72b51a880d46dea7817a6f0fa4d73f184d8f7eb2131288eb59b04"), looks := false }, kinds := [], alts := [], laidByText := true, laidKinds := [.data, .pinned], laidTests := true, laidLooks := .later }
def FnExactMergePolicyCardSaid : Prop := Claim7.holds Tryd.pinned (.plain (OpenSpec.ofChange fnExactMergePolicySpec)) fnExactMergePolicyCard

/-- THE TIED CARD OF 'laws.FnMerged'. -/
def fnMergedCard : Claim7 := { stood := { row := fnMergedRow, standIns := [], harness := (true, "786d9a61aac72b51a880d46dea7817a6f0fa4d73f184d8f7eb2131288eb59b04"), looks := false }, kinds := [], alts := [], laidByText := true, laidKinds := [.data, .pinned], laidTests := true, laidLooks := .later }
def FnMergedCardSaid : Prop := Claim7.holds Tryd.pinned (.plain (OpenSpec.ofChange fnMergedSpec)) fnMergedCard

/-- THE SECOND FORM's CARD OF 'laws.FnExactMatchAll'. -/
def fnExactMatchAllUptoCard : Claim7 := { stood := { row := fnExactMatchAllUptoRow, standIns := [], harness := (true, "786d9a61aac72b51a880d46dea7817a6f0fa4d73f184d8f7eb2131288eb59b04"), looks := false }, kinds := [], alts := [], laidByText := true, laidKinds := [.data, .pinned], laidTests := true, laidLooks := .later }
def FnExactMatchAllUptoCardSaid : Prop := Claim7.holds Tryd.pinned (.plain (OpenSpec.upto fnExactMatchAllSpec)) fnExactMatchAllUptoCard

/-- THE SECOND FORM's CARD OF 'laws.FnExactPolicyOk'. -/
def fnExactPolicyOkUptoCard : Claim7 := { stood := { row := fnExactPolicyOkUptoRow, standIns := [], harness := (true, "786d9a61aac72b51a880d46dea7817a6f0fa4d73f184d8f7eb2131288eb59b04"), looks := false }, kinds := [], alts := [], laidByText := true, laidKinds := [.data, .pinned], laidTests := true, laidLooks := .later }
def FnExactPolicyOkUptoCardSaid : Prop := Claim7.holds Tryd.pinned (.plain (OpenSpec.upto fnExactPolicyOkSpec)) fnExactPolicyOkUptoCard

/-- THE SECOND FORM's CARD OF 'laws.FnExactRuleFor'. -/
def fnExactRuleForUptoCard : Claim7 := { stood := { row := fnExactRuleForUptoRow, standIns := [], harness := (true, "786d9a61aac72b51a880d46dea7817a6f0fa4d73f184d8f7eb2131288eb59b04"), looks := false }, kinds := [], alts := [], laidByText := true, laidKinds := [.data, .pinned], laidTests := true, laidLooks := .later }
def FnExactRuleForUptoCardSaid : Prop := Claim7.holds Tryd.pinned (.plain (OpenSpec.upto fnExactRuleForSpec)) fnExactRuleForUptoCard

/-- THE SECOND FORM's CARD OF 'laws.FnExactCapsOf'. -/
def fnExactCapsOfUptoCard : Claim7 := { stood := { row := fnExactCapsOfUptoRow, standIns := [], harness := (true, "786d9a61aac72b51a880d46dea7817a6f0fa4d73f184d8f7eb2131288eb59b04"), looks := false }, kinds := [], alts := [], laidByText := true, laidKinds := [.data, .pinned], laidTests := true, laidLooks := .later }
def FnExactCapsOfUptoCardSaid : Prop := Claim7.holds Tryd.pinned (.plain (OpenSpec.upto fnExactCapsOfSpec)) fnExactCapsOfUptoCard

/-- THE SECOND FORM's CARD OF 'laws.FnExactAllowed'. -/
def fnExactAllowedUptoCard : Claim7 := { stood := { row := fnExactAllowedUptoRow, standIns := [], harness := (true, "786d9a61aac72b51a880d46dea7817a6f0fa4d73f184d8f7eb2131288eb59b04"), looks := false }, kinds := [], alts := [], laidByText := true, laidKinds := [.data, .pinned], laidTests := true, laidLooks := .later }
def FnExactAllowedUptoCardSaid : Prop := Claim7.holds Tryd.pinned (.plain (OpenSpec.upto fnExactAllowedSpec)) fnExactAllowedUptoCard

/-- THE SECOND FORM's CARD OF 'laws.FnDenied'. -/
def fnDeniedUptoCard : Claim7 := { stood := { row := fnDeniedUptoRow, standIns := [], harness := (true, "786d9a61aac72b51a880d46dea7817a6f0fa4d73f184d8f7eb2131288eb59b04"), looks := false }, kinds := [], alts := [], laidByText := true, laidKinds := [.data, .pinned], laidTests := true, laidLooks := .later }
def FnDeniedUptoCardSaid : Prop := Claim7.holds Tryd.pinned (.plain (OpenSpec.upto fnDeniedSpec)) fnDeniedUptoCard

/-- THE SECOND FORM's CARD OF 'laws.FnExactWeaker'. -/
def fnExactWeakerUptoCard : Claim7 := { stood := { row := fnExactWeakerUptoRow, standIns := [], harness := (true, "786d9a61aac72b51a880d46dea7817a6f0fa4d73f184d8f7eb2131288eb59b04"), looks := false }, kinds := [], alts := [], laidByText := true, laidKinds := [.data, .pinned], laidTests := true, laidLooks := .later }
def FnExactWeakerUptoCardSaid : Prop := Claim7.holds Tryd.pinned (.plain (OpenSpec.upto fnExactWeakerSpec)) fnExactWeakerUptoCard

/-- THE SECOND FORM's CARD OF 'laws.FnExactPolicyText'. -/
def fnExactPolicyTextUptoCard : Claim7 := { stood := { row := fnExactPolicyTextUptoRow, standIns := [], harness := (true, "786d9a61aac72b51a880d46dea7817a6f0fa4d73f184d8f7eb2131288eb59b04"), looks := false }, kinds := [], alts := [], laidByText := true, laidKinds := [.data, .pinned], laidTests := true, laidLooks := .later }
def FnExactPolicyTextUptoCardSaid : Prop := Claim7.holds Tryd.pinned (.plain (OpenSpec.upto fnExactPolicyTextSpec)) fnExactPolicyTextUptoCard

/-- THE SECOND FORM's CARD OF 'laws.FnExactParsePolicy'. -/
def fnExactParsePolicyUptoCard : Claim7 := { stood := { row := fnExactParsePolicyUptoRow, standIns := [], harness := (true, "786d9a61aac72b51a880d46dea7817a6f0fa4d73f184d8f7eb2131288eb59b04"), looks := false }, kinds := [], alts := [], laidByText := true, laidKinds := [.data, .pinned], laidTests := true, laidLooks := .later }
def FnExactParsePolicyUptoCardSaid : Prop := Claim7.holds Tryd.pinned (.plain (OpenSpec.upto fnExactParsePolicySpec)) fnExactParsePolicyUptoCard

/-- THE SECOND FORM's CARD OF 'laws.FnPolicyTexts'. -/
def fnPolicyTextsUptoCard : Claim7 := { stood := { row := fnPolicyTextsUptoRow, standIns := [], harness := (true, "786d9a61aac72b51a880d46dea7817a6f0fa4d73f184d8f7eb2131288eb59b04"), looks := false }, kinds := [], alts := [], laidByText := true, laidKinds := [.data, .pinned], laidTests := true, laidLooks := .later }
def FnPolicyTextsUptoCardSaid : Prop := Claim7.holds Tryd.pinned (.plain (OpenSpec.upto fnPolicyTextsSpec)) fnPolicyTextsUptoCard

/-- THE SECOND FORM's CARD OF 'laws.FnExactMergePolicy'. -/
def fnExactMergePolicyUptoCard : Claim7 := { stood := { row := fnExactMergePolicyUptoRow, standIns := [], harness := (true, "786d9a61aac72b51a880d46dea7817a6f0fa4d73f184d8f7eb2131288eb59b04"), looks := false }, kinds := [], alts := [], laidByText := true, laidKinds := [.data, .pinned], laidTests := true, laidLooks := .later }
def FnExactMergePolicyUptoCardSaid : Prop := Claim7.holds Tryd.pinned (.plain (OpenSpec.upto fnExactMergePolicySpec)) fnExactMergePolicyUptoCard

/-- THE SECOND FORM's CARD OF 'laws.FnMerged'. -/
def fnMergedUptoCard : Claim7 := { stood := { row := fnMergedUptoRow, standIns := [], harness := (true, "786d9a61aac72b51a880d46dea7817a6f0fa4d73f184d8f7eb2131288eb59b04"), looks := false }, kinds := [], alts := [], laidByText := true, laidKinds := [.data, .pinned], laidTests := true, laidLooks := .later }
def FnMergedUptoCardSaid : Prop := Claim7.holds Tryd.pinned (.plain (OpenSpec.upto fnMergedSpec)) fnMergedUptoCard
end Rows
end Go.Proofs.YtlhhdpjnoainiabDoor
