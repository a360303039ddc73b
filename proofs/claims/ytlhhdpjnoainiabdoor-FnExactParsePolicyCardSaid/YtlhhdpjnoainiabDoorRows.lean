/-
  NARROWER THAN 'FOR EVERY INPUT', by the rows' own cells (each row's printed sentence says how): FnExactMatchAll: laid · FnExactPolicyOk: laid · FnExactRuleFor: laid · FnExactCapsOf: laid · FnExactAllowed: laid · FnDenied: laid · FnExactWeaker: laid · FnExactPolicyText: laid · FnExactParsePolicy: laid · FnPolicyTexts: laid · FnExactMergePolicy: laid · FnMerged: laid.
  DERIVED. THE GIVEN ROWS OF THIS SEAT. 12 by the template 'for every input the law returns true; each argument reads behind the call as it read before'; 0 by the template 'total and deterministic' (their statements: YtlhhdpjnoainiabDoorTotals.lean).
  GIVEN WITH THE SEED: the statements are not yours to turn. If you find one false, say at which input.
  Laid BY PROGRAM, IN A SANDBOX (cutbox-rows.mjs): the forced cells as the released guide's own fill.sh prints them over the translation 1f6b452763c3bf62… (all of the seat's roots in one cut). By AI agents, Wed Nov 11 2026. No macro, syntax, notation, axiom, sorry.
-/
import Derived.Test.YtlhhdpjnoainiabDoorChecked
import GoSem.PinnedTables
import GoSem.Claim
import GoSem.ClaimJoined
import GoSem.ClaimMapViews
import Derived.JoinedTies
import Derived.KernelRfl
namespace Go.Proofs.YtlhhdpjnoainiabDoor
/- THE CELL 'sum', in the pinned program and in every row, IS THE sha256 OF THE DUMP (.gsa) THAT YtlhhdpjnoainiabDoorProg.lean LOADS. Nothing in Lean hashes anything: it is a label: what it is worth is what the hold of that sum in a sandbox is worth. -/
noncomputable def Tryd.pinned : Pinned := { name := "ytlhhdpjnoainiabdoor", sum := "1f6b452763c3bf62c777a869ecb92f3de79b7f41398534c81cee034687962dea", checked := Tryd.checked }
namespace Rows
def none {H : Type} : Left H := { results := [], args := [] }

/- WHAT THE LISTED PACKAGE-LEVEL VARIABLES READ AS WHEN THE CALL BEGINS. Each datum BY PROGRAM (the guide's laid-datum.mjs) off the statement by which the dump's own 'gosem.cut.vars' lays the variable. In a bare row this is a premise. The card (YtlhhdpjnoainiabDoorCards.lean) ties it to the program's text. -/
def laid_unicode_utf8_acceptRanges {H : Type} : DataW H := .agg [.agg [.lit (.int .u8 128), .lit (.int .u8 191)], .agg [.lit (.int .u8 160), .lit (.int .u8 191)], .agg [.lit (.int .u8 128), .lit (.int .u8 159)], .agg [.lit (.int .u8 144), .lit (.int .u8 191)], .agg [.lit (.int .u8 128), .lit (.int .u8 143)], .agg [.lit (.int .u8 0), .lit (.int .u8 0)], .agg [.lit (.int .u8 0), .lit (.int .u8 0)], .agg [.lit (.int .u8 0), .lit (.int .u8 0)], .agg [.lit (.int .u8 0), .lit (.int .u8 0)], .agg [.lit (.int .u8 0), .lit (.int .u8 0)], .agg [.lit (.int .u8 0), .lit (.int .u8 0)], .agg [.lit (.int .u8 0), .lit (.int .u8 0)], .agg [.lit (.int .u8 0), .lit (.int .u8 0)], .agg [.lit (.int .u8 0), .lit (.int .u8 0)], .agg [.lit (.int .u8 0), .lit (.int .u8 0)], .agg [.lit (.int .u8 0), .lit (.int .u8 0)]]
/-- One of Go's own tables, pinned by name: the form's constant. -/
def laid_unicode_utf8_first : DataW Unit := Go.Pinned.utf8First

/-- 'laws.FnExactMatchAll': WHATEVER THE INPUT: true; the input reads as it did. -/
def fnExactMatchAllSpec : ChangeSpec := { name := "fnExactMatchAll", fn := fun _ => fun
  | [d1, d2] => { results := [.lit (.bool true)], args := [d1, d2] }
  | _ => none }
def fnExactMatchAllRow : OpenClaim := { program := "ytlhhdpjnoainiabdoor", sum := "1f6b452763c3bf62c777a869ecb92f3de79b7f41398534c81cee034687962dea", func := "loop.example/g00705/laws.FnExactMatchAll", spec := "fnExactMatchAll", inPlace := ["internal/bytealg.CountString", "internal/bytealg.IndexByteString", "internal/bytealg.IndexString"], recurses := true, named := ["unicode/utf8.first", "unicode/utf8.acceptRanges", "internal/bytealg.MaxLen"], apart := false, laid := [("unicode/utf8.acceptRanges", laid_unicode_utf8_acceptRanges), ("unicode/utf8.first", laid_unicode_utf8_first)] }
def FnExactMatchAllSaid : Prop := fnExactMatchAllRow.holds Tryd.pinned (OpenSpec.ofChange fnExactMatchAllSpec)

/-- ITS FALSE NEIGHBOUR: 'it returns false'. Refute it at one input. -/
def fnExactMatchAllWrong : ChangeSpec := { name := "fnExactMatchAll", fn := fun _ => fun
  | [d1, d2] => { results := [.lit (.bool false)], args := [d1, d2] }
  | _ => none }
def FnExactMatchAllWrongFalsely : Prop := fnExactMatchAllRow.holds Tryd.pinned (OpenSpec.ofChange fnExactMatchAllWrong)

/-- 'laws.FnExactPolicyOk': WHATEVER THE INPUT: true; the input reads as it did. -/
def fnExactPolicyOkSpec : ChangeSpec := { name := "fnExactPolicyOk", fn := fun _ => fun
  | [d] => { results := [.lit (.bool true)], args := [d] }
  | _ => none }
def fnExactPolicyOkRow : OpenClaim := { program := "ytlhhdpjnoainiabdoor", sum := "1f6b452763c3bf62c777a869ecb92f3de79b7f41398534c81cee034687962dea", func := "loop.example/g00705/laws.FnExactPolicyOk", spec := "fnExactPolicyOk", inPlace := ["internal/bytealg.CountString", "internal/bytealg.IndexByteString", "internal/bytealg.IndexString"], named := ["unicode/utf8.first", "unicode/utf8.acceptRanges", "internal/bytealg.MaxLen"], apart := false, laid := [("unicode/utf8.acceptRanges", laid_unicode_utf8_acceptRanges), ("unicode/utf8.first", laid_unicode_utf8_first)] }
def FnExactPolicyOkSaid : Prop := fnExactPolicyOkRow.holds Tryd.pinned (OpenSpec.ofChange fnExactPolicyOkSpec)

/-- ITS FALSE NEIGHBOUR: 'it returns false'. Refute it at one input. -/
def fnExactPolicyOkWrong : ChangeSpec := { name := "fnExactPolicyOk", fn := fun _ => fun
  | [d] => { results := [.lit (.bool false)], args := [d] }
  | _ => none }
def FnExactPolicyOkWrongFalsely : Prop := fnExactPolicyOkRow.holds Tryd.pinned (OpenSpec.ofChange fnExactPolicyOkWrong)

/-- 'laws.FnExactRuleFor': WHATEVER THE INPUT: true; the input reads as it did. -/
def fnExactRuleForSpec : ChangeSpec := { name := "fnExactRuleFor", fn := fun _ => fun
  | [d1, d2] => { results := [.lit (.bool true)], args := [d1, d2] }
  | _ => none }
def fnExactRuleForRow : OpenClaim := { program := "ytlhhdpjnoainiabdoor", sum := "1f6b452763c3bf62c777a869ecb92f3de79b7f41398534c81cee034687962dea", func := "loop.example/g00705/laws.FnExactRuleFor", spec := "fnExactRuleFor", inPlace := ["internal/bytealg.CountString", "internal/bytealg.IndexByteString", "internal/bytealg.IndexString"], recurses := true, named := ["unicode/utf8.first", "unicode/utf8.acceptRanges", "internal/bytealg.MaxLen"], apart := false, laid := [("unicode/utf8.acceptRanges", laid_unicode_utf8_acceptRanges), ("unicode/utf8.first", laid_unicode_utf8_first)] }
def FnExactRuleForSaid : Prop := fnExactRuleForRow.holds Tryd.pinned (OpenSpec.ofChange fnExactRuleForSpec)

/-- ITS FALSE NEIGHBOUR: 'it returns false'. Refute it at one input. -/
def fnExactRuleForWrong : ChangeSpec := { name := "fnExactRuleFor", fn := fun _ => fun
  | [d1, d2] => { results := [.lit (.bool false)], args := [d1, d2] }
  | _ => none }
def FnExactRuleForWrongFalsely : Prop := fnExactRuleForRow.holds Tryd.pinned (OpenSpec.ofChange fnExactRuleForWrong)

/-- 'laws.FnExactCapsOf': WHATEVER THE INPUT: true; the input reads as it did. -/
def fnExactCapsOfSpec : ChangeSpec := { name := "fnExactCapsOf", fn := fun _ => fun
  | [d1, d2] => { results := [.lit (.bool true)], args := [d1, d2] }
  | _ => none }
def fnExactCapsOfRow : OpenClaim := { program := "ytlhhdpjnoainiabdoor", sum := "1f6b452763c3bf62c777a869ecb92f3de79b7f41398534c81cee034687962dea", func := "loop.example/g00705/laws.FnExactCapsOf", spec := "fnExactCapsOf", inPlace := ["internal/bytealg.CountString", "internal/bytealg.IndexByteString", "internal/bytealg.IndexString"], recurses := true, named := ["unicode/utf8.first", "unicode/utf8.acceptRanges", "internal/bytealg.MaxLen"], apart := false, laid := [("unicode/utf8.acceptRanges", laid_unicode_utf8_acceptRanges), ("unicode/utf8.first", laid_unicode_utf8_first)] }
def FnExactCapsOfSaid : Prop := fnExactCapsOfRow.holds Tryd.pinned (OpenSpec.ofChange fnExactCapsOfSpec)

/-- ITS FALSE NEIGHBOUR: 'it returns false'. Refute it at one input. -/
def fnExactCapsOfWrong : ChangeSpec := { name := "fnExactCapsOf", fn := fun _ => fun
  | [d1, d2] => { results := [.lit (.bool false)], args := [d1, d2] }
  | _ => none }
def FnExactCapsOfWrongFalsely : Prop := fnExactCapsOfRow.holds Tryd.pinned (OpenSpec.ofChange fnExactCapsOfWrong)

/-- 'laws.FnExactAllowed': WHATEVER THE INPUT: true; the input reads as it did. -/
def fnExactAllowedSpec : ChangeSpec := { name := "fnExactAllowed", fn := fun _ => fun
  | [d1, d2, d3] => { results := [.lit (.bool true)], args := [d1, d2, d3] }
  | _ => none }
def fnExactAllowedRow : OpenClaim := { program := "ytlhhdpjnoainiabdoor", sum := "1f6b452763c3bf62c777a869ecb92f3de79b7f41398534c81cee034687962dea", func := "loop.example/g00705/laws.FnExactAllowed", spec := "fnExactAllowed", inPlace := ["internal/bytealg.CountString", "internal/bytealg.IndexByteString", "internal/bytealg.IndexString"], recurses := true, named := ["unicode/utf8.first", "unicode/utf8.acceptRanges", "internal/bytealg.MaxLen"], apart := false, laid := [("unicode/utf8.acceptRanges", laid_unicode_utf8_acceptRanges), ("unicode/utf8.first", laid_unicode_utf8_first)] }
def FnExactAllowedSaid : Prop := fnExactAllowedRow.holds Tryd.pinned (OpenSpec.ofChange fnExactAllowedSpec)

/-- ITS FALSE NEIGHBOUR: 'it returns false'. Refute it at one input. -/
def fnExactAllowedWrong : ChangeSpec := { name := "fnExactAllowed", fn := fun _ => fun
  | [d1, d2, d3] => { results := [.lit (.bool false)], args := [d1, d2, d3] }
  | _ => none }
def FnExactAllowedWrongFalsely : Prop := fnExactAllowedRow.holds Tryd.pinned (OpenSpec.ofChange fnExactAllowedWrong)

/-- 'laws.FnDenied': WHATEVER THE INPUT: true; the input reads as it did. -/
def fnDeniedSpec : ChangeSpec := { name := "fnDenied", fn := fun _ => fun
  | [d] => { results := [.lit (.bool true)], args := [d] }
  | _ => none }
def fnDeniedRow : OpenClaim := { program := "ytlhhdpjnoainiabdoor", sum := "1f6b452763c3bf62c777a869ecb92f3de79b7f41398534c81cee034687962dea", func := "loop.example/g00705/laws.FnDenied", spec := "fnDenied", inPlace := ["internal/bytealg.CountString", "internal/bytealg.IndexByteString", "internal/bytealg.IndexString"], recurses := true, named := ["unicode/utf8.first", "unicode/utf8.acceptRanges", "internal/bytealg.MaxLen"], apart := false, laid := [("unicode/utf8.acceptRanges", laid_unicode_utf8_acceptRanges), ("unicode/utf8.first", laid_unicode_utf8_first)] }
def FnDeniedSaid : Prop := fnDeniedRow.holds Tryd.pinned (OpenSpec.ofChange fnDeniedSpec)

/-- ITS FALSE NEIGHBOUR: 'it returns false'. Refute it at one input. -/
def fnDeniedWrong : ChangeSpec := { name := "fnDenied", fn := fun _ => fun
  | [d] => { results := [.lit (.bool false)], args := [d] }
  | _ => none }
def FnDeniedWrongFalsely : Prop := fnDeniedRow.holds Tryd.pinned (OpenSpec.ofChange fnDeniedWrong)

/-- 'laws.FnExactWeaker': WHATEVER THE INPUT: true; the input reads as it did. -/
def fnExactWeakerSpec : ChangeSpec := { name := "fnExactWeaker", fn := fun _ => fun
  | [d1, d2, d3] => { results := [.lit (.bool true)], args := [d1, d2, d3] }
  | _ => none }
def fnExactWeakerRow : OpenClaim := { program := "ytlhhdpjnoainiabdoor", sum := "1f6b452763c3bf62c777a869ecb92f3de79b7f41398534c81cee034687962dea", func := "loop.example/g00705/laws.FnExactWeaker", spec := "fnExactWeaker", inPlace := ["internal/bytealg.CountString", "internal/bytealg.IndexByteString", "internal/bytealg.IndexString"], recurses := true, named := ["unicode/utf8.first", "unicode/utf8.acceptRanges", "internal/bytealg.MaxLen"], apart := false, laid := [("unicode/utf8.acceptRanges", laid_unicode_utf8_acceptRanges), ("unicode/utf8.first", laid_unicode_utf8_first)] }
def FnExactWeakerSaid : Prop := fnExactWeakerRow.holds Tryd.pinned (OpenSpec.ofChange fnExactWeakerSpec)

/-- ITS FALSE NEIGHBOUR: 'it returns false'. Refute it at one input. -/
def fnExactWeakerWrong : ChangeSpec := { name := "fnExactWeaker", fn := fun _ => fun
  | [d1, d2, d3] => { results := [.lit (.bool false)], args := [d1, d2, d3] }
  | _ => none }
def FnExactWeakerWrongFalsely : Prop := fnExactWeakerRow.holds Tryd.pinned (OpenSpec.ofChange fnExactWeakerWrong)

/-- 'laws.FnExactPolicyText': WHATEVER THE INPUT: true; the input reads as it did. -/
def fnExactPolicyTextSpec : ChangeSpec := { name := "fnExactPolicyText", fn := fun _ => fun
  | [d] => { results := [.lit (.bool true)], args := [d] }
  | _ => none }
def fnExactPolicyTextRow : OpenClaim := { program := "ytlhhdpjnoainiabdoor", sum := "1f6b452763c3bf62c777a869ecb92f3de79b7f41398534c81cee034687962dea", func := "loop.example/g00705/laws.FnExactPolicyText", spec := "fnExactPolicyText", inPlace := ["internal/bytealg.CountString", "internal/bytealg.IndexByteString", "internal/bytealg.IndexString", "internal/abi.NoEscape"], named := ["unicode/utf8.first", "unicode/utf8.acceptRanges", "internal/bytealg.MaxLen"], apart := false, laid := [("unicode/utf8.acceptRanges", laid_unicode_utf8_acceptRanges), ("unicode/utf8.first", laid_unicode_utf8_first)] }
def FnExactPolicyTextSaid : Prop := fnExactPolicyTextRow.holds Tryd.pinned (OpenSpec.ofChange fnExactPolicyTextSpec)

/-- ITS FALSE NEIGHBOUR: 'it returns false'. Refute it at one input. -/
def fnExactPolicyTextWrong : ChangeSpec := { name := "fnExactPolicyText", fn := fun _ => fun
  | [d] => { results := [.lit (.bool false)], args := [d] }
  | _ => none }
def FnExactPolicyTextWrongFalsely : Prop := fnExactPolicyTextRow.holds Tryd.pinned (OpenSpec.ofChange fnExactPolicyTextWrong)

/-- 'laws.FnExactParsePolicy': WHATEVER THE INPUT: true; the input reads as it did. -/
def fnExactParsePolicySpec : ChangeSpec := { name := "fnExactParsePolicy", fn := fun _ => fun
  | [d1, d2] => { results := [.lit (.bool true)], args := [d1, d2] }
  | _ => none }
def fnExactParsePolicyRow : OpenClaim := { program := "ytlhhdpjnoainiabdoor", sum := "1f6b452763c3bf62c777a869ecb92f3de79b7f41398534c81cee034687962dea", func := "loop.example/g00705/laws.FnExactParsePolicy", spec := "fnExactParsePolicy", inPlace := ["internal/bytealg.CountString", "internal/bytealg.IndexByteString", "internal/bytealg.IndexString", "internal/abi.NoEscape"], named := ["unicode/utf8.first", "unicode/utf8.acceptRanges", "internal/bytealg.MaxLen"], apart := false, laid := [("unicode/utf8.acceptRanges", laid_unicode_utf8_acceptRanges), ("unicode/utf8.first", laid_unicode_utf8_first)] }
def FnExactParsePolicySaid : Prop := fnExactParsePolicyRow.holds Tryd.pinned (OpenSpec.ofChange fnExactParsePolicySpec)

/-- ITS FALSE NEIGHBOUR: 'it returns false'. Refute it at one input. -/
def fnExactParsePolicyWrong : ChangeSpec := { name := "fnExactParsePolicy", fn := fun _ => fun
  | [d1, d2] => { results := [.lit (.bool false)], args := [d1, d2] }
  | _ => none }
def FnExactParsePolicyWrongFalsely : Prop := fnExactParsePolicyRow.holds Tryd.pinned (OpenSpec.ofChange fnExactParsePolicyWrong)

/-- 'laws.FnPolicyTexts': WHATEVER THE INPUT: true; the input reads as it did. -/
def fnPolicyTextsSpec : ChangeSpec := { name := "fnPolicyTexts", fn := fun _ => fun
  | [d] => { results := [.lit (.bool true)], args := [d] }
  | _ => none }
def fnPolicyTextsRow : OpenClaim := { program := "ytlhhdpjnoainiabdoor", sum := "1f6b452763c3bf62c777a869ecb92f3de79b7f41398534c81cee034687962dea", func := "loop.example/g00705/laws.FnPolicyTexts", spec := "fnPolicyTexts", inPlace := ["internal/bytealg.CountString", "internal/bytealg.IndexByteString", "internal/bytealg.IndexString", "internal/abi.NoEscape"], named := ["unicode/utf8.first", "unicode/utf8.acceptRanges", "internal/bytealg.MaxLen"], apart := false, laid := [("unicode/utf8.acceptRanges", laid_unicode_utf8_acceptRanges), ("unicode/utf8.first", laid_unicode_utf8_first)] }
def FnPolicyTextsSaid : Prop := fnPolicyTextsRow.holds Tryd.pinned (OpenSpec.ofChange fnPolicyTextsSpec)

/-- ITS FALSE NEIGHBOUR: 'it returns false'. Refute it at one input. -/
def fnPolicyTextsWrong : ChangeSpec := { name := "fnPolicyTexts", fn := fun _ => fun
  | [d] => { results := [.lit (.bool false)], args := [d] }
  | _ => none }
def FnPolicyTextsWrongFalsely : Prop := fnPolicyTextsRow.holds Tryd.pinned (OpenSpec.ofChange fnPolicyTextsWrong)

/-- 'laws.FnExactMergePolicy': WHATEVER THE INPUT: true; the input reads as it did. -/
def fnExactMergePolicySpec : ChangeSpec := { name := "fnExactMergePolicy", fn := fun _ => fun
  | [d1, d2] => { results := [.lit (.bool true)], args := [d1, d2] }
  | _ => none }
def fnExactMergePolicyRow : OpenClaim := { program := "ytlhhdpjnoainiabdoor", sum := "1f6b452763c3bf62c777a869ecb92f3de79b7f41398534c81cee034687962dea", func := "loop.example/g00705/laws.FnExactMergePolicy", spec := "fnExactMergePolicy", inPlace := ["internal/bytealg.CountString", "internal/bytealg.IndexByteString", "internal/bytealg.IndexString", "internal/bytealg.abigen_runtime_cmpstring", "slices.overlaps[loop.example/g00705/impl.Rule]"], unfollowed := true, recurses := true, named := ["unicode/utf8.first", "unicode/utf8.acceptRanges", "internal/bytealg.MaxLen"], apart := false, laid := [("unicode/utf8.acceptRanges", laid_unicode_utf8_acceptRanges), ("unicode/utf8.first", laid_unicode_utf8_first)] }
def FnExactMergePolicySaid : Prop := fnExactMergePolicyRow.holds Tryd.pinned (OpenSpec.ofChange fnExactMergePolicySpec)

/-- ITS FALSE NEIGHBOUR: 'it returns false'. Refute it at one input. -/
def fnExactMergePolicyWrong : ChangeSpec := { name := "fnExactMergePolicy", fn := fun _ => fun
  | [d1, d2] => { results := [.lit (.bool false)], args := [d1, d2] }
  | _ => none }
def FnExactMergePolicyWrongFalsely : Prop := fnExactMergePolicyRow.holds Tryd.pinned (OpenSpec.ofChange fnExactMergePolicyWrong)

/-- 'laws.FnMerged': WHATEVER THE INPUT: true; the input reads as it did. -/
def fnMergedSpec : ChangeSpec := { name := "fnMerged", fn := fun _ => fun
  | [d] => { results := [.lit (.bool true)], args := [d] }
  | _ => none }
def fnMergedRow : OpenClaim := { program := "ytlhhdpjnoainiabdoor", sum := "1f6b452763c3bf62c777a869ecb92f3de79b7f41398534c81cee034687962dea", func := "loop.example/g00705/laws.FnMerged", spec := "fnMerged", inPlace := ["internal/bytealg.CountString", "internal/bytealg.IndexByteString", "internal/bytealg.IndexString", "internal/bytealg.abigen_runtime_cmpstring", "slices.overlaps[loop.example/g00705/impl.Rule]"], unfollowed := true, recurses := true, named := ["unicode/utf8.first", "unicode/utf8.acceptRanges", "internal/bytealg.MaxLen"], apart := false, laid := [("unicode/utf8.acceptRanges", laid_unicode_utf8_acceptRanges), ("unicode/utf8.first", laid_unicode_utf8_first)] }
def FnMergedSaid : Prop := fnMergedRow.holds Tryd.pinned (OpenSpec.ofChange fnMergedSpec)

/-- ITS FALSE NEIGHBOUR: 'it returns false'. Refute it at one input. -/
def fnMergedWrong : ChangeSpec := { name := "fnMerged", fn := fun _ => fun
  | [d] => { results := [.lit (.bool false)], args := [d] }
  | _ => none }
def FnMergedWrongFalsely : Prop := fnMergedRow.holds Tryd.pinned (OpenSpec.ofChange fnMergedWrong)

/- THE SECOND FORM. 'bulk': how many values and letters a reading holds, each counted each time it is reached (what is shared counts as often as it is met; a slice's spare places count too). A statement '..UptoSaid' is the law's where the arguments, and the package variables that the reading takes, are together of bulk at most 1048576: NARROWER than '..Said'. Prove '..Said' where nothing that the law and all that it calls make is longer than what came in: it says more and counts as full. Else prove '..UptoSaid'. A law counts once. -/
mutual
def uptoBulk {H : Type} : DataW H → Nat
  | .lit (.string bytes) => bytes.length + 1
  | .lit _ => 1
  | .nil => 1
  | .ptr d => uptoBulk d + 1
  | .slice elems spare => uptoBulkAll elems + uptoBulkAll spare + 1
  | .agg parts => uptoBulkAll parts + 1
  | .iface _ d => uptoBulk d + 1
  | .map entries => uptoBulkEntries entries + 1
  | .held _ => 1
def uptoBulkAll {H : Type} : List (DataW H) → Nat
  | [] => 0
  | d :: r => uptoBulk d + uptoBulkAll r
def uptoBulkEntries {H : Type} : List (Lit × DataW H) → Nat
  | [] => 0
  | x :: r => uptoBulkEntry x + uptoBulkEntries r
def uptoBulkEntry {H : Type} : Lit × DataW H → Nat
  | (.string bytes, d) => bytes.length + uptoBulk d + 1
  | (_, d) => uptoBulk d + 1
 end
def uptoSmall : (H : Type) → List (DataW H) → Bool := fun _ ds => decide (uptoBulkAll ds ≤ 1048576)
def OpenSpec.upto (s : _root_.Go.ChangeSpec) : _root_.Go.OpenSpec := { _root_.Go.OpenSpec.ofChange s with cond := some uptoSmall }

/-- 'laws.FnExactMatchAll', WHERE WHAT IT READS IS OF BULK AT MOST 1048576: true; the input reads as it did. -/
def fnExactMatchAllUptoRow : OpenClaim := { program := "ytlhhdpjnoainiabdoor", sum := "1f6b452763c3bf62c777a869ecb92f3de79b7f41398534c81cee034687962dea", func := "loop.example/g00705/laws.FnExactMatchAll", spec := "fnExactMatchAll", inPlace := ["internal/bytealg.CountString", "internal/bytealg.IndexByteString", "internal/bytealg.IndexString"], recurses := true, named := ["unicode/utf8.first", "unicode/utf8.acceptRanges", "internal/bytealg.MaxLen"], apart := false, laid := [("unicode/utf8.acceptRanges", laid_unicode_utf8_acceptRanges), ("unicode/utf8.first", laid_unicode_utf8_first)], narrowed := true }
def FnExactMatchAllUptoSaid : Prop := fnExactMatchAllUptoRow.holds Tryd.pinned (OpenSpec.upto fnExactMatchAllSpec)

/-- 'laws.FnExactPolicyOk', WHERE WHAT IT READS IS OF BULK AT MOST 1048576: true; the input reads as it did. -/
def fnExactPolicyOkUptoRow : OpenClaim := { program := "ytlhhdpjnoainiabdoor", sum := "1f6b452763c3bf62c777a869ecb92f3de79b7f41398534c81cee034687962dea", func := "loop.example/g00705/laws.FnExactPolicyOk", spec := "fnExactPolicyOk", inPlace := ["internal/bytealg.CountString", "internal/bytealg.IndexByteString", "internal/bytealg.IndexString"], named := ["unicode/utf8.first", "unicode/utf8.acceptRanges", "internal/bytealg.MaxLen"], apart := false, laid := [("unicode/utf8.acceptRanges", laid_unicode_utf8_acceptRanges), ("unicode/utf8.first", laid_unicode_utf8_first)], narrowed := true }
def FnExactPolicyOkUptoSaid : Prop := fnExactPolicyOkUptoRow.holds Tryd.pinned (OpenSpec.upto fnExactPolicyOkSpec)

/-- 'laws.FnExactRuleFor', WHERE WHAT IT READS IS OF BULK AT MOST 1048576: true; the input reads as it did. -/
def fnExactRuleForUptoRow : OpenClaim := { program := "ytlhhdpjnoainiabdoor", sum := "1f6b452763c3bf62c777a869ecb92f3de79b7f41398534c81cee034687962dea", func := "loop.example/g00705/laws.FnExactRuleFor", spec := "fnExactRuleFor", inPlace := ["internal/bytealg.CountString", "internal/bytealg.IndexByteString", "internal/bytealg.IndexString"], recurses := true, named := ["unicode/utf8.first", "unicode/utf8.acceptRanges", "internal/bytealg.MaxLen"], apart := false, laid := [("unicode/utf8.acceptRanges", laid_unicode_utf8_acceptRanges), ("unicode/utf8.first", laid_unicode_utf8_first)], narrowed := true }
def FnExactRuleForUptoSaid : Prop := fnExactRuleForUptoRow.holds Tryd.pinned (OpenSpec.upto fnExactRuleForSpec)

/-- 'laws.FnExactCapsOf', WHERE WHAT IT READS IS OF BULK AT MOST 1048576: true; the input reads as it did. -/
def fnExactCapsOfUptoRow : OpenClaim := { program := "ytlhhdpjnoainiabdoor", sum := "1f6b452763c3bf62c777a869ecb92f3de79b7f41398534c81cee034687962dea", func := "loop.example/g00705/laws.FnExactCapsOf", spec := "fnExactCapsOf", inPlace := ["internal/bytealg.CountString", "internal/bytealg.IndexByteString", "internal/bytealg.IndexString"], recurses := true, named := ["unicode/utf8.first", "unicode/utf8.acceptRanges", "internal/bytealg.MaxLen"], apart := false, laid := [("unicode/utf8.acceptRanges", laid_unicode_utf8_acceptRanges), ("unicode/utf8.first", laid_unicode_utf8_first)], narrowed := true }
def FnExactCapsOfUptoSaid : Prop := fnExactCapsOfUptoRow.holds Tryd.pinned (OpenSpec.upto fnExactCapsOfSpec)

/-- 'laws.FnExactAllowed', WHERE WHAT IT READS IS OF BULK AT MOST 1048576: true; the input reads as it did. -/
def fnExactAllowedUptoRow : OpenClaim := { program := "ytlhhdpjnoainiabdoor", sum := "1f6b452763c3bf62c777a869ecb92f3de79b7f41398534c81cee034687962dea", func := "loop.example/g00705/laws.FnExactAllowed", spec := "fnExactAllowed", inPlace := ["internal/bytealg.CountString", "internal/bytealg.IndexByteString", "internal/bytealg.IndexString"], recurses := true, named := ["unicode/utf8.first", "unicode/utf8.acceptRanges", "internal/bytealg.MaxLen"], apart := false, laid := [("unicode/utf8.acceptRanges", laid_unicode_utf8_acceptRanges), ("unicode/utf8.first", laid_unicode_utf8_first)], narrowed := true }
def FnExactAllowedUptoSaid : Prop := fnExactAllowedUptoRow.holds Tryd.pinned (OpenSpec.upto fnExactAllowedSpec)

/-- 'laws.FnDenied', WHERE WHAT IT READS IS OF BULK AT MOST 1048576: true; the input reads as it did. -/
def fnDeniedUptoRow : OpenClaim := { program := "ytlhhdpjnoainiabdoor", sum := "1f6b452763c3bf62c777a869ecb92f3de79b7f41398534c81cee034687962dea", func := "loop.example/g00705/laws.FnDenied", spec := "fnDenied", inPlace := ["internal/bytealg.CountString", "internal/bytealg.IndexByteString", "internal/bytealg.IndexString"], recurses := true, named := ["unicode/utf8.first", "unicode/utf8.acceptRanges", "internal/bytealg.MaxLen"], apart := false, laid := [("unicode/utf8.acceptRanges", laid_unicode_utf8_acceptRanges), ("unicode/utf8.first", laid_unicode_utf8_first)], narrowed := true }
def FnDeniedUptoSaid : Prop := fnDeniedUptoRow.holds Tryd.pinned (OpenSpec.upto fnDeniedSpec)

/-- 'laws.FnExactWeaker', WHERE WHAT IT READS IS OF BULK AT MOST 1048576: true; the input reads as it did. -/
def fnExactWeakerUptoRow : OpenClaim := { program := "ytlhhdpjnoainiabdoor", sum := "1f6b452763c3bf62c777a869ecb92f3de79b7f41398534c81cee034687962dea", func := "loop.example/g00705/laws.FnExactWeaker", spec := "fnExactWeaker", inPlace := ["internal/bytealg.CountString", "internal/bytealg.IndexByteString", "internal/bytealg.IndexString"], recurses := true, named := ["unicode/utf8.first", "unicode/utf8.acceptRanges", "internal/bytealg.MaxLen"], apart := false, laid := [("unicode/utf8.acceptRanges", laid_unicode_utf8_acceptRanges), ("unicode/utf8.first", laid_unicode_utf8_first)], narrowed := true }
def FnExactWeakerUptoSaid : Prop := fnExactWeakerUptoRow.holds Tryd.pinned (OpenSpec.upto fnExactWeakerSpec)

/-- 'laws.FnExactPolicyText', WHERE WHAT IT READS IS OF BULK AT MOST 1048576: true; the input reads as it did. -/
def fnExactPolicyTextUptoRow : OpenClaim := { program := "ytlhhdpjnoainiabdoor", sum := "1f6b452763c3bf62c777a869ecb92f3de79b7f41398534c81cee034687962dea", func := "loop.example/g00705/laws.FnExactPolicyText", spec := "fnExactPolicyText", inPlace := ["internal/bytealg.CountString", "internal/bytealg.IndexByteString", "internal/bytealg.IndexString", "internal/abi.NoEscape"], named := ["unicode/utf8.first", "unicode/utf8.acceptRanges", "internal/bytealg.MaxLen"], apart := false, laid := [("unicode/utf8.acceptRanges", laid_unicode_utf8_acceptRanges), ("unicode/utf8.first", laid_unicode_utf8_first)], narrowed := true }
def FnExactPolicyTextUptoSaid : Prop := fnExactPolicyTextUptoRow.holds Tryd.pinned (OpenSpec.upto fnExactPolicyTextSpec)

/-- 'laws.FnExactParsePolicy', WHERE WHAT IT READS IS OF BULK AT MOST 1048576: true; the input reads as it did. -/
def fnExactParsePolicyUptoRow : OpenClaim := { program := "ytlhhdpjnoainiabdoor", sum := "1f6b452763c3bf62c777a869ecb92f3de79b7f41398534c81cee034687962dea", func := "loop.example/g00705/laws.FnExactParsePolicy", spec := "fnExactParsePolicy", inPlace := ["internal/bytealg.CountString", "internal/bytealg.IndexByteString", "internal/bytealg.IndexString", "internal/abi.NoEscape"], named := ["unicode/utf8.first", "unicode/utf8.acceptRanges", "internal/bytealg.MaxLen"], apart := false, laid := [("unicode/utf8.acceptRanges", laid_unicode_utf8_acceptRanges), ("unicode/utf8.first", laid_unicode_utf8_first)], narrowed := true }
def FnExactParsePolicyUptoSaid : Prop := fnExactParsePolicyUptoRow.holds Tryd.pinned (OpenSpec.upto fnExactParsePolicySpec)

/-- 'laws.FnPolicyTexts', WHERE WHAT IT READS IS OF BULK AT MOST 1048576: true; the input reads as it did. -/
def fnPolicyTextsUptoRow : OpenClaim := { program := "ytlhhdpjnoainiabdoor", sum := "1f6b452763c3bf62c777a869ecb92f3de79b7f41398534c81cee034687962dea", func := "loop.example/g00705/laws.FnPolicyTexts", spec := "fnPolicyTexts", inPlace := ["internal/bytealg.CountString", "internal/bytealg.IndexByteString", "internal/bytealg.IndexString", "internal/abi.NoEscape"], named := ["unicode/utf8.first", "unicode/utf8.acceptRanges", "internal/bytealg.MaxLen"], apart := false, laid := [("unicode/utf8.acceptRanges", laid_unicode_utf8_acceptRanges), ("unicode/utf8.first", laid_unicode_utf8_first)], narrowed := true }
def FnPolicyTextsUptoSaid : Prop := fnPolicyTextsUptoRow.holds Tryd.pinned (OpenSpec.upto fnPolicyTextsSpec)

/-- 'laws.FnExactMergePolicy', WHERE WHAT IT READS IS OF BULK AT MOST 1048576: true; the input reads as it did. -/
def fnExactMergePolicyUptoRow : OpenClaim := { program := "ytlhhdpjnoainiabdoor", sum := "1f6b452763c3bf62c777a869ecb92f3de79b7f41398534c81cee034687962dea", func := "loop.example/g00705/laws.FnExactMergePolicy", spec := "fnExactMergePolicy", inPlace := ["internal/bytealg.CountString", "internal/bytealg.IndexByteString", "internal/bytealg.IndexString", "internal/bytealg.abigen_runtime_cmpstring", "slices.overlaps[loop.example/g00705/impl.Rule]"], unfollowed := true, recurses := true, named := ["unicode/utf8.first", "unicode/utf8.acceptRanges", "internal/bytealg.MaxLen"], apart := false, laid := [("unicode/utf8.acceptRanges", laid_unicode_utf8_acceptRanges), ("unicode/utf8.first", laid_unicode_utf8_first)], narrowed := true }
def FnExactMergePolicyUptoSaid : Prop := fnExactMergePolicyUptoRow.holds Tryd.pinned (OpenSpec.upto fnExactMergePolicySpec)

/-- 'laws.FnMerged', WHERE WHAT IT READS IS OF BULK AT MOST 1048576: true; the input reads as it did. -/
def fnMergedUptoRow : OpenClaim := { program := "ytlhhdpjnoainiabdoor", sum := "1f6b452763c3bf62c777a869ecb92f3de79b7f41398534c81cee034687962dea", func := "loop.example/g00705/laws.FnMerged", spec := "fnMerged", inPlace := ["internal/bytealg.CountString", "internal/bytealg.IndexByteString", "internal/bytealg.IndexString", "internal/bytealg.abigen_runtime_cmpstring", "slices.overlaps[loop.example/g00705/impl.Rule]"], unfollowed := true, recurses := true, named := ["unicode/utf8.first", "unicode/utf8.acceptRanges", "internal/bytealg.MaxLen"], apart := false, laid := [("unicode/utf8.acceptRanges", laid_unicode_utf8_acceptRanges), ("unicode/utf8.first", laid_unicode_utf8_first)], narrowed := true }
def FnMergedUptoSaid : Prop := fnMergedUptoRow.holds Tryd.pinned (OpenSpec.upto fnMergedSpec)

end Rows
end Go.Proofs.YtlhhdpjnoainiabDoor
