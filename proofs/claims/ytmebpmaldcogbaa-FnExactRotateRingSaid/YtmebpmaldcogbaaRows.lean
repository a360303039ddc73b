/-
  No cell of these rows narrows 'for every input' (looked for: loops, veiled, ifaces, maps, wideKeys, modest, calm, conditions, laid).
  DERIVED. THE GIVEN ROWS OF THIS SEAT. 24 by the template 'for every input the law returns true; each argument reads behind the call as it read before'; 0 by the template 'total and deterministic' (their statements: YtmebpmaldcogbaaTotals.lean).
  GIVEN WITH THE SEED: the statements are not yours to turn. If you find one false, say at which input.
  Laid BY PROGRAM, IN A SANDBOX (cutbox-rows.mjs): the forced cells as the released guide's own fill.sh prints them over the translation 7e83055738939fc8… (all of the seat's roots in one cut). By AI agents, Wed Nov 11 2026. No macro, syntax, notation, axiom, sorry.
-/
import Derived.Test.YtmebpmaldcogbaaChecked
import GoSem.Claim
import GoSem.ClaimJoined
import GoSem.ClaimMapViews
import Derived.JoinedTies
import Derived.KernelRfl
namespace Go.Proofs.Ytmebpmaldcogbaa
/- THE CELL 'sum', in the pinned program and in every row, IS THE sha256 OF THE DUMP (.gsa) THAT YtmebpmaldcogbaaProg.lean LOADS. Nothing in Lean hashes anything: it is a label: what it is worth is what the hold of that sum in a sandbox is worth. -/
noncomputable def Try.pinned : Pinned := { name := "ytmebpmaldcogbaa", sum := "7e83055738939fc8969e8769e3fc71334bbfc663fd1e7cae2504475d3b886115", checked := Try.checked }
namespace Rows
def none {H : Type} : Left H := { results := [], args := [] }

/-- 'laws.FnExactConstants': WHATEVER THE INPUT: true; the input reads as it did. -/
def fnExactConstantsSpec : ChangeSpec := { name := "fnExactConstants", fn := fun _ => fun
  | [] => { results := [.lit (.bool true)], args := [] }
  | _ => none }
def fnExactConstantsRow : OpenClaim := { program := "ytmebpmaldcogbaa", sum := "7e83055738939fc8969e8769e3fc71334bbfc663fd1e7cae2504475d3b886115", func := "loop.example/g00705/laws.FnExactConstants", spec := "fnExactConstants", apart := false }
def FnExactConstantsSaid : Prop := fnExactConstantsRow.holds Try.pinned (OpenSpec.ofChange fnExactConstantsSpec)

/-- ITS FALSE NEIGHBOUR: 'it returns false'. Refute it at one input. -/
def fnExactConstantsWrong : ChangeSpec := { name := "fnExactConstants", fn := fun _ => fun
  | [] => { results := [.lit (.bool false)], args := [] }
  | _ => none }
def FnExactConstantsWrongFalsely : Prop := fnExactConstantsRow.holds Try.pinned (OpenSpec.ofChange fnExactConstantsWrong)

/-- 'laws.FnExactNoise': WHATEVER THE INPUT: true; the input reads as it did. -/
def fnExactNoiseSpec : ChangeSpec := { name := "fnExactNoise", fn := fun _ => fun
  | [d1, d2, d3] => { results := [.lit (.bool true)], args := [d1, d2, d3] }
  | _ => none }
def fnExactNoiseRow : OpenClaim := { program := "ytmebpmaldcogbaa", sum := "7e83055738939fc8969e8769e3fc71334bbfc663fd1e7cae2504475d3b886115", func := "loop.example/g00705/laws.FnExactNoise", spec := "fnExactNoise", apart := false }
def FnExactNoiseSaid : Prop := fnExactNoiseRow.holds Try.pinned (OpenSpec.ofChange fnExactNoiseSpec)

/-- ITS FALSE NEIGHBOUR: 'it returns false'. Refute it at one input. -/
def fnExactNoiseWrong : ChangeSpec := { name := "fnExactNoise", fn := fun _ => fun
  | [d1, d2, d3] => { results := [.lit (.bool false)], args := [d1, d2, d3] }
  | _ => none }
def FnExactNoiseWrongFalsely : Prop := fnExactNoiseRow.holds Try.pinned (OpenSpec.ofChange fnExactNoiseWrong)

/-- 'laws.FnExactDigest': WHATEVER THE INPUT: true; the input reads as it did. -/
def fnExactDigestSpec : ChangeSpec := { name := "fnExactDigest", fn := fun _ => fun
  | [d] => { results := [.lit (.bool true)], args := [d] }
  | _ => none }
def fnExactDigestRow : OpenClaim := { program := "ytmebpmaldcogbaa", sum := "7e83055738939fc8969e8769e3fc71334bbfc663fd1e7cae2504475d3b886115", func := "loop.example/g00705/laws.FnExactDigest", spec := "fnExactDigest", apart := false }
def FnExactDigestSaid : Prop := fnExactDigestRow.holds Try.pinned (OpenSpec.ofChange fnExactDigestSpec)

/-- ITS FALSE NEIGHBOUR: 'it returns false'. Refute it at one input. -/
def fnExactDigestWrong : ChangeSpec := { name := "fnExactDigest", fn := fun _ => fun
  | [d] => { results := [.lit (.bool false)], args := [d] }
  | _ => none }
def FnExactDigestWrongFalsely : Prop := fnExactDigestRow.holds Try.pinned (OpenSpec.ofChange fnExactDigestWrong)

/-- 'laws.FnExactGMul': WHATEVER THE INPUT: true; the input reads as it did. -/
def fnExactGMulSpec : ChangeSpec := { name := "fnExactGMul", fn := fun _ => fun
  | [d1, d2] => { results := [.lit (.bool true)], args := [d1, d2] }
  | _ => none }
def fnExactGMulRow : OpenClaim := { program := "ytmebpmaldcogbaa", sum := "7e83055738939fc8969e8769e3fc71334bbfc663fd1e7cae2504475d3b886115", func := "loop.example/g00705/laws.FnExactGMul", spec := "fnExactGMul", apart := false }
def FnExactGMulSaid : Prop := fnExactGMulRow.holds Try.pinned (OpenSpec.ofChange fnExactGMulSpec)

/-- ITS FALSE NEIGHBOUR: 'it returns false'. Refute it at one input. -/
def fnExactGMulWrong : ChangeSpec := { name := "fnExactGMul", fn := fun _ => fun
  | [d1, d2] => { results := [.lit (.bool false)], args := [d1, d2] }
  | _ => none }
def FnExactGMulWrongFalsely : Prop := fnExactGMulRow.holds Try.pinned (OpenSpec.ofChange fnExactGMulWrong)

/-- 'laws.FnExactGInv': WHATEVER THE INPUT: true; the input reads as it did. -/
def fnExactGInvSpec : ChangeSpec := { name := "fnExactGInv", fn := fun _ => fun
  | [d] => { results := [.lit (.bool true)], args := [d] }
  | _ => none }
def fnExactGInvRow : OpenClaim := { program := "ytmebpmaldcogbaa", sum := "7e83055738939fc8969e8769e3fc71334bbfc663fd1e7cae2504475d3b886115", func := "loop.example/g00705/laws.FnExactGInv", spec := "fnExactGInv", apart := false }
def FnExactGInvSaid : Prop := fnExactGInvRow.holds Try.pinned (OpenSpec.ofChange fnExactGInvSpec)

/-- ITS FALSE NEIGHBOUR: 'it returns false'. Refute it at one input. -/
def fnExactGInvWrong : ChangeSpec := { name := "fnExactGInv", fn := fun _ => fun
  | [d] => { results := [.lit (.bool false)], args := [d] }
  | _ => none }
def FnExactGInvWrongFalsely : Prop := fnExactGInvRow.holds Try.pinned (OpenSpec.ofChange fnExactGInvWrong)

/-- 'laws.FnShares': WHATEVER THE INPUT: true; the input reads as it did. -/
def fnSharesSpec : ChangeSpec := { name := "fnShares", fn := fun _ => fun
  | [d] => { results := [.lit (.bool true)], args := [d] }
  | _ => none }
def fnSharesRow : OpenClaim := { program := "ytmebpmaldcogbaa", sum := "7e83055738939fc8969e8769e3fc71334bbfc663fd1e7cae2504475d3b886115", func := "loop.example/g00705/laws.FnShares", spec := "fnShares", unfollowed := true, recurses := true, apart := false }
def FnSharesSaid : Prop := fnSharesRow.holds Try.pinned (OpenSpec.ofChange fnSharesSpec)

/-- ITS FALSE NEIGHBOUR: 'it returns false'. Refute it at one input. -/
def fnSharesWrong : ChangeSpec := { name := "fnShares", fn := fun _ => fun
  | [d] => { results := [.lit (.bool false)], args := [d] }
  | _ => none }
def FnSharesWrongFalsely : Prop := fnSharesRow.holds Try.pinned (OpenSpec.ofChange fnSharesWrong)

/-- 'laws.FnExactPutWide': WHATEVER THE INPUT: true; the input reads as it did. -/
def fnExactPutWideSpec : ChangeSpec := { name := "fnExactPutWide", fn := fun _ => fun
  | [d] => { results := [.lit (.bool true)], args := [d] }
  | _ => none }
def fnExactPutWideRow : OpenClaim := { program := "ytmebpmaldcogbaa", sum := "7e83055738939fc8969e8769e3fc71334bbfc663fd1e7cae2504475d3b886115", func := "loop.example/g00705/laws.FnExactPutWide", spec := "fnExactPutWide", apart := false }
def FnExactPutWideSaid : Prop := fnExactPutWideRow.holds Try.pinned (OpenSpec.ofChange fnExactPutWideSpec)

/-- ITS FALSE NEIGHBOUR: 'it returns false'. Refute it at one input. -/
def fnExactPutWideWrong : ChangeSpec := { name := "fnExactPutWide", fn := fun _ => fun
  | [d] => { results := [.lit (.bool false)], args := [d] }
  | _ => none }
def FnExactPutWideWrongFalsely : Prop := fnExactPutWideRow.holds Try.pinned (OpenSpec.ofChange fnExactPutWideWrong)

/-- 'laws.FnExactShareOk': WHATEVER THE INPUT: true; the input reads as it did. -/
def fnExactShareOkSpec : ChangeSpec := { name := "fnExactShareOk", fn := fun _ => fun
  | [d] => { results := [.lit (.bool true)], args := [d] }
  | _ => none }
def fnExactShareOkRow : OpenClaim := { program := "ytmebpmaldcogbaa", sum := "7e83055738939fc8969e8769e3fc71334bbfc663fd1e7cae2504475d3b886115", func := "loop.example/g00705/laws.FnExactShareOk", spec := "fnExactShareOk", apart := false }
def FnExactShareOkSaid : Prop := fnExactShareOkRow.holds Try.pinned (OpenSpec.ofChange fnExactShareOkSpec)

/-- ITS FALSE NEIGHBOUR: 'it returns false'. Refute it at one input. -/
def fnExactShareOkWrong : ChangeSpec := { name := "fnExactShareOk", fn := fun _ => fun
  | [d] => { results := [.lit (.bool false)], args := [d] }
  | _ => none }
def FnExactShareOkWrongFalsely : Prop := fnExactShareOkRow.holds Try.pinned (OpenSpec.ofChange fnExactShareOkWrong)

/-- 'laws.FnField': WHATEVER THE INPUT: true; the input reads as it did. -/
def fnFieldSpec : ChangeSpec := { name := "fnField", fn := fun _ => fun
  | [d] => { results := [.lit (.bool true)], args := [d] }
  | _ => none }
def fnFieldRow : OpenClaim := { program := "ytmebpmaldcogbaa", sum := "7e83055738939fc8969e8769e3fc71334bbfc663fd1e7cae2504475d3b886115", func := "loop.example/g00705/laws.FnField", spec := "fnField", apart := false }
def FnFieldSaid : Prop := fnFieldRow.holds Try.pinned (OpenSpec.ofChange fnFieldSpec)

/-- ITS FALSE NEIGHBOUR: 'it returns false'. Refute it at one input. -/
def fnFieldWrong : ChangeSpec := { name := "fnField", fn := fun _ => fun
  | [d] => { results := [.lit (.bool false)], args := [d] }
  | _ => none }
def FnFieldWrongFalsely : Prop := fnFieldRow.holds Try.pinned (OpenSpec.ofChange fnFieldWrong)

/-- 'laws.FnExactStream': WHATEVER THE INPUT: true; the input reads as it did. -/
def fnExactStreamSpec : ChangeSpec := { name := "fnExactStream", fn := fun _ => fun
  | [d1, d2, d3] => { results := [.lit (.bool true)], args := [d1, d2, d3] }
  | _ => none }
def fnExactStreamRow : OpenClaim := { program := "ytmebpmaldcogbaa", sum := "7e83055738939fc8969e8769e3fc71334bbfc663fd1e7cae2504475d3b886115", func := "loop.example/g00705/laws.FnExactStream", spec := "fnExactStream", apart := false }
def FnExactStreamSaid : Prop := fnExactStreamRow.holds Try.pinned (OpenSpec.ofChange fnExactStreamSpec)

/-- ITS FALSE NEIGHBOUR: 'it returns false'. Refute it at one input. -/
def fnExactStreamWrong : ChangeSpec := { name := "fnExactStream", fn := fun _ => fun
  | [d1, d2, d3] => { results := [.lit (.bool false)], args := [d1, d2, d3] }
  | _ => none }
def FnExactStreamWrongFalsely : Prop := fnExactStreamRow.holds Try.pinned (OpenSpec.ofChange fnExactStreamWrong)

/-- 'laws.FnExactRingOk': WHATEVER THE INPUT: true; the input reads as it did. -/
def fnExactRingOkSpec : ChangeSpec := { name := "fnExactRingOk", fn := fun _ => fun
  | [d] => { results := [.lit (.bool true)], args := [d] }
  | _ => none }
def fnExactRingOkRow : OpenClaim := { program := "ytmebpmaldcogbaa", sum := "7e83055738939fc8969e8769e3fc71334bbfc663fd1e7cae2504475d3b886115", func := "loop.example/g00705/laws.FnExactRingOk", spec := "fnExactRingOk", unfollowed := true, recurses := true, apart := false }
def FnExactRingOkSaid : Prop := fnExactRingOkRow.holds Try.pinned (OpenSpec.ofChange fnExactRingOkSpec)

/-- ITS FALSE NEIGHBOUR: 'it returns false'. Refute it at one input. -/
def fnExactRingOkWrong : ChangeSpec := { name := "fnExactRingOk", fn := fun _ => fun
  | [d] => { results := [.lit (.bool false)], args := [d] }
  | _ => none }
def FnExactRingOkWrongFalsely : Prop := fnExactRingOkRow.holds Try.pinned (OpenSpec.ofChange fnExactRingOkWrong)

/-- 'laws.FnExactTagOf': WHATEVER THE INPUT: true; the input reads as it did. -/
def fnExactTagOfSpec : ChangeSpec := { name := "fnExactTagOf", fn := fun _ => fun
  | [d1, d2, d3] => { results := [.lit (.bool true)], args := [d1, d2, d3] }
  | _ => none }
def fnExactTagOfRow : OpenClaim := { program := "ytmebpmaldcogbaa", sum := "7e83055738939fc8969e8769e3fc71334bbfc663fd1e7cae2504475d3b886115", func := "loop.example/g00705/laws.FnExactTagOf", spec := "fnExactTagOf", apart := false }
def FnExactTagOfSaid : Prop := fnExactTagOfRow.holds Try.pinned (OpenSpec.ofChange fnExactTagOfSpec)

/-- ITS FALSE NEIGHBOUR: 'it returns false'. Refute it at one input. -/
def fnExactTagOfWrong : ChangeSpec := { name := "fnExactTagOf", fn := fun _ => fun
  | [d1, d2, d3] => { results := [.lit (.bool false)], args := [d1, d2, d3] }
  | _ => none }
def FnExactTagOfWrongFalsely : Prop := fnExactTagOfRow.holds Try.pinned (OpenSpec.ofChange fnExactTagOfWrong)

/-- 'laws.FnExactTrimRing': WHATEVER THE INPUT: true; the input reads as it did. -/
def fnExactTrimRingSpec : ChangeSpec := { name := "fnExactTrimRing", fn := fun _ => fun
  | [d1, d2] => { results := [.lit (.bool true)], args := [d1, d2] }
  | _ => none }
def fnExactTrimRingRow : OpenClaim := { program := "ytmebpmaldcogbaa", sum := "7e83055738939fc8969e8769e3fc71334bbfc663fd1e7cae2504475d3b886115", func := "loop.example/g00705/laws.FnExactTrimRing", spec := "fnExactTrimRing", unfollowed := true, recurses := true, apart := false }
def FnExactTrimRingSaid : Prop := fnExactTrimRingRow.holds Try.pinned (OpenSpec.ofChange fnExactTrimRingSpec)

/-- ITS FALSE NEIGHBOUR: 'it returns false'. Refute it at one input. -/
def fnExactTrimRingWrong : ChangeSpec := { name := "fnExactTrimRing", fn := fun _ => fun
  | [d1, d2] => { results := [.lit (.bool false)], args := [d1, d2] }
  | _ => none }
def FnExactTrimRingWrongFalsely : Prop := fnExactTrimRingRow.holds Try.pinned (OpenSpec.ofChange fnExactTrimRingWrong)

/-- 'laws.FnExactRotateRing': WHATEVER THE INPUT: true; the input reads as it did. -/
def fnExactRotateRingSpec : ChangeSpec := { name := "fnExactRotateRing", fn := fun _ => fun
  | [d1, d2] => { results := [.lit (.bool true)], args := [d1, d2] }
  | _ => none }
def fnExactRotateRingRow : OpenClaim := { program := "ytmebpmaldcogbaa", sum := "7e83055738939fc8969e8769e3fc71334bbfc663fd1e7cae2504475d3b886115", func := "loop.example/g00705/laws.FnExactRotateRing", spec := "fnExactRotateRing", unfollowed := true, recurses := true, apart := false }
def FnExactRotateRingSaid : Prop := fnExactRotateRingRow.holds Try.pinned (OpenSpec.ofChange fnExactRotateRingSpec)

/-- ITS FALSE NEIGHBOUR: 'it returns false'. Refute it at one input. -/
def fnExactRotateRingWrong : ChangeSpec := { name := "fnExactRotateRing", fn := fun _ => fun
  | [d1, d2] => { results := [.lit (.bool false)], args := [d1, d2] }
  | _ => none }
def FnExactRotateRingWrongFalsely : Prop := fnExactRotateRingRow.holds Try.pinned (OpenSpec.ofChange fnExactRotateRingWrong)

/-- 'laws.FnExactSealOk': WHATEVER THE INPUT: true; the input reads as it did. -/
def fnExactSealOkSpec : ChangeSpec := { name := "fnExactSealOk", fn := fun _ => fun
  | [d] => { results := [.lit (.bool true)], args := [d] }
  | _ => none }
def fnExactSealOkRow : OpenClaim := { program := "ytmebpmaldcogbaa", sum := "7e83055738939fc8969e8769e3fc71334bbfc663fd1e7cae2504475d3b886115", func := "loop.example/g00705/laws.FnExactSealOk", spec := "fnExactSealOk", unfollowed := true, recurses := true, apart := false }
def FnExactSealOkSaid : Prop := fnExactSealOkRow.holds Try.pinned (OpenSpec.ofChange fnExactSealOkSpec)

/-- ITS FALSE NEIGHBOUR: 'it returns false'. Refute it at one input. -/
def fnExactSealOkWrong : ChangeSpec := { name := "fnExactSealOk", fn := fun _ => fun
  | [d] => { results := [.lit (.bool false)], args := [d] }
  | _ => none }
def FnExactSealOkWrongFalsely : Prop := fnExactSealOkRow.holds Try.pinned (OpenSpec.ofChange fnExactSealOkWrong)

/-- 'laws.FnExactSplitSecret': WHATEVER THE INPUT: true; the input reads as it did. -/
def fnExactSplitSecretSpec : ChangeSpec := { name := "fnExactSplitSecret", fn := fun _ => fun
  | [d1, d2, d3, d4] => { results := [.lit (.bool true)], args := [d1, d2, d3, d4] }
  | _ => none }
def fnExactSplitSecretRow : OpenClaim := { program := "ytmebpmaldcogbaa", sum := "7e83055738939fc8969e8769e3fc71334bbfc663fd1e7cae2504475d3b886115", func := "loop.example/g00705/laws.FnExactSplitSecret", spec := "fnExactSplitSecret", apart := false }
def FnExactSplitSecretSaid : Prop := fnExactSplitSecretRow.holds Try.pinned (OpenSpec.ofChange fnExactSplitSecretSpec)

/-- ITS FALSE NEIGHBOUR: 'it returns false'. Refute it at one input. -/
def fnExactSplitSecretWrong : ChangeSpec := { name := "fnExactSplitSecret", fn := fun _ => fun
  | [d1, d2, d3, d4] => { results := [.lit (.bool false)], args := [d1, d2, d3, d4] }
  | _ => none }
def FnExactSplitSecretWrongFalsely : Prop := fnExactSplitSecretRow.holds Try.pinned (OpenSpec.ofChange fnExactSplitSecretWrong)

/-- 'laws.FnExactSealBox': WHATEVER THE INPUT: true; the input reads as it did. -/
def fnExactSealBoxSpec : ChangeSpec := { name := "fnExactSealBox", fn := fun _ => fun
  | [d1, d2, d3] => { results := [.lit (.bool true)], args := [d1, d2, d3] }
  | _ => none }
def fnExactSealBoxRow : OpenClaim := { program := "ytmebpmaldcogbaa", sum := "7e83055738939fc8969e8769e3fc71334bbfc663fd1e7cae2504475d3b886115", func := "loop.example/g00705/laws.FnExactSealBox", spec := "fnExactSealBox", apart := false }
def FnExactSealBoxSaid : Prop := fnExactSealBoxRow.holds Try.pinned (OpenSpec.ofChange fnExactSealBoxSpec)

/-- ITS FALSE NEIGHBOUR: 'it returns false'. Refute it at one input. -/
def fnExactSealBoxWrong : ChangeSpec := { name := "fnExactSealBox", fn := fun _ => fun
  | [d1, d2, d3] => { results := [.lit (.bool false)], args := [d1, d2, d3] }
  | _ => none }
def FnExactSealBoxWrongFalsely : Prop := fnExactSealBoxRow.holds Try.pinned (OpenSpec.ofChange fnExactSealBoxWrong)

/-- 'laws.FnExactOpenBox': WHATEVER THE INPUT: true; the input reads as it did. -/
def fnExactOpenBoxSpec : ChangeSpec := { name := "fnExactOpenBox", fn := fun _ => fun
  | [d1, d2] => { results := [.lit (.bool true)], args := [d1, d2] }
  | _ => none }
def fnExactOpenBoxRow : OpenClaim := { program := "ytmebpmaldcogbaa", sum := "7e83055738939fc8969e8769e3fc71334bbfc663fd1e7cae2504475d3b886115", func := "loop.example/g00705/laws.FnExactOpenBox", spec := "fnExactOpenBox", apart := false }
def FnExactOpenBoxSaid : Prop := fnExactOpenBoxRow.holds Try.pinned (OpenSpec.ofChange fnExactOpenBoxSpec)

/-- ITS FALSE NEIGHBOUR: 'it returns false'. Refute it at one input. -/
def fnExactOpenBoxWrong : ChangeSpec := { name := "fnExactOpenBox", fn := fun _ => fun
  | [d1, d2] => { results := [.lit (.bool false)], args := [d1, d2] }
  | _ => none }
def FnExactOpenBoxWrongFalsely : Prop := fnExactOpenBoxRow.holds Try.pinned (OpenSpec.ofChange fnExactOpenBoxWrong)

/-- 'laws.FnUnseal': WHATEVER THE INPUT: true; the input reads as it did. -/
def fnUnsealSpec : ChangeSpec := { name := "fnUnseal", fn := fun _ => fun
  | [d] => { results := [.lit (.bool true)], args := [d] }
  | _ => none }
def fnUnsealRow : OpenClaim := { program := "ytmebpmaldcogbaa", sum := "7e83055738939fc8969e8769e3fc71334bbfc663fd1e7cae2504475d3b886115", func := "loop.example/g00705/laws.FnUnseal", spec := "fnUnseal", unfollowed := true, recurses := true, apart := false }
def FnUnsealSaid : Prop := fnUnsealRow.holds Try.pinned (OpenSpec.ofChange fnUnsealSpec)

/-- ITS FALSE NEIGHBOUR: 'it returns false'. Refute it at one input. -/
def fnUnsealWrong : ChangeSpec := { name := "fnUnseal", fn := fun _ => fun
  | [d] => { results := [.lit (.bool false)], args := [d] }
  | _ => none }
def FnUnsealWrongFalsely : Prop := fnUnsealRow.holds Try.pinned (OpenSpec.ofChange fnUnsealWrong)

/-- 'laws.FnExactFitShares': WHATEVER THE INPUT: true; the input reads as it did. -/
def fnExactFitSharesSpec : ChangeSpec := { name := "fnExactFitShares", fn := fun _ => fun
  | [d1, d2] => { results := [.lit (.bool true)], args := [d1, d2] }
  | _ => none }
def fnExactFitSharesRow : OpenClaim := { program := "ytmebpmaldcogbaa", sum := "7e83055738939fc8969e8769e3fc71334bbfc663fd1e7cae2504475d3b886115", func := "loop.example/g00705/laws.FnExactFitShares", spec := "fnExactFitShares", unfollowed := true, recurses := true, apart := false }
def FnExactFitSharesSaid : Prop := fnExactFitSharesRow.holds Try.pinned (OpenSpec.ofChange fnExactFitSharesSpec)

/-- ITS FALSE NEIGHBOUR: 'it returns false'. Refute it at one input. -/
def fnExactFitSharesWrong : ChangeSpec := { name := "fnExactFitShares", fn := fun _ => fun
  | [d1, d2] => { results := [.lit (.bool false)], args := [d1, d2] }
  | _ => none }
def FnExactFitSharesWrongFalsely : Prop := fnExactFitSharesRow.holds Try.pinned (OpenSpec.ofChange fnExactFitSharesWrong)

/-- 'laws.FnExactCombineShares': WHATEVER THE INPUT: true; the input reads as it did. -/
def fnExactCombineSharesSpec : ChangeSpec := { name := "fnExactCombineShares", fn := fun _ => fun
  | [d1, d2] => { results := [.lit (.bool true)], args := [d1, d2] }
  | _ => none }
def fnExactCombineSharesRow : OpenClaim := { program := "ytmebpmaldcogbaa", sum := "7e83055738939fc8969e8769e3fc71334bbfc663fd1e7cae2504475d3b886115", func := "loop.example/g00705/laws.FnExactCombineShares", spec := "fnExactCombineShares", unfollowed := true, recurses := true, apart := false }
def FnExactCombineSharesSaid : Prop := fnExactCombineSharesRow.holds Try.pinned (OpenSpec.ofChange fnExactCombineSharesSpec)

/-- ITS FALSE NEIGHBOUR: 'it returns false'. Refute it at one input. -/
def fnExactCombineSharesWrong : ChangeSpec := { name := "fnExactCombineShares", fn := fun _ => fun
  | [d1, d2] => { results := [.lit (.bool false)], args := [d1, d2] }
  | _ => none }
def FnExactCombineSharesWrongFalsely : Prop := fnExactCombineSharesRow.holds Try.pinned (OpenSpec.ofChange fnExactCombineSharesWrong)

/-- 'laws.FnBoxes': WHATEVER THE INPUT: true; the input reads as it did. -/
def fnBoxesSpec : ChangeSpec := { name := "fnBoxes", fn := fun _ => fun
  | [d] => { results := [.lit (.bool true)], args := [d] }
  | _ => none }
def fnBoxesRow : OpenClaim := { program := "ytmebpmaldcogbaa", sum := "7e83055738939fc8969e8769e3fc71334bbfc663fd1e7cae2504475d3b886115", func := "loop.example/g00705/laws.FnBoxes", spec := "fnBoxes", apart := false }
def FnBoxesSaid : Prop := fnBoxesRow.holds Try.pinned (OpenSpec.ofChange fnBoxesSpec)

/-- ITS FALSE NEIGHBOUR: 'it returns false'. Refute it at one input. -/
def fnBoxesWrong : ChangeSpec := { name := "fnBoxes", fn := fun _ => fun
  | [d] => { results := [.lit (.bool false)], args := [d] }
  | _ => none }
def FnBoxesWrongFalsely : Prop := fnBoxesRow.holds Try.pinned (OpenSpec.ofChange fnBoxesWrong)

/-- 'laws.FnExactRingSeal': WHATEVER THE INPUT: true; the input reads as it did. -/
def fnExactRingSealSpec : ChangeSpec := { name := "fnExactRingSeal", fn := fun _ => fun
  | [d1, d2, d3] => { results := [.lit (.bool true)], args := [d1, d2, d3] }
  | _ => none }
def fnExactRingSealRow : OpenClaim := { program := "ytmebpmaldcogbaa", sum := "7e83055738939fc8969e8769e3fc71334bbfc663fd1e7cae2504475d3b886115", func := "loop.example/g00705/laws.FnExactRingSeal", spec := "fnExactRingSeal", unfollowed := true, recurses := true, apart := false }
def FnExactRingSealSaid : Prop := fnExactRingSealRow.holds Try.pinned (OpenSpec.ofChange fnExactRingSealSpec)

/-- ITS FALSE NEIGHBOUR: 'it returns false'. Refute it at one input. -/
def fnExactRingSealWrong : ChangeSpec := { name := "fnExactRingSeal", fn := fun _ => fun
  | [d1, d2, d3] => { results := [.lit (.bool false)], args := [d1, d2, d3] }
  | _ => none }
def FnExactRingSealWrongFalsely : Prop := fnExactRingSealRow.holds Try.pinned (OpenSpec.ofChange fnExactRingSealWrong)

/-- 'laws.FnExactGiveShare': WHATEVER THE INPUT: true; the input reads as it did. -/
def fnExactGiveShareSpec : ChangeSpec := { name := "fnExactGiveShare", fn := fun _ => fun
  | [d1, d2] => { results := [.lit (.bool true)], args := [d1, d2] }
  | _ => none }
def fnExactGiveShareRow : OpenClaim := { program := "ytmebpmaldcogbaa", sum := "7e83055738939fc8969e8769e3fc71334bbfc663fd1e7cae2504475d3b886115", func := "loop.example/g00705/laws.FnExactGiveShare", spec := "fnExactGiveShare", unfollowed := true, recurses := true, apart := false }
def FnExactGiveShareSaid : Prop := fnExactGiveShareRow.holds Try.pinned (OpenSpec.ofChange fnExactGiveShareSpec)

/-- ITS FALSE NEIGHBOUR: 'it returns false'. Refute it at one input. -/
def fnExactGiveShareWrong : ChangeSpec := { name := "fnExactGiveShare", fn := fun _ => fun
  | [d1, d2] => { results := [.lit (.bool false)], args := [d1, d2] }
  | _ => none }
def FnExactGiveShareWrongFalsely : Prop := fnExactGiveShareRow.holds Try.pinned (OpenSpec.ofChange fnExactGiveShareWrong)

/- THE SECOND FORM. 'bulk': how many values and letters a reading holds, each counted each time it is reached (what is shared counts as often as it is met; a slice's spare places count too). A statement '..UptoSaid' is the law's where the arguments, and the package variables that the reading takes, are together of bulk at most 1048576: NARROWER than '..Said'. Prove '..Said' where nothing that the law and all that it calls make is longer than what came in: it says more and counts as full. Else prove '..UptoSaid'. A law counts once. -/
mutual
def uptoBulk {H : Type} : DataW H → Nat
  | .lit (.string bytes) => bytes.length + 1
  | .lit _ => 1
  | .nil => 1
  | .ptr d => uptoBulk d + 1
  | .slice elems spare => uptoBulkAll elems + uptoBulkAll spare + 1
  | .agg parts => uptoBulkAll parts + 1
  | .iface _ d => uptoBulk d + 1
  | .map entries => uptoBulkEntries entries + 1
  | .held _ => 1
def uptoBulkAll {H : Type} : List (DataW H) → Nat
  | [] => 0
  | d :: r => uptoBulk d + uptoBulkAll r
def uptoBulkEntries {H : Type} : List (Lit × DataW H) → Nat
  | [] => 0
  | x :: r => uptoBulkEntry x + uptoBulkEntries r
def uptoBulkEntry {H : Type} : Lit × DataW H → Nat
  | (.string bytes, d) => bytes.length + uptoBulk d + 1
  | (_, d) => uptoBulk d + 1
 end
def uptoSmall : (H : Type) → List (DataW H) → Bool := fun _ ds => decide (uptoBulkAll ds ≤ 1048576)
def OpenSpec.upto (s : _root_.Go.ChangeSpec) : _root_.Go.OpenSpec := { _root_.Go.OpenSpec.ofChange s with cond := some uptoSmall }

/-- 'laws.FnExactConstants', WHERE WHAT IT READS IS OF BULK AT MOST 1048576: true; the input reads as it did. -/
def fnExactConstantsUptoRow : OpenClaim := { program := "ytmebpmaldcogbaa", sum := "7e83055738939fc8969e8769e3fc71334bbfc663fd1e7cae2504475d3b886115", func := "loop.example/g00705/laws.FnExactConstants", spec := "fnExactConstants", apart := false, narrowed := true }
def FnExactConstantsUptoSaid : Prop := fnExactConstantsUptoRow.holds Try.pinned (OpenSpec.upto fnExactConstantsSpec)

/-- 'laws.FnExactNoise', WHERE WHAT IT READS IS OF BULK AT MOST 1048576: true; the input reads as it did. -/
def fnExactNoiseUptoRow : OpenClaim := { program := "ytmebpmaldcogbaa", sum := "7e83055738939fc8969e8769e3fc71334bbfc663fd1e7cae2504475d3b886115", func := "loop.example/g00705/laws.FnExactNoise", spec := "fnExactNoise", apart := false, narrowed := true }
def FnExactNoiseUptoSaid : Prop := fnExactNoiseUptoRow.holds Try.pinned (OpenSpec.upto fnExactNoiseSpec)

/-- 'laws.FnExactDigest', WHERE WHAT IT READS IS OF BULK AT MOST 1048576: true; the input reads as it did. -/
def fnExactDigestUptoRow : OpenClaim := { program := "ytmebpmaldcogbaa", sum := "7e83055738939fc8969e8769e3fc71334bbfc663fd1e7cae2504475d3b886115", func := "loop.example/g00705/laws.FnExactDigest", spec := "fnExactDigest", apart := false, narrowed := true }
def FnExactDigestUptoSaid : Prop := fnExactDigestUptoRow.holds Try.pinned (OpenSpec.upto fnExactDigestSpec)

/-- 'laws.FnExactGMul', WHERE WHAT IT READS IS OF BULK AT MOST 1048576: true; the input reads as it did. -/
def fnExactGMulUptoRow : OpenClaim := { program := "ytmebpmaldcogbaa", sum := "7e83055738939fc8969e8769e3fc71334bbfc663fd1e7cae2504475d3b886115", func := "loop.example/g00705/laws.FnExactGMul", spec := "fnExactGMul", apart := false, narrowed := true }
def FnExactGMulUptoSaid : Prop := fnExactGMulUptoRow.holds Try.pinned (OpenSpec.upto fnExactGMulSpec)

/-- 'laws.FnExactGInv', WHERE WHAT IT READS IS OF BULK AT MOST 1048576: true; the input reads as it did. -/
def fnExactGInvUptoRow : OpenClaim := { program := "ytmebpmaldcogbaa", sum := "7e83055738939fc8969e8769e3fc71334bbfc663fd1e7cae2504475d3b886115", func := "loop.example/g00705/laws.FnExactGInv", spec := "fnExactGInv", apart := false, narrowed := true }
def FnExactGInvUptoSaid : Prop := fnExactGInvUptoRow.holds Try.pinned (OpenSpec.upto fnExactGInvSpec)

/-- 'laws.FnShares', WHERE WHAT IT READS IS OF BULK AT MOST 1048576: true; the input reads as it did. -/
def fnSharesUptoRow : OpenClaim := { program := "ytmebpmaldcogbaa", sum := "7e83055738939fc8969e8769e3fc71334bbfc663fd1e7cae2504475d3b886115", func := "loop.example/g00705/laws.FnShares", spec := "fnShares", unfollowed := true, recurses := true, apart := false, narrowed := true }
def FnSharesUptoSaid : Prop := fnSharesUptoRow.holds Try.pinned (OpenSpec.upto fnSharesSpec)

/-- 'laws.FnExactPutWide', WHERE WHAT IT READS IS OF BULK AT MOST 1048576: true; the input reads as it did. -/
def fnExactPutWideUptoRow : OpenClaim := { program := "ytmebpmaldcogbaa", sum := "7e83055738939fc8969e8769e3fc71334bbfc663fd1e7cae2504475d3b886115", func := "loop.example/g00705/laws.FnExactPutWide", spec := "fnExactPutWide", apart := false, narrowed := true }
def FnExactPutWideUptoSaid : Prop := fnExactPutWideUptoRow.holds Try.pinned (OpenSpec.upto fnExactPutWideSpec)

/-- 'laws.FnExactShareOk', WHERE WHAT IT READS IS OF BULK AT MOST 1048576: true; the input reads as it did. -/
def fnExactShareOkUptoRow : OpenClaim := { program := "ytmebpmaldcogbaa", sum := "7e83055738939fc8969e8769e3fc71334bbfc663fd1e7cae2504475d3b886115", func := "loop.example/g00705/laws.FnExactShareOk", spec := "fnExactShareOk", apart := false, narrowed := true }
def FnExactShareOkUptoSaid : Prop := fnExactShareOkUptoRow.holds Try.pinned (OpenSpec.upto fnExactShareOkSpec)

/-- 'laws.FnField', WHERE WHAT IT READS IS OF BULK AT MOST 1048576: true; the input reads as it did. -/
def fnFieldUptoRow : OpenClaim := { program := "ytmebpmaldcogbaa", sum := "7e83055738939fc8969e8769e3fc71334bbfc663fd1e7cae2504475d3b886115", func := "loop.example/g00705/laws.FnField", spec := "fnField", apart := false, narrowed := true }
def FnFieldUptoSaid : Prop := fnFieldUptoRow.holds Try.pinned (OpenSpec.upto fnFieldSpec)

/-- 'laws.FnExactStream', WHERE WHAT IT READS IS OF BULK AT MOST 1048576: true; the input reads as it did. -/
def fnExactStreamUptoRow : OpenClaim := { program := "ytmebpmaldcogbaa", sum := "7e83055738939fc8969e8769e3fc71334bbfc663fd1e7cae2504475d3b886115", func := "loop.example/g00705/laws.FnExactStream", spec := "fnExactStream", apart := false, narrowed := true }
def FnExactStreamUptoSaid : Prop := fnExactStreamUptoRow.holds Try.pinned (OpenSpec.upto fnExactStreamSpec)

/-- 'laws.FnExactRingOk', WHERE WHAT IT READS IS OF BULK AT MOST 1048576: true; the input reads as it did. -/
def fnExactRingOkUptoRow : OpenClaim := { program := "ytmebpmaldcogbaa", sum := "7e83055738939fc8969e8769e3fc71334bbfc663fd1e7cae2504475d3b886115", func := "loop.example/g00705/laws.FnExactRingOk", spec := "fnExactRingOk", unfollowed := true, recurses := true, apart := false, narrowed := true }
def FnExactRingOkUptoSaid : Prop := fnExactRingOkUptoRow.holds Try.pinned (OpenSpec.upto fnExactRingOkSpec)

/-- 'laws.FnExactTagOf', WHERE WHAT IT READS IS OF BULK AT MOST 1048576: true; the input reads as it did. -/
def fnExactTagOfUptoRow : OpenClaim := { program := "ytmebpmaldcogbaa", sum := "7e83055738939fc8969e8769e3fc71334bbfc663fd1e7cae2504475d3b886115", func := "loop.example/g00705/laws.FnExactTagOf", spec := "fnExactTagOf", apart := false, narrowed := true }
def FnExactTagOfUptoSaid : Prop := fnExactTagOfUptoRow.holds Try.pinned (OpenSpec.upto fnExactTagOfSpec)

/-- 'laws.FnExactTrimRing', WHERE WHAT IT READS IS OF BULK AT MOST 1048576: true; the input reads as it did. -/
def fnExactTrimRingUptoRow : OpenClaim := { program := "ytmebpmaldcogbaa", sum := "7e83055738939fc8969e8769e3fc71334bbfc663fd1e7cae2504475d3b886115", func := "loop.example/g00705/laws.FnExactTrimRing", spec := "fnExactTrimRing", unfollowed := true, recurses := true, apart := false, narrowed := true }
def FnExactTrimRingUptoSaid : Prop := fnExactTrimRingUptoRow.holds Try.pinned (OpenSpec.upto fnExactTrimRingSpec)

/-- 'laws.FnExactRotateRing', WHERE WHAT IT READS IS OF BULK AT MOST 1048576: true; the input reads as it did. -/
def fnExactRotateRingUptoRow : OpenClaim := { program := "ytmebpmaldcogbaa", sum := "7e83055738939fc8969e8769e3fc71334bbfc663fd1e7cae2504475d3b886115", func := "loop.example/g00705/laws.FnExactRotateRing", spec := "fnExactRotateRing", unfollowed := true, recurses := true, apart := false, narrowed := true }
def FnExactRotateRingUptoSaid : Prop := fnExactRotateRingUptoRow.holds Try.pinned (OpenSpec.upto fnExactRotateRingSpec)

/-- 'laws.FnExactSealOk', WHERE WHAT IT READS IS OF BULK AT MOST 1048576: true; the input reads as it did. -/
def fnExactSealOkUptoRow : OpenClaim := { program := "ytmebpmaldcogbaa", sum := "7e83055738939fc8969e8769e3fc71334bbfc663fd1e7cae2504475d3b886115", func := "loop.example/g00705/laws.FnExactSealOk", spec := "fnExactSealOk", unfollowed := true, recurses := true, apart := false, narrowed := true }
def FnExactSealOkUptoSaid : Prop := fnExactSealOkUptoRow.holds Try.pinned (OpenSpec.upto fnExactSealOkSpec)

/-- 'laws.FnExactSplitSecret', WHERE WHAT IT READS IS OF BULK AT MOST 1048576: true; the input reads as it did. -/
def fnExactSplitSecretUptoRow : OpenClaim := { program := "ytmebpmaldcogbaa", sum := "7e83055738939fc8969e8769e3fc71334bbfc663fd1e7cae2504475d3b886115", func := "loop.example/g00705/laws.FnExactSplitSecret", spec := "fnExactSplitSecret", apart := false, narrowed := true }
def FnExactSplitSecretUptoSaid : Prop := fnExactSplitSecretUptoRow.holds Try.pinned (OpenSpec.upto fnExactSplitSecretSpec)

/-- 'laws.FnExactSealBox', WHERE WHAT IT READS IS OF BULK AT MOST 1048576: true; the input reads as it did. -/
def fnExactSealBoxUptoRow : OpenClaim := { program := "ytmebpmaldcogbaa", sum := "7e83055738939fc8969e8769e3fc71334bbfc663fd1e7cae2504475d3b886115", func := "loop.example/g00705/laws.FnExactSealBox", spec := "fnExactSealBox", apart := false, narrowed := true }
def FnExactSealBoxUptoSaid : Prop := fnExactSealBoxUptoRow.holds Try.pinned (OpenSpec.upto fnExactSealBoxSpec)

/-- 'laws.FnExactOpenBox', WHERE WHAT IT READS IS OF BULK AT MOST 1048576: true; the input reads as it did. -/
def fnExactOpenBoxUptoRow : OpenClaim := { program := "ytmebpmaldcogbaa", sum := "7e83055738939fc8969e8769e3fc71334bbfc663fd1e7cae2504475d3b886115", func := "loop.example/g00705/laws.FnExactOpenBox", spec := "fnExactOpenBox", apart := false, narrowed := true }
def FnExactOpenBoxUptoSaid : Prop := fnExactOpenBoxUptoRow.holds Try.pinned (OpenSpec.upto fnExactOpenBoxSpec)

/-- 'laws.FnUnseal', WHERE WHAT IT READS IS OF BULK AT MOST 1048576: true; the input reads as it did. -/
def fnUnsealUptoRow : OpenClaim := { program := "ytmebpmaldcogbaa", sum := "7e83055738939fc8969e8769e3fc71334bbfc663fd1e7cae2504475d3b886115", func := "loop.example/g00705/laws.FnUnseal", spec := "fnUnseal", unfollowed := true, recurses := true, apart := false, narrowed := true }
def FnUnsealUptoSaid : Prop := fnUnsealUptoRow.holds Try.pinned (OpenSpec.upto fnUnsealSpec)

/-- 'laws.FnExactFitShares', WHERE WHAT IT READS IS OF BULK AT MOST 1048576: true; the input reads as it did. -/
def fnExactFitSharesUptoRow : OpenClaim := { program := "ytmebpmaldcogbaa", sum := "7e83055738939fc8969e8769e3fc71334bbfc663fd1e7cae2504475d3b886115", func := "loop.example/g00705/laws.FnExactFitShares", spec := "fnExactFitShares", unfollowed := true, recurses := true, apart := false, narrowed := true }
def FnExactFitSharesUptoSaid : Prop := fnExactFitSharesUptoRow.holds Try.pinned (OpenSpec.upto fnExactFitSharesSpec)

/-- 'laws.FnExactCombineShares', WHERE WHAT IT READS IS OF BULK AT MOST 1048576: true; the input reads as it did. -/
def fnExactCombineSharesUptoRow : OpenClaim := { program := "ytmebpmaldcogbaa", sum := "7e83055738939fc8969e8769e3fc71334bbfc663fd1e7cae2504475d3b886115", func := "loop.example/g00705/laws.FnExactCombineShares", spec := "fnExactCombineShares", unfollowed := true, recurses := true, apart := false, narrowed := true }
def FnExactCombineSharesUptoSaid : Prop := fnExactCombineSharesUptoRow.holds Try.pinned (OpenSpec.upto fnExactCombineSharesSpec)

/-- 'laws.FnBoxes', WHERE WHAT IT READS IS OF BULK AT MOST 1048576: true; the input reads as it did. -/
def fnBoxesUptoRow : OpenClaim := { program := "ytmebpmaldcogbaa", sum := "7e83055738939fc8969e8769e3fc71334bbfc663fd1e7cae2504475d3b886115", func := "loop.example/g00705/laws.FnBoxes", spec := "fnBoxes", apart := false, narrowed := true }
def FnBoxesUptoSaid : Prop := fnBoxesUptoRow.holds Try.pinned (OpenSpec.upto fnBoxesSpec)

/-- 'laws.FnExactRingSeal', WHERE WHAT IT READS IS OF BULK AT MOST 1048576: true; the input reads as it did. -/
def fnExactRingSealUptoRow : OpenClaim := { program := "ytmebpmaldcogbaa", sum := "7e83055738939fc8969e8769e3fc71334bbfc663fd1e7cae2504475d3b886115", func := "loop.example/g00705/laws.FnExactRingSeal", spec := "fnExactRingSeal", unfollowed := true, recurses := true, apart := false, narrowed := true }
def FnExactRingSealUptoSaid : Prop := fnExactRingSealUptoRow.holds Try.pinned (OpenSpec.upto fnExactRingSealSpec)

/-- 'laws.FnExactGiveShare', WHERE WHAT IT READS IS OF BULK AT MOST 1048576: true; the input reads as it did. -/
def fnExactGiveShareUptoRow : OpenClaim := { program := "ytmebpmaldcogbaa", sum := "7e83055738939fc8969e8769e3fc71334bbfc663fd1e7cae2504475d3b886115", func := "loop.example/g00705/laws.FnExactGiveShare", spec := "fnExactGiveShare", unfollowed := true, recurses := true, apart := false, narrowed := true }
def FnExactGiveShareUptoSaid : Prop := fnExactGiveShareUptoRow.holds Try.pinned (OpenSpec.upto fnExactGiveShareSpec)

end Rows
end Go.Proofs.Ytmebpmaldcogbaa
