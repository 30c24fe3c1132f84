/-
  No cell of these rows narrows 'for every input' (looked for: loops, veiled, ifaces, maps, wideKeys, modest, calm, conditions, laid).
  DERIVED. THE GIVEN ROWS OF THIS SEAT. 22 by the template 'for every input the law returns true; each argument reads behind the call as it read before'; 0 by the template 'total and deterministic' (their statements: YtknknljkmkfmoaaTotals.lean).
  GIVEN WITH THE SEED: the statements are not yours to turn. If you find one false, say at which input.
  Laid BY PROGRAM, IN A SANDBOX (cutbox-rows.mjs): the forced cells as the released guide's own fill.sh prints them over the translation d37bfe953db9d89a… (all of the seat's roots in one cut). By AI agents, Wed Nov 11 2026. No macro, syntax, notation, axiom, sorry.
-/
import Derived.Test.YtknknljkmkfmoaaChecked
import GoSem.Claim
import GoSem.ClaimJoined
import GoSem.ClaimMapViews
import Derived.JoinedTies
import Derived.KernelRfl
namespace Go.Proofs.Ytknknljkmkfmoaa
/- THE CELL 'sum', in the pinned program and in every row, IS THE sha256 OF THE DUMP (.gsa) THAT YtknknljkmkfmoaaProg.lean LOADS. Nothing in Lean hashes anything: it is a label: what it is worth is what the hold of that sum in a sandbox is worth. -/
noncomputable def Try.pinned : Pinned := { name := "ytknknljkmkfmoaa", sum := "d37bfe953db9d89a3a444fa05fdd66dc6436b60dfe3f57abc400203de5b56a30", checked := Try.checked }
namespace Rows
def none {H : Type} : Left H := { results := [], args := [] }

/-- 'laws.FnExactIsElement': WHATEVER THE INPUT: true; the input reads as it did. -/
def fnExactIsElementSpec : ChangeSpec := { name := "fnExactIsElement", fn := fun _ => fun
  | [d1, d2] => { results := [.lit (.bool true)], args := [d1, d2] }
  | _ => none }
def fnExactIsElementRow : OpenClaim := { program := "ytknknljkmkfmoaa", sum := "d37bfe953db9d89a3a444fa05fdd66dc6436b60dfe3f57abc400203de5b56a30", func := "loop.example/g01359/laws.FnExactIsElement", spec := "fnExactIsElement", unfollowed := true, recurses := true, apart := false }
def FnExactIsElementSaid : Prop := fnExactIsElementRow.holds Try.pinned (OpenSpec.ofChange fnExactIsElementSpec)

/-- ITS FALSE NEIGHBOUR: 'it returns false'. Refute it at one input. -/
def fnExactIsElementWrong : ChangeSpec := { name := "fnExactIsElement", fn := fun _ => fun
  | [d1, d2] => { results := [.lit (.bool false)], args := [d1, d2] }
  | _ => none }
def FnExactIsElementWrongFalsely : Prop := fnExactIsElementRow.holds Try.pinned (OpenSpec.ofChange fnExactIsElementWrong)

/-- 'laws.FnExactSizeOf': WHATEVER THE INPUT: true; the input reads as it did. -/
def fnExactSizeOfSpec : ChangeSpec := { name := "fnExactSizeOf", fn := fun _ => fun
  | [d] => { results := [.lit (.bool true)], args := [d] }
  | _ => none }
def fnExactSizeOfRow : OpenClaim := { program := "ytknknljkmkfmoaa", sum := "d37bfe953db9d89a3a444fa05fdd66dc6436b60dfe3f57abc400203de5b56a30", func := "loop.example/g01359/laws.FnExactSizeOf", spec := "fnExactSizeOf", unfollowed := true, recurses := true, apart := false }
def FnExactSizeOfSaid : Prop := fnExactSizeOfRow.holds Try.pinned (OpenSpec.ofChange fnExactSizeOfSpec)

/-- ITS FALSE NEIGHBOUR: 'it returns false'. Refute it at one input. -/
def fnExactSizeOfWrong : ChangeSpec := { name := "fnExactSizeOf", fn := fun _ => fun
  | [d] => { results := [.lit (.bool false)], args := [d] }
  | _ => none }
def FnExactSizeOfWrongFalsely : Prop := fnExactSizeOfRow.holds Try.pinned (OpenSpec.ofChange fnExactSizeOfWrong)

/-- 'laws.FnExactIsCommutative': WHATEVER THE INPUT: true; the input reads as it did. -/
def fnExactIsCommutativeSpec : ChangeSpec := { name := "fnExactIsCommutative", fn := fun _ => fun
  | [d] => { results := [.lit (.bool true)], args := [d] }
  | _ => none }
def fnExactIsCommutativeRow : OpenClaim := { program := "ytknknljkmkfmoaa", sum := "d37bfe953db9d89a3a444fa05fdd66dc6436b60dfe3f57abc400203de5b56a30", func := "loop.example/g01359/laws.FnExactIsCommutative", spec := "fnExactIsCommutative", unfollowed := true, recurses := true, apart := false }
def FnExactIsCommutativeSaid : Prop := fnExactIsCommutativeRow.holds Try.pinned (OpenSpec.ofChange fnExactIsCommutativeSpec)

/-- ITS FALSE NEIGHBOUR: 'it returns false'. Refute it at one input. -/
def fnExactIsCommutativeWrong : ChangeSpec := { name := "fnExactIsCommutative", fn := fun _ => fun
  | [d] => { results := [.lit (.bool false)], args := [d] }
  | _ => none }
def FnExactIsCommutativeWrongFalsely : Prop := fnExactIsCommutativeRow.holds Try.pinned (OpenSpec.ofChange fnExactIsCommutativeWrong)

/-- 'laws.FnExactElementsOf': WHATEVER THE INPUT: true; the input reads as it did. -/
def fnExactElementsOfSpec : ChangeSpec := { name := "fnExactElementsOf", fn := fun _ => fun
  | [d] => { results := [.lit (.bool true)], args := [d] }
  | _ => none }
def fnExactElementsOfRow : OpenClaim := { program := "ytknknljkmkfmoaa", sum := "d37bfe953db9d89a3a444fa05fdd66dc6436b60dfe3f57abc400203de5b56a30", func := "loop.example/g01359/laws.FnExactElementsOf", spec := "fnExactElementsOf", unfollowed := true, recurses := true, apart := false }
def FnExactElementsOfSaid : Prop := fnExactElementsOfRow.holds Try.pinned (OpenSpec.ofChange fnExactElementsOfSpec)

/-- ITS FALSE NEIGHBOUR: 'it returns false'. Refute it at one input. -/
def fnExactElementsOfWrong : ChangeSpec := { name := "fnExactElementsOf", fn := fun _ => fun
  | [d] => { results := [.lit (.bool false)], args := [d] }
  | _ => none }
def FnExactElementsOfWrongFalsely : Prop := fnExactElementsOfRow.holds Try.pinned (OpenSpec.ofChange fnExactElementsOfWrong)

/-- 'laws.FnExactWordFor': WHATEVER THE INPUT: true; the input reads as it did. -/
def fnExactWordForSpec : ChangeSpec := { name := "fnExactWordFor", fn := fun _ => fun
  | [d1, d2] => { results := [.lit (.bool true)], args := [d1, d2] }
  | _ => none }
def fnExactWordForRow : OpenClaim := { program := "ytknknljkmkfmoaa", sum := "d37bfe953db9d89a3a444fa05fdd66dc6436b60dfe3f57abc400203de5b56a30", func := "loop.example/g01359/laws.FnExactWordFor", spec := "fnExactWordFor", unfollowed := true, recurses := true, apart := false }
def FnExactWordForSaid : Prop := fnExactWordForRow.holds Try.pinned (OpenSpec.ofChange fnExactWordForSpec)

/-- ITS FALSE NEIGHBOUR: 'it returns false'. Refute it at one input. -/
def fnExactWordForWrong : ChangeSpec := { name := "fnExactWordFor", fn := fun _ => fun
  | [d1, d2] => { results := [.lit (.bool false)], args := [d1, d2] }
  | _ => none }
def FnExactWordForWrongFalsely : Prop := fnExactWordForRow.holds Try.pinned (OpenSpec.ofChange fnExactWordForWrong)

/-- 'laws.FnExactIsRegularIn': WHATEVER THE INPUT: true; the input reads as it did. -/
def fnExactIsRegularInSpec : ChangeSpec := { name := "fnExactIsRegularIn", fn := fun _ => fun
  | [d1, d2] => { results := [.lit (.bool true)], args := [d1, d2] }
  | _ => none }
def fnExactIsRegularInRow : OpenClaim := { program := "ytknknljkmkfmoaa", sum := "d37bfe953db9d89a3a444fa05fdd66dc6436b60dfe3f57abc400203de5b56a30", func := "loop.example/g01359/laws.FnExactIsRegularIn", spec := "fnExactIsRegularIn", unfollowed := true, recurses := true, apart := false }
def FnExactIsRegularInSaid : Prop := fnExactIsRegularInRow.holds Try.pinned (OpenSpec.ofChange fnExactIsRegularInSpec)

/-- ITS FALSE NEIGHBOUR: 'it returns false'. Refute it at one input. -/
def fnExactIsRegularInWrong : ChangeSpec := { name := "fnExactIsRegularIn", fn := fun _ => fun
  | [d1, d2] => { results := [.lit (.bool false)], args := [d1, d2] }
  | _ => none }
def FnExactIsRegularInWrongFalsely : Prop := fnExactIsRegularInRow.holds Try.pinned (OpenSpec.ofChange fnExactIsRegularInWrong)

/-- 'laws.FnExactSizesByLength': WHATEVER THE INPUT: true; the input reads as it did. -/
def fnExactSizesByLengthSpec : ChangeSpec := { name := "fnExactSizesByLength", fn := fun _ => fun
  | [d] => { results := [.lit (.bool true)], args := [d] }
  | _ => none }
def fnExactSizesByLengthRow : OpenClaim := { program := "ytknknljkmkfmoaa", sum := "d37bfe953db9d89a3a444fa05fdd66dc6436b60dfe3f57abc400203de5b56a30", func := "loop.example/g01359/laws.FnExactSizesByLength", spec := "fnExactSizesByLength", unfollowed := true, recurses := true, apart := false }
def FnExactSizesByLengthSaid : Prop := fnExactSizesByLengthRow.holds Try.pinned (OpenSpec.ofChange fnExactSizesByLengthSpec)

/-- ITS FALSE NEIGHBOUR: 'it returns false'. Refute it at one input. -/
def fnExactSizesByLengthWrong : ChangeSpec := { name := "fnExactSizesByLength", fn := fun _ => fun
  | [d] => { results := [.lit (.bool false)], args := [d] }
  | _ => none }
def FnExactSizesByLengthWrongFalsely : Prop := fnExactSizesByLengthRow.holds Try.pinned (OpenSpec.ofChange fnExactSizesByLengthWrong)

/-- 'laws.FnExactIdempotentsOf': WHATEVER THE INPUT: true; the input reads as it did. -/
def fnExactIdempotentsOfSpec : ChangeSpec := { name := "fnExactIdempotentsOf", fn := fun _ => fun
  | [d] => { results := [.lit (.bool true)], args := [d] }
  | _ => none }
def fnExactIdempotentsOfRow : OpenClaim := { program := "ytknknljkmkfmoaa", sum := "d37bfe953db9d89a3a444fa05fdd66dc6436b60dfe3f57abc400203de5b56a30", func := "loop.example/g01359/laws.FnExactIdempotentsOf", spec := "fnExactIdempotentsOf", unfollowed := true, recurses := true, apart := false }
def FnExactIdempotentsOfSaid : Prop := fnExactIdempotentsOfRow.holds Try.pinned (OpenSpec.ofChange fnExactIdempotentsOfSpec)

/-- ITS FALSE NEIGHBOUR: 'it returns false'. Refute it at one input. -/
def fnExactIdempotentsOfWrong : ChangeSpec := { name := "fnExactIdempotentsOf", fn := fun _ => fun
  | [d] => { results := [.lit (.bool false)], args := [d] }
  | _ => none }
def FnExactIdempotentsOfWrongFalsely : Prop := fnExactIdempotentsOfRow.holds Try.pinned (OpenSpec.ofChange fnExactIdempotentsOfWrong)

/-- 'laws.FnExactZeroOf': WHATEVER THE INPUT: true; the input reads as it did. -/
def fnExactZeroOfSpec : ChangeSpec := { name := "fnExactZeroOf", fn := fun _ => fun
  | [d] => { results := [.lit (.bool true)], args := [d] }
  | _ => none }
def fnExactZeroOfRow : OpenClaim := { program := "ytknknljkmkfmoaa", sum := "d37bfe953db9d89a3a444fa05fdd66dc6436b60dfe3f57abc400203de5b56a30", func := "loop.example/g01359/laws.FnExactZeroOf", spec := "fnExactZeroOf", unfollowed := true, recurses := true, apart := false }
def FnExactZeroOfSaid : Prop := fnExactZeroOfRow.holds Try.pinned (OpenSpec.ofChange fnExactZeroOfSpec)

/-- ITS FALSE NEIGHBOUR: 'it returns false'. Refute it at one input. -/
def fnExactZeroOfWrong : ChangeSpec := { name := "fnExactZeroOf", fn := fun _ => fun
  | [d] => { results := [.lit (.bool false)], args := [d] }
  | _ => none }
def FnExactZeroOfWrongFalsely : Prop := fnExactZeroOfRow.holds Try.pinned (OpenSpec.ofChange fnExactZeroOfWrong)

/-- 'laws.FnExactCentreOf': WHATEVER THE INPUT: true; the input reads as it did. -/
def fnExactCentreOfSpec : ChangeSpec := { name := "fnExactCentreOf", fn := fun _ => fun
  | [d] => { results := [.lit (.bool true)], args := [d] }
  | _ => none }
def fnExactCentreOfRow : OpenClaim := { program := "ytknknljkmkfmoaa", sum := "d37bfe953db9d89a3a444fa05fdd66dc6436b60dfe3f57abc400203de5b56a30", func := "loop.example/g01359/laws.FnExactCentreOf", spec := "fnExactCentreOf", unfollowed := true, recurses := true, apart := false }
def FnExactCentreOfSaid : Prop := fnExactCentreOfRow.holds Try.pinned (OpenSpec.ofChange fnExactCentreOfSpec)

/-- ITS FALSE NEIGHBOUR: 'it returns false'. Refute it at one input. -/
def fnExactCentreOfWrong : ChangeSpec := { name := "fnExactCentreOf", fn := fun _ => fun
  | [d] => { results := [.lit (.bool false)], args := [d] }
  | _ => none }
def FnExactCentreOfWrongFalsely : Prop := fnExactCentreOfRow.holds Try.pinned (OpenSpec.ofChange fnExactCentreOfWrong)

/-- 'laws.FnExactSideZeros': WHATEVER THE INPUT: true; the input reads as it did. -/
def fnExactSideZerosSpec : ChangeSpec := { name := "fnExactSideZeros", fn := fun _ => fun
  | [d1, d2] => { results := [.lit (.bool true)], args := [d1, d2] }
  | _ => none }
def fnExactSideZerosRow : OpenClaim := { program := "ytknknljkmkfmoaa", sum := "d37bfe953db9d89a3a444fa05fdd66dc6436b60dfe3f57abc400203de5b56a30", func := "loop.example/g01359/laws.FnExactSideZeros", spec := "fnExactSideZeros", unfollowed := true, recurses := true, apart := false }
def FnExactSideZerosSaid : Prop := fnExactSideZerosRow.holds Try.pinned (OpenSpec.ofChange fnExactSideZerosSpec)

/-- ITS FALSE NEIGHBOUR: 'it returns false'. Refute it at one input. -/
def fnExactSideZerosWrong : ChangeSpec := { name := "fnExactSideZeros", fn := fun _ => fun
  | [d1, d2] => { results := [.lit (.bool false)], args := [d1, d2] }
  | _ => none }
def FnExactSideZerosWrongFalsely : Prop := fnExactSideZerosRow.holds Try.pinned (OpenSpec.ofChange fnExactSideZerosWrong)

/-- 'laws.FnExactIsUnder': WHATEVER THE INPUT: true; the input reads as it did. -/
def fnExactIsUnderSpec : ChangeSpec := { name := "fnExactIsUnder", fn := fun _ => fun
  | [d1, d2, d3] => { results := [.lit (.bool true)], args := [d1, d2, d3] }
  | _ => none }
def fnExactIsUnderRow : OpenClaim := { program := "ytknknljkmkfmoaa", sum := "d37bfe953db9d89a3a444fa05fdd66dc6436b60dfe3f57abc400203de5b56a30", func := "loop.example/g01359/laws.FnExactIsUnder", spec := "fnExactIsUnder", unfollowed := true, recurses := true, apart := false }
def FnExactIsUnderSaid : Prop := fnExactIsUnderRow.holds Try.pinned (OpenSpec.ofChange fnExactIsUnderSpec)

/-- ITS FALSE NEIGHBOUR: 'it returns false'. Refute it at one input. -/
def fnExactIsUnderWrong : ChangeSpec := { name := "fnExactIsUnder", fn := fun _ => fun
  | [d1, d2, d3] => { results := [.lit (.bool false)], args := [d1, d2, d3] }
  | _ => none }
def FnExactIsUnderWrongFalsely : Prop := fnExactIsUnderRow.holds Try.pinned (OpenSpec.ofChange fnExactIsUnderWrong)

/-- 'laws.FnExactIsRegular': WHATEVER THE INPUT: true; the input reads as it did. -/
def fnExactIsRegularSpec : ChangeSpec := { name := "fnExactIsRegular", fn := fun _ => fun
  | [d1, d2] => { results := [.lit (.bool true)], args := [d1, d2] }
  | _ => none }
def fnExactIsRegularRow : OpenClaim := { program := "ytknknljkmkfmoaa", sum := "d37bfe953db9d89a3a444fa05fdd66dc6436b60dfe3f57abc400203de5b56a30", func := "loop.example/g01359/laws.FnExactIsRegular", spec := "fnExactIsRegular", unfollowed := true, recurses := true, apart := false }
def FnExactIsRegularSaid : Prop := fnExactIsRegularRow.holds Try.pinned (OpenSpec.ofChange fnExactIsRegularSpec)

/-- ITS FALSE NEIGHBOUR: 'it returns false'. Refute it at one input. -/
def fnExactIsRegularWrong : ChangeSpec := { name := "fnExactIsRegular", fn := fun _ => fun
  | [d1, d2] => { results := [.lit (.bool false)], args := [d1, d2] }
  | _ => none }
def FnExactIsRegularWrongFalsely : Prop := fnExactIsRegularRow.holds Try.pinned (OpenSpec.ofChange fnExactIsRegularWrong)

/-- 'laws.FnExactLeastGenerating': WHATEVER THE INPUT: true; the input reads as it did. -/
def fnExactLeastGeneratingSpec : ChangeSpec := { name := "fnExactLeastGenerating", fn := fun _ => fun
  | [d] => { results := [.lit (.bool true)], args := [d] }
  | _ => none }
def fnExactLeastGeneratingRow : OpenClaim := { program := "ytknknljkmkfmoaa", sum := "d37bfe953db9d89a3a444fa05fdd66dc6436b60dfe3f57abc400203de5b56a30", func := "loop.example/g01359/laws.FnExactLeastGenerating", spec := "fnExactLeastGenerating", unfollowed := true, recurses := true, apart := false }
def FnExactLeastGeneratingSaid : Prop := fnExactLeastGeneratingRow.holds Try.pinned (OpenSpec.ofChange fnExactLeastGeneratingSpec)

/-- ITS FALSE NEIGHBOUR: 'it returns false'. Refute it at one input. -/
def fnExactLeastGeneratingWrong : ChangeSpec := { name := "fnExactLeastGenerating", fn := fun _ => fun
  | [d] => { results := [.lit (.bool false)], args := [d] }
  | _ => none }
def FnExactLeastGeneratingWrongFalsely : Prop := fnExactLeastGeneratingRow.holds Try.pinned (OpenSpec.ofChange fnExactLeastGeneratingWrong)

/-- 'laws.FnExactAreAlike': WHATEVER THE INPUT: true; the input reads as it did. -/
def fnExactAreAlikeSpec : ChangeSpec := { name := "fnExactAreAlike", fn := fun _ => fun
  | [d1, d2, d3, d4] => { results := [.lit (.bool true)], args := [d1, d2, d3, d4] }
  | _ => none }
def fnExactAreAlikeRow : OpenClaim := { program := "ytknknljkmkfmoaa", sum := "d37bfe953db9d89a3a444fa05fdd66dc6436b60dfe3f57abc400203de5b56a30", func := "loop.example/g01359/laws.FnExactAreAlike", spec := "fnExactAreAlike", unfollowed := true, recurses := true, apart := false }
def FnExactAreAlikeSaid : Prop := fnExactAreAlikeRow.holds Try.pinned (OpenSpec.ofChange fnExactAreAlikeSpec)

/-- ITS FALSE NEIGHBOUR: 'it returns false'. Refute it at one input. -/
def fnExactAreAlikeWrong : ChangeSpec := { name := "fnExactAreAlike", fn := fun _ => fun
  | [d1, d2, d3, d4] => { results := [.lit (.bool false)], args := [d1, d2, d3, d4] }
  | _ => none }
def FnExactAreAlikeWrongFalsely : Prop := fnExactAreAlikeRow.holds Try.pinned (OpenSpec.ofChange fnExactAreAlikeWrong)

/-- 'laws.FnExactDepthOf': WHATEVER THE INPUT: true; the input reads as it did. -/
def fnExactDepthOfSpec : ChangeSpec := { name := "fnExactDepthOf", fn := fun _ => fun
  | [d] => { results := [.lit (.bool true)], args := [d] }
  | _ => none }
def fnExactDepthOfRow : OpenClaim := { program := "ytknknljkmkfmoaa", sum := "d37bfe953db9d89a3a444fa05fdd66dc6436b60dfe3f57abc400203de5b56a30", func := "loop.example/g01359/laws.FnExactDepthOf", spec := "fnExactDepthOf", unfollowed := true, recurses := true, apart := false }
def FnExactDepthOfSaid : Prop := fnExactDepthOfRow.holds Try.pinned (OpenSpec.ofChange fnExactDepthOfSpec)

/-- ITS FALSE NEIGHBOUR: 'it returns false'. Refute it at one input. -/
def fnExactDepthOfWrong : ChangeSpec := { name := "fnExactDepthOf", fn := fun _ => fun
  | [d] => { results := [.lit (.bool false)], args := [d] }
  | _ => none }
def FnExactDepthOfWrongFalsely : Prop := fnExactDepthOfRow.holds Try.pinned (OpenSpec.ofChange fnExactDepthOfWrong)

/-- 'laws.FnExactGroupWith': WHATEVER THE INPUT: true; the input reads as it did. -/
def fnExactGroupWithSpec : ChangeSpec := { name := "fnExactGroupWith", fn := fun _ => fun
  | [d1, d2] => { results := [.lit (.bool true)], args := [d1, d2] }
  | _ => none }
def fnExactGroupWithRow : OpenClaim := { program := "ytknknljkmkfmoaa", sum := "d37bfe953db9d89a3a444fa05fdd66dc6436b60dfe3f57abc400203de5b56a30", func := "loop.example/g01359/laws.FnExactGroupWith", spec := "fnExactGroupWith", unfollowed := true, recurses := true, apart := false }
def FnExactGroupWithSaid : Prop := fnExactGroupWithRow.holds Try.pinned (OpenSpec.ofChange fnExactGroupWithSpec)

/-- ITS FALSE NEIGHBOUR: 'it returns false'. Refute it at one input. -/
def fnExactGroupWithWrong : ChangeSpec := { name := "fnExactGroupWith", fn := fun _ => fun
  | [d1, d2] => { results := [.lit (.bool false)], args := [d1, d2] }
  | _ => none }
def FnExactGroupWithWrongFalsely : Prop := fnExactGroupWithRow.holds Try.pinned (OpenSpec.ofChange fnExactGroupWithWrong)

/-- 'laws.FnExactClassNumbers': WHATEVER THE INPUT: true; the input reads as it did. -/
def fnExactClassNumbersSpec : ChangeSpec := { name := "fnExactClassNumbers", fn := fun _ => fun
  | [d1, d2] => { results := [.lit (.bool true)], args := [d1, d2] }
  | _ => none }
def fnExactClassNumbersRow : OpenClaim := { program := "ytknknljkmkfmoaa", sum := "d37bfe953db9d89a3a444fa05fdd66dc6436b60dfe3f57abc400203de5b56a30", func := "loop.example/g01359/laws.FnExactClassNumbers", spec := "fnExactClassNumbers", unfollowed := true, recurses := true, apart := false }
def FnExactClassNumbersSaid : Prop := fnExactClassNumbersRow.holds Try.pinned (OpenSpec.ofChange fnExactClassNumbersSpec)

/-- ITS FALSE NEIGHBOUR: 'it returns false'. Refute it at one input. -/
def fnExactClassNumbersWrong : ChangeSpec := { name := "fnExactClassNumbers", fn := fun _ => fun
  | [d1, d2] => { results := [.lit (.bool false)], args := [d1, d2] }
  | _ => none }
def FnExactClassNumbersWrongFalsely : Prop := fnExactClassNumbersRow.holds Try.pinned (OpenSpec.ofChange fnExactClassNumbersWrong)

/-- 'laws.FnExactCountClasses': WHATEVER THE INPUT: true; the input reads as it did. -/
def fnExactCountClassesSpec : ChangeSpec := { name := "fnExactCountClasses", fn := fun _ => fun
  | [d] => { results := [.lit (.bool true)], args := [d] }
  | _ => none }
def fnExactCountClassesRow : OpenClaim := { program := "ytknknljkmkfmoaa", sum := "d37bfe953db9d89a3a444fa05fdd66dc6436b60dfe3f57abc400203de5b56a30", func := "loop.example/g01359/laws.FnExactCountClasses", spec := "fnExactCountClasses", unfollowed := true, recurses := true, apart := false }
def FnExactCountClassesSaid : Prop := fnExactCountClassesRow.holds Try.pinned (OpenSpec.ofChange fnExactCountClassesSpec)

/-- ITS FALSE NEIGHBOUR: 'it returns false'. Refute it at one input. -/
def fnExactCountClassesWrong : ChangeSpec := { name := "fnExactCountClasses", fn := fun _ => fun
  | [d] => { results := [.lit (.bool false)], args := [d] }
  | _ => none }
def FnExactCountClassesWrongFalsely : Prop := fnExactCountClassesRow.holds Try.pinned (OpenSpec.ofChange fnExactCountClassesWrong)

/-- 'laws.FnExactGridOf': WHATEVER THE INPUT: true; the input reads as it did. -/
def fnExactGridOfSpec : ChangeSpec := { name := "fnExactGridOf", fn := fun _ => fun
  | [d1, d2] => { results := [.lit (.bool true)], args := [d1, d2] }
  | _ => none }
def fnExactGridOfRow : OpenClaim := { program := "ytknknljkmkfmoaa", sum := "d37bfe953db9d89a3a444fa05fdd66dc6436b60dfe3f57abc400203de5b56a30", func := "loop.example/g01359/laws.FnExactGridOf", spec := "fnExactGridOf", unfollowed := true, recurses := true, apart := false }
def FnExactGridOfSaid : Prop := fnExactGridOfRow.holds Try.pinned (OpenSpec.ofChange fnExactGridOfSpec)

/-- ITS FALSE NEIGHBOUR: 'it returns false'. Refute it at one input. -/
def fnExactGridOfWrong : ChangeSpec := { name := "fnExactGridOf", fn := fun _ => fun
  | [d1, d2] => { results := [.lit (.bool false)], args := [d1, d2] }
  | _ => none }
def FnExactGridOfWrongFalsely : Prop := fnExactGridOfRow.holds Try.pinned (OpenSpec.ofChange fnExactGridOfWrong)

/-- 'laws.FnExactUnitsOf': WHATEVER THE INPUT: true; the input reads as it did. -/
def fnExactUnitsOfSpec : ChangeSpec := { name := "fnExactUnitsOf", fn := fun _ => fun
  | [d] => { results := [.lit (.bool true)], args := [d] }
  | _ => none }
def fnExactUnitsOfRow : OpenClaim := { program := "ytknknljkmkfmoaa", sum := "d37bfe953db9d89a3a444fa05fdd66dc6436b60dfe3f57abc400203de5b56a30", func := "loop.example/g01359/laws.FnExactUnitsOf", spec := "fnExactUnitsOf", unfollowed := true, recurses := true, apart := false }
def FnExactUnitsOfSaid : Prop := fnExactUnitsOfRow.holds Try.pinned (OpenSpec.ofChange fnExactUnitsOfSpec)

/-- ITS FALSE NEIGHBOUR: 'it returns false'. Refute it at one input. -/
def fnExactUnitsOfWrong : ChangeSpec := { name := "fnExactUnitsOf", fn := fun _ => fun
  | [d] => { results := [.lit (.bool false)], args := [d] }
  | _ => none }
def FnExactUnitsOfWrongFalsely : Prop := fnExactUnitsOfRow.holds Try.pinned (OpenSpec.ofChange fnExactUnitsOfWrong)

/-- 'laws.FnExactSizesByRank': WHATEVER THE INPUT: true; the input reads as it did. -/
def fnExactSizesByRankSpec : ChangeSpec := { name := "fnExactSizesByRank", fn := fun _ => fun
  | [d] => { results := [.lit (.bool true)], args := [d] }
  | _ => none }
def fnExactSizesByRankRow : OpenClaim := { program := "ytknknljkmkfmoaa", sum := "d37bfe953db9d89a3a444fa05fdd66dc6436b60dfe3f57abc400203de5b56a30", func := "loop.example/g01359/laws.FnExactSizesByRank", spec := "fnExactSizesByRank", unfollowed := true, recurses := true, apart := false }
def FnExactSizesByRankSaid : Prop := fnExactSizesByRankRow.holds Try.pinned (OpenSpec.ofChange fnExactSizesByRankSpec)

/-- ITS FALSE NEIGHBOUR: 'it returns false'. Refute it at one input. -/
def fnExactSizesByRankWrong : ChangeSpec := { name := "fnExactSizesByRank", fn := fun _ => fun
  | [d] => { results := [.lit (.bool false)], args := [d] }
  | _ => none }
def FnExactSizesByRankWrongFalsely : Prop := fnExactSizesByRankRow.holds Try.pinned (OpenSpec.ofChange fnExactSizesByRankWrong)

/- THE SECOND FORM. 'bulk': how many values and letters a reading holds, each counted each time it is reached (what is shared counts as often as it is met; a slice's spare places count too). A statement '..UptoSaid' is the law's where the arguments, and the package variables that the reading takes, are together of bulk at most 1048576: NARROWER than '..Said'. Prove '..Said' where nothing that the law and all that it calls make is longer than what came in: it says more and counts as full. Else prove '..UptoSaid'. A law counts once. -/
mutual
def uptoBulk {H : Type} : DataW H → Nat
  | .lit (.string bytes) => bytes.length + 1
  | .lit _ => 1
  | .nil => 1
  | .ptr d => uptoBulk d + 1
  | .slice elems spare => uptoBulkAll elems + uptoBulkAll spare + 1
  | .agg parts => uptoBulkAll parts + 1
  | .iface _ d => uptoBulk d + 1
  | .map entries => uptoBulkEntries entries + 1
  | .held _ => 1
def uptoBulkAll {H : Type} : List (DataW H) → Nat
  | [] => 0
  | d :: r => uptoBulk d + uptoBulkAll r
def uptoBulkEntries {H : Type} : List (Lit × DataW H) → Nat
  | [] => 0
  | x :: r => uptoBulkEntry x + uptoBulkEntries r
def uptoBulkEntry {H : Type} : Lit × DataW H → Nat
  | (.string bytes, d) => bytes.length + uptoBulk d + 1
  | (_, d) => uptoBulk d + 1
 end
def uptoSmall : (H : Type) → List (DataW H) → Bool := fun _ ds => decide (uptoBulkAll ds ≤ 1048576)
def OpenSpec.upto (s : _root_.Go.ChangeSpec) : _root_.Go.OpenSpec := { _root_.Go.OpenSpec.ofChange s with cond := some uptoSmall }

/-- 'laws.FnExactIsElement', WHERE WHAT IT READS IS OF BULK AT MOST 1048576: true; the input reads as it did. -/
def fnExactIsElementUptoRow : OpenClaim := { program := "ytknknljkmkfmoaa", sum := "d37bfe953db9d89a3a444fa05fdd66dc6436b60dfe3f57abc400203de5b56a30", func := "loop.example/g01359/laws.FnExactIsElement", spec := "fnExactIsElement", unfollowed := true, recurses := true, apart := false, narrowed := true }
def FnExactIsElementUptoSaid : Prop := fnExactIsElementUptoRow.holds Try.pinned (OpenSpec.upto fnExactIsElementSpec)

/-- 'laws.FnExactSizeOf', WHERE WHAT IT READS IS OF BULK AT MOST 1048576: true; the input reads as it did. -/
def fnExactSizeOfUptoRow : OpenClaim := { program := "ytknknljkmkfmoaa", sum := "d37bfe953db9d89a3a444fa05fdd66dc6436b60dfe3f57abc400203de5b56a30", func := "loop.example/g01359/laws.FnExactSizeOf", spec := "fnExactSizeOf", unfollowed := true, recurses := true, apart := false, narrowed := true }
def FnExactSizeOfUptoSaid : Prop := fnExactSizeOfUptoRow.holds Try.pinned (OpenSpec.upto fnExactSizeOfSpec)

/-- 'laws.FnExactIsCommutative', WHERE WHAT IT READS IS OF BULK AT MOST 1048576: true; the input reads as it did. -/
def fnExactIsCommutativeUptoRow : OpenClaim := { program := "ytknknljkmkfmoaa", sum := "d37bfe953db9d89a3a444fa05fdd66dc6436b60dfe3f57abc400203de5b56a30", func := "loop.example/g01359/laws.FnExactIsCommutative", spec := "fnExactIsCommutative", unfollowed := true, recurses := true, apart := false, narrowed := true }
def FnExactIsCommutativeUptoSaid : Prop := fnExactIsCommutativeUptoRow.holds Try.pinned (OpenSpec.upto fnExactIsCommutativeSpec)

/-- 'laws.FnExactElementsOf', WHERE WHAT IT READS IS OF BULK AT MOST 1048576: true; the input reads as it did. -/
def fnExactElementsOfUptoRow : OpenClaim := { program := "ytknknljkmkfmoaa", sum := "d37bfe953db9d89a3a444fa05fdd66dc6436b60dfe3f57abc400203de5b56a30", func := "loop.example/g01359/laws.FnExactElementsOf", spec := "fnExactElementsOf", unfollowed := true, recurses := true, apart := false, narrowed := true }
def FnExactElementsOfUptoSaid : Prop := fnExactElementsOfUptoRow.holds Try.pinned (OpenSpec.upto fnExactElementsOfSpec)

/-- 'laws.FnExactWordFor', WHERE WHAT IT READS IS OF BULK AT MOST 1048576: true; the input reads as it did. -/
def fnExactWordForUptoRow : OpenClaim := { program := "ytknknljkmkfmoaa", sum := "d37bfe953db9d89a3a444fa05fdd66dc6436b60dfe3f57abc400203de5b56a30", func := "loop.example/g01359/laws.FnExactWordFor", spec := "fnExactWordFor", unfollowed := true, recurses := true, apart := false, narrowed := true }
def FnExactWordForUptoSaid : Prop := fnExactWordForUptoRow.holds Try.pinned (OpenSpec.upto fnExactWordForSpec)

/-- 'laws.FnExactIsRegularIn', WHERE WHAT IT READS IS OF BULK AT MOST 1048576: true; the input reads as it did. -/
def fnExactIsRegularInUptoRow : OpenClaim := { program := "ytknknljkmkfmoaa", sum := "d37bfe953db9d89a3a444fa05fdd66dc6436b60dfe3f57abc400203de5b56a30", func := "loop.example/g01359/laws.FnExactIsRegularIn", spec := "fnExactIsRegularIn", unfollowed := true, recurses := true, apart := false, narrowed := true }
def FnExactIsRegularInUptoSaid : Prop := fnExactIsRegularInUptoRow.holds Try.pinned (OpenSpec.upto fnExactIsRegularInSpec)

/-- 'laws.FnExactSizesByLength', WHERE WHAT IT READS IS OF BULK AT MOST 1048576: true; the input reads as it did. -/
def fnExactSizesByLengthUptoRow : OpenClaim := { program := "ytknknljkmkfmoaa", sum := "d37bfe953db9d89a3a444fa05fdd66dc6436b60dfe3f57abc400203de5b56a30", func := "loop.example/g01359/laws.FnExactSizesByLength", spec := "fnExactSizesByLength", unfollowed := true, recurses := true, apart := false, narrowed := true }
def FnExactSizesByLengthUptoSaid : Prop := fnExactSizesByLengthUptoRow.holds Try.pinned (OpenSpec.upto fnExactSizesByLengthSpec)

/-- 'laws.FnExactIdempotentsOf', WHERE WHAT IT READS IS OF BULK AT MOST 1048576: true; the input reads as it did. -/
def fnExactIdempotentsOfUptoRow : OpenClaim := { program := "ytknknljkmkfmoaa", sum := "d37bfe953db9d89a3a444fa05fdd66dc6436b60dfe3f57abc400203de5b56a30", func := "loop.example/g01359/laws.FnExactIdempotentsOf", spec := "fnExactIdempotentsOf", unfollowed := true, recurses := true, apart := false, narrowed := true }
def FnExactIdempotentsOfUptoSaid : Prop := fnExactIdempotentsOfUptoRow.holds Try.pinned (OpenSpec.upto fnExactIdempotentsOfSpec)

/-- 'laws.FnExactZeroOf', WHERE WHAT IT READS IS OF BULK AT MOST 1048576: true; the input reads as it did. -/
def fnExactZeroOfUptoRow : OpenClaim := { program := "ytknknljkmkfmoaa", sum := "d37bfe953db9d89a3a444fa05fdd66dc6436b60dfe3f57abc400203de5b56a30", func := "loop.example/g01359/laws.FnExactZeroOf", spec := "fnExactZeroOf", unfollowed := true, recurses := true, apart := false, narrowed := true }
def FnExactZeroOfUptoSaid : Prop := fnExactZeroOfUptoRow.holds Try.pinned (OpenSpec.upto fnExactZeroOfSpec)

/-- 'laws.FnExactCentreOf', WHERE WHAT IT READS IS OF BULK AT MOST 1048576: true; the input reads as it did. -/
def fnExactCentreOfUptoRow : OpenClaim := { program := "ytknknljkmkfmoaa", sum := "d37bfe953db9d89a3a444fa05fdd66dc6436b60dfe3f57abc400203de5b56a30", func := "loop.example/g01359/laws.FnExactCentreOf", spec := "fnExactCentreOf", unfollowed := true, recurses := true, apart := false, narrowed := true }
def FnExactCentreOfUptoSaid : Prop := fnExactCentreOfUptoRow.holds Try.pinned (OpenSpec.upto fnExactCentreOfSpec)

/-- 'laws.FnExactSideZeros', WHERE WHAT IT READS IS OF BULK AT MOST 1048576: true; the input reads as it did. -/
def fnExactSideZerosUptoRow : OpenClaim := { program := "ytknknljkmkfmoaa", sum := "d37bfe953db9d89a3a444fa05fdd66dc6436b60dfe3f57abc400203de5b56a30", func := "loop.example/g01359/laws.FnExactSideZeros", spec := "fnExactSideZeros", unfollowed := true, recurses := true, apart := false, narrowed := true }
def FnExactSideZerosUptoSaid : Prop := fnExactSideZerosUptoRow.holds Try.pinned (OpenSpec.upto fnExactSideZerosSpec)

/-- 'laws.FnExactIsUnder', WHERE WHAT IT READS IS OF BULK AT MOST 1048576: true; the input reads as it did. -/
def fnExactIsUnderUptoRow : OpenClaim := { program := "ytknknljkmkfmoaa", sum := "d37bfe953db9d89a3a444fa05fdd66dc6436b60dfe3f57abc400203de5b56a30", func := "loop.example/g01359/laws.FnExactIsUnder", spec := "fnExactIsUnder", unfollowed := true, recurses := true, apart := false, narrowed := true }
def FnExactIsUnderUptoSaid : Prop := fnExactIsUnderUptoRow.holds Try.pinned (OpenSpec.upto fnExactIsUnderSpec)

/-- 'laws.FnExactIsRegular', WHERE WHAT IT READS IS OF BULK AT MOST 1048576: true; the input reads as it did. -/
def fnExactIsRegularUptoRow : OpenClaim := { program := "ytknknljkmkfmoaa", sum := "d37bfe953db9d89a3a444fa05fdd66dc6436b60dfe3f57abc400203de5b56a30", func := "loop.example/g01359/laws.FnExactIsRegular", spec := "fnExactIsRegular", unfollowed := true, recurses := true, apart := false, narrowed := true }
def FnExactIsRegularUptoSaid : Prop := fnExactIsRegularUptoRow.holds Try.pinned (OpenSpec.upto fnExactIsRegularSpec)

/-- 'laws.FnExactLeastGenerating', WHERE WHAT IT READS IS OF BULK AT MOST 1048576: true; the input reads as it did. -/
def fnExactLeastGeneratingUptoRow : OpenClaim := { program := "ytknknljkmkfmoaa", sum := "d37bfe953db9d89a3a444fa05fdd66dc6436b60dfe3f57abc400203de5b56a30", func := "loop.example/g01359/laws.FnExactLeastGenerating", spec := "fnExactLeastGenerating", unfollowed := true, recurses := true, apart := false, narrowed := true }
def FnExactLeastGeneratingUptoSaid : Prop := fnExactLeastGeneratingUptoRow.holds Try.pinned (OpenSpec.upto fnExactLeastGeneratingSpec)

/-- 'laws.FnExactAreAlike', WHERE WHAT IT READS IS OF BULK AT MOST 1048576: true; the input reads as it did. -/
def fnExactAreAlikeUptoRow : OpenClaim := { program := "ytknknljkmkfmoaa", sum := "d37bfe953db9d89a3a444fa05fdd66dc6436b60dfe3f57abc400203de5b56a30", func := "loop.example/g01359/laws.FnExactAreAlike", spec := "fnExactAreAlike", unfollowed := true, recurses := true, apart := false, narrowed := true }
def FnExactAreAlikeUptoSaid : Prop := fnExactAreAlikeUptoRow.holds Try.pinned (OpenSpec.upto fnExactAreAlikeSpec)

/-- 'laws.FnExactDepthOf', WHERE WHAT IT READS IS OF BULK AT MOST 1048576: true; the input reads as it did. -/
def fnExactDepthOfUptoRow : OpenClaim := { program := "ytknknljkmkfmoaa", sum := "d37bfe953db9d89a3a444fa05fdd66dc6436b60dfe3f57abc400203de5b56a30", func := "loop.example/g01359/laws.FnExactDepthOf", spec := "fnExactDepthOf", unfollowed := true, recurses := true, apart := false, narrowed := true }
def FnExactDepthOfUptoSaid : Prop := fnExactDepthOfUptoRow.holds Try.pinned (OpenSpec.upto fnExactDepthOfSpec)

/-- 'laws.FnExactGroupWith', WHERE WHAT IT READS IS OF BULK AT MOST 1048576: true; the input reads as it did. -/
def fnExactGroupWithUptoRow : OpenClaim := { program := "ytknknljkmkfmoaa", sum := "d37bfe953db9d89a3a444fa05fdd66dc6436b60dfe3f57abc400203de5b56a30", func := "loop.example/g01359/laws.FnExactGroupWith", spec := "fnExactGroupWith", unfollowed := true, recurses := true, apart := false, narrowed := true }
def FnExactGroupWithUptoSaid : Prop := fnExactGroupWithUptoRow.holds Try.pinned (OpenSpec.upto fnExactGroupWithSpec)

/-- 'laws.FnExactClassNumbers', WHERE WHAT IT READS IS OF BULK AT MOST 1048576: true; the input reads as it did. -/
def fnExactClassNumbersUptoRow : OpenClaim := { program := "ytknknljkmkfmoaa", sum := "d37bfe953db9d89a3a444fa05fdd66dc6436b60dfe3f57abc400203de5b56a30", func := "loop.example/g01359/laws.FnExactClassNumbers", spec := "fnExactClassNumbers", unfollowed := true, recurses := true, apart := false, narrowed := true }
def FnExactClassNumbersUptoSaid : Prop := fnExactClassNumbersUptoRow.holds Try.pinned (OpenSpec.upto fnExactClassNumbersSpec)

/-- 'laws.FnExactCountClasses', WHERE WHAT IT READS IS OF BULK AT MOST 1048576: true; the input reads as it did. -/
def fnExactCountClassesUptoRow : OpenClaim := { program := "ytknknljkmkfmoaa", sum := "d37bfe953db9d89a3a444fa05fdd66dc6436b60dfe3f57abc400203de5b56a30", func := "loop.example/g01359/laws.FnExactCountClasses", spec := "fnExactCountClasses", unfollowed := true, recurses := true, apart := false, narrowed := true }
def FnExactCountClassesUptoSaid : Prop := fnExactCountClassesUptoRow.holds Try.pinned (OpenSpec.upto fnExactCountClassesSpec)

/-- 'laws.FnExactGridOf', WHERE WHAT IT READS IS OF BULK AT MOST 1048576: true; the input reads as it did. -/
def fnExactGridOfUptoRow : OpenClaim := { program := "ytknknljkmkfmoaa", sum := "d37bfe953db9d89a3a444fa05fdd66dc6436b60dfe3f57abc400203de5b56a30", func := "loop.example/g01359/laws.FnExactGridOf", spec := "fnExactGridOf", unfollowed := true, recurses := true, apart := false, narrowed := true }
def FnExactGridOfUptoSaid : Prop := fnExactGridOfUptoRow.holds Try.pinned (OpenSpec.upto fnExactGridOfSpec)

/-- 'laws.FnExactUnitsOf', WHERE WHAT IT READS IS OF BULK AT MOST 1048576: true; the input reads as it did. -/
def fnExactUnitsOfUptoRow : OpenClaim := { program := "ytknknljkmkfmoaa", sum := "d37bfe953db9d89a3a444fa05fdd66dc6436b60dfe3f57abc400203de5b56a30", func := "loop.example/g01359/laws.FnExactUnitsOf", spec := "fnExactUnitsOf", unfollowed := true, recurses := true, apart := false, narrowed := true }
def FnExactUnitsOfUptoSaid : Prop := fnExactUnitsOfUptoRow.holds Try.pinned (OpenSpec.upto fnExactUnitsOfSpec)

/-- 'laws.FnExactSizesByRank', WHERE WHAT IT READS IS OF BULK AT MOST 1048576: true; the input reads as it did. -/
def fnExactSizesByRankUptoRow : OpenClaim := { program := "ytknknljkmkfmoaa", sum := "d37bfe953db9d89a3a444fa05fdd66dc6436b60dfe3f57abc400203de5b56a30", func := "loop.example/g01359/laws.FnExactSizesByRank", spec := "fnExactSizesByRank", unfollowed := true, recurses := true, apart := false, narrowed := true }
def FnExactSizesByRankUptoSaid : Prop := fnExactSizesByRankUptoRow.holds Try.pinned (OpenSpec.upto fnExactSizesByRankSpec)

end Rows
end Go.Proofs.Ytknknljkmkfmoaa
