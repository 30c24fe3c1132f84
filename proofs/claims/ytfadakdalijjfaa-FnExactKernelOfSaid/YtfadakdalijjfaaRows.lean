/-
  No cell of these rows narrows 'for every input' (looked for: loops, veiled, ifaces, maps, wideKeys, modest, calm, conditions, laid).
  DERIVED. THE GIVEN ROWS OF THIS SEAT. 12 by the template 'for every input the law returns true; each argument reads behind the call as it read before'; 0 by the template 'total and deterministic' (their statements: YtfadakdalijjfaaTotals.lean).
  GIVEN WITH THE SEED: the statements are not yours to turn. If you find one false, say at which input.
  Laid BY PROGRAM, IN A SANDBOX (cutbox-rows.mjs): the forced cells as the released guide's own fill.sh prints them over the translation b5c64394ab9cdc5e… (all of the seat's roots in one cut). By AI agents, Wed Nov 11 2026. No macro, syntax, notation, axiom, sorry.
-/
import Derived.Test.YtfadakdalijjfaaChecked
import GoSem.Claim
import GoSem.ClaimJoined
import GoSem.ClaimMapViews
import Derived.JoinedTies
import Derived.KernelRfl
namespace Go.Proofs.Ytfadakdalijjfaa
/- THE CELL 'sum', in the pinned program and in every row, IS THE sha256 OF THE DUMP (.gsa) THAT YtfadakdalijjfaaProg.lean LOADS. Nothing in Lean hashes anything: it is a label: what it is worth is what the hold of that sum in a sandbox is worth. -/
noncomputable def Try.pinned : Pinned := { name := "ytfadakdalijjfaa", sum := "b5c64394ab9cdc5e312d562888db6cca0e5571080678ec92243fcd917570e20f", checked := Try.checked }
namespace Rows
def none {H : Type} : Left H := { results := [], args := [] }

/-- 'laws.FnExactConstants': WHATEVER THE INPUT: true; the input reads as it did. -/
def fnExactConstantsSpec : ChangeSpec := { name := "fnExactConstants", fn := fun _ => fun
  | [] => { results := [.lit (.bool true)], args := [] }
  | _ => none }
def fnExactConstantsRow : OpenClaim := { program := "ytfadakdalijjfaa", sum := "b5c64394ab9cdc5e312d562888db6cca0e5571080678ec92243fcd917570e20f", func := "loop.example/g01359/laws.FnExactConstants", spec := "fnExactConstants", apart := false }
def FnExactConstantsSaid : Prop := fnExactConstantsRow.holds Try.pinned (OpenSpec.ofChange fnExactConstantsSpec)

/-- ITS FALSE NEIGHBOUR: 'it returns false'. Refute it at one input. -/
def fnExactConstantsWrong : ChangeSpec := { name := "fnExactConstants", fn := fun _ => fun
  | [] => { results := [.lit (.bool false)], args := [] }
  | _ => none }
def FnExactConstantsWrongFalsely : Prop := fnExactConstantsRow.holds Try.pinned (OpenSpec.ofChange fnExactConstantsWrong)

/-- 'laws.FnExactIsMap': WHATEVER THE INPUT: true; the input reads as it did. -/
def fnExactIsMapSpec : ChangeSpec := { name := "fnExactIsMap", fn := fun _ => fun
  | [d] => { results := [.lit (.bool true)], args := [d] }
  | _ => none }
def fnExactIsMapRow : OpenClaim := { program := "ytfadakdalijjfaa", sum := "b5c64394ab9cdc5e312d562888db6cca0e5571080678ec92243fcd917570e20f", func := "loop.example/g01359/laws.FnExactIsMap", spec := "fnExactIsMap", apart := false }
def FnExactIsMapSaid : Prop := fnExactIsMapRow.holds Try.pinned (OpenSpec.ofChange fnExactIsMapSpec)

/-- ITS FALSE NEIGHBOUR: 'it returns false'. Refute it at one input. -/
def fnExactIsMapWrong : ChangeSpec := { name := "fnExactIsMap", fn := fun _ => fun
  | [d] => { results := [.lit (.bool false)], args := [d] }
  | _ => none }
def FnExactIsMapWrongFalsely : Prop := fnExactIsMapRow.holds Try.pinned (OpenSpec.ofChange fnExactIsMapWrong)

/-- 'laws.FnExactIsIdempotent': WHATEVER THE INPUT: true; the input reads as it did. -/
def fnExactIsIdempotentSpec : ChangeSpec := { name := "fnExactIsIdempotent", fn := fun _ => fun
  | [d] => { results := [.lit (.bool true)], args := [d] }
  | _ => none }
def fnExactIsIdempotentRow : OpenClaim := { program := "ytfadakdalijjfaa", sum := "b5c64394ab9cdc5e312d562888db6cca0e5571080678ec92243fcd917570e20f", func := "loop.example/g01359/laws.FnExactIsIdempotent", spec := "fnExactIsIdempotent", apart := false }
def FnExactIsIdempotentSaid : Prop := fnExactIsIdempotentRow.holds Try.pinned (OpenSpec.ofChange fnExactIsIdempotentSpec)

/-- ITS FALSE NEIGHBOUR: 'it returns false'. Refute it at one input. -/
def fnExactIsIdempotentWrong : ChangeSpec := { name := "fnExactIsIdempotent", fn := fun _ => fun
  | [d] => { results := [.lit (.bool false)], args := [d] }
  | _ => none }
def FnExactIsIdempotentWrongFalsely : Prop := fnExactIsIdempotentRow.holds Try.pinned (OpenSpec.ofChange fnExactIsIdempotentWrong)

/-- 'laws.FnExactParseMap': WHATEVER THE INPUT: true; the input reads as it did. -/
def fnExactParseMapSpec : ChangeSpec := { name := "fnExactParseMap", fn := fun _ => fun
  | [d] => { results := [.lit (.bool true)], args := [d] }
  | _ => none }
def fnExactParseMapRow : OpenClaim := { program := "ytfadakdalijjfaa", sum := "b5c64394ab9cdc5e312d562888db6cca0e5571080678ec92243fcd917570e20f", func := "loop.example/g01359/laws.FnExactParseMap", spec := "fnExactParseMap", apart := false }
def FnExactParseMapSaid : Prop := fnExactParseMapRow.holds Try.pinned (OpenSpec.ofChange fnExactParseMapSpec)

/-- ITS FALSE NEIGHBOUR: 'it returns false'. Refute it at one input. -/
def fnExactParseMapWrong : ChangeSpec := { name := "fnExactParseMap", fn := fun _ => fun
  | [d] => { results := [.lit (.bool false)], args := [d] }
  | _ => none }
def FnExactParseMapWrongFalsely : Prop := fnExactParseMapRow.holds Try.pinned (OpenSpec.ofChange fnExactParseMapWrong)

/-- 'laws.FnExactMapOf': WHATEVER THE INPUT: true; the input reads as it did. -/
def fnExactMapOfSpec : ChangeSpec := { name := "fnExactMapOf", fn := fun _ => fun
  | [d] => { results := [.lit (.bool true)], args := [d] }
  | _ => none }
def fnExactMapOfRow : OpenClaim := { program := "ytfadakdalijjfaa", sum := "b5c64394ab9cdc5e312d562888db6cca0e5571080678ec92243fcd917570e20f", func := "loop.example/g01359/laws.FnExactMapOf", spec := "fnExactMapOf", apart := false }
def FnExactMapOfSaid : Prop := fnExactMapOfRow.holds Try.pinned (OpenSpec.ofChange fnExactMapOfSpec)

/-- ITS FALSE NEIGHBOUR: 'it returns false'. Refute it at one input. -/
def fnExactMapOfWrong : ChangeSpec := { name := "fnExactMapOf", fn := fun _ => fun
  | [d] => { results := [.lit (.bool false)], args := [d] }
  | _ => none }
def FnExactMapOfWrongFalsely : Prop := fnExactMapOfRow.holds Try.pinned (OpenSpec.ofChange fnExactMapOfWrong)

/-- 'laws.FnExactMapText': WHATEVER THE INPUT: true; the input reads as it did. -/
def fnExactMapTextSpec : ChangeSpec := { name := "fnExactMapText", fn := fun _ => fun
  | [d] => { results := [.lit (.bool true)], args := [d] }
  | _ => none }
def fnExactMapTextRow : OpenClaim := { program := "ytfadakdalijjfaa", sum := "b5c64394ab9cdc5e312d562888db6cca0e5571080678ec92243fcd917570e20f", func := "loop.example/g01359/laws.FnExactMapText", spec := "fnExactMapText", recurses := true, apart := false }
def FnExactMapTextSaid : Prop := fnExactMapTextRow.holds Try.pinned (OpenSpec.ofChange fnExactMapTextSpec)

/-- ITS FALSE NEIGHBOUR: 'it returns false'. Refute it at one input. -/
def fnExactMapTextWrong : ChangeSpec := { name := "fnExactMapText", fn := fun _ => fun
  | [d] => { results := [.lit (.bool false)], args := [d] }
  | _ => none }
def FnExactMapTextWrongFalsely : Prop := fnExactMapTextRow.holds Try.pinned (OpenSpec.ofChange fnExactMapTextWrong)

/-- 'laws.FnExactImagesOf': WHATEVER THE INPUT: true; the input reads as it did. -/
def fnExactImagesOfSpec : ChangeSpec := { name := "fnExactImagesOf", fn := fun _ => fun
  | [d] => { results := [.lit (.bool true)], args := [d] }
  | _ => none }
def fnExactImagesOfRow : OpenClaim := { program := "ytfadakdalijjfaa", sum := "b5c64394ab9cdc5e312d562888db6cca0e5571080678ec92243fcd917570e20f", func := "loop.example/g01359/laws.FnExactImagesOf", spec := "fnExactImagesOf", apart := false }
def FnExactImagesOfSaid : Prop := fnExactImagesOfRow.holds Try.pinned (OpenSpec.ofChange fnExactImagesOfSpec)

/-- ITS FALSE NEIGHBOUR: 'it returns false'. Refute it at one input. -/
def fnExactImagesOfWrong : ChangeSpec := { name := "fnExactImagesOf", fn := fun _ => fun
  | [d] => { results := [.lit (.bool false)], args := [d] }
  | _ => none }
def FnExactImagesOfWrongFalsely : Prop := fnExactImagesOfRow.holds Try.pinned (OpenSpec.ofChange fnExactImagesOfWrong)

/-- 'laws.FnExactProductOf': WHATEVER THE INPUT: true; the input reads as it did. -/
def fnExactProductOfSpec : ChangeSpec := { name := "fnExactProductOf", fn := fun _ => fun
  | [d1, d2] => { results := [.lit (.bool true)], args := [d1, d2] }
  | _ => none }
def fnExactProductOfRow : OpenClaim := { program := "ytfadakdalijjfaa", sum := "b5c64394ab9cdc5e312d562888db6cca0e5571080678ec92243fcd917570e20f", func := "loop.example/g01359/laws.FnExactProductOf", spec := "fnExactProductOf", apart := false }
def FnExactProductOfSaid : Prop := fnExactProductOfRow.holds Try.pinned (OpenSpec.ofChange fnExactProductOfSpec)

/-- ITS FALSE NEIGHBOUR: 'it returns false'. Refute it at one input. -/
def fnExactProductOfWrong : ChangeSpec := { name := "fnExactProductOf", fn := fun _ => fun
  | [d1, d2] => { results := [.lit (.bool false)], args := [d1, d2] }
  | _ => none }
def FnExactProductOfWrongFalsely : Prop := fnExactProductOfRow.holds Try.pinned (OpenSpec.ofChange fnExactProductOfWrong)

/-- 'laws.FnExactIdempotentPower': WHATEVER THE INPUT: true; the input reads as it did. -/
def fnExactIdempotentPowerSpec : ChangeSpec := { name := "fnExactIdempotentPower", fn := fun _ => fun
  | [d] => { results := [.lit (.bool true)], args := [d] }
  | _ => none }
def fnExactIdempotentPowerRow : OpenClaim := { program := "ytfadakdalijjfaa", sum := "b5c64394ab9cdc5e312d562888db6cca0e5571080678ec92243fcd917570e20f", func := "loop.example/g01359/laws.FnExactIdempotentPower", spec := "fnExactIdempotentPower", apart := false }
def FnExactIdempotentPowerSaid : Prop := fnExactIdempotentPowerRow.holds Try.pinned (OpenSpec.ofChange fnExactIdempotentPowerSpec)

/-- ITS FALSE NEIGHBOUR: 'it returns false'. Refute it at one input. -/
def fnExactIdempotentPowerWrong : ChangeSpec := { name := "fnExactIdempotentPower", fn := fun _ => fun
  | [d] => { results := [.lit (.bool false)], args := [d] }
  | _ => none }
def FnExactIdempotentPowerWrongFalsely : Prop := fnExactIdempotentPowerRow.holds Try.pinned (OpenSpec.ofChange fnExactIdempotentPowerWrong)

/-- 'laws.FnExactIndexAndPeriod': WHATEVER THE INPUT: true; the input reads as it did. -/
def fnExactIndexAndPeriodSpec : ChangeSpec := { name := "fnExactIndexAndPeriod", fn := fun _ => fun
  | [d] => { results := [.lit (.bool true)], args := [d] }
  | _ => none }
def fnExactIndexAndPeriodRow : OpenClaim := { program := "ytfadakdalijjfaa", sum := "b5c64394ab9cdc5e312d562888db6cca0e5571080678ec92243fcd917570e20f", func := "loop.example/g01359/laws.FnExactIndexAndPeriod", spec := "fnExactIndexAndPeriod", apart := false }
def FnExactIndexAndPeriodSaid : Prop := fnExactIndexAndPeriodRow.holds Try.pinned (OpenSpec.ofChange fnExactIndexAndPeriodSpec)

/-- ITS FALSE NEIGHBOUR: 'it returns false'. Refute it at one input. -/
def fnExactIndexAndPeriodWrong : ChangeSpec := { name := "fnExactIndexAndPeriod", fn := fun _ => fun
  | [d] => { results := [.lit (.bool false)], args := [d] }
  | _ => none }
def FnExactIndexAndPeriodWrongFalsely : Prop := fnExactIndexAndPeriodRow.holds Try.pinned (OpenSpec.ofChange fnExactIndexAndPeriodWrong)

/-- 'laws.FnExactKernelOf': WHATEVER THE INPUT: true; the input reads as it did. -/
def fnExactKernelOfSpec : ChangeSpec := { name := "fnExactKernelOf", fn := fun _ => fun
  | [d] => { results := [.lit (.bool true)], args := [d] }
  | _ => none }
def fnExactKernelOfRow : OpenClaim := { program := "ytfadakdalijjfaa", sum := "b5c64394ab9cdc5e312d562888db6cca0e5571080678ec92243fcd917570e20f", func := "loop.example/g01359/laws.FnExactKernelOf", spec := "fnExactKernelOf", unfollowed := true, recurses := true, apart := false }
def FnExactKernelOfSaid : Prop := fnExactKernelOfRow.holds Try.pinned (OpenSpec.ofChange fnExactKernelOfSpec)

/-- ITS FALSE NEIGHBOUR: 'it returns false'. Refute it at one input. -/
def fnExactKernelOfWrong : ChangeSpec := { name := "fnExactKernelOf", fn := fun _ => fun
  | [d] => { results := [.lit (.bool false)], args := [d] }
  | _ => none }
def FnExactKernelOfWrongFalsely : Prop := fnExactKernelOfRow.holds Try.pinned (OpenSpec.ofChange fnExactKernelOfWrong)

/-- 'laws.FnExactCompareMaps': WHATEVER THE INPUT: true; the input reads as it did. -/
def fnExactCompareMapsSpec : ChangeSpec := { name := "fnExactCompareMaps", fn := fun _ => fun
  | [d1, d2] => { results := [.lit (.bool true)], args := [d1, d2] }
  | _ => none }
def fnExactCompareMapsRow : OpenClaim := { program := "ytfadakdalijjfaa", sum := "b5c64394ab9cdc5e312d562888db6cca0e5571080678ec92243fcd917570e20f", func := "loop.example/g01359/laws.FnExactCompareMaps", spec := "fnExactCompareMaps", apart := false }
def FnExactCompareMapsSaid : Prop := fnExactCompareMapsRow.holds Try.pinned (OpenSpec.ofChange fnExactCompareMapsSpec)

/-- ITS FALSE NEIGHBOUR: 'it returns false'. Refute it at one input. -/
def fnExactCompareMapsWrong : ChangeSpec := { name := "fnExactCompareMaps", fn := fun _ => fun
  | [d1, d2] => { results := [.lit (.bool false)], args := [d1, d2] }
  | _ => none }
def FnExactCompareMapsWrongFalsely : Prop := fnExactCompareMapsRow.holds Try.pinned (OpenSpec.ofChange fnExactCompareMapsWrong)

/- THE SECOND FORM. 'bulk': how many values and letters a reading holds, each counted each time it is reached (what is shared counts as often as it is met; a slice's spare places count too). A statement '..UptoSaid' is the law's where the arguments, and the package variables that the reading takes, are together of bulk at most 1048576: NARROWER than '..Said'. Prove '..Said' where nothing that the law and all that it calls make is longer than what came in: it says more and counts as full. Else prove '..UptoSaid'. A law counts once. -/
mutual
def uptoBulk {H : Type} : DataW H → Nat
  | .lit (.string bytes) => bytes.length + 1
  | .lit _ => 1
  | .nil => 1
  | .ptr d => uptoBulk d + 1
  | .slice elems spare => uptoBulkAll elems + uptoBulkAll spare + 1
  | .agg parts => uptoBulkAll parts + 1
  | .iface _ d => uptoBulk d + 1
  | .map entries => uptoBulkEntries entries + 1
  | .held _ => 1
def uptoBulkAll {H : Type} : List (DataW H) → Nat
  | [] => 0
  | d :: r => uptoBulk d + uptoBulkAll r
def uptoBulkEntries {H : Type} : List (Lit × DataW H) → Nat
  | [] => 0
  | x :: r => uptoBulkEntry x + uptoBulkEntries r
def uptoBulkEntry {H : Type} : Lit × DataW H → Nat
  | (.string bytes, d) => bytes.length + uptoBulk d + 1
  | (_, d) => uptoBulk d + 1
 end
def uptoSmall : (H : Type) → List (DataW H) → Bool := fun _ ds => decide (uptoBulkAll ds ≤ 1048576)
def OpenSpec.upto (s : _root_.Go.ChangeSpec) : _root_.Go.OpenSpec := { _root_.Go.OpenSpec.ofChange s with cond := some uptoSmall }

/-- 'laws.FnExactConstants', WHERE WHAT IT READS IS OF BULK AT MOST 1048576: true; the input reads as it did. -/
def fnExactConstantsUptoRow : OpenClaim := { program := "ytfadakdalijjfaa", sum := "b5c64394ab9cdc5e312d562888db6cca0e5571080678ec92243fcd917570e20f", func := "loop.example/g01359/laws.FnExactConstants", spec := "fnExactConstants", apart := false, narrowed := true }
def FnExactConstantsUptoSaid : Prop := fnExactConstantsUptoRow.holds Try.pinned (OpenSpec.upto fnExactConstantsSpec)

/-- 'laws.FnExactIsMap', WHERE WHAT IT READS IS OF BULK AT MOST 1048576: true; the input reads as it did. -/
def fnExactIsMapUptoRow : OpenClaim := { program := "ytfadakdalijjfaa", sum := "b5c64394ab9cdc5e312d562888db6cca0e5571080678ec92243fcd917570e20f", func := "loop.example/g01359/laws.FnExactIsMap", spec := "fnExactIsMap", apart := false, narrowed := true }
def FnExactIsMapUptoSaid : Prop := fnExactIsMapUptoRow.holds Try.pinned (OpenSpec.upto fnExactIsMapSpec)

/-- 'laws.FnExactIsIdempotent', WHERE WHAT IT READS IS OF BULK AT MOST 1048576: true; the input reads as it did. -/
def fnExactIsIdempotentUptoRow : OpenClaim := { program := "ytfadakdalijjfaa", sum := "b5c64394ab9cdc5e312d562888db6cca0e5571080678ec92243fcd917570e20f", func := "loop.example/g01359/laws.FnExactIsIdempotent", spec := "fnExactIsIdempotent", apart := false, narrowed := true }
def FnExactIsIdempotentUptoSaid : Prop := fnExactIsIdempotentUptoRow.holds Try.pinned (OpenSpec.upto fnExactIsIdempotentSpec)

/-- 'laws.FnExactParseMap', WHERE WHAT IT READS IS OF BULK AT MOST 1048576: true; the input reads as it did. -/
def fnExactParseMapUptoRow : OpenClaim := { program := "ytfadakdalijjfaa", sum := "b5c64394ab9cdc5e312d562888db6cca0e5571080678ec92243fcd917570e20f", func := "loop.example/g01359/laws.FnExactParseMap", spec := "fnExactParseMap", apart := false, narrowed := true }
def FnExactParseMapUptoSaid : Prop := fnExactParseMapUptoRow.holds Try.pinned (OpenSpec.upto fnExactParseMapSpec)

/-- 'laws.FnExactMapOf', WHERE WHAT IT READS IS OF BULK AT MOST 1048576: true; the input reads as it did. -/
def fnExactMapOfUptoRow : OpenClaim := { program := "ytfadakdalijjfaa", sum := "b5c64394ab9cdc5e312d562888db6cca0e5571080678ec92243fcd917570e20f", func := "loop.example/g01359/laws.FnExactMapOf", spec := "fnExactMapOf", apart := false, narrowed := true }
def FnExactMapOfUptoSaid : Prop := fnExactMapOfUptoRow.holds Try.pinned (OpenSpec.upto fnExactMapOfSpec)

/-- 'laws.FnExactMapText', WHERE WHAT IT READS IS OF BULK AT MOST 1048576: true; the input reads as it did. -/
def fnExactMapTextUptoRow : OpenClaim := { program := "ytfadakdalijjfaa", sum := "b5c64394ab9cdc5e312d562888db6cca0e5571080678ec92243fcd917570e20f", func := "loop.example/g01359/laws.FnExactMapText", spec := "fnExactMapText", recurses := true, apart := false, narrowed := true }
def FnExactMapTextUptoSaid : Prop := fnExactMapTextUptoRow.holds Try.pinned (OpenSpec.upto fnExactMapTextSpec)

/-- 'laws.FnExactImagesOf', WHERE WHAT IT READS IS OF BULK AT MOST 1048576: true; the input reads as it did. -/
def fnExactImagesOfUptoRow : OpenClaim := { program := "ytfadakdalijjfaa", sum := "b5c64394ab9cdc5e312d562888db6cca0e5571080678ec92243fcd917570e20f", func := "loop.example/g01359/laws.FnExactImagesOf", spec := "fnExactImagesOf", apart := false, narrowed := true }
def FnExactImagesOfUptoSaid : Prop := fnExactImagesOfUptoRow.holds Try.pinned (OpenSpec.upto fnExactImagesOfSpec)

/-- 'laws.FnExactProductOf', WHERE WHAT IT READS IS OF BULK AT MOST 1048576: true; the input reads as it did. -/
def fnExactProductOfUptoRow : OpenClaim := { program := "ytfadakdalijjfaa", sum := "b5c64394ab9cdc5e312d562888db6cca0e5571080678ec92243fcd917570e20f", func := "loop.example/g01359/laws.FnExactProductOf", spec := "fnExactProductOf", apart := false, narrowed := true }
def FnExactProductOfUptoSaid : Prop := fnExactProductOfUptoRow.holds Try.pinned (OpenSpec.upto fnExactProductOfSpec)

/-- 'laws.FnExactIdempotentPower', WHERE WHAT IT READS IS OF BULK AT MOST 1048576: true; the input reads as it did. -/
def fnExactIdempotentPowerUptoRow : OpenClaim := { program := "ytfadakdalijjfaa", sum := "b5c64394ab9cdc5e312d562888db6cca0e5571080678ec92243fcd917570e20f", func := "loop.example/g01359/laws.FnExactIdempotentPower", spec := "fnExactIdempotentPower", apart := false, narrowed := true }
def FnExactIdempotentPowerUptoSaid : Prop := fnExactIdempotentPowerUptoRow.holds Try.pinned (OpenSpec.upto fnExactIdempotentPowerSpec)

/-- 'laws.FnExactIndexAndPeriod', WHERE WHAT IT READS IS OF BULK AT MOST 1048576: true; the input reads as it did. -/
def fnExactIndexAndPeriodUptoRow : OpenClaim := { program := "ytfadakdalijjfaa", sum := "b5c64394ab9cdc5e312d562888db6cca0e5571080678ec92243fcd917570e20f", func := "loop.example/g01359/laws.FnExactIndexAndPeriod", spec := "fnExactIndexAndPeriod", apart := false, narrowed := true }
def FnExactIndexAndPeriodUptoSaid : Prop := fnExactIndexAndPeriodUptoRow.holds Try.pinned (OpenSpec.upto fnExactIndexAndPeriodSpec)

/-- 'laws.FnExactKernelOf', WHERE WHAT IT READS IS OF BULK AT MOST 1048576: true; the input reads as it did. -/
def fnExactKernelOfUptoRow : OpenClaim := { program := "ytfadakdalijjfaa", sum := "b5c64394ab9cdc5e312d562888db6cca0e5571080678ec92243fcd917570e20f", func := "loop.example/g01359/laws.FnExactKernelOf", spec := "fnExactKernelOf", unfollowed := true, recurses := true, apart := false, narrowed := true }
def FnExactKernelOfUptoSaid : Prop := fnExactKernelOfUptoRow.holds Try.pinned (OpenSpec.upto fnExactKernelOfSpec)

/-- 'laws.FnExactCompareMaps', WHERE WHAT IT READS IS OF BULK AT MOST 1048576: true; the input reads as it did. -/
def fnExactCompareMapsUptoRow : OpenClaim := { program := "ytfadakdalijjfaa", sum := "b5c64394ab9cdc5e312d562888db6cca0e5571080678ec92243fcd917570e20f", func := "loop.example/g01359/laws.FnExactCompareMaps", spec := "fnExactCompareMaps", apart := false, narrowed := true }
def FnExactCompareMapsUptoSaid : Prop := fnExactCompareMapsUptoRow.holds Try.pinned (OpenSpec.upto fnExactCompareMapsSpec)

end Rows
end Go.Proofs.Ytfadakdalijjfaa
