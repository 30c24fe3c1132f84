/-
  No cell of these rows narrows 'for every input' (looked for: loops, veiled, ifaces, maps, wideKeys, modest, calm, conditions, laid).
  DERIVED. THE GIVEN ROWS OF THIS SEAT. 7 by the template 'for every input the law returns true; each argument reads behind the call as it read before'; 0 by the template 'total and deterministic' (their statements: YtneonacdjmfaoaaTotals.lean).
  GIVEN WITH THE SEED: the statements are not yours to turn. If you find one false, say at which input.
  Laid BY PROGRAM, IN A SANDBOX (cutbox-rows.mjs): the forced cells as the released guide's own fill.sh prints them over the translation 4576908a707386e1… (all of the seat's roots in one cut). By AI agents, Wed Nov 11 2026. No macro, syntax, notation, axiom, sorry.
-/
import Derived.Test.YtneonacdjmfaoaaChecked
import GoSem.Claim
import GoSem.ClaimJoined
import GoSem.ClaimMapViews
import Derived.JoinedTies
import Derived.KernelRfl
namespace Go.Proofs.Ytneonacdjmfaoaa
/- THE CELL 'sum', in the pinned program and in every row, IS THE sha256 OF THE DUMP (.gsa) THAT YtneonacdjmfaoaaProg.lean LOADS. Nothing in Lean hashes anything: it is a label: what it is worth is what the hold of that sum in a sandbox is worth. -/
noncomputable def Try.pinned : Pinned := { name := "ytneonacdjmfaoaa", sum := "4576908a707386e176053cf0518f20cb99b6eaefce2d283ab0ec06f089b580fb", checked := Try.checked }
namespace Rows
def none {H : Type} : Left H := { results := [], args := [] }

/-- 'laws.FnExactLeastGenerating': WHATEVER THE INPUT: true; the input reads as it did. -/
def fnExactLeastGeneratingSpec : ChangeSpec := { name := "fnExactLeastGenerating", fn := fun _ => fun
  | [d] => { results := [.lit (.bool true)], args := [d] }
  | _ => none }
def fnExactLeastGeneratingRow : OpenClaim := { program := "ytneonacdjmfaoaa", sum := "4576908a707386e176053cf0518f20cb99b6eaefce2d283ab0ec06f089b580fb", func := "loop.example/g01359/laws.FnExactLeastGenerating", spec := "fnExactLeastGenerating", unfollowed := true, recurses := true, apart := false }
def FnExactLeastGeneratingSaid : Prop := fnExactLeastGeneratingRow.holds Try.pinned (OpenSpec.ofChange fnExactLeastGeneratingSpec)

/-- ITS FALSE NEIGHBOUR: 'it returns false'. Refute it at one input. -/
def fnExactLeastGeneratingWrong : ChangeSpec := { name := "fnExactLeastGenerating", fn := fun _ => fun
  | [d] => { results := [.lit (.bool false)], args := [d] }
  | _ => none }
def FnExactLeastGeneratingWrongFalsely : Prop := fnExactLeastGeneratingRow.holds Try.pinned (OpenSpec.ofChange fnExactLeastGeneratingWrong)

/-- 'laws.FnExactAreAlike': WHATEVER THE INPUT: true; the input reads as it did. -/
def fnExactAreAlikeSpec : ChangeSpec := { name := "fnExactAreAlike", fn := fun _ => fun
  | [d1, d2, d3, d4] => { results := [.lit (.bool true)], args := [d1, d2, d3, d4] }
  | _ => none }
def fnExactAreAlikeRow : OpenClaim := { program := "ytneonacdjmfaoaa", sum := "4576908a707386e176053cf0518f20cb99b6eaefce2d283ab0ec06f089b580fb", func := "loop.example/g01359/laws.FnExactAreAlike", spec := "fnExactAreAlike", unfollowed := true, recurses := true, apart := false }
def FnExactAreAlikeSaid : Prop := fnExactAreAlikeRow.holds Try.pinned (OpenSpec.ofChange fnExactAreAlikeSpec)

/-- ITS FALSE NEIGHBOUR: 'it returns false'. Refute it at one input. -/
def fnExactAreAlikeWrong : ChangeSpec := { name := "fnExactAreAlike", fn := fun _ => fun
  | [d1, d2, d3, d4] => { results := [.lit (.bool false)], args := [d1, d2, d3, d4] }
  | _ => none }
def FnExactAreAlikeWrongFalsely : Prop := fnExactAreAlikeRow.holds Try.pinned (OpenSpec.ofChange fnExactAreAlikeWrong)

/-- 'laws.FnExactDepthOf': WHATEVER THE INPUT: true; the input reads as it did. -/
def fnExactDepthOfSpec : ChangeSpec := { name := "fnExactDepthOf", fn := fun _ => fun
  | [d] => { results := [.lit (.bool true)], args := [d] }
  | _ => none }
def fnExactDepthOfRow : OpenClaim := { program := "ytneonacdjmfaoaa", sum := "4576908a707386e176053cf0518f20cb99b6eaefce2d283ab0ec06f089b580fb", func := "loop.example/g01359/laws.FnExactDepthOf", spec := "fnExactDepthOf", unfollowed := true, recurses := true, apart := false }
def FnExactDepthOfSaid : Prop := fnExactDepthOfRow.holds Try.pinned (OpenSpec.ofChange fnExactDepthOfSpec)

/-- ITS FALSE NEIGHBOUR: 'it returns false'. Refute it at one input. -/
def fnExactDepthOfWrong : ChangeSpec := { name := "fnExactDepthOf", fn := fun _ => fun
  | [d] => { results := [.lit (.bool false)], args := [d] }
  | _ => none }
def FnExactDepthOfWrongFalsely : Prop := fnExactDepthOfRow.holds Try.pinned (OpenSpec.ofChange fnExactDepthOfWrong)

/-- 'laws.FnExactGroupWith': WHATEVER THE INPUT: true; the input reads as it did. -/
def fnExactGroupWithSpec : ChangeSpec := { name := "fnExactGroupWith", fn := fun _ => fun
  | [d1, d2] => { results := [.lit (.bool true)], args := [d1, d2] }
  | _ => none }
def fnExactGroupWithRow : OpenClaim := { program := "ytneonacdjmfaoaa", sum := "4576908a707386e176053cf0518f20cb99b6eaefce2d283ab0ec06f089b580fb", func := "loop.example/g01359/laws.FnExactGroupWith", spec := "fnExactGroupWith", unfollowed := true, recurses := true, apart := false }
def FnExactGroupWithSaid : Prop := fnExactGroupWithRow.holds Try.pinned (OpenSpec.ofChange fnExactGroupWithSpec)

/-- ITS FALSE NEIGHBOUR: 'it returns false'. Refute it at one input. -/
def fnExactGroupWithWrong : ChangeSpec := { name := "fnExactGroupWith", fn := fun _ => fun
  | [d1, d2] => { results := [.lit (.bool false)], args := [d1, d2] }
  | _ => none }
def FnExactGroupWithWrongFalsely : Prop := fnExactGroupWithRow.holds Try.pinned (OpenSpec.ofChange fnExactGroupWithWrong)

/-- 'laws.FnExactClassNumbers': WHATEVER THE INPUT: true; the input reads as it did. -/
def fnExactClassNumbersSpec : ChangeSpec := { name := "fnExactClassNumbers", fn := fun _ => fun
  | [d1, d2] => { results := [.lit (.bool true)], args := [d1, d2] }
  | _ => none }
def fnExactClassNumbersRow : OpenClaim := { program := "ytneonacdjmfaoaa", sum := "4576908a707386e176053cf0518f20cb99b6eaefce2d283ab0ec06f089b580fb", func := "loop.example/g01359/laws.FnExactClassNumbers", spec := "fnExactClassNumbers", unfollowed := true, recurses := true, apart := false }
def FnExactClassNumbersSaid : Prop := fnExactClassNumbersRow.holds Try.pinned (OpenSpec.ofChange fnExactClassNumbersSpec)

/-- ITS FALSE NEIGHBOUR: 'it returns false'. Refute it at one input. -/
def fnExactClassNumbersWrong : ChangeSpec := { name := "fnExactClassNumbers", fn := fun _ => fun
  | [d1, d2] => { results := [.lit (.bool false)], args := [d1, d2] }
  | _ => none }
def FnExactClassNumbersWrongFalsely : Prop := fnExactClassNumbersRow.holds Try.pinned (OpenSpec.ofChange fnExactClassNumbersWrong)

/-- 'laws.FnExactCountClasses': WHATEVER THE INPUT: true; the input reads as it did. -/
def fnExactCountClassesSpec : ChangeSpec := { name := "fnExactCountClasses", fn := fun _ => fun
  | [d] => { results := [.lit (.bool true)], args := [d] }
  | _ => none }
def fnExactCountClassesRow : OpenClaim := { program := "ytneonacdjmfaoaa", sum := "4576908a707386e176053cf0518f20cb99b6eaefce2d283ab0ec06f089b580fb", func := "loop.example/g01359/laws.FnExactCountClasses", spec := "fnExactCountClasses", unfollowed := true, recurses := true, apart := false }
def FnExactCountClassesSaid : Prop := fnExactCountClassesRow.holds Try.pinned (OpenSpec.ofChange fnExactCountClassesSpec)

/-- ITS FALSE NEIGHBOUR: 'it returns false'. Refute it at one input. -/
def fnExactCountClassesWrong : ChangeSpec := { name := "fnExactCountClasses", fn := fun _ => fun
  | [d] => { results := [.lit (.bool false)], args := [d] }
  | _ => none }
def FnExactCountClassesWrongFalsely : Prop := fnExactCountClassesRow.holds Try.pinned (OpenSpec.ofChange fnExactCountClassesWrong)

/-- 'laws.FnExactGridOf': WHATEVER THE INPUT: true; the input reads as it did. -/
def fnExactGridOfSpec : ChangeSpec := { name := "fnExactGridOf", fn := fun _ => fun
  | [d1, d2] => { results := [.lit (.bool true)], args := [d1, d2] }
  | _ => none }
def fnExactGridOfRow : OpenClaim := { program := "ytneonacdjmfaoaa", sum := "4576908a707386e176053cf0518f20cb99b6eaefce2d283ab0ec06f089b580fb", func := "loop.example/g01359/laws.FnExactGridOf", spec := "fnExactGridOf", unfollowed := true, recurses := true, apart := false }
def FnExactGridOfSaid : Prop := fnExactGridOfRow.holds Try.pinned (OpenSpec.ofChange fnExactGridOfSpec)

/-- ITS FALSE NEIGHBOUR: 'it returns false'. Refute it at one input. -/
def fnExactGridOfWrong : ChangeSpec := { name := "fnExactGridOf", fn := fun _ => fun
  | [d1, d2] => { results := [.lit (.bool false)], args := [d1, d2] }
  | _ => none }
def FnExactGridOfWrongFalsely : Prop := fnExactGridOfRow.holds Try.pinned (OpenSpec.ofChange fnExactGridOfWrong)

/- THE SECOND FORM. 'bulk': how many values and letters a reading holds, each counted each time it is reached (what is shared counts as often as it is met; a slice's spare places count too). A statement '..UptoSaid' is the law's where the arguments, and the package variables that the reading takes, are together of bulk at most 1048576: NARROWER than '..Said'. Prove '..Said' where nothing that the law and all that it calls make is longer than what came in: it says more and counts as full. Else prove '..UptoSaid'. A law counts once. -/
mutual
def uptoBulk {H : Type} : DataW H → Nat
  | .lit (.string bytes) => bytes.length + 1
  | .lit _ => 1
  | .nil => 1
  | .ptr d => uptoBulk d + 1
  | .slice elems spare => uptoBulkAll elems + uptoBulkAll spare + 1
  | .agg parts => uptoBulkAll parts + 1
  | .iface _ d => uptoBulk d + 1
  | .map entries => uptoBulkEntries entries + 1
  | .held _ => 1
def uptoBulkAll {H : Type} : List (DataW H) → Nat
  | [] => 0
  | d :: r => uptoBulk d + uptoBulkAll r
def uptoBulkEntries {H : Type} : List (Lit × DataW H) → Nat
  | [] => 0
  | x :: r => uptoBulkEntry x + uptoBulkEntries r
def uptoBulkEntry {H : Type} : Lit × DataW H → Nat
  | (.string bytes, d) => bytes.length + uptoBulk d + 1
  | (_, d) => uptoBulk d + 1
 end
def uptoSmall : (H : Type) → List (DataW H) → Bool := fun _ ds => decide (uptoBulkAll ds ≤ 1048576)
def OpenSpec.upto (s : _root_.Go.ChangeSpec) : _root_.Go.OpenSpec := { _root_.Go.OpenSpec.ofChange s with cond := some uptoSmall }

/-- 'laws.FnExactLeastGenerating', WHERE WHAT IT READS IS OF BULK AT MOST 1048576: true; the input reads as it did. -/
def fnExactLeastGeneratingUptoRow : OpenClaim := { program := "ytneonacdjmfaoaa", sum := "4576908a707386e176053cf0518f20cb99b6eaefce2d283ab0ec06f089b580fb", func := "loop.example/g01359/laws.FnExactLeastGenerating", spec := "fnExactLeastGenerating", unfollowed := true, recurses := true, apart := false, narrowed := true }
def FnExactLeastGeneratingUptoSaid : Prop := fnExactLeastGeneratingUptoRow.holds Try.pinned (OpenSpec.upto fnExactLeastGeneratingSpec)

/-- 'laws.FnExactAreAlike', WHERE WHAT IT READS IS OF BULK AT MOST 1048576: true; the input reads as it did. -/
def fnExactAreAlikeUptoRow : OpenClaim := { program := "ytneonacdjmfaoaa", sum := "4576908a707386e176053cf0518f20cb99b6eaefce2d283ab0ec06f089b580fb", func := "loop.example/g01359/laws.FnExactAreAlike", spec := "fnExactAreAlike", unfollowed := true, recurses := true, apart := false, narrowed := true }
def FnExactAreAlikeUptoSaid : Prop := fnExactAreAlikeUptoRow.holds Try.pinned (OpenSpec.upto fnExactAreAlikeSpec)

/-- 'laws.FnExactDepthOf', WHERE WHAT IT READS IS OF BULK AT MOST 1048576: true; the input reads as it did. -/
def fnExactDepthOfUptoRow : OpenClaim := { program := "ytneonacdjmfaoaa", sum := "4576908a707386e176053cf0518f20cb99b6eaefce2d283ab0ec06f089b580fb", func := "loop.example/g01359/laws.FnExactDepthOf", spec := "fnExactDepthOf", unfollowed := true, recurses := true, apart := false, narrowed := true }
def FnExactDepthOfUptoSaid : Prop := fnExactDepthOfUptoRow.holds Try.pinned (OpenSpec.upto fnExactDepthOfSpec)

/-- 'laws.FnExactGroupWith', WHERE WHAT IT READS IS OF BULK AT MOST 1048576: true; the input reads as it did. -/
def fnExactGroupWithUptoRow : OpenClaim := { program := "ytneonacdjmfaoaa", sum := "4576908a707386e176053cf0518f20cb99b6eaefce2d283ab0ec06f089b580fb", func := "loop.example/g01359/laws.FnExactGroupWith", spec := "fnExactGroupWith", unfollowed := true, recurses := true, apart := false, narrowed := true }
def FnExactGroupWithUptoSaid : Prop := fnExactGroupWithUptoRow.holds Try.pinned (OpenSpec.upto fnExactGroupWithSpec)

/-- 'laws.FnExactClassNumbers', WHERE WHAT IT READS IS OF BULK AT MOST 1048576: true; the input reads as it did. -/
def fnExactClassNumbersUptoRow : OpenClaim := { program := "ytneonacdjmfaoaa", sum := "4576908a707386e176053cf0518f20cb99b6eaefce2d283ab0ec06f089b580fb", func := "loop.example/g01359/laws.FnExactClassNumbers", spec := "fnExactClassNumbers", unfollowed := true, recurses := true, apart := false, narrowed := true }
def FnExactClassNumbersUptoSaid : Prop := fnExactClassNumbersUptoRow.holds Try.pinned (OpenSpec.upto fnExactClassNumbersSpec)

/-- 'laws.FnExactCountClasses', WHERE WHAT IT READS IS OF BULK AT MOST 1048576: true; the input reads as it did. -/
def fnExactCountClassesUptoRow : OpenClaim := { program := "ytneonacdjmfaoaa", sum := "4576908a707386e176053cf0518f20cb99b6eaefce2d283ab0ec06f089b580fb", func := "loop.example/g01359/laws.FnExactCountClasses", spec := "fnExactCountClasses", unfollowed := true, recurses := true, apart := false, narrowed := true }
def FnExactCountClassesUptoSaid : Prop := fnExactCountClassesUptoRow.holds Try.pinned (OpenSpec.upto fnExactCountClassesSpec)

/-- 'laws.FnExactGridOf', WHERE WHAT IT READS IS OF BULK AT MOST 1048576: true; the input reads as it did. -/
def fnExactGridOfUptoRow : OpenClaim := { program := "ytneonacdjmfaoaa", sum := "4576908a707386e176053cf0518f20cb99b6eaefce2d283ab0ec06f089b580fb", func := "loop.example/g01359/laws.FnExactGridOf", spec := "fnExactGridOf", unfollowed := true, recurses := true, apart := false, narrowed := true }
def FnExactGridOfUptoSaid : Prop := fnExactGridOfUptoRow.holds Try.pinned (OpenSpec.upto fnExactGridOfSpec)

end Rows
end Go.Proofs.Ytneonacdjmfaoaa
