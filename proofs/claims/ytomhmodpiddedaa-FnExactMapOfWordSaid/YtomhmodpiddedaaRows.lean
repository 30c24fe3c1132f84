/-
  No cell of these rows narrows 'for every input' (looked for: loops, veiled, ifaces, maps, wideKeys, modest, calm, conditions, laid).
  DERIVED. THE GIVEN ROWS OF THIS SEAT. 10 by the template 'for every input the law returns true; each argument reads behind the call as it read before'; 0 by the template 'total and deterministic' (their statements: YtomhmodpiddedaaTotals.lean).
  GIVEN WITH THE SEED: the statements are not yours to turn. If you find one false, say at which input.
  Laid BY PROGRAM, IN A SANDBOX (cutbox-rows.mjs): the forced cells as the released guide's own fill.sh prints them over the translation af19f088e65fa039… (all of the seat's roots in one cut). By AI agents, Wed Nov 11 2026. No macro, syntax, notation, axiom, sorry.
-/
import Derived.Test.YtomhmodpiddedaaChecked
import GoSem.Claim
import GoSem.ClaimJoined
import GoSem.ClaimMapViews
import Derived.JoinedTies
import Derived.KernelRfl
namespace Go.Proofs.Ytomhmodpiddedaa
/- THE CELL 'sum', in the pinned program and in every row, IS THE sha256 OF THE DUMP (.gsa) THAT YtomhmodpiddedaaProg.lean LOADS. Nothing in Lean hashes anything: it is a label: what it is worth is what the hold of that sum in a sandbox is worth. -/
noncomputable def Try.pinned : Pinned := { name := "ytomhmodpiddedaa", sum := "af19f088e65fa039149aec75c8469f8f042420c2de5deb77114f6e7214892aa1", checked := Try.checked }
namespace Rows
def none {H : Type} : Left H := { results := [], args := [] }

/-- 'laws.FnExactFixedPoints': WHATEVER THE INPUT: true; the input reads as it did. -/
def fnExactFixedPointsSpec : ChangeSpec := { name := "fnExactFixedPoints", fn := fun _ => fun
  | [d] => { results := [.lit (.bool true)], args := [d] }
  | _ => none }
def fnExactFixedPointsRow : OpenClaim := { program := "ytomhmodpiddedaa", sum := "af19f088e65fa039149aec75c8469f8f042420c2de5deb77114f6e7214892aa1", func := "loop.example/g01359/laws.FnExactFixedPoints", spec := "fnExactFixedPoints", unfollowed := true, recurses := true, apart := false }
def FnExactFixedPointsSaid : Prop := fnExactFixedPointsRow.holds Try.pinned (OpenSpec.ofChange fnExactFixedPointsSpec)

/-- ITS FALSE NEIGHBOUR: 'it returns false'. Refute it at one input. -/
def fnExactFixedPointsWrong : ChangeSpec := { name := "fnExactFixedPoints", fn := fun _ => fun
  | [d] => { results := [.lit (.bool false)], args := [d] }
  | _ => none }
def FnExactFixedPointsWrongFalsely : Prop := fnExactFixedPointsRow.holds Try.pinned (OpenSpec.ofChange fnExactFixedPointsWrong)

/-- 'laws.FnExactPowerOf': WHATEVER THE INPUT: true; the input reads as it did. -/
def fnExactPowerOfSpec : ChangeSpec := { name := "fnExactPowerOf", fn := fun _ => fun
  | [d1, d2] => { results := [.lit (.bool true)], args := [d1, d2] }
  | _ => none }
def fnExactPowerOfRow : OpenClaim := { program := "ytomhmodpiddedaa", sum := "af19f088e65fa039149aec75c8469f8f042420c2de5deb77114f6e7214892aa1", func := "loop.example/g01359/laws.FnExactPowerOf", spec := "fnExactPowerOf", apart := false }
def FnExactPowerOfSaid : Prop := fnExactPowerOfRow.holds Try.pinned (OpenSpec.ofChange fnExactPowerOfSpec)

/-- ITS FALSE NEIGHBOUR: 'it returns false'. Refute it at one input. -/
def fnExactPowerOfWrong : ChangeSpec := { name := "fnExactPowerOf", fn := fun _ => fun
  | [d1, d2] => { results := [.lit (.bool false)], args := [d1, d2] }
  | _ => none }
def FnExactPowerOfWrongFalsely : Prop := fnExactPowerOfRow.holds Try.pinned (OpenSpec.ofChange fnExactPowerOfWrong)

/-- 'laws.FnExactCyclicPoints': WHATEVER THE INPUT: true; the input reads as it did. -/
def fnExactCyclicPointsSpec : ChangeSpec := { name := "fnExactCyclicPoints", fn := fun _ => fun
  | [d] => { results := [.lit (.bool true)], args := [d] }
  | _ => none }
def fnExactCyclicPointsRow : OpenClaim := { program := "ytomhmodpiddedaa", sum := "af19f088e65fa039149aec75c8469f8f042420c2de5deb77114f6e7214892aa1", func := "loop.example/g01359/laws.FnExactCyclicPoints", spec := "fnExactCyclicPoints", unfollowed := true, recurses := true, apart := false }
def FnExactCyclicPointsSaid : Prop := fnExactCyclicPointsRow.holds Try.pinned (OpenSpec.ofChange fnExactCyclicPointsSpec)

/-- ITS FALSE NEIGHBOUR: 'it returns false'. Refute it at one input. -/
def fnExactCyclicPointsWrong : ChangeSpec := { name := "fnExactCyclicPoints", fn := fun _ => fun
  | [d] => { results := [.lit (.bool false)], args := [d] }
  | _ => none }
def FnExactCyclicPointsWrongFalsely : Prop := fnExactCyclicPointsRow.holds Try.pinned (OpenSpec.ofChange fnExactCyclicPointsWrong)

/-- 'laws.FnExactPreimageOf': WHATEVER THE INPUT: true; the input reads as it did. -/
def fnExactPreimageOfSpec : ChangeSpec := { name := "fnExactPreimageOf", fn := fun _ => fun
  | [d1, d2] => { results := [.lit (.bool true)], args := [d1, d2] }
  | _ => none }
def fnExactPreimageOfRow : OpenClaim := { program := "ytomhmodpiddedaa", sum := "af19f088e65fa039149aec75c8469f8f042420c2de5deb77114f6e7214892aa1", func := "loop.example/g01359/laws.FnExactPreimageOf", spec := "fnExactPreimageOf", unfollowed := true, recurses := true, apart := false }
def FnExactPreimageOfSaid : Prop := fnExactPreimageOfRow.holds Try.pinned (OpenSpec.ofChange fnExactPreimageOfSpec)

/-- ITS FALSE NEIGHBOUR: 'it returns false'. Refute it at one input. -/
def fnExactPreimageOfWrong : ChangeSpec := { name := "fnExactPreimageOf", fn := fun _ => fun
  | [d1, d2] => { results := [.lit (.bool false)], args := [d1, d2] }
  | _ => none }
def FnExactPreimageOfWrongFalsely : Prop := fnExactPreimageOfRow.holds Try.pinned (OpenSpec.ofChange fnExactPreimageOfWrong)

/-- 'laws.FnExactMapOfWord': WHATEVER THE INPUT: true; the input reads as it did. -/
def fnExactMapOfWordSpec : ChangeSpec := { name := "fnExactMapOfWord", fn := fun _ => fun
  | [d1, d2] => { results := [.lit (.bool true)], args := [d1, d2] }
  | _ => none }
def fnExactMapOfWordRow : OpenClaim := { program := "ytomhmodpiddedaa", sum := "af19f088e65fa039149aec75c8469f8f042420c2de5deb77114f6e7214892aa1", func := "loop.example/g01359/laws.FnExactMapOfWord", spec := "fnExactMapOfWord", unfollowed := true, recurses := true, apart := false }
def FnExactMapOfWordSaid : Prop := fnExactMapOfWordRow.holds Try.pinned (OpenSpec.ofChange fnExactMapOfWordSpec)

/-- ITS FALSE NEIGHBOUR: 'it returns false'. Refute it at one input. -/
def fnExactMapOfWordWrong : ChangeSpec := { name := "fnExactMapOfWord", fn := fun _ => fun
  | [d1, d2] => { results := [.lit (.bool false)], args := [d1, d2] }
  | _ => none }
def FnExactMapOfWordWrongFalsely : Prop := fnExactMapOfWordRow.holds Try.pinned (OpenSpec.ofChange fnExactMapOfWordWrong)

/-- 'laws.FnExactRankOf': WHATEVER THE INPUT: true; the input reads as it did. -/
def fnExactRankOfSpec : ChangeSpec := { name := "fnExactRankOf", fn := fun _ => fun
  | [d] => { results := [.lit (.bool true)], args := [d] }
  | _ => none }
def fnExactRankOfRow : OpenClaim := { program := "ytomhmodpiddedaa", sum := "af19f088e65fa039149aec75c8469f8f042420c2de5deb77114f6e7214892aa1", func := "loop.example/g01359/laws.FnExactRankOf", spec := "fnExactRankOf", recurses := true, apart := false }
def FnExactRankOfSaid : Prop := fnExactRankOfRow.holds Try.pinned (OpenSpec.ofChange fnExactRankOfSpec)

/-- ITS FALSE NEIGHBOUR: 'it returns false'. Refute it at one input. -/
def fnExactRankOfWrong : ChangeSpec := { name := "fnExactRankOf", fn := fun _ => fun
  | [d] => { results := [.lit (.bool false)], args := [d] }
  | _ => none }
def FnExactRankOfWrongFalsely : Prop := fnExactRankOfRow.holds Try.pinned (OpenSpec.ofChange fnExactRankOfWrong)

/-- 'laws.FnExactInverseOf': WHATEVER THE INPUT: true; the input reads as it did. -/
def fnExactInverseOfSpec : ChangeSpec := { name := "fnExactInverseOf", fn := fun _ => fun
  | [d] => { results := [.lit (.bool true)], args := [d] }
  | _ => none }
def fnExactInverseOfRow : OpenClaim := { program := "ytomhmodpiddedaa", sum := "af19f088e65fa039149aec75c8469f8f042420c2de5deb77114f6e7214892aa1", func := "loop.example/g01359/laws.FnExactInverseOf", spec := "fnExactInverseOf", recurses := true, apart := false }
def FnExactInverseOfSaid : Prop := fnExactInverseOfRow.holds Try.pinned (OpenSpec.ofChange fnExactInverseOfSpec)

/-- ITS FALSE NEIGHBOUR: 'it returns false'. Refute it at one input. -/
def fnExactInverseOfWrong : ChangeSpec := { name := "fnExactInverseOf", fn := fun _ => fun
  | [d] => { results := [.lit (.bool false)], args := [d] }
  | _ => none }
def FnExactInverseOfWrongFalsely : Prop := fnExactInverseOfRow.holds Try.pinned (OpenSpec.ofChange fnExactInverseOfWrong)

/-- 'laws.FnExactImageOf': WHATEVER THE INPUT: true; the input reads as it did. -/
def fnExactImageOfSpec : ChangeSpec := { name := "fnExactImageOf", fn := fun _ => fun
  | [d1, d2] => { results := [.lit (.bool true)], args := [d1, d2] }
  | _ => none }
def fnExactImageOfRow : OpenClaim := { program := "ytomhmodpiddedaa", sum := "af19f088e65fa039149aec75c8469f8f042420c2de5deb77114f6e7214892aa1", func := "loop.example/g01359/laws.FnExactImageOf", spec := "fnExactImageOf", recurses := true, apart := false }
def FnExactImageOfSaid : Prop := fnExactImageOfRow.holds Try.pinned (OpenSpec.ofChange fnExactImageOfSpec)

/-- ITS FALSE NEIGHBOUR: 'it returns false'. Refute it at one input. -/
def fnExactImageOfWrong : ChangeSpec := { name := "fnExactImageOf", fn := fun _ => fun
  | [d1, d2] => { results := [.lit (.bool false)], args := [d1, d2] }
  | _ => none }
def FnExactImageOfWrongFalsely : Prop := fnExactImageOfRow.holds Try.pinned (OpenSpec.ofChange fnExactImageOfWrong)

/-- 'laws.FnExactRenumberMap': WHATEVER THE INPUT: true; the input reads as it did. -/
def fnExactRenumberMapSpec : ChangeSpec := { name := "fnExactRenumberMap", fn := fun _ => fun
  | [d1, d2] => { results := [.lit (.bool true)], args := [d1, d2] }
  | _ => none }
def fnExactRenumberMapRow : OpenClaim := { program := "ytomhmodpiddedaa", sum := "af19f088e65fa039149aec75c8469f8f042420c2de5deb77114f6e7214892aa1", func := "loop.example/g01359/laws.FnExactRenumberMap", spec := "fnExactRenumberMap", recurses := true, apart := false }
def FnExactRenumberMapSaid : Prop := fnExactRenumberMapRow.holds Try.pinned (OpenSpec.ofChange fnExactRenumberMapSpec)

/-- ITS FALSE NEIGHBOUR: 'it returns false'. Refute it at one input. -/
def fnExactRenumberMapWrong : ChangeSpec := { name := "fnExactRenumberMap", fn := fun _ => fun
  | [d1, d2] => { results := [.lit (.bool false)], args := [d1, d2] }
  | _ => none }
def FnExactRenumberMapWrongFalsely : Prop := fnExactRenumberMapRow.holds Try.pinned (OpenSpec.ofChange fnExactRenumberMapWrong)

/-- 'laws.FnPowers': WHATEVER THE INPUT: true; the input reads as it did. -/
def fnPowersSpec : ChangeSpec := { name := "fnPowers", fn := fun _ => fun
  | [d] => { results := [.lit (.bool true)], args := [d] }
  | _ => none }
def fnPowersRow : OpenClaim := { program := "ytomhmodpiddedaa", sum := "af19f088e65fa039149aec75c8469f8f042420c2de5deb77114f6e7214892aa1", func := "loop.example/g01359/laws.FnPowers", spec := "fnPowers", unfollowed := true, recurses := true, apart := false }
def FnPowersSaid : Prop := fnPowersRow.holds Try.pinned (OpenSpec.ofChange fnPowersSpec)

/-- ITS FALSE NEIGHBOUR: 'it returns false'. Refute it at one input. -/
def fnPowersWrong : ChangeSpec := { name := "fnPowers", fn := fun _ => fun
  | [d] => { results := [.lit (.bool false)], args := [d] }
  | _ => none }
def FnPowersWrongFalsely : Prop := fnPowersRow.holds Try.pinned (OpenSpec.ofChange fnPowersWrong)

/- THE SECOND FORM. 'bulk': how many values and letters a reading holds, each counted each time it is reached (what is shared counts as often as it is met; a slice's spare places count too). A statement '..UptoSaid' is the law's where the arguments, and the package variables that the reading takes, are together of bulk at most 1048576: NARROWER than '..Said'. Prove '..Said' where nothing that the law and all that it calls make is longer than what came in: it says more and counts as full. Else prove '..UptoSaid'. A law counts once. -/
mutual
def uptoBulk {H : Type} : DataW H → Nat
  | .lit (.string bytes) => bytes.length + 1
  | .lit _ => 1
  | .nil => 1
  | .ptr d => uptoBulk d + 1
  | .slice elems spare => uptoBulkAll elems + uptoBulkAll spare + 1
  | .agg parts => uptoBulkAll parts + 1
  | .iface _ d => uptoBulk d + 1
  | .map entries => uptoBulkEntries entries + 1
  | .held _ => 1
def uptoBulkAll {H : Type} : List (DataW H) → Nat
  | [] => 0
  | d :: r => uptoBulk d + uptoBulkAll r
def uptoBulkEntries {H : Type} : List (Lit × DataW H) → Nat
  | [] => 0
  | x :: r => uptoBulkEntry x + uptoBulkEntries r
def uptoBulkEntry {H : Type} : Lit × DataW H → Nat
  | (.string bytes, d) => bytes.length + uptoBulk d + 1
  | (_, d) => uptoBulk d + 1
 end
def uptoSmall : (H : Type) → List (DataW H) → Bool := fun _ ds => decide (uptoBulkAll ds ≤ 1048576)
def OpenSpec.upto (s : _root_.Go.ChangeSpec) : _root_.Go.OpenSpec := { _root_.Go.OpenSpec.ofChange s with cond := some uptoSmall }

/-- 'laws.FnExactFixedPoints', WHERE WHAT IT READS IS OF BULK AT MOST 1048576: true; the input reads as it did. -/
def fnExactFixedPointsUptoRow : OpenClaim := { program := "ytomhmodpiddedaa", sum := "af19f088e65fa039149aec75c8469f8f042420c2de5deb77114f6e7214892aa1", func := "loop.example/g01359/laws.FnExactFixedPoints", spec := "fnExactFixedPoints", unfollowed := true, recurses := true, apart := false, narrowed := true }
def FnExactFixedPointsUptoSaid : Prop := fnExactFixedPointsUptoRow.holds Try.pinned (OpenSpec.upto fnExactFixedPointsSpec)

/-- 'laws.FnExactPowerOf', WHERE WHAT IT READS IS OF BULK AT MOST 1048576: true; the input reads as it did. -/
def fnExactPowerOfUptoRow : OpenClaim := { program := "ytomhmodpiddedaa", sum := "af19f088e65fa039149aec75c8469f8f042420c2de5deb77114f6e7214892aa1", func := "loop.example/g01359/laws.FnExactPowerOf", spec := "fnExactPowerOf", apart := false, narrowed := true }
def FnExactPowerOfUptoSaid : Prop := fnExactPowerOfUptoRow.holds Try.pinned (OpenSpec.upto fnExactPowerOfSpec)

/-- 'laws.FnExactCyclicPoints', WHERE WHAT IT READS IS OF BULK AT MOST 1048576: true; the input reads as it did. -/
def fnExactCyclicPointsUptoRow : OpenClaim := { program := "ytomhmodpiddedaa", sum := "af19f088e65fa039149aec75c8469f8f042420c2de5deb77114f6e7214892aa1", func := "loop.example/g01359/laws.FnExactCyclicPoints", spec := "fnExactCyclicPoints", unfollowed := true, recurses := true, apart := false, narrowed := true }
def FnExactCyclicPointsUptoSaid : Prop := fnExactCyclicPointsUptoRow.holds Try.pinned (OpenSpec.upto fnExactCyclicPointsSpec)

/-- 'laws.FnExactPreimageOf', WHERE WHAT IT READS IS OF BULK AT MOST 1048576: true; the input reads as it did. -/
def fnExactPreimageOfUptoRow : OpenClaim := { program := "ytomhmodpiddedaa", sum := "af19f088e65fa039149aec75c8469f8f042420c2de5deb77114f6e7214892aa1", func := "loop.example/g01359/laws.FnExactPreimageOf", spec := "fnExactPreimageOf", unfollowed := true, recurses := true, apart := false, narrowed := true }
def FnExactPreimageOfUptoSaid : Prop := fnExactPreimageOfUptoRow.holds Try.pinned (OpenSpec.upto fnExactPreimageOfSpec)

/-- 'laws.FnExactMapOfWord', WHERE WHAT IT READS IS OF BULK AT MOST 1048576: true; the input reads as it did. -/
def fnExactMapOfWordUptoRow : OpenClaim := { program := "ytomhmodpiddedaa", sum := "af19f088e65fa039149aec75c8469f8f042420c2de5deb77114f6e7214892aa1", func := "loop.example/g01359/laws.FnExactMapOfWord", spec := "fnExactMapOfWord", unfollowed := true, recurses := true, apart := false, narrowed := true }
def FnExactMapOfWordUptoSaid : Prop := fnExactMapOfWordUptoRow.holds Try.pinned (OpenSpec.upto fnExactMapOfWordSpec)

/-- 'laws.FnExactRankOf', WHERE WHAT IT READS IS OF BULK AT MOST 1048576: true; the input reads as it did. -/
def fnExactRankOfUptoRow : OpenClaim := { program := "ytomhmodpiddedaa", sum := "af19f088e65fa039149aec75c8469f8f042420c2de5deb77114f6e7214892aa1", func := "loop.example/g01359/laws.FnExactRankOf", spec := "fnExactRankOf", recurses := true, apart := false, narrowed := true }
def FnExactRankOfUptoSaid : Prop := fnExactRankOfUptoRow.holds Try.pinned (OpenSpec.upto fnExactRankOfSpec)

/-- 'laws.FnExactInverseOf', WHERE WHAT IT READS IS OF BULK AT MOST 1048576: true; the input reads as it did. -/
def fnExactInverseOfUptoRow : OpenClaim := { program := "ytomhmodpiddedaa", sum := "af19f088e65fa039149aec75c8469f8f042420c2de5deb77114f6e7214892aa1", func := "loop.example/g01359/laws.FnExactInverseOf", spec := "fnExactInverseOf", recurses := true, apart := false, narrowed := true }
def FnExactInverseOfUptoSaid : Prop := fnExactInverseOfUptoRow.holds Try.pinned (OpenSpec.upto fnExactInverseOfSpec)

/-- 'laws.FnExactImageOf', WHERE WHAT IT READS IS OF BULK AT MOST 1048576: true; the input reads as it did. -/
def fnExactImageOfUptoRow : OpenClaim := { program := "ytomhmodpiddedaa", sum := "af19f088e65fa039149aec75c8469f8f042420c2de5deb77114f6e7214892aa1", func := "loop.example/g01359/laws.FnExactImageOf", spec := "fnExactImageOf", recurses := true, apart := false, narrowed := true }
def FnExactImageOfUptoSaid : Prop := fnExactImageOfUptoRow.holds Try.pinned (OpenSpec.upto fnExactImageOfSpec)

/-- 'laws.FnExactRenumberMap', WHERE WHAT IT READS IS OF BULK AT MOST 1048576: true; the input reads as it did. -/
def fnExactRenumberMapUptoRow : OpenClaim := { program := "ytomhmodpiddedaa", sum := "af19f088e65fa039149aec75c8469f8f042420c2de5deb77114f6e7214892aa1", func := "loop.example/g01359/laws.FnExactRenumberMap", spec := "fnExactRenumberMap", recurses := true, apart := false, narrowed := true }
def FnExactRenumberMapUptoSaid : Prop := fnExactRenumberMapUptoRow.holds Try.pinned (OpenSpec.upto fnExactRenumberMapSpec)

/-- 'laws.FnPowers', WHERE WHAT IT READS IS OF BULK AT MOST 1048576: true; the input reads as it did. -/
def fnPowersUptoRow : OpenClaim := { program := "ytomhmodpiddedaa", sum := "af19f088e65fa039149aec75c8469f8f042420c2de5deb77114f6e7214892aa1", func := "loop.example/g01359/laws.FnPowers", spec := "fnPowers", unfollowed := true, recurses := true, apart := false, narrowed := true }
def FnPowersUptoSaid : Prop := fnPowersUptoRow.holds Try.pinned (OpenSpec.upto fnPowersSpec)

end Rows
end Go.Proofs.Ytomhmodpiddedaa
