/-
  No cell of these rows narrows 'for every input' (looked for: loops, veiled, ifaces, maps, wideKeys, modest, calm, conditions, laid).
  DERIVED. THE GIVEN ROWS OF THIS SEAT. 11 by the template 'for every input the law returns true; each argument reads behind the call as it read before'; 0 by the template 'total and deterministic' (their statements: YtmedmkjlhcoepaaTotals.lean).
  GIVEN WITH THE SEED: the statements are not yours to turn. If you find one false, say at which input.
  Laid BY PROGRAM, IN A SANDBOX (cutbox-rows.mjs): the forced cells as the released guide's own fill.sh prints them over the translation 51e7d2fcfac82572… (all of the seat's roots in one cut). By AI agents, Wed Nov 11 2026. No macro, syntax, notation, axiom, sorry.
-/
import Derived.Test.YtmedmkjlhcoepaaChecked
import GoSem.Claim
import GoSem.ClaimJoined
import GoSem.ClaimMapViews
import Derived.JoinedTies
import Derived.KernelRfl
namespace Go.Proofs.Ytmedmkjlhcoepaa
/- THE CELL 'sum', in the pinned program and in every row, IS THE sha256 OF THE DUMP (.gsa) THAT YtmedmkjlhcoepaaProg.lean LOADS. Nothing in Lean hashes anything: it is a label: what it is worth is what the hold of that sum in a sandbox is worth. -/
noncomputable def Try.pinned : Pinned := { name := "ytmedmkjlhcoepaa", sum := "51e7d2fcfac825720ccdacb0bc25e0baaa13d170f3b60069208235d08020ec01", checked := Try.checked }
namespace Rows
def none {H : Type} : Left H := { results := [], args := [] }

/-- 'laws.FnExactGramOf': WHATEVER THE INPUT: true; the input reads as it did. -/
def fnExactGramOfSpec : ChangeSpec := { name := "fnExactGramOf", fn := fun _ => fun
  | [d1, d2] => { results := [.lit (.bool true)], args := [d1, d2] }
  | _ => none }
def fnExactGramOfRow : OpenClaim := { program := "ytmedmkjlhcoepaa", sum := "51e7d2fcfac825720ccdacb0bc25e0baaa13d170f3b60069208235d08020ec01", func := "loop.example/g01124/laws.FnExactGramOf", spec := "fnExactGramOf", unfollowed := true, recurses := true, apart := false }
def FnExactGramOfSaid : Prop := fnExactGramOfRow.holds Try.pinned (OpenSpec.ofChange fnExactGramOfSpec)

/-- ITS FALSE NEIGHBOUR: 'it returns false'. Refute it at one input. -/
def fnExactGramOfWrong : ChangeSpec := { name := "fnExactGramOf", fn := fun _ => fun
  | [d1, d2] => { results := [.lit (.bool false)], args := [d1, d2] }
  | _ => none }
def FnExactGramOfWrongFalsely : Prop := fnExactGramOfRow.holds Try.pinned (OpenSpec.ofChange fnExactGramOfWrong)

/-- 'laws.FnExactVectorsOfNorm': WHATEVER THE INPUT: true; the input reads as it did. -/
def fnExactVectorsOfNormSpec : ChangeSpec := { name := "fnExactVectorsOfNorm", fn := fun _ => fun
  | [d1, d2] => { results := [.lit (.bool true)], args := [d1, d2] }
  | _ => none }
def fnExactVectorsOfNormRow : OpenClaim := { program := "ytmedmkjlhcoepaa", sum := "51e7d2fcfac825720ccdacb0bc25e0baaa13d170f3b60069208235d08020ec01", func := "loop.example/g01124/laws.FnExactVectorsOfNorm", spec := "fnExactVectorsOfNorm", unfollowed := true, recurses := true, apart := false }
def FnExactVectorsOfNormSaid : Prop := fnExactVectorsOfNormRow.holds Try.pinned (OpenSpec.ofChange fnExactVectorsOfNormSpec)

/-- ITS FALSE NEIGHBOUR: 'it returns false'. Refute it at one input. -/
def fnExactVectorsOfNormWrong : ChangeSpec := { name := "fnExactVectorsOfNorm", fn := fun _ => fun
  | [d1, d2] => { results := [.lit (.bool false)], args := [d1, d2] }
  | _ => none }
def FnExactVectorsOfNormWrongFalsely : Prop := fnExactVectorsOfNormRow.holds Try.pinned (OpenSpec.ofChange fnExactVectorsOfNormWrong)

/-- 'laws.FnExactReflectIn': WHATEVER THE INPUT: true; the input reads as it did. -/
def fnExactReflectInSpec : ChangeSpec := { name := "fnExactReflectIn", fn := fun _ => fun
  | [d1, d2, d3] => { results := [.lit (.bool true)], args := [d1, d2, d3] }
  | _ => none }
def fnExactReflectInRow : OpenClaim := { program := "ytmedmkjlhcoepaa", sum := "51e7d2fcfac825720ccdacb0bc25e0baaa13d170f3b60069208235d08020ec01", func := "loop.example/g01124/laws.FnExactReflectIn", spec := "fnExactReflectIn", unfollowed := true, recurses := true, apart := false }
def FnExactReflectInSaid : Prop := fnExactReflectInRow.holds Try.pinned (OpenSpec.ofChange fnExactReflectInSpec)

/-- ITS FALSE NEIGHBOUR: 'it returns false'. Refute it at one input. -/
def fnExactReflectInWrong : ChangeSpec := { name := "fnExactReflectIn", fn := fun _ => fun
  | [d1, d2, d3] => { results := [.lit (.bool false)], args := [d1, d2, d3] }
  | _ => none }
def FnExactReflectInWrongFalsely : Prop := fnExactReflectInRow.holds Try.pinned (OpenSpec.ofChange fnExactReflectInWrong)

/-- 'laws.FnExactReflectionMatrix': WHATEVER THE INPUT: true; the input reads as it did. -/
def fnExactReflectionMatrixSpec : ChangeSpec := { name := "fnExactReflectionMatrix", fn := fun _ => fun
  | [d1, d2] => { results := [.lit (.bool true)], args := [d1, d2] }
  | _ => none }
def fnExactReflectionMatrixRow : OpenClaim := { program := "ytmedmkjlhcoepaa", sum := "51e7d2fcfac825720ccdacb0bc25e0baaa13d170f3b60069208235d08020ec01", func := "loop.example/g01124/laws.FnExactReflectionMatrix", spec := "fnExactReflectionMatrix", unfollowed := true, recurses := true, apart := false }
def FnExactReflectionMatrixSaid : Prop := fnExactReflectionMatrixRow.holds Try.pinned (OpenSpec.ofChange fnExactReflectionMatrixSpec)

/-- ITS FALSE NEIGHBOUR: 'it returns false'. Refute it at one input. -/
def fnExactReflectionMatrixWrong : ChangeSpec := { name := "fnExactReflectionMatrix", fn := fun _ => fun
  | [d1, d2] => { results := [.lit (.bool false)], args := [d1, d2] }
  | _ => none }
def FnExactReflectionMatrixWrongFalsely : Prop := fnExactReflectionMatrixRow.holds Try.pinned (OpenSpec.ofChange fnExactReflectionMatrixWrong)

/-- 'laws.FnExactIsEven': WHATEVER THE INPUT: true; the input reads as it did. -/
def fnExactIsEvenSpec : ChangeSpec := { name := "fnExactIsEven", fn := fun _ => fun
  | [d1, d2] => { results := [.lit (.bool true)], args := [d1, d2] }
  | _ => none }
def fnExactIsEvenRow : OpenClaim := { program := "ytmedmkjlhcoepaa", sum := "51e7d2fcfac825720ccdacb0bc25e0baaa13d170f3b60069208235d08020ec01", func := "loop.example/g01124/laws.FnExactIsEven", spec := "fnExactIsEven", unfollowed := true, recurses := true, apart := false }
def FnExactIsEvenSaid : Prop := fnExactIsEvenRow.holds Try.pinned (OpenSpec.ofChange fnExactIsEvenSpec)

/-- ITS FALSE NEIGHBOUR: 'it returns false'. Refute it at one input. -/
def fnExactIsEvenWrong : ChangeSpec := { name := "fnExactIsEven", fn := fun _ => fun
  | [d1, d2] => { results := [.lit (.bool false)], args := [d1, d2] }
  | _ => none }
def FnExactIsEvenWrongFalsely : Prop := fnExactIsEvenRow.holds Try.pinned (OpenSpec.ofChange fnExactIsEvenWrong)

/-- 'laws.FnExactGradesOf': WHATEVER THE INPUT: true; the input reads as it did. -/
def fnExactGradesOfSpec : ChangeSpec := { name := "fnExactGradesOf", fn := fun _ => fun
  | [d1, d2] => { results := [.lit (.bool true)], args := [d1, d2] }
  | _ => none }
def fnExactGradesOfRow : OpenClaim := { program := "ytmedmkjlhcoepaa", sum := "51e7d2fcfac825720ccdacb0bc25e0baaa13d170f3b60069208235d08020ec01", func := "loop.example/g01124/laws.FnExactGradesOf", spec := "fnExactGradesOf", unfollowed := true, recurses := true, apart := false }
def FnExactGradesOfSaid : Prop := fnExactGradesOfRow.holds Try.pinned (OpenSpec.ofChange fnExactGradesOfSpec)

/-- ITS FALSE NEIGHBOUR: 'it returns false'. Refute it at one input. -/
def fnExactGradesOfWrong : ChangeSpec := { name := "fnExactGradesOf", fn := fun _ => fun
  | [d1, d2] => { results := [.lit (.bool false)], args := [d1, d2] }
  | _ => none }
def FnExactGradesOfWrongFalsely : Prop := fnExactGradesOfRow.holds Try.pinned (OpenSpec.ofChange fnExactGradesOfWrong)

/-- 'laws.FnExactIsBivector': WHATEVER THE INPUT: true; the input reads as it did. -/
def fnExactIsBivectorSpec : ChangeSpec := { name := "fnExactIsBivector", fn := fun _ => fun
  | [d1, d2] => { results := [.lit (.bool true)], args := [d1, d2] }
  | _ => none }
def fnExactIsBivectorRow : OpenClaim := { program := "ytmedmkjlhcoepaa", sum := "51e7d2fcfac825720ccdacb0bc25e0baaa13d170f3b60069208235d08020ec01", func := "loop.example/g01124/laws.FnExactIsBivector", spec := "fnExactIsBivector", unfollowed := true, recurses := true, apart := false }
def FnExactIsBivectorSaid : Prop := fnExactIsBivectorRow.holds Try.pinned (OpenSpec.ofChange fnExactIsBivectorSpec)

/-- ITS FALSE NEIGHBOUR: 'it returns false'. Refute it at one input. -/
def fnExactIsBivectorWrong : ChangeSpec := { name := "fnExactIsBivector", fn := fun _ => fun
  | [d1, d2] => { results := [.lit (.bool false)], args := [d1, d2] }
  | _ => none }
def FnExactIsBivectorWrongFalsely : Prop := fnExactIsBivectorRow.holds Try.pinned (OpenSpec.ofChange fnExactIsBivectorWrong)

/-- 'laws.FnExactVectorIdempotent': WHATEVER THE INPUT: true; the input reads as it did. -/
def fnExactVectorIdempotentSpec : ChangeSpec := { name := "fnExactVectorIdempotent", fn := fun _ => fun
  | [d1, d2] => { results := [.lit (.bool true)], args := [d1, d2] }
  | _ => none }
def fnExactVectorIdempotentRow : OpenClaim := { program := "ytmedmkjlhcoepaa", sum := "51e7d2fcfac825720ccdacb0bc25e0baaa13d170f3b60069208235d08020ec01", func := "loop.example/g01124/laws.FnExactVectorIdempotent", spec := "fnExactVectorIdempotent", unfollowed := true, recurses := true, apart := false }
def FnExactVectorIdempotentSaid : Prop := fnExactVectorIdempotentRow.holds Try.pinned (OpenSpec.ofChange fnExactVectorIdempotentSpec)

/-- ITS FALSE NEIGHBOUR: 'it returns false'. Refute it at one input. -/
def fnExactVectorIdempotentWrong : ChangeSpec := { name := "fnExactVectorIdempotent", fn := fun _ => fun
  | [d1, d2] => { results := [.lit (.bool false)], args := [d1, d2] }
  | _ => none }
def FnExactVectorIdempotentWrongFalsely : Prop := fnExactVectorIdempotentRow.holds Try.pinned (OpenSpec.ofChange fnExactVectorIdempotentWrong)

/-- 'laws.FnExactVolumeOf': WHATEVER THE INPUT: true; the input reads as it did. -/
def fnExactVolumeOfSpec : ChangeSpec := { name := "fnExactVolumeOf", fn := fun _ => fun
  | [d1, d2] => { results := [.lit (.bool true)], args := [d1, d2] }
  | _ => none }
def fnExactVolumeOfRow : OpenClaim := { program := "ytmedmkjlhcoepaa", sum := "51e7d2fcfac825720ccdacb0bc25e0baaa13d170f3b60069208235d08020ec01", func := "loop.example/g01124/laws.FnExactVolumeOf", spec := "fnExactVolumeOf", unfollowed := true, recurses := true, apart := false }
def FnExactVolumeOfSaid : Prop := fnExactVolumeOfRow.holds Try.pinned (OpenSpec.ofChange fnExactVolumeOfSpec)

/-- ITS FALSE NEIGHBOUR: 'it returns false'. Refute it at one input. -/
def fnExactVolumeOfWrong : ChangeSpec := { name := "fnExactVolumeOf", fn := fun _ => fun
  | [d1, d2] => { results := [.lit (.bool false)], args := [d1, d2] }
  | _ => none }
def FnExactVolumeOfWrongFalsely : Prop := fnExactVolumeOfRow.holds Try.pinned (OpenSpec.ofChange fnExactVolumeOfWrong)

/-- 'laws.FnExactAreDependent': WHATEVER THE INPUT: true; the input reads as it did. -/
def fnExactAreDependentSpec : ChangeSpec := { name := "fnExactAreDependent", fn := fun _ => fun
  | [d1, d2] => { results := [.lit (.bool true)], args := [d1, d2] }
  | _ => none }
def fnExactAreDependentRow : OpenClaim := { program := "ytmedmkjlhcoepaa", sum := "51e7d2fcfac825720ccdacb0bc25e0baaa13d170f3b60069208235d08020ec01", func := "loop.example/g01124/laws.FnExactAreDependent", spec := "fnExactAreDependent", unfollowed := true, recurses := true, apart := false }
def FnExactAreDependentSaid : Prop := fnExactAreDependentRow.holds Try.pinned (OpenSpec.ofChange fnExactAreDependentSpec)

/-- ITS FALSE NEIGHBOUR: 'it returns false'. Refute it at one input. -/
def fnExactAreDependentWrong : ChangeSpec := { name := "fnExactAreDependent", fn := fun _ => fun
  | [d1, d2] => { results := [.lit (.bool false)], args := [d1, d2] }
  | _ => none }
def FnExactAreDependentWrongFalsely : Prop := fnExactAreDependentRow.holds Try.pinned (OpenSpec.ofChange fnExactAreDependentWrong)

/-- 'laws.FnExactOrthogonalTo': WHATEVER THE INPUT: true; the input reads as it did. -/
def fnExactOrthogonalToSpec : ChangeSpec := { name := "fnExactOrthogonalTo", fn := fun _ => fun
  | [d1, d2] => { results := [.lit (.bool true)], args := [d1, d2] }
  | _ => none }
def fnExactOrthogonalToRow : OpenClaim := { program := "ytmedmkjlhcoepaa", sum := "51e7d2fcfac825720ccdacb0bc25e0baaa13d170f3b60069208235d08020ec01", func := "loop.example/g01124/laws.FnExactOrthogonalTo", spec := "fnExactOrthogonalTo", unfollowed := true, recurses := true, apart := false }
def FnExactOrthogonalToSaid : Prop := fnExactOrthogonalToRow.holds Try.pinned (OpenSpec.ofChange fnExactOrthogonalToSpec)

/-- ITS FALSE NEIGHBOUR: 'it returns false'. Refute it at one input. -/
def fnExactOrthogonalToWrong : ChangeSpec := { name := "fnExactOrthogonalTo", fn := fun _ => fun
  | [d1, d2] => { results := [.lit (.bool false)], args := [d1, d2] }
  | _ => none }
def FnExactOrthogonalToWrongFalsely : Prop := fnExactOrthogonalToRow.holds Try.pinned (OpenSpec.ofChange fnExactOrthogonalToWrong)

/- THE SECOND FORM. 'bulk': how many values and letters a reading holds, each counted each time it is reached (what is shared counts as often as it is met; a slice's spare places count too). A statement '..UptoSaid' is the law's where the arguments, and the package variables that the reading takes, are together of bulk at most 1048576: NARROWER than '..Said'. Prove '..Said' where nothing that the law and all that it calls make is longer than what came in: it says more and counts as full. Else prove '..UptoSaid'. A law counts once. -/
mutual
def uptoBulk {H : Type} : DataW H → Nat
  | .lit (.string bytes) => bytes.length + 1
  | .lit _ => 1
  | .nil => 1
  | .ptr d => uptoBulk d + 1
  | .slice elems spare => uptoBulkAll elems + uptoBulkAll spare + 1
  | .agg parts => uptoBulkAll parts + 1
  | .iface _ d => uptoBulk d + 1
  | .map entries => uptoBulkEntries entries + 1
  | .held _ => 1
def uptoBulkAll {H : Type} : List (DataW H) → Nat
  | [] => 0
  | d :: r => uptoBulk d + uptoBulkAll r
def uptoBulkEntries {H : Type} : List (Lit × DataW H) → Nat
  | [] => 0
  | x :: r => uptoBulkEntry x + uptoBulkEntries r
def uptoBulkEntry {H : Type} : Lit × DataW H → Nat
  | (.string bytes, d) => bytes.length + uptoBulk d + 1
  | (_, d) => uptoBulk d + 1
 end
def uptoSmall : (H : Type) → List (DataW H) → Bool := fun _ ds => decide (uptoBulkAll ds ≤ 1048576)
def OpenSpec.upto (s : _root_.Go.ChangeSpec) : _root_.Go.OpenSpec := { _root_.Go.OpenSpec.ofChange s with cond := some uptoSmall }

/-- 'laws.FnExactGramOf', WHERE WHAT IT READS IS OF BULK AT MOST 1048576: true; the input reads as it did. -/
def fnExactGramOfUptoRow : OpenClaim := { program := "ytmedmkjlhcoepaa", sum := "51e7d2fcfac825720ccdacb0bc25e0baaa13d170f3b60069208235d08020ec01", func := "loop.example/g01124/laws.FnExactGramOf", spec := "fnExactGramOf", unfollowed := true, recurses := true, apart := false, narrowed := true }
def FnExactGramOfUptoSaid : Prop := fnExactGramOfUptoRow.holds Try.pinned (OpenSpec.upto fnExactGramOfSpec)

/-- 'laws.FnExactVectorsOfNorm', WHERE WHAT IT READS IS OF BULK AT MOST 1048576: true; the input reads as it did. -/
def fnExactVectorsOfNormUptoRow : OpenClaim := { program := "ytmedmkjlhcoepaa", sum := "51e7d2fcfac825720ccdacb0bc25e0baaa13d170f3b60069208235d08020ec01", func := "loop.example/g01124/laws.FnExactVectorsOfNorm", spec := "fnExactVectorsOfNorm", unfollowed := true, recurses := true, apart := false, narrowed := true }
def FnExactVectorsOfNormUptoSaid : Prop := fnExactVectorsOfNormUptoRow.holds Try.pinned (OpenSpec.upto fnExactVectorsOfNormSpec)

/-- 'laws.FnExactReflectIn', WHERE WHAT IT READS IS OF BULK AT MOST 1048576: true; the input reads as it did. -/
def fnExactReflectInUptoRow : OpenClaim := { program := "ytmedmkjlhcoepaa", sum := "51e7d2fcfac825720ccdacb0bc25e0baaa13d170f3b60069208235d08020ec01", func := "loop.example/g01124/laws.FnExactReflectIn", spec := "fnExactReflectIn", unfollowed := true, recurses := true, apart := false, narrowed := true }
def FnExactReflectInUptoSaid : Prop := fnExactReflectInUptoRow.holds Try.pinned (OpenSpec.upto fnExactReflectInSpec)

/-- 'laws.FnExactReflectionMatrix', WHERE WHAT IT READS IS OF BULK AT MOST 1048576: true; the input reads as it did. -/
def fnExactReflectionMatrixUptoRow : OpenClaim := { program := "ytmedmkjlhcoepaa", sum := "51e7d2fcfac825720ccdacb0bc25e0baaa13d170f3b60069208235d08020ec01", func := "loop.example/g01124/laws.FnExactReflectionMatrix", spec := "fnExactReflectionMatrix", unfollowed := true, recurses := true, apart := false, narrowed := true }
def FnExactReflectionMatrixUptoSaid : Prop := fnExactReflectionMatrixUptoRow.holds Try.pinned (OpenSpec.upto fnExactReflectionMatrixSpec)

/-- 'laws.FnExactIsEven', WHERE WHAT IT READS IS OF BULK AT MOST 1048576: true; the input reads as it did. -/
def fnExactIsEvenUptoRow : OpenClaim := { program := "ytmedmkjlhcoepaa", sum := "51e7d2fcfac825720ccdacb0bc25e0baaa13d170f3b60069208235d08020ec01", func := "loop.example/g01124/laws.FnExactIsEven", spec := "fnExactIsEven", unfollowed := true, recurses := true, apart := false, narrowed := true }
def FnExactIsEvenUptoSaid : Prop := fnExactIsEvenUptoRow.holds Try.pinned (OpenSpec.upto fnExactIsEvenSpec)

/-- 'laws.FnExactGradesOf', WHERE WHAT IT READS IS OF BULK AT MOST 1048576: true; the input reads as it did. -/
def fnExactGradesOfUptoRow : OpenClaim := { program := "ytmedmkjlhcoepaa", sum := "51e7d2fcfac825720ccdacb0bc25e0baaa13d170f3b60069208235d08020ec01", func := "loop.example/g01124/laws.FnExactGradesOf", spec := "fnExactGradesOf", unfollowed := true, recurses := true, apart := false, narrowed := true }
def FnExactGradesOfUptoSaid : Prop := fnExactGradesOfUptoRow.holds Try.pinned (OpenSpec.upto fnExactGradesOfSpec)

/-- 'laws.FnExactIsBivector', WHERE WHAT IT READS IS OF BULK AT MOST 1048576: true; the input reads as it did. -/
def fnExactIsBivectorUptoRow : OpenClaim := { program := "ytmedmkjlhcoepaa", sum := "51e7d2fcfac825720ccdacb0bc25e0baaa13d170f3b60069208235d08020ec01", func := "loop.example/g01124/laws.FnExactIsBivector", spec := "fnExactIsBivector", unfollowed := true, recurses := true, apart := false, narrowed := true }
def FnExactIsBivectorUptoSaid : Prop := fnExactIsBivectorUptoRow.holds Try.pinned (OpenSpec.upto fnExactIsBivectorSpec)

/-- 'laws.FnExactVectorIdempotent', WHERE WHAT IT READS IS OF BULK AT MOST 1048576: true; the input reads as it did. -/
def fnExactVectorIdempotentUptoRow : OpenClaim := { program := "ytmedmkjlhcoepaa", sum := "51e7d2fcfac825720ccdacb0bc25e0baaa13d170f3b60069208235d08020ec01", func := "loop.example/g01124/laws.FnExactVectorIdempotent", spec := "fnExactVectorIdempotent", unfollowed := true, recurses := true, apart := false, narrowed := true }
def FnExactVectorIdempotentUptoSaid : Prop := fnExactVectorIdempotentUptoRow.holds Try.pinned (OpenSpec.upto fnExactVectorIdempotentSpec)

/-- 'laws.FnExactVolumeOf', WHERE WHAT IT READS IS OF BULK AT MOST 1048576: true; the input reads as it did. -/
def fnExactVolumeOfUptoRow : OpenClaim := { program := "ytmedmkjlhcoepaa", sum := "51e7d2fcfac825720ccdacb0bc25e0baaa13d170f3b60069208235d08020ec01", func := "loop.example/g01124/laws.FnExactVolumeOf", spec := "fnExactVolumeOf", unfollowed := true, recurses := true, apart := false, narrowed := true }
def FnExactVolumeOfUptoSaid : Prop := fnExactVolumeOfUptoRow.holds Try.pinned (OpenSpec.upto fnExactVolumeOfSpec)

/-- 'laws.FnExactAreDependent', WHERE WHAT IT READS IS OF BULK AT MOST 1048576: true; the input reads as it did. -/
def fnExactAreDependentUptoRow : OpenClaim := { program := "ytmedmkjlhcoepaa", sum := "51e7d2fcfac825720ccdacb0bc25e0baaa13d170f3b60069208235d08020ec01", func := "loop.example/g01124/laws.FnExactAreDependent", spec := "fnExactAreDependent", unfollowed := true, recurses := true, apart := false, narrowed := true }
def FnExactAreDependentUptoSaid : Prop := fnExactAreDependentUptoRow.holds Try.pinned (OpenSpec.upto fnExactAreDependentSpec)

/-- 'laws.FnExactOrthogonalTo', WHERE WHAT IT READS IS OF BULK AT MOST 1048576: true; the input reads as it did. -/
def fnExactOrthogonalToUptoRow : OpenClaim := { program := "ytmedmkjlhcoepaa", sum := "51e7d2fcfac825720ccdacb0bc25e0baaa13d170f3b60069208235d08020ec01", func := "loop.example/g01124/laws.FnExactOrthogonalTo", spec := "fnExactOrthogonalTo", unfollowed := true, recurses := true, apart := false, narrowed := true }
def FnExactOrthogonalToUptoSaid : Prop := fnExactOrthogonalToUptoRow.holds Try.pinned (OpenSpec.upto fnExactOrthogonalToSpec)

end Rows
end Go.Proofs.Ytmedmkjlhcoepaa
