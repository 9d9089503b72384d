/-
  No cell of these rows narrows 'for every input' (looked for: loops, veiled, ifaces, maps, wideKeys, modest, calm, conditions, laid).
  DERIVED. THE GIVEN ROWS OF THIS SEAT. 7 by the template 'for every input the law returns true; each argument reads behind the call as it read before'; 0 by the template 'total and deterministic' (their statements: YtnkflgigbielgaaTotals.lean).
  GIVEN WITH THE SEED: the statements are not yours to turn. If you find one false, say at which input.
  Laid BY PROGRAM, IN A SANDBOX (cutbox-rows.mjs): the forced cells as the released guide's own fill.sh prints them over the translation b64421a166f1f30e… (all of the seat's roots in one cut). By AI agents, Wed Nov 11 2026. No macro, syntax, notation, axiom, sorry.
-/
import Derived.Test.YtnkflgigbielgaaChecked
import GoSem.Claim
import GoSem.ClaimJoined
import GoSem.ClaimMapViews
import Derived.JoinedTies
import Derived.KernelRfl
namespace Go.Proofs.Ytnkflgigbielgaa
/- THE CELL 'sum', in the pinned program and in every row, IS THE sha256 OF THE DUMP (.gsa) THAT YtnkflgigbielgaaProg.lean LOADS. Nothing in Lean hashes anything: it is a label: what it is worth is what the hold of that sum in a sandbox is worth. -/
noncomputable def Try.pinned : Pinned := { name := "ytnkflgigbielgaa", sum := "b64421a166f1f30e4cd8d71d6722edc21914d2a5bbf2932bc1165f9e2402dbbc", checked := Try.checked }
namespace Rows
def none {H : Type} : Left H := { results := [], args := [] }

/-- 'laws.FnPairs': WHATEVER THE INPUT: true; the input reads as it did. -/
def fnPairsSpec : ChangeSpec := { name := "fnPairs", fn := fun _ => fun
  | [d] => { results := [.lit (.bool true)], args := [d] }
  | _ => none }
def fnPairsRow : OpenClaim := { program := "ytnkflgigbielgaa", sum := "b64421a166f1f30e4cd8d71d6722edc21914d2a5bbf2932bc1165f9e2402dbbc", func := "loop.example/g01124/laws.FnPairs", spec := "fnPairs", unfollowed := true, recurses := true, apart := false }
def FnPairsSaid : Prop := fnPairsRow.holds Try.pinned (OpenSpec.ofChange fnPairsSpec)

/-- ITS FALSE NEIGHBOUR: 'it returns false'. Refute it at one input. -/
def fnPairsWrong : ChangeSpec := { name := "fnPairs", fn := fun _ => fun
  | [d] => { results := [.lit (.bool false)], args := [d] }
  | _ => none }
def FnPairsWrongFalsely : Prop := fnPairsRow.holds Try.pinned (OpenSpec.ofChange fnPairsWrong)

/-- 'laws.FnVectorCounts': WHATEVER THE INPUT: true; the input reads as it did. -/
def fnVectorCountsSpec : ChangeSpec := { name := "fnVectorCounts", fn := fun _ => fun
  | [d] => { results := [.lit (.bool true)], args := [d] }
  | _ => none }
def fnVectorCountsRow : OpenClaim := { program := "ytnkflgigbielgaa", sum := "b64421a166f1f30e4cd8d71d6722edc21914d2a5bbf2932bc1165f9e2402dbbc", func := "loop.example/g01124/laws.FnVectorCounts", spec := "fnVectorCounts", unfollowed := true, recurses := true, apart := false }
def FnVectorCountsSaid : Prop := fnVectorCountsRow.holds Try.pinned (OpenSpec.ofChange fnVectorCountsSpec)

/-- ITS FALSE NEIGHBOUR: 'it returns false'. Refute it at one input. -/
def fnVectorCountsWrong : ChangeSpec := { name := "fnVectorCounts", fn := fun _ => fun
  | [d] => { results := [.lit (.bool false)], args := [d] }
  | _ => none }
def FnVectorCountsWrongFalsely : Prop := fnVectorCountsRow.holds Try.pinned (OpenSpec.ofChange fnVectorCountsWrong)

/-- 'laws.FnIsotropics': WHATEVER THE INPUT: true; the input reads as it did. -/
def fnIsotropicsSpec : ChangeSpec := { name := "fnIsotropics", fn := fun _ => fun
  | [d] => { results := [.lit (.bool true)], args := [d] }
  | _ => none }
def fnIsotropicsRow : OpenClaim := { program := "ytnkflgigbielgaa", sum := "b64421a166f1f30e4cd8d71d6722edc21914d2a5bbf2932bc1165f9e2402dbbc", func := "loop.example/g01124/laws.FnIsotropics", spec := "fnIsotropics", unfollowed := true, recurses := true, apart := false }
def FnIsotropicsSaid : Prop := fnIsotropicsRow.holds Try.pinned (OpenSpec.ofChange fnIsotropicsSpec)

/-- ITS FALSE NEIGHBOUR: 'it returns false'. Refute it at one input. -/
def fnIsotropicsWrong : ChangeSpec := { name := "fnIsotropics", fn := fun _ => fun
  | [d] => { results := [.lit (.bool false)], args := [d] }
  | _ => none }
def FnIsotropicsWrongFalsely : Prop := fnIsotropicsRow.holds Try.pinned (OpenSpec.ofChange fnIsotropicsWrong)

/-- 'laws.FnOrthogonals': WHATEVER THE INPUT: true; the input reads as it did. -/
def fnOrthogonalsSpec : ChangeSpec := { name := "fnOrthogonals", fn := fun _ => fun
  | [d] => { results := [.lit (.bool true)], args := [d] }
  | _ => none }
def fnOrthogonalsRow : OpenClaim := { program := "ytnkflgigbielgaa", sum := "b64421a166f1f30e4cd8d71d6722edc21914d2a5bbf2932bc1165f9e2402dbbc", func := "loop.example/g01124/laws.FnOrthogonals", spec := "fnOrthogonals", unfollowed := true, recurses := true, apart := false }
def FnOrthogonalsSaid : Prop := fnOrthogonalsRow.holds Try.pinned (OpenSpec.ofChange fnOrthogonalsSpec)

/-- ITS FALSE NEIGHBOUR: 'it returns false'. Refute it at one input. -/
def fnOrthogonalsWrong : ChangeSpec := { name := "fnOrthogonals", fn := fun _ => fun
  | [d] => { results := [.lit (.bool false)], args := [d] }
  | _ => none }
def FnOrthogonalsWrongFalsely : Prop := fnOrthogonalsRow.holds Try.pinned (OpenSpec.ofChange fnOrthogonalsWrong)

/-- 'laws.FnExactVolumeOf': WHATEVER THE INPUT: true; the input reads as it did. -/
def fnExactVolumeOfSpec : ChangeSpec := { name := "fnExactVolumeOf", fn := fun _ => fun
  | [d1, d2] => { results := [.lit (.bool true)], args := [d1, d2] }
  | _ => none }
def fnExactVolumeOfRow : OpenClaim := { program := "ytnkflgigbielgaa", sum := "b64421a166f1f30e4cd8d71d6722edc21914d2a5bbf2932bc1165f9e2402dbbc", func := "loop.example/g01124/laws.FnExactVolumeOf", spec := "fnExactVolumeOf", unfollowed := true, recurses := true, apart := false }
def FnExactVolumeOfSaid : Prop := fnExactVolumeOfRow.holds Try.pinned (OpenSpec.ofChange fnExactVolumeOfSpec)

/-- ITS FALSE NEIGHBOUR: 'it returns false'. Refute it at one input. -/
def fnExactVolumeOfWrong : ChangeSpec := { name := "fnExactVolumeOf", fn := fun _ => fun
  | [d1, d2] => { results := [.lit (.bool false)], args := [d1, d2] }
  | _ => none }
def FnExactVolumeOfWrongFalsely : Prop := fnExactVolumeOfRow.holds Try.pinned (OpenSpec.ofChange fnExactVolumeOfWrong)

/-- 'laws.FnExactIsometryOf': WHATEVER THE INPUT: true; the input reads as it did. -/
def fnExactIsometryOfSpec : ChangeSpec := { name := "fnExactIsometryOf", fn := fun _ => fun
  | [d1, d2] => { results := [.lit (.bool true)], args := [d1, d2] }
  | _ => none }
def fnExactIsometryOfRow : OpenClaim := { program := "ytnkflgigbielgaa", sum := "b64421a166f1f30e4cd8d71d6722edc21914d2a5bbf2932bc1165f9e2402dbbc", func := "loop.example/g01124/laws.FnExactIsometryOf", spec := "fnExactIsometryOf", unfollowed := true, recurses := true, apart := false }
def FnExactIsometryOfSaid : Prop := fnExactIsometryOfRow.holds Try.pinned (OpenSpec.ofChange fnExactIsometryOfSpec)

/-- ITS FALSE NEIGHBOUR: 'it returns false'. Refute it at one input. -/
def fnExactIsometryOfWrong : ChangeSpec := { name := "fnExactIsometryOf", fn := fun _ => fun
  | [d1, d2] => { results := [.lit (.bool false)], args := [d1, d2] }
  | _ => none }
def FnExactIsometryOfWrongFalsely : Prop := fnExactIsometryOfRow.holds Try.pinned (OpenSpec.ofChange fnExactIsometryOfWrong)

/-- 'laws.FnExactAllOrthogonal': WHATEVER THE INPUT: true; the input reads as it did. -/
def fnExactAllOrthogonalSpec : ChangeSpec := { name := "fnExactAllOrthogonal", fn := fun _ => fun
  | [d] => { results := [.lit (.bool true)], args := [d] }
  | _ => none }
def fnExactAllOrthogonalRow : OpenClaim := { program := "ytnkflgigbielgaa", sum := "b64421a166f1f30e4cd8d71d6722edc21914d2a5bbf2932bc1165f9e2402dbbc", func := "loop.example/g01124/laws.FnExactAllOrthogonal", spec := "fnExactAllOrthogonal", unfollowed := true, recurses := true, apart := false }
def FnExactAllOrthogonalSaid : Prop := fnExactAllOrthogonalRow.holds Try.pinned (OpenSpec.ofChange fnExactAllOrthogonalSpec)

/-- ITS FALSE NEIGHBOUR: 'it returns false'. Refute it at one input. -/
def fnExactAllOrthogonalWrong : ChangeSpec := { name := "fnExactAllOrthogonal", fn := fun _ => fun
  | [d] => { results := [.lit (.bool false)], args := [d] }
  | _ => none }
def FnExactAllOrthogonalWrongFalsely : Prop := fnExactAllOrthogonalRow.holds Try.pinned (OpenSpec.ofChange fnExactAllOrthogonalWrong)

/- THE SECOND FORM. 'bulk': how many values and letters a reading holds, each counted each time it is reached (what is shared counts as often as it is met; a slice's spare places count too). A statement '..UptoSaid' is the law's where the arguments, and the package variables that the reading takes, are together of bulk at most 1048576: NARROWER than '..Said'. Prove '..Said' where nothing that the law and all that it calls make is longer than what came in: it says more and counts as full. Else prove '..UptoSaid'. A law counts once. -/
mutual
def uptoBulk {H : Type} : DataW H → Nat
  | .lit (.string bytes) => bytes.length + 1
  | .lit _ => 1
  | .nil => 1
  | .ptr d => uptoBulk d + 1
  | .slice elems spare => uptoBulkAll elems + uptoBulkAll spare + 1
  | .agg parts => uptoBulkAll parts + 1
  | .iface _ d => uptoBulk d + 1
  | .map entries => uptoBulkEntries entries + 1
  | .held _ => 1
def uptoBulkAll {H : Type} : List (DataW H) → Nat
  | [] => 0
  | d :: r => uptoBulk d + uptoBulkAll r
def uptoBulkEntries {H : Type} : List (Lit × DataW H) → Nat
  | [] => 0
  | x :: r => uptoBulkEntry x + uptoBulkEntries r
def uptoBulkEntry {H : Type} : Lit × DataW H → Nat
  | (.string bytes, d) => bytes.length + uptoBulk d + 1
  | (_, d) => uptoBulk d + 1
 end
def uptoSmall : (H : Type) → List (DataW H) → Bool := fun _ ds => decide (uptoBulkAll ds ≤ 1048576)
def OpenSpec.upto (s : _root_.Go.ChangeSpec) : _root_.Go.OpenSpec := { _root_.Go.OpenSpec.ofChange s with cond := some uptoSmall }

/-- 'laws.FnPairs', WHERE WHAT IT READS IS OF BULK AT MOST 1048576: true; the input reads as it did. -/
def fnPairsUptoRow : OpenClaim := { program := "ytnkflgigbielgaa", sum := "b64421a166f1f30e4cd8d71d6722edc21914d2a5bbf2932bc1165f9e2402dbbc", func := "loop.example/g01124/laws.FnPairs", spec := "fnPairs", unfollowed := true, recurses := true, apart := false, narrowed := true }
def FnPairsUptoSaid : Prop := fnPairsUptoRow.holds Try.pinned (OpenSpec.upto fnPairsSpec)

/-- 'laws.FnVectorCounts', WHERE WHAT IT READS IS OF BULK AT MOST 1048576: true; the input reads as it did. -/
def fnVectorCountsUptoRow : OpenClaim := { program := "ytnkflgigbielgaa", sum := "b64421a166f1f30e4cd8d71d6722edc21914d2a5bbf2932bc1165f9e2402dbbc", func := "loop.example/g01124/laws.FnVectorCounts", spec := "fnVectorCounts", unfollowed := true, recurses := true, apart := false, narrowed := true }
def FnVectorCountsUptoSaid : Prop := fnVectorCountsUptoRow.holds Try.pinned (OpenSpec.upto fnVectorCountsSpec)

/-- 'laws.FnIsotropics', WHERE WHAT IT READS IS OF BULK AT MOST 1048576: true; the input reads as it did. -/
def fnIsotropicsUptoRow : OpenClaim := { program := "ytnkflgigbielgaa", sum := "b64421a166f1f30e4cd8d71d6722edc21914d2a5bbf2932bc1165f9e2402dbbc", func := "loop.example/g01124/laws.FnIsotropics", spec := "fnIsotropics", unfollowed := true, recurses := true, apart := false, narrowed := true }
def FnIsotropicsUptoSaid : Prop := fnIsotropicsUptoRow.holds Try.pinned (OpenSpec.upto fnIsotropicsSpec)

/-- 'laws.FnOrthogonals', WHERE WHAT IT READS IS OF BULK AT MOST 1048576: true; the input reads as it did. -/
def fnOrthogonalsUptoRow : OpenClaim := { program := "ytnkflgigbielgaa", sum := "b64421a166f1f30e4cd8d71d6722edc21914d2a5bbf2932bc1165f9e2402dbbc", func := "loop.example/g01124/laws.FnOrthogonals", spec := "fnOrthogonals", unfollowed := true, recurses := true, apart := false, narrowed := true }
def FnOrthogonalsUptoSaid : Prop := fnOrthogonalsUptoRow.holds Try.pinned (OpenSpec.upto fnOrthogonalsSpec)

/-- 'laws.FnExactVolumeOf', WHERE WHAT IT READS IS OF BULK AT MOST 1048576: true; the input reads as it did. -/
def fnExactVolumeOfUptoRow : OpenClaim := { program := "ytnkflgigbielgaa", sum := "b64421a166f1f30e4cd8d71d6722edc21914d2a5bbf2932bc1165f9e2402dbbc", func := "loop.example/g01124/laws.FnExactVolumeOf", spec := "fnExactVolumeOf", unfollowed := true, recurses := true, apart := false, narrowed := true }
def FnExactVolumeOfUptoSaid : Prop := fnExactVolumeOfUptoRow.holds Try.pinned (OpenSpec.upto fnExactVolumeOfSpec)

/-- 'laws.FnExactIsometryOf', WHERE WHAT IT READS IS OF BULK AT MOST 1048576: true; the input reads as it did. -/
def fnExactIsometryOfUptoRow : OpenClaim := { program := "ytnkflgigbielgaa", sum := "b64421a166f1f30e4cd8d71d6722edc21914d2a5bbf2932bc1165f9e2402dbbc", func := "loop.example/g01124/laws.FnExactIsometryOf", spec := "fnExactIsometryOf", unfollowed := true, recurses := true, apart := false, narrowed := true }
def FnExactIsometryOfUptoSaid : Prop := fnExactIsometryOfUptoRow.holds Try.pinned (OpenSpec.upto fnExactIsometryOfSpec)

/-- 'laws.FnExactAllOrthogonal', WHERE WHAT IT READS IS OF BULK AT MOST 1048576: true; the input reads as it did. -/
def fnExactAllOrthogonalUptoRow : OpenClaim := { program := "ytnkflgigbielgaa", sum := "b64421a166f1f30e4cd8d71d6722edc21914d2a5bbf2932bc1165f9e2402dbbc", func := "loop.example/g01124/laws.FnExactAllOrthogonal", spec := "fnExactAllOrthogonal", unfollowed := true, recurses := true, apart := false, narrowed := true }
def FnExactAllOrthogonalUptoSaid : Prop := fnExactAllOrthogonalUptoRow.holds Try.pinned (OpenSpec.upto fnExactAllOrthogonalSpec)

end Rows
end Go.Proofs.Ytnkflgigbielgaa
