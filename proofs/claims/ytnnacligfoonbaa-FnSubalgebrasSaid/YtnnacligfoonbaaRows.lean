/-
  No cell of these rows narrows 'for every input' (looked for: loops, veiled, ifaces, maps, wideKeys, modest, calm, conditions, laid).
  DERIVED. THE GIVEN ROWS OF THIS SEAT. 7 by the template 'for every input the law returns true; each argument reads behind the call as it read before'; 0 by the template 'total and deterministic' (their statements: YtnnacligfoonbaaTotals.lean).
  GIVEN WITH THE SEED: the statements are not yours to turn. If you find one false, say at which input.
  Laid BY PROGRAM, IN A SANDBOX (cutbox-rows.mjs): the forced cells as the released guide's own fill.sh prints them over the translation ed8045a5eb85a43c… (all of the seat's roots in one cut). By AI agents, Wed Nov 11 2026. No macro, syntax, notation, axiom, sorry.
-/
import Derived.Test.YtnnacligfoonbaaChecked
import GoSem.Claim
import GoSem.ClaimJoined
import GoSem.ClaimMapViews
import Derived.JoinedTies
import Derived.KernelRfl
namespace Go.Proofs.Ytnnacligfoonbaa
/- THE CELL 'sum', in the pinned program and in every row, IS THE sha256 OF THE DUMP (.gsa) THAT YtnnacligfoonbaaProg.lean LOADS. Nothing in Lean hashes anything: it is a label: what it is worth is what the hold of that sum in a sandbox is worth. -/
noncomputable def Try.pinned : Pinned := { name := "ytnnacligfoonbaa", sum := "ed8045a5eb85a43c221f6ad21b5a2c09cbc636f91ba99f6db5901e083f6b18b2", checked := Try.checked }
namespace Rows
def none {H : Type} : Left H := { results := [], args := [] }

/-- 'laws.FnNormCounts': WHATEVER THE INPUT: true; the input reads as it did. -/
def fnNormCountsSpec : ChangeSpec := { name := "fnNormCounts", fn := fun _ => fun
  | [d] => { results := [.lit (.bool true)], args := [d] }
  | _ => none }
def fnNormCountsRow : OpenClaim := { program := "ytnnacligfoonbaa", sum := "ed8045a5eb85a43c221f6ad21b5a2c09cbc636f91ba99f6db5901e083f6b18b2", func := "loop.example/g01124/laws.FnNormCounts", spec := "fnNormCounts", unfollowed := true, recurses := true, apart := false }
def FnNormCountsSaid : Prop := fnNormCountsRow.holds Try.pinned (OpenSpec.ofChange fnNormCountsSpec)

/-- ITS FALSE NEIGHBOUR: 'it returns false'. Refute it at one input. -/
def fnNormCountsWrong : ChangeSpec := { name := "fnNormCounts", fn := fun _ => fun
  | [d] => { results := [.lit (.bool false)], args := [d] }
  | _ => none }
def FnNormCountsWrongFalsely : Prop := fnNormCountsRow.holds Try.pinned (OpenSpec.ofChange fnNormCountsWrong)

/-- 'laws.FnDoublingKinds': WHATEVER THE INPUT: true; the input reads as it did. -/
def fnDoublingKindsSpec : ChangeSpec := { name := "fnDoublingKinds", fn := fun _ => fun
  | [d] => { results := [.lit (.bool true)], args := [d] }
  | _ => none }
def fnDoublingKindsRow : OpenClaim := { program := "ytnnacligfoonbaa", sum := "ed8045a5eb85a43c221f6ad21b5a2c09cbc636f91ba99f6db5901e083f6b18b2", func := "loop.example/g01124/laws.FnDoublingKinds", spec := "fnDoublingKinds", unfollowed := true, recurses := true, apart := false }
def FnDoublingKindsSaid : Prop := fnDoublingKindsRow.holds Try.pinned (OpenSpec.ofChange fnDoublingKindsSpec)

/-- ITS FALSE NEIGHBOUR: 'it returns false'. Refute it at one input. -/
def fnDoublingKindsWrong : ChangeSpec := { name := "fnDoublingKinds", fn := fun _ => fun
  | [d] => { results := [.lit (.bool false)], args := [d] }
  | _ => none }
def FnDoublingKindsWrongFalsely : Prop := fnDoublingKindsRow.holds Try.pinned (OpenSpec.ofChange fnDoublingKindsWrong)

/-- 'laws.FnDoublings': WHATEVER THE INPUT: true; the input reads as it did. -/
def fnDoublingsSpec : ChangeSpec := { name := "fnDoublings", fn := fun _ => fun
  | [d] => { results := [.lit (.bool true)], args := [d] }
  | _ => none }
def fnDoublingsRow : OpenClaim := { program := "ytnnacligfoonbaa", sum := "ed8045a5eb85a43c221f6ad21b5a2c09cbc636f91ba99f6db5901e083f6b18b2", func := "loop.example/g01124/laws.FnDoublings", spec := "fnDoublings", unfollowed := true, recurses := true, apart := false }
def FnDoublingsSaid : Prop := fnDoublingsRow.holds Try.pinned (OpenSpec.ofChange fnDoublingsSpec)

/-- ITS FALSE NEIGHBOUR: 'it returns false'. Refute it at one input. -/
def fnDoublingsWrong : ChangeSpec := { name := "fnDoublings", fn := fun _ => fun
  | [d] => { results := [.lit (.bool false)], args := [d] }
  | _ => none }
def FnDoublingsWrongFalsely : Prop := fnDoublingsRow.holds Try.pinned (OpenSpec.ofChange fnDoublingsWrong)

/-- 'laws.FnNuclei': WHATEVER THE INPUT: true; the input reads as it did. -/
def fnNucleiSpec : ChangeSpec := { name := "fnNuclei", fn := fun _ => fun
  | [d] => { results := [.lit (.bool true)], args := [d] }
  | _ => none }
def fnNucleiRow : OpenClaim := { program := "ytnnacligfoonbaa", sum := "ed8045a5eb85a43c221f6ad21b5a2c09cbc636f91ba99f6db5901e083f6b18b2", func := "loop.example/g01124/laws.FnNuclei", spec := "fnNuclei", unfollowed := true, recurses := true, apart := false }
def FnNucleiSaid : Prop := fnNucleiRow.holds Try.pinned (OpenSpec.ofChange fnNucleiSpec)

/-- ITS FALSE NEIGHBOUR: 'it returns false'. Refute it at one input. -/
def fnNucleiWrong : ChangeSpec := { name := "fnNuclei", fn := fun _ => fun
  | [d] => { results := [.lit (.bool false)], args := [d] }
  | _ => none }
def FnNucleiWrongFalsely : Prop := fnNucleiRow.holds Try.pinned (OpenSpec.ofChange fnNucleiWrong)

/-- 'laws.FnComposition': WHATEVER THE INPUT: true; the input reads as it did. -/
def fnCompositionSpec : ChangeSpec := { name := "fnComposition", fn := fun _ => fun
  | [d] => { results := [.lit (.bool true)], args := [d] }
  | _ => none }
def fnCompositionRow : OpenClaim := { program := "ytnnacligfoonbaa", sum := "ed8045a5eb85a43c221f6ad21b5a2c09cbc636f91ba99f6db5901e083f6b18b2", func := "loop.example/g01124/laws.FnComposition", spec := "fnComposition", unfollowed := true, recurses := true, apart := false }
def FnCompositionSaid : Prop := fnCompositionRow.holds Try.pinned (OpenSpec.ofChange fnCompositionSpec)

/-- ITS FALSE NEIGHBOUR: 'it returns false'. Refute it at one input. -/
def fnCompositionWrong : ChangeSpec := { name := "fnComposition", fn := fun _ => fun
  | [d] => { results := [.lit (.bool false)], args := [d] }
  | _ => none }
def FnCompositionWrongFalsely : Prop := fnCompositionRow.holds Try.pinned (OpenSpec.ofChange fnCompositionWrong)

/-- 'laws.FnSubalgebras': WHATEVER THE INPUT: true; the input reads as it did. -/
def fnSubalgebrasSpec : ChangeSpec := { name := "fnSubalgebras", fn := fun _ => fun
  | [d] => { results := [.lit (.bool true)], args := [d] }
  | _ => none }
def fnSubalgebrasRow : OpenClaim := { program := "ytnnacligfoonbaa", sum := "ed8045a5eb85a43c221f6ad21b5a2c09cbc636f91ba99f6db5901e083f6b18b2", func := "loop.example/g01124/laws.FnSubalgebras", spec := "fnSubalgebras", unfollowed := true, recurses := true, apart := false }
def FnSubalgebrasSaid : Prop := fnSubalgebrasRow.holds Try.pinned (OpenSpec.ofChange fnSubalgebrasSpec)

/-- ITS FALSE NEIGHBOUR: 'it returns false'. Refute it at one input. -/
def fnSubalgebrasWrong : ChangeSpec := { name := "fnSubalgebras", fn := fun _ => fun
  | [d] => { results := [.lit (.bool false)], args := [d] }
  | _ => none }
def FnSubalgebrasWrongFalsely : Prop := fnSubalgebrasRow.holds Try.pinned (OpenSpec.ofChange fnSubalgebrasWrong)

/-- 'laws.FnZeroDivisors': WHATEVER THE INPUT: true; the input reads as it did. -/
def fnZeroDivisorsSpec : ChangeSpec := { name := "fnZeroDivisors", fn := fun _ => fun
  | [d] => { results := [.lit (.bool true)], args := [d] }
  | _ => none }
def fnZeroDivisorsRow : OpenClaim := { program := "ytnnacligfoonbaa", sum := "ed8045a5eb85a43c221f6ad21b5a2c09cbc636f91ba99f6db5901e083f6b18b2", func := "loop.example/g01124/laws.FnZeroDivisors", spec := "fnZeroDivisors", unfollowed := true, recurses := true, apart := false }
def FnZeroDivisorsSaid : Prop := fnZeroDivisorsRow.holds Try.pinned (OpenSpec.ofChange fnZeroDivisorsSpec)

/-- ITS FALSE NEIGHBOUR: 'it returns false'. Refute it at one input. -/
def fnZeroDivisorsWrong : ChangeSpec := { name := "fnZeroDivisors", fn := fun _ => fun
  | [d] => { results := [.lit (.bool false)], args := [d] }
  | _ => none }
def FnZeroDivisorsWrongFalsely : Prop := fnZeroDivisorsRow.holds Try.pinned (OpenSpec.ofChange fnZeroDivisorsWrong)

/- THE SECOND FORM. 'bulk': how many values and letters a reading holds, each counted each time it is reached (what is shared counts as often as it is met; a slice's spare places count too). A statement '..UptoSaid' is the law's where the arguments, and the package variables that the reading takes, are together of bulk at most 1048576: NARROWER than '..Said'. Prove '..Said' where nothing that the law and all that it calls make is longer than what came in: it says more and counts as full. Else prove '..UptoSaid'. A law counts once. -/
mutual
def uptoBulk {H : Type} : DataW H → Nat
  | .lit (.string bytes) => bytes.length + 1
  | .lit _ => 1
  | .nil => 1
  | .ptr d => uptoBulk d + 1
  | .slice elems spare => uptoBulkAll elems + uptoBulkAll spare + 1
  | .agg parts => uptoBulkAll parts + 1
  | .iface _ d => uptoBulk d + 1
  | .map entries => uptoBulkEntries entries + 1
  | .held _ => 1
def uptoBulkAll {H : Type} : List (DataW H) → Nat
  | [] => 0
  | d :: r => uptoBulk d + uptoBulkAll r
def uptoBulkEntries {H : Type} : List (Lit × DataW H) → Nat
  | [] => 0
  | x :: r => uptoBulkEntry x + uptoBulkEntries r
def uptoBulkEntry {H : Type} : Lit × DataW H → Nat
  | (.string bytes, d) => bytes.length + uptoBulk d + 1
  | (_, d) => uptoBulk d + 1
 end
def uptoSmall : (H : Type) → List (DataW H) → Bool := fun _ ds => decide (uptoBulkAll ds ≤ 1048576)
def OpenSpec.upto (s : _root_.Go.ChangeSpec) : _root_.Go.OpenSpec := { _root_.Go.OpenSpec.ofChange s with cond := some uptoSmall }

/-- 'laws.FnNormCounts', WHERE WHAT IT READS IS OF BULK AT MOST 1048576: true; the input reads as it did. -/
def fnNormCountsUptoRow : OpenClaim := { program := "ytnnacligfoonbaa", sum := "ed8045a5eb85a43c221f6ad21b5a2c09cbc636f91ba99f6db5901e083f6b18b2", func := "loop.example/g01124/laws.FnNormCounts", spec := "fnNormCounts", unfollowed := true, recurses := true, apart := false, narrowed := true }
def FnNormCountsUptoSaid : Prop := fnNormCountsUptoRow.holds Try.pinned (OpenSpec.upto fnNormCountsSpec)

/-- 'laws.FnDoublingKinds', WHERE WHAT IT READS IS OF BULK AT MOST 1048576: true; the input reads as it did. -/
def fnDoublingKindsUptoRow : OpenClaim := { program := "ytnnacligfoonbaa", sum := "ed8045a5eb85a43c221f6ad21b5a2c09cbc636f91ba99f6db5901e083f6b18b2", func := "loop.example/g01124/laws.FnDoublingKinds", spec := "fnDoublingKinds", unfollowed := true, recurses := true, apart := false, narrowed := true }
def FnDoublingKindsUptoSaid : Prop := fnDoublingKindsUptoRow.holds Try.pinned (OpenSpec.upto fnDoublingKindsSpec)

/-- 'laws.FnDoublings', WHERE WHAT IT READS IS OF BULK AT MOST 1048576: true; the input reads as it did. -/
def fnDoublingsUptoRow : OpenClaim := { program := "ytnnacligfoonbaa", sum := "ed8045a5eb85a43c221f6ad21b5a2c09cbc636f91ba99f6db5901e083f6b18b2", func := "loop.example/g01124/laws.FnDoublings", spec := "fnDoublings", unfollowed := true, recurses := true, apart := false, narrowed := true }
def FnDoublingsUptoSaid : Prop := fnDoublingsUptoRow.holds Try.pinned (OpenSpec.upto fnDoublingsSpec)

/-- 'laws.FnNuclei', WHERE WHAT IT READS IS OF BULK AT MOST 1048576: true; the input reads as it did. -/
def fnNucleiUptoRow : OpenClaim := { program := "ytnnacligfoonbaa", sum := "ed8045a5eb85a43c221f6ad21b5a2c09cbc636f91ba99f6db5901e083f6b18b2", func := "loop.example/g01124/laws.FnNuclei", spec := "fnNuclei", unfollowed := true, recurses := true, apart := false, narrowed := true }
def FnNucleiUptoSaid : Prop := fnNucleiUptoRow.holds Try.pinned (OpenSpec.upto fnNucleiSpec)

/-- 'laws.FnComposition', WHERE WHAT IT READS IS OF BULK AT MOST 1048576: true; the input reads as it did. -/
def fnCompositionUptoRow : OpenClaim := { program := "ytnnacligfoonbaa", sum := "ed8045a5eb85a43c221f6ad21b5a2c09cbc636f91ba99f6db5901e083f6b18b2", func := "loop.example/g01124/laws.FnComposition", spec := "fnComposition", unfollowed := true, recurses := true, apart := false, narrowed := true }
def FnCompositionUptoSaid : Prop := fnCompositionUptoRow.holds Try.pinned (OpenSpec.upto fnCompositionSpec)

/-- 'laws.FnSubalgebras', WHERE WHAT IT READS IS OF BULK AT MOST 1048576: true; the input reads as it did. -/
def fnSubalgebrasUptoRow : OpenClaim := { program := "ytnnacligfoonbaa", sum := "ed8045a5eb85a43c221f6ad21b5a2c09cbc636f91ba99f6db5901e083f6b18b2", func := "loop.example/g01124/laws.FnSubalgebras", spec := "fnSubalgebras", unfollowed := true, recurses := true, apart := false, narrowed := true }
def FnSubalgebrasUptoSaid : Prop := fnSubalgebrasUptoRow.holds Try.pinned (OpenSpec.upto fnSubalgebrasSpec)

/-- 'laws.FnZeroDivisors', WHERE WHAT IT READS IS OF BULK AT MOST 1048576: true; the input reads as it did. -/
def fnZeroDivisorsUptoRow : OpenClaim := { program := "ytnnacligfoonbaa", sum := "ed8045a5eb85a43c221f6ad21b5a2c09cbc636f91ba99f6db5901e083f6b18b2", func := "loop.example/g01124/laws.FnZeroDivisors", spec := "fnZeroDivisors", unfollowed := true, recurses := true, apart := false, narrowed := true }
def FnZeroDivisorsUptoSaid : Prop := fnZeroDivisorsUptoRow.holds Try.pinned (OpenSpec.upto fnZeroDivisorsSpec)

end Rows
end Go.Proofs.Ytnnacligfoonbaa
