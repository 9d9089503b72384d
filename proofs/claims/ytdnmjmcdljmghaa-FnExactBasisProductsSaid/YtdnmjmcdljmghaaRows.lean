/-
  No cell of these rows narrows 'for every input' (looked for: loops, veiled, ifaces, maps, wideKeys, modest, calm, conditions, laid).
  DERIVED. THE GIVEN ROWS OF THIS SEAT. 12 by the template 'for every input the law returns true; each argument reads behind the call as it read before'; 0 by the template 'total and deterministic' (their statements: YtdnmjmcdljmghaaTotals.lean).
  GIVEN WITH THE SEED: the statements are not yours to turn. If you find one false, say at which input.
  Laid BY PROGRAM, IN A SANDBOX (cutbox-rows.mjs): the forced cells as the released guide's own fill.sh prints them over the translation 67b8ed0d9fd16123… (all of the seat's roots in one cut). By AI agents, Wed Nov 11 2026. No macro, syntax, notation, axiom, sorry.
-/
import Derived.Test.YtdnmjmcdljmghaaChecked
import GoSem.Claim
import GoSem.ClaimJoined
import GoSem.ClaimMapViews
import Derived.JoinedTies
import Derived.KernelRfl
namespace Go.Proofs.Ytdnmjmcdljmghaa
/- THE CELL 'sum', in the pinned program and in every row, IS THE sha256 OF THE DUMP (.gsa) THAT YtdnmjmcdljmghaaProg.lean LOADS. Nothing in Lean hashes anything: it is a label: what it is worth is what the hold of that sum in a sandbox is worth. -/
noncomputable def Try.pinned : Pinned := { name := "ytdnmjmcdljmghaa", sum := "67b8ed0d9fd1612324b5172c3f32e3332f1fc12958396bd2d662d01fc8227fcb", checked := Try.checked }
namespace Rows
def none {H : Type} : Left H := { results := [], args := [] }

/-- 'laws.FnExactIsDivisionDoubling': WHATEVER THE INPUT: true; the input reads as it did. -/
def fnExactIsDivisionDoublingSpec : ChangeSpec := { name := "fnExactIsDivisionDoubling", fn := fun _ => fun
  | [d] => { results := [.lit (.bool true)], args := [d] }
  | _ => none }
def fnExactIsDivisionDoublingRow : OpenClaim := { program := "ytdnmjmcdljmghaa", sum := "67b8ed0d9fd1612324b5172c3f32e3332f1fc12958396bd2d662d01fc8227fcb", func := "loop.example/g01124/laws.FnExactIsDivisionDoubling", spec := "fnExactIsDivisionDoubling", apart := false }
def FnExactIsDivisionDoublingSaid : Prop := fnExactIsDivisionDoublingRow.holds Try.pinned (OpenSpec.ofChange fnExactIsDivisionDoublingSpec)

/-- ITS FALSE NEIGHBOUR: 'it returns false'. Refute it at one input. -/
def fnExactIsDivisionDoublingWrong : ChangeSpec := { name := "fnExactIsDivisionDoubling", fn := fun _ => fun
  | [d] => { results := [.lit (.bool false)], args := [d] }
  | _ => none }
def FnExactIsDivisionDoublingWrongFalsely : Prop := fnExactIsDivisionDoublingRow.holds Try.pinned (OpenSpec.ofChange fnExactIsDivisionDoublingWrong)

/-- 'laws.FnExactCyclicForm': WHATEVER THE INPUT: true; the input reads as it did. -/
def fnExactCyclicFormSpec : ChangeSpec := { name := "fnExactCyclicForm", fn := fun _ => fun
  | [d1, d2, d3, d4] => { results := [.lit (.bool true)], args := [d1, d2, d3, d4] }
  | _ => none }
def fnExactCyclicFormRow : OpenClaim := { program := "ytdnmjmcdljmghaa", sum := "67b8ed0d9fd1612324b5172c3f32e3332f1fc12958396bd2d662d01fc8227fcb", func := "loop.example/g01124/laws.FnExactCyclicForm", spec := "fnExactCyclicForm", unfollowed := true, recurses := true, apart := false }
def FnExactCyclicFormSaid : Prop := fnExactCyclicFormRow.holds Try.pinned (OpenSpec.ofChange fnExactCyclicFormSpec)

/-- ITS FALSE NEIGHBOUR: 'it returns false'. Refute it at one input. -/
def fnExactCyclicFormWrong : ChangeSpec := { name := "fnExactCyclicForm", fn := fun _ => fun
  | [d1, d2, d3, d4] => { results := [.lit (.bool false)], args := [d1, d2, d3, d4] }
  | _ => none }
def FnExactCyclicFormWrongFalsely : Prop := fnExactCyclicFormRow.holds Try.pinned (OpenSpec.ofChange fnExactCyclicFormWrong)

/-- 'laws.FnExactCompositionGap': WHATEVER THE INPUT: true; the input reads as it did. -/
def fnExactCompositionGapSpec : ChangeSpec := { name := "fnExactCompositionGap", fn := fun _ => fun
  | [d1, d2, d3] => { results := [.lit (.bool true)], args := [d1, d2, d3] }
  | _ => none }
def fnExactCompositionGapRow : OpenClaim := { program := "ytdnmjmcdljmghaa", sum := "67b8ed0d9fd1612324b5172c3f32e3332f1fc12958396bd2d662d01fc8227fcb", func := "loop.example/g01124/laws.FnExactCompositionGap", spec := "fnExactCompositionGap", unfollowed := true, recurses := true, apart := false }
def FnExactCompositionGapSaid : Prop := fnExactCompositionGapRow.holds Try.pinned (OpenSpec.ofChange fnExactCompositionGapSpec)

/-- ITS FALSE NEIGHBOUR: 'it returns false'. Refute it at one input. -/
def fnExactCompositionGapWrong : ChangeSpec := { name := "fnExactCompositionGap", fn := fun _ => fun
  | [d1, d2, d3] => { results := [.lit (.bool false)], args := [d1, d2, d3] }
  | _ => none }
def FnExactCompositionGapWrongFalsely : Prop := fnExactCompositionGapRow.holds Try.pinned (OpenSpec.ofChange fnExactCompositionGapWrong)

/-- 'laws.FnExactMoufangGap': WHATEVER THE INPUT: true; the input reads as it did. -/
def fnExactMoufangGapSpec : ChangeSpec := { name := "fnExactMoufangGap", fn := fun _ => fun
  | [d1, d2, d3, d4] => { results := [.lit (.bool true)], args := [d1, d2, d3, d4] }
  | _ => none }
def fnExactMoufangGapRow : OpenClaim := { program := "ytdnmjmcdljmghaa", sum := "67b8ed0d9fd1612324b5172c3f32e3332f1fc12958396bd2d662d01fc8227fcb", func := "loop.example/g01124/laws.FnExactMoufangGap", spec := "fnExactMoufangGap", unfollowed := true, recurses := true, apart := false }
def FnExactMoufangGapSaid : Prop := fnExactMoufangGapRow.holds Try.pinned (OpenSpec.ofChange fnExactMoufangGapSpec)

/-- ITS FALSE NEIGHBOUR: 'it returns false'. Refute it at one input. -/
def fnExactMoufangGapWrong : ChangeSpec := { name := "fnExactMoufangGap", fn := fun _ => fun
  | [d1, d2, d3, d4] => { results := [.lit (.bool false)], args := [d1, d2, d3, d4] }
  | _ => none }
def FnExactMoufangGapWrongFalsely : Prop := fnExactMoufangGapRow.holds Try.pinned (OpenSpec.ofChange fnExactMoufangGapWrong)

/-- 'laws.FnExactAssociatorOf': WHATEVER THE INPUT: true; the input reads as it did. -/
def fnExactAssociatorOfSpec : ChangeSpec := { name := "fnExactAssociatorOf", fn := fun _ => fun
  | [d1, d2, d3, d4] => { results := [.lit (.bool true)], args := [d1, d2, d3, d4] }
  | _ => none }
def fnExactAssociatorOfRow : OpenClaim := { program := "ytdnmjmcdljmghaa", sum := "67b8ed0d9fd1612324b5172c3f32e3332f1fc12958396bd2d662d01fc8227fcb", func := "loop.example/g01124/laws.FnExactAssociatorOf", spec := "fnExactAssociatorOf", unfollowed := true, recurses := true, apart := false }
def FnExactAssociatorOfSaid : Prop := fnExactAssociatorOfRow.holds Try.pinned (OpenSpec.ofChange fnExactAssociatorOfSpec)

/-- ITS FALSE NEIGHBOUR: 'it returns false'. Refute it at one input. -/
def fnExactAssociatorOfWrong : ChangeSpec := { name := "fnExactAssociatorOf", fn := fun _ => fun
  | [d1, d2, d3, d4] => { results := [.lit (.bool false)], args := [d1, d2, d3, d4] }
  | _ => none }
def FnExactAssociatorOfWrongFalsely : Prop := fnExactAssociatorOfRow.holds Try.pinned (OpenSpec.ofChange fnExactAssociatorOfWrong)

/-- 'laws.FnExactCommutatorOf': WHATEVER THE INPUT: true; the input reads as it did. -/
def fnExactCommutatorOfSpec : ChangeSpec := { name := "fnExactCommutatorOf", fn := fun _ => fun
  | [d1, d2, d3] => { results := [.lit (.bool true)], args := [d1, d2, d3] }
  | _ => none }
def fnExactCommutatorOfRow : OpenClaim := { program := "ytdnmjmcdljmghaa", sum := "67b8ed0d9fd1612324b5172c3f32e3332f1fc12958396bd2d662d01fc8227fcb", func := "loop.example/g01124/laws.FnExactCommutatorOf", spec := "fnExactCommutatorOf", unfollowed := true, recurses := true, apart := false }
def FnExactCommutatorOfSaid : Prop := fnExactCommutatorOfRow.holds Try.pinned (OpenSpec.ofChange fnExactCommutatorOfSpec)

/-- ITS FALSE NEIGHBOUR: 'it returns false'. Refute it at one input. -/
def fnExactCommutatorOfWrong : ChangeSpec := { name := "fnExactCommutatorOf", fn := fun _ => fun
  | [d1, d2, d3] => { results := [.lit (.bool false)], args := [d1, d2, d3] }
  | _ => none }
def FnExactCommutatorOfWrongFalsely : Prop := fnExactCommutatorOfRow.holds Try.pinned (OpenSpec.ofChange fnExactCommutatorOfWrong)

/-- 'laws.FnExactDoubleInverse': WHATEVER THE INPUT: true; the input reads as it did. -/
def fnExactDoubleInverseSpec : ChangeSpec := { name := "fnExactDoubleInverse", fn := fun _ => fun
  | [d1, d2] => { results := [.lit (.bool true)], args := [d1, d2] }
  | _ => none }
def fnExactDoubleInverseRow : OpenClaim := { program := "ytdnmjmcdljmghaa", sum := "67b8ed0d9fd1612324b5172c3f32e3332f1fc12958396bd2d662d01fc8227fcb", func := "loop.example/g01124/laws.FnExactDoubleInverse", spec := "fnExactDoubleInverse", unfollowed := true, recurses := true, apart := false }
def FnExactDoubleInverseSaid : Prop := fnExactDoubleInverseRow.holds Try.pinned (OpenSpec.ofChange fnExactDoubleInverseSpec)

/-- ITS FALSE NEIGHBOUR: 'it returns false'. Refute it at one input. -/
def fnExactDoubleInverseWrong : ChangeSpec := { name := "fnExactDoubleInverse", fn := fun _ => fun
  | [d1, d2] => { results := [.lit (.bool false)], args := [d1, d2] }
  | _ => none }
def FnExactDoubleInverseWrongFalsely : Prop := fnExactDoubleInverseRow.holds Try.pinned (OpenSpec.ofChange fnExactDoubleInverseWrong)

/-- 'laws.FnExactCrossOf': WHATEVER THE INPUT: true; the input reads as it did. -/
def fnExactCrossOfSpec : ChangeSpec := { name := "fnExactCrossOf", fn := fun _ => fun
  | [d1, d2, d3] => { results := [.lit (.bool true)], args := [d1, d2, d3] }
  | _ => none }
def fnExactCrossOfRow : OpenClaim := { program := "ytdnmjmcdljmghaa", sum := "67b8ed0d9fd1612324b5172c3f32e3332f1fc12958396bd2d662d01fc8227fcb", func := "loop.example/g01124/laws.FnExactCrossOf", spec := "fnExactCrossOf", unfollowed := true, recurses := true, apart := false }
def FnExactCrossOfSaid : Prop := fnExactCrossOfRow.holds Try.pinned (OpenSpec.ofChange fnExactCrossOfSpec)

/-- ITS FALSE NEIGHBOUR: 'it returns false'. Refute it at one input. -/
def fnExactCrossOfWrong : ChangeSpec := { name := "fnExactCrossOf", fn := fun _ => fun
  | [d1, d2, d3] => { results := [.lit (.bool false)], args := [d1, d2, d3] }
  | _ => none }
def FnExactCrossOfWrongFalsely : Prop := fnExactCrossOfRow.holds Try.pinned (OpenSpec.ofChange fnExactCrossOfWrong)

/-- 'laws.FnExactDoublePower': WHATEVER THE INPUT: true; the input reads as it did. -/
def fnExactDoublePowerSpec : ChangeSpec := { name := "fnExactDoublePower", fn := fun _ => fun
  | [d1, d2, d3] => { results := [.lit (.bool true)], args := [d1, d2, d3] }
  | _ => none }
def fnExactDoublePowerRow : OpenClaim := { program := "ytdnmjmcdljmghaa", sum := "67b8ed0d9fd1612324b5172c3f32e3332f1fc12958396bd2d662d01fc8227fcb", func := "loop.example/g01124/laws.FnExactDoublePower", spec := "fnExactDoublePower", unfollowed := true, recurses := true, apart := false }
def FnExactDoublePowerSaid : Prop := fnExactDoublePowerRow.holds Try.pinned (OpenSpec.ofChange fnExactDoublePowerSpec)

/-- ITS FALSE NEIGHBOUR: 'it returns false'. Refute it at one input. -/
def fnExactDoublePowerWrong : ChangeSpec := { name := "fnExactDoublePower", fn := fun _ => fun
  | [d1, d2, d3] => { results := [.lit (.bool false)], args := [d1, d2, d3] }
  | _ => none }
def FnExactDoublePowerWrongFalsely : Prop := fnExactDoublePowerRow.holds Try.pinned (OpenSpec.ofChange fnExactDoublePowerWrong)

/-- 'laws.FnExactBasisProducts': WHATEVER THE INPUT: true; the input reads as it did. -/
def fnExactBasisProductsSpec : ChangeSpec := { name := "fnExactBasisProducts", fn := fun _ => fun
  | [d] => { results := [.lit (.bool true)], args := [d] }
  | _ => none }
def fnExactBasisProductsRow : OpenClaim := { program := "ytdnmjmcdljmghaa", sum := "67b8ed0d9fd1612324b5172c3f32e3332f1fc12958396bd2d662d01fc8227fcb", func := "loop.example/g01124/laws.FnExactBasisProducts", spec := "fnExactBasisProducts", recurses := true, apart := false }
def FnExactBasisProductsSaid : Prop := fnExactBasisProductsRow.holds Try.pinned (OpenSpec.ofChange fnExactBasisProductsSpec)

/-- ITS FALSE NEIGHBOUR: 'it returns false'. Refute it at one input. -/
def fnExactBasisProductsWrong : ChangeSpec := { name := "fnExactBasisProducts", fn := fun _ => fun
  | [d] => { results := [.lit (.bool false)], args := [d] }
  | _ => none }
def FnExactBasisProductsWrongFalsely : Prop := fnExactBasisProductsRow.holds Try.pinned (OpenSpec.ofChange fnExactBasisProductsWrong)

/-- 'laws.FnExactLeftMatrixOf': WHATEVER THE INPUT: true; the input reads as it did. -/
def fnExactLeftMatrixOfSpec : ChangeSpec := { name := "fnExactLeftMatrixOf", fn := fun _ => fun
  | [d1, d2] => { results := [.lit (.bool true)], args := [d1, d2] }
  | _ => none }
def fnExactLeftMatrixOfRow : OpenClaim := { program := "ytdnmjmcdljmghaa", sum := "67b8ed0d9fd1612324b5172c3f32e3332f1fc12958396bd2d662d01fc8227fcb", func := "loop.example/g01124/laws.FnExactLeftMatrixOf", spec := "fnExactLeftMatrixOf", unfollowed := true, recurses := true, apart := false }
def FnExactLeftMatrixOfSaid : Prop := fnExactLeftMatrixOfRow.holds Try.pinned (OpenSpec.ofChange fnExactLeftMatrixOfSpec)

/-- ITS FALSE NEIGHBOUR: 'it returns false'. Refute it at one input. -/
def fnExactLeftMatrixOfWrong : ChangeSpec := { name := "fnExactLeftMatrixOf", fn := fun _ => fun
  | [d1, d2] => { results := [.lit (.bool false)], args := [d1, d2] }
  | _ => none }
def FnExactLeftMatrixOfWrongFalsely : Prop := fnExactLeftMatrixOfRow.holds Try.pinned (OpenSpec.ofChange fnExactLeftMatrixOfWrong)

/-- 'laws.FnExactRightMatrixOf': WHATEVER THE INPUT: true; the input reads as it did. -/
def fnExactRightMatrixOfSpec : ChangeSpec := { name := "fnExactRightMatrixOf", fn := fun _ => fun
  | [d1, d2] => { results := [.lit (.bool true)], args := [d1, d2] }
  | _ => none }
def fnExactRightMatrixOfRow : OpenClaim := { program := "ytdnmjmcdljmghaa", sum := "67b8ed0d9fd1612324b5172c3f32e3332f1fc12958396bd2d662d01fc8227fcb", func := "loop.example/g01124/laws.FnExactRightMatrixOf", spec := "fnExactRightMatrixOf", unfollowed := true, recurses := true, apart := false }
def FnExactRightMatrixOfSaid : Prop := fnExactRightMatrixOfRow.holds Try.pinned (OpenSpec.ofChange fnExactRightMatrixOfSpec)

/-- ITS FALSE NEIGHBOUR: 'it returns false'. Refute it at one input. -/
def fnExactRightMatrixOfWrong : ChangeSpec := { name := "fnExactRightMatrixOf", fn := fun _ => fun
  | [d1, d2] => { results := [.lit (.bool false)], args := [d1, d2] }
  | _ => none }
def FnExactRightMatrixOfWrongFalsely : Prop := fnExactRightMatrixOfRow.holds Try.pinned (OpenSpec.ofChange fnExactRightMatrixOfWrong)

/- THE SECOND FORM. 'bulk': how many values and letters a reading holds, each counted each time it is reached (what is shared counts as often as it is met; a slice's spare places count too). A statement '..UptoSaid' is the law's where the arguments, and the package variables that the reading takes, are together of bulk at most 1048576: NARROWER than '..Said'. Prove '..Said' where nothing that the law and all that it calls make is longer than what came in: it says more and counts as full. Else prove '..UptoSaid'. A law counts once. -/
mutual
def uptoBulk {H : Type} : DataW H → Nat
  | .lit (.string bytes) => bytes.length + 1
  | .lit _ => 1
  | .nil => 1
  | .ptr d => uptoBulk d + 1
  | .slice elems spare => uptoBulkAll elems + uptoBulkAll spare + 1
  | .agg parts => uptoBulkAll parts + 1
  | .iface _ d => uptoBulk d + 1
  | .map entries => uptoBulkEntries entries + 1
  | .held _ => 1
def uptoBulkAll {H : Type} : List (DataW H) → Nat
  | [] => 0
  | d :: r => uptoBulk d + uptoBulkAll r
def uptoBulkEntries {H : Type} : List (Lit × DataW H) → Nat
  | [] => 0
  | x :: r => uptoBulkEntry x + uptoBulkEntries r
def uptoBulkEntry {H : Type} : Lit × DataW H → Nat
  | (.string bytes, d) => bytes.length + uptoBulk d + 1
  | (_, d) => uptoBulk d + 1
 end
def uptoSmall : (H : Type) → List (DataW H) → Bool := fun _ ds => decide (uptoBulkAll ds ≤ 1048576)
def OpenSpec.upto (s : _root_.Go.ChangeSpec) : _root_.Go.OpenSpec := { _root_.Go.OpenSpec.ofChange s with cond := some uptoSmall }

/-- 'laws.FnExactIsDivisionDoubling', WHERE WHAT IT READS IS OF BULK AT MOST 1048576: true; the input reads as it did. -/
def fnExactIsDivisionDoublingUptoRow : OpenClaim := { program := "ytdnmjmcdljmghaa", sum := "67b8ed0d9fd1612324b5172c3f32e3332f1fc12958396bd2d662d01fc8227fcb", func := "loop.example/g01124/laws.FnExactIsDivisionDoubling", spec := "fnExactIsDivisionDoubling", apart := false, narrowed := true }
def FnExactIsDivisionDoublingUptoSaid : Prop := fnExactIsDivisionDoublingUptoRow.holds Try.pinned (OpenSpec.upto fnExactIsDivisionDoublingSpec)

/-- 'laws.FnExactCyclicForm', WHERE WHAT IT READS IS OF BULK AT MOST 1048576: true; the input reads as it did. -/
def fnExactCyclicFormUptoRow : OpenClaim := { program := "ytdnmjmcdljmghaa", sum := "67b8ed0d9fd1612324b5172c3f32e3332f1fc12958396bd2d662d01fc8227fcb", func := "loop.example/g01124/laws.FnExactCyclicForm", spec := "fnExactCyclicForm", unfollowed := true, recurses := true, apart := false, narrowed := true }
def FnExactCyclicFormUptoSaid : Prop := fnExactCyclicFormUptoRow.holds Try.pinned (OpenSpec.upto fnExactCyclicFormSpec)

/-- 'laws.FnExactCompositionGap', WHERE WHAT IT READS IS OF BULK AT MOST 1048576: true; the input reads as it did. -/
def fnExactCompositionGapUptoRow : OpenClaim := { program := "ytdnmjmcdljmghaa", sum := "67b8ed0d9fd1612324b5172c3f32e3332f1fc12958396bd2d662d01fc8227fcb", func := "loop.example/g01124/laws.FnExactCompositionGap", spec := "fnExactCompositionGap", unfollowed := true, recurses := true, apart := false, narrowed := true }
def FnExactCompositionGapUptoSaid : Prop := fnExactCompositionGapUptoRow.holds Try.pinned (OpenSpec.upto fnExactCompositionGapSpec)

/-- 'laws.FnExactMoufangGap', WHERE WHAT IT READS IS OF BULK AT MOST 1048576: true; the input reads as it did. -/
def fnExactMoufangGapUptoRow : OpenClaim := { program := "ytdnmjmcdljmghaa", sum := "67b8ed0d9fd1612324b5172c3f32e3332f1fc12958396bd2d662d01fc8227fcb", func := "loop.example/g01124/laws.FnExactMoufangGap", spec := "fnExactMoufangGap", unfollowed := true, recurses := true, apart := false, narrowed := true }
def FnExactMoufangGapUptoSaid : Prop := fnExactMoufangGapUptoRow.holds Try.pinned (OpenSpec.upto fnExactMoufangGapSpec)

/-- 'laws.FnExactAssociatorOf', WHERE WHAT IT READS IS OF BULK AT MOST 1048576: true; the input reads as it did. -/
def fnExactAssociatorOfUptoRow : OpenClaim := { program := "ytdnmjmcdljmghaa", sum := "67b8ed0d9fd1612324b5172c3f32e3332f1fc12958396bd2d662d01fc8227fcb", func := "loop.example/g01124/laws.FnExactAssociatorOf", spec := "fnExactAssociatorOf", unfollowed := true, recurses := true, apart := false, narrowed := true }
def FnExactAssociatorOfUptoSaid : Prop := fnExactAssociatorOfUptoRow.holds Try.pinned (OpenSpec.upto fnExactAssociatorOfSpec)

/-- 'laws.FnExactCommutatorOf', WHERE WHAT IT READS IS OF BULK AT MOST 1048576: true; the input reads as it did. -/
def fnExactCommutatorOfUptoRow : OpenClaim := { program := "ytdnmjmcdljmghaa", sum := "67b8ed0d9fd1612324b5172c3f32e3332f1fc12958396bd2d662d01fc8227fcb", func := "loop.example/g01124/laws.FnExactCommutatorOf", spec := "fnExactCommutatorOf", unfollowed := true, recurses := true, apart := false, narrowed := true }
def FnExactCommutatorOfUptoSaid : Prop := fnExactCommutatorOfUptoRow.holds Try.pinned (OpenSpec.upto fnExactCommutatorOfSpec)

/-- 'laws.FnExactDoubleInverse', WHERE WHAT IT READS IS OF BULK AT MOST 1048576: true; the input reads as it did. -/
def fnExactDoubleInverseUptoRow : OpenClaim := { program := "ytdnmjmcdljmghaa", sum := "67b8ed0d9fd1612324b5172c3f32e3332f1fc12958396bd2d662d01fc8227fcb", func := "loop.example/g01124/laws.FnExactDoubleInverse", spec := "fnExactDoubleInverse", unfollowed := true, recurses := true, apart := false, narrowed := true }
def FnExactDoubleInverseUptoSaid : Prop := fnExactDoubleInverseUptoRow.holds Try.pinned (OpenSpec.upto fnExactDoubleInverseSpec)

/-- 'laws.FnExactCrossOf', WHERE WHAT IT READS IS OF BULK AT MOST 1048576: true; the input reads as it did. -/
def fnExactCrossOfUptoRow : OpenClaim := { program := "ytdnmjmcdljmghaa", sum := "67b8ed0d9fd1612324b5172c3f32e3332f1fc12958396bd2d662d01fc8227fcb", func := "loop.example/g01124/laws.FnExactCrossOf", spec := "fnExactCrossOf", unfollowed := true, recurses := true, apart := false, narrowed := true }
def FnExactCrossOfUptoSaid : Prop := fnExactCrossOfUptoRow.holds Try.pinned (OpenSpec.upto fnExactCrossOfSpec)

/-- 'laws.FnExactDoublePower', WHERE WHAT IT READS IS OF BULK AT MOST 1048576: true; the input reads as it did. -/
def fnExactDoublePowerUptoRow : OpenClaim := { program := "ytdnmjmcdljmghaa", sum := "67b8ed0d9fd1612324b5172c3f32e3332f1fc12958396bd2d662d01fc8227fcb", func := "loop.example/g01124/laws.FnExactDoublePower", spec := "fnExactDoublePower", unfollowed := true, recurses := true, apart := false, narrowed := true }
def FnExactDoublePowerUptoSaid : Prop := fnExactDoublePowerUptoRow.holds Try.pinned (OpenSpec.upto fnExactDoublePowerSpec)

/-- 'laws.FnExactBasisProducts', WHERE WHAT IT READS IS OF BULK AT MOST 1048576: true; the input reads as it did. -/
def fnExactBasisProductsUptoRow : OpenClaim := { program := "ytdnmjmcdljmghaa", sum := "67b8ed0d9fd1612324b5172c3f32e3332f1fc12958396bd2d662d01fc8227fcb", func := "loop.example/g01124/laws.FnExactBasisProducts", spec := "fnExactBasisProducts", recurses := true, apart := false, narrowed := true }
def FnExactBasisProductsUptoSaid : Prop := fnExactBasisProductsUptoRow.holds Try.pinned (OpenSpec.upto fnExactBasisProductsSpec)

/-- 'laws.FnExactLeftMatrixOf', WHERE WHAT IT READS IS OF BULK AT MOST 1048576: true; the input reads as it did. -/
def fnExactLeftMatrixOfUptoRow : OpenClaim := { program := "ytdnmjmcdljmghaa", sum := "67b8ed0d9fd1612324b5172c3f32e3332f1fc12958396bd2d662d01fc8227fcb", func := "loop.example/g01124/laws.FnExactLeftMatrixOf", spec := "fnExactLeftMatrixOf", unfollowed := true, recurses := true, apart := false, narrowed := true }
def FnExactLeftMatrixOfUptoSaid : Prop := fnExactLeftMatrixOfUptoRow.holds Try.pinned (OpenSpec.upto fnExactLeftMatrixOfSpec)

/-- 'laws.FnExactRightMatrixOf', WHERE WHAT IT READS IS OF BULK AT MOST 1048576: true; the input reads as it did. -/
def fnExactRightMatrixOfUptoRow : OpenClaim := { program := "ytdnmjmcdljmghaa", sum := "67b8ed0d9fd1612324b5172c3f32e3332f1fc12958396bd2d662d01fc8227fcb", func := "loop.example/g01124/laws.FnExactRightMatrixOf", spec := "fnExactRightMatrixOf", unfollowed := true, recurses := true, apart := false, narrowed := true }
def FnExactRightMatrixOfUptoSaid : Prop := fnExactRightMatrixOfUptoRow.holds Try.pinned (OpenSpec.upto fnExactRightMatrixOfSpec)

end Rows
end Go.Proofs.Ytdnmjmcdljmghaa
