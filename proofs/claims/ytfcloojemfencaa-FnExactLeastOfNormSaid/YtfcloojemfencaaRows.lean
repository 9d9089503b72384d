/-
  No cell of these rows narrows 'for every input' (looked for: loops, veiled, ifaces, maps, wideKeys, modest, calm, conditions, laid).
  DERIVED. THE GIVEN ROWS OF THIS SEAT. 11 by the template 'for every input the law returns true; each argument reads behind the call as it read before'; 0 by the template 'total and deterministic' (their statements: YtfcloojemfencaaTotals.lean).
  GIVEN WITH THE SEED: the statements are not yours to turn. If you find one false, say at which input.
  Laid BY PROGRAM, IN A SANDBOX (cutbox-rows.mjs): the forced cells as the released guide's own fill.sh prints them over the translation b8846305cdea685f… (all of the seat's roots in one cut). By AI agents, Wed Nov 11 2026. No macro, syntax, notation, axiom, sorry.
-/
import Derived.Test.YtfcloojemfencaaChecked
import GoSem.Claim
import GoSem.ClaimJoined
import GoSem.ClaimMapViews
import Derived.JoinedTies
import Derived.KernelRfl
namespace Go.Proofs.Ytfcloojemfencaa
/- THE CELL 'sum', in the pinned program and in every row, IS THE sha256 OF THE DUMP (.gsa) THAT YtfcloojemfencaaProg.lean LOADS. Nothing in Lean hashes anything: it is a label: what it is worth is what the hold of that sum in a sandbox is worth. -/
noncomputable def Try.pinned : Pinned := { name := "ytfcloojemfencaa", sum := "b8846305cdea685f5b710448965a3b3ea63fd9559444ed73cdb5b70ffd6c5e8f", checked := Try.checked }
namespace Rows
def none {H : Type} : Left H := { results := [], args := [] }

/-- 'laws.FnExactCountOfNorm': WHATEVER THE INPUT: true; the input reads as it did. -/
def fnExactCountOfNormSpec : ChangeSpec := { name := "fnExactCountOfNorm", fn := fun _ => fun
  | [d1, d2] => { results := [.lit (.bool true)], args := [d1, d2] }
  | _ => none }
def fnExactCountOfNormRow : OpenClaim := { program := "ytfcloojemfencaa", sum := "b8846305cdea685f5b710448965a3b3ea63fd9559444ed73cdb5b70ffd6c5e8f", func := "loop.example/g01124/laws.FnExactCountOfNorm", spec := "fnExactCountOfNorm", recurses := true, apart := false }
def FnExactCountOfNormSaid : Prop := fnExactCountOfNormRow.holds Try.pinned (OpenSpec.ofChange fnExactCountOfNormSpec)

/-- ITS FALSE NEIGHBOUR: 'it returns false'. Refute it at one input. -/
def fnExactCountOfNormWrong : ChangeSpec := { name := "fnExactCountOfNorm", fn := fun _ => fun
  | [d1, d2] => { results := [.lit (.bool false)], args := [d1, d2] }
  | _ => none }
def FnExactCountOfNormWrongFalsely : Prop := fnExactCountOfNormRow.holds Try.pinned (OpenSpec.ofChange fnExactCountOfNormWrong)

/-- 'laws.FnExactLeastOfNorm': WHATEVER THE INPUT: true; the input reads as it did. -/
def fnExactLeastOfNormSpec : ChangeSpec := { name := "fnExactLeastOfNorm", fn := fun _ => fun
  | [d1, d2] => { results := [.lit (.bool true)], args := [d1, d2] }
  | _ => none }
def fnExactLeastOfNormRow : OpenClaim := { program := "ytfcloojemfencaa", sum := "b8846305cdea685f5b710448965a3b3ea63fd9559444ed73cdb5b70ffd6c5e8f", func := "loop.example/g01124/laws.FnExactLeastOfNorm", spec := "fnExactLeastOfNorm", recurses := true, apart := false }
def FnExactLeastOfNormSaid : Prop := fnExactLeastOfNormRow.holds Try.pinned (OpenSpec.ofChange fnExactLeastOfNormSpec)

/-- ITS FALSE NEIGHBOUR: 'it returns false'. Refute it at one input. -/
def fnExactLeastOfNormWrong : ChangeSpec := { name := "fnExactLeastOfNorm", fn := fun _ => fun
  | [d1, d2] => { results := [.lit (.bool false)], args := [d1, d2] }
  | _ => none }
def FnExactLeastOfNormWrongFalsely : Prop := fnExactLeastOfNormRow.holds Try.pinned (OpenSpec.ofChange fnExactLeastOfNormWrong)

/-- 'laws.FnExactIsAssociativeOn': WHATEVER THE INPUT: true; the input reads as it did. -/
def fnExactIsAssociativeOnSpec : ChangeSpec := { name := "fnExactIsAssociativeOn", fn := fun _ => fun
  | [d1, d2] => { results := [.lit (.bool true)], args := [d1, d2] }
  | _ => none }
def fnExactIsAssociativeOnRow : OpenClaim := { program := "ytfcloojemfencaa", sum := "b8846305cdea685f5b710448965a3b3ea63fd9559444ed73cdb5b70ffd6c5e8f", func := "loop.example/g01124/laws.FnExactIsAssociativeOn", spec := "fnExactIsAssociativeOn", unfollowed := true, recurses := true, apart := false }
def FnExactIsAssociativeOnSaid : Prop := fnExactIsAssociativeOnRow.holds Try.pinned (OpenSpec.ofChange fnExactIsAssociativeOnSpec)

/-- ITS FALSE NEIGHBOUR: 'it returns false'. Refute it at one input. -/
def fnExactIsAssociativeOnWrong : ChangeSpec := { name := "fnExactIsAssociativeOn", fn := fun _ => fun
  | [d1, d2] => { results := [.lit (.bool false)], args := [d1, d2] }
  | _ => none }
def FnExactIsAssociativeOnWrongFalsely : Prop := fnExactIsAssociativeOnRow.holds Try.pinned (OpenSpec.ofChange fnExactIsAssociativeOnWrong)

/-- 'laws.FnExactSubalgebraFrom': WHATEVER THE INPUT: true; the input reads as it did. -/
def fnExactSubalgebraFromSpec : ChangeSpec := { name := "fnExactSubalgebraFrom", fn := fun _ => fun
  | [d1, d2] => { results := [.lit (.bool true)], args := [d1, d2] }
  | _ => none }
def fnExactSubalgebraFromRow : OpenClaim := { program := "ytfcloojemfencaa", sum := "b8846305cdea685f5b710448965a3b3ea63fd9559444ed73cdb5b70ffd6c5e8f", func := "loop.example/g01124/laws.FnExactSubalgebraFrom", spec := "fnExactSubalgebraFrom", unfollowed := true, recurses := true, apart := false }
def FnExactSubalgebraFromSaid : Prop := fnExactSubalgebraFromRow.holds Try.pinned (OpenSpec.ofChange fnExactSubalgebraFromSpec)

/-- ITS FALSE NEIGHBOUR: 'it returns false'. Refute it at one input. -/
def fnExactSubalgebraFromWrong : ChangeSpec := { name := "fnExactSubalgebraFrom", fn := fun _ => fun
  | [d1, d2] => { results := [.lit (.bool false)], args := [d1, d2] }
  | _ => none }
def FnExactSubalgebraFromWrongFalsely : Prop := fnExactSubalgebraFromRow.holds Try.pinned (OpenSpec.ofChange fnExactSubalgebraFromWrong)

/-- 'laws.FnExactNucleusOf': WHATEVER THE INPUT: true; the input reads as it did. -/
def fnExactNucleusOfSpec : ChangeSpec := { name := "fnExactNucleusOf", fn := fun _ => fun
  | [d] => { results := [.lit (.bool true)], args := [d] }
  | _ => none }
def fnExactNucleusOfRow : OpenClaim := { program := "ytfcloojemfencaa", sum := "b8846305cdea685f5b710448965a3b3ea63fd9559444ed73cdb5b70ffd6c5e8f", func := "loop.example/g01124/laws.FnExactNucleusOf", spec := "fnExactNucleusOf", unfollowed := true, recurses := true, apart := false }
def FnExactNucleusOfSaid : Prop := fnExactNucleusOfRow.holds Try.pinned (OpenSpec.ofChange fnExactNucleusOfSpec)

/-- ITS FALSE NEIGHBOUR: 'it returns false'. Refute it at one input. -/
def fnExactNucleusOfWrong : ChangeSpec := { name := "fnExactNucleusOf", fn := fun _ => fun
  | [d] => { results := [.lit (.bool false)], args := [d] }
  | _ => none }
def FnExactNucleusOfWrongFalsely : Prop := fnExactNucleusOfRow.holds Try.pinned (OpenSpec.ofChange fnExactNucleusOfWrong)

/-- 'laws.FnExactAnnihilatorOf': WHATEVER THE INPUT: true; the input reads as it did. -/
def fnExactAnnihilatorOfSpec : ChangeSpec := { name := "fnExactAnnihilatorOf", fn := fun _ => fun
  | [d1, d2] => { results := [.lit (.bool true)], args := [d1, d2] }
  | _ => none }
def fnExactAnnihilatorOfRow : OpenClaim := { program := "ytfcloojemfencaa", sum := "b8846305cdea685f5b710448965a3b3ea63fd9559444ed73cdb5b70ffd6c5e8f", func := "loop.example/g01124/laws.FnExactAnnihilatorOf", spec := "fnExactAnnihilatorOf", unfollowed := true, recurses := true, apart := false }
def FnExactAnnihilatorOfSaid : Prop := fnExactAnnihilatorOfRow.holds Try.pinned (OpenSpec.ofChange fnExactAnnihilatorOfSpec)

/-- ITS FALSE NEIGHBOUR: 'it returns false'. Refute it at one input. -/
def fnExactAnnihilatorOfWrong : ChangeSpec := { name := "fnExactAnnihilatorOf", fn := fun _ => fun
  | [d1, d2] => { results := [.lit (.bool false)], args := [d1, d2] }
  | _ => none }
def FnExactAnnihilatorOfWrongFalsely : Prop := fnExactAnnihilatorOfRow.holds Try.pinned (OpenSpec.ofChange fnExactAnnihilatorOfWrong)

/-- 'laws.FnExactCentreOfDoubling': WHATEVER THE INPUT: true; the input reads as it did. -/
def fnExactCentreOfDoublingSpec : ChangeSpec := { name := "fnExactCentreOfDoubling", fn := fun _ => fun
  | [d] => { results := [.lit (.bool true)], args := [d] }
  | _ => none }
def fnExactCentreOfDoublingRow : OpenClaim := { program := "ytfcloojemfencaa", sum := "b8846305cdea685f5b710448965a3b3ea63fd9559444ed73cdb5b70ffd6c5e8f", func := "loop.example/g01124/laws.FnExactCentreOfDoubling", spec := "fnExactCentreOfDoubling", unfollowed := true, recurses := true, apart := false }
def FnExactCentreOfDoublingSaid : Prop := fnExactCentreOfDoublingRow.holds Try.pinned (OpenSpec.ofChange fnExactCentreOfDoublingSpec)

/-- ITS FALSE NEIGHBOUR: 'it returns false'. Refute it at one input. -/
def fnExactCentreOfDoublingWrong : ChangeSpec := { name := "fnExactCentreOfDoubling", fn := fun _ => fun
  | [d] => { results := [.lit (.bool false)], args := [d] }
  | _ => none }
def FnExactCentreOfDoublingWrongFalsely : Prop := fnExactCentreOfDoublingRow.holds Try.pinned (OpenSpec.ofChange fnExactCentreOfDoublingWrong)

/-- 'laws.FnNormCounts': WHATEVER THE INPUT: true; the input reads as it did. -/
def fnNormCountsSpec : ChangeSpec := { name := "fnNormCounts", fn := fun _ => fun
  | [d] => { results := [.lit (.bool true)], args := [d] }
  | _ => none }
def fnNormCountsRow : OpenClaim := { program := "ytfcloojemfencaa", sum := "b8846305cdea685f5b710448965a3b3ea63fd9559444ed73cdb5b70ffd6c5e8f", func := "loop.example/g01124/laws.FnNormCounts", spec := "fnNormCounts", unfollowed := true, recurses := true, apart := false }
def FnNormCountsSaid : Prop := fnNormCountsRow.holds Try.pinned (OpenSpec.ofChange fnNormCountsSpec)

/-- ITS FALSE NEIGHBOUR: 'it returns false'. Refute it at one input. -/
def fnNormCountsWrong : ChangeSpec := { name := "fnNormCounts", fn := fun _ => fun
  | [d] => { results := [.lit (.bool false)], args := [d] }
  | _ => none }
def FnNormCountsWrongFalsely : Prop := fnNormCountsRow.holds Try.pinned (OpenSpec.ofChange fnNormCountsWrong)

/-- 'laws.FnDoublingKinds': WHATEVER THE INPUT: true; the input reads as it did. -/
def fnDoublingKindsSpec : ChangeSpec := { name := "fnDoublingKinds", fn := fun _ => fun
  | [d] => { results := [.lit (.bool true)], args := [d] }
  | _ => none }
def fnDoublingKindsRow : OpenClaim := { program := "ytfcloojemfencaa", sum := "b8846305cdea685f5b710448965a3b3ea63fd9559444ed73cdb5b70ffd6c5e8f", func := "loop.example/g01124/laws.FnDoublingKinds", spec := "fnDoublingKinds", unfollowed := true, recurses := true, apart := false }
def FnDoublingKindsSaid : Prop := fnDoublingKindsRow.holds Try.pinned (OpenSpec.ofChange fnDoublingKindsSpec)

/-- ITS FALSE NEIGHBOUR: 'it returns false'. Refute it at one input. -/
def fnDoublingKindsWrong : ChangeSpec := { name := "fnDoublingKinds", fn := fun _ => fun
  | [d] => { results := [.lit (.bool false)], args := [d] }
  | _ => none }
def FnDoublingKindsWrongFalsely : Prop := fnDoublingKindsRow.holds Try.pinned (OpenSpec.ofChange fnDoublingKindsWrong)

/-- 'laws.FnDoublings': WHATEVER THE INPUT: true; the input reads as it did. -/
def fnDoublingsSpec : ChangeSpec := { name := "fnDoublings", fn := fun _ => fun
  | [d] => { results := [.lit (.bool true)], args := [d] }
  | _ => none }
def fnDoublingsRow : OpenClaim := { program := "ytfcloojemfencaa", sum := "b8846305cdea685f5b710448965a3b3ea63fd9559444ed73cdb5b70ffd6c5e8f", func := "loop.example/g01124/laws.FnDoublings", spec := "fnDoublings", unfollowed := true, recurses := true, apart := false }
def FnDoublingsSaid : Prop := fnDoublingsRow.holds Try.pinned (OpenSpec.ofChange fnDoublingsSpec)

/-- ITS FALSE NEIGHBOUR: 'it returns false'. Refute it at one input. -/
def fnDoublingsWrong : ChangeSpec := { name := "fnDoublings", fn := fun _ => fun
  | [d] => { results := [.lit (.bool false)], args := [d] }
  | _ => none }
def FnDoublingsWrongFalsely : Prop := fnDoublingsRow.holds Try.pinned (OpenSpec.ofChange fnDoublingsWrong)

/-- 'laws.FnComposition': WHATEVER THE INPUT: true; the input reads as it did. -/
def fnCompositionSpec : ChangeSpec := { name := "fnComposition", fn := fun _ => fun
  | [d] => { results := [.lit (.bool true)], args := [d] }
  | _ => none }
def fnCompositionRow : OpenClaim := { program := "ytfcloojemfencaa", sum := "b8846305cdea685f5b710448965a3b3ea63fd9559444ed73cdb5b70ffd6c5e8f", func := "loop.example/g01124/laws.FnComposition", spec := "fnComposition", unfollowed := true, recurses := true, apart := false }
def FnCompositionSaid : Prop := fnCompositionRow.holds Try.pinned (OpenSpec.ofChange fnCompositionSpec)

/-- ITS FALSE NEIGHBOUR: 'it returns false'. Refute it at one input. -/
def fnCompositionWrong : ChangeSpec := { name := "fnComposition", fn := fun _ => fun
  | [d] => { results := [.lit (.bool false)], args := [d] }
  | _ => none }
def FnCompositionWrongFalsely : Prop := fnCompositionRow.holds Try.pinned (OpenSpec.ofChange fnCompositionWrong)

/- THE SECOND FORM. 'bulk': how many values and letters a reading holds, each counted each time it is reached (what is shared counts as often as it is met; a slice's spare places count too). A statement '..UptoSaid' is the law's where the arguments, and the package variables that the reading takes, are together of bulk at most 1048576: NARROWER than '..Said'. Prove '..Said' where nothing that the law and all that it calls make is longer than what came in: it says more and counts as full. Else prove '..UptoSaid'. A law counts once. -/
mutual
def uptoBulk {H : Type} : DataW H → Nat
  | .lit (.string bytes) => bytes.length + 1
  | .lit _ => 1
  | .nil => 1
  | .ptr d => uptoBulk d + 1
  | .slice elems spare => uptoBulkAll elems + uptoBulkAll spare + 1
  | .agg parts => uptoBulkAll parts + 1
  | .iface _ d => uptoBulk d + 1
  | .map entries => uptoBulkEntries entries + 1
  | .held _ => 1
def uptoBulkAll {H : Type} : List (DataW H) → Nat
  | [] => 0
  | d :: r => uptoBulk d + uptoBulkAll r
def uptoBulkEntries {H : Type} : List (Lit × DataW H) → Nat
  | [] => 0
  | x :: r => uptoBulkEntry x + uptoBulkEntries r
def uptoBulkEntry {H : Type} : Lit × DataW H → Nat
  | (.string bytes, d) => bytes.length + uptoBulk d + 1
  | (_, d) => uptoBulk d + 1
 end
def uptoSmall : (H : Type) → List (DataW H) → Bool := fun _ ds => decide (uptoBulkAll ds ≤ 1048576)
def OpenSpec.upto (s : _root_.Go.ChangeSpec) : _root_.Go.OpenSpec := { _root_.Go.OpenSpec.ofChange s with cond := some uptoSmall }

/-- 'laws.FnExactCountOfNorm', WHERE WHAT IT READS IS OF BULK AT MOST 1048576: true; the input reads as it did. -/
def fnExactCountOfNormUptoRow : OpenClaim := { program := "ytfcloojemfencaa", sum := "b8846305cdea685f5b710448965a3b3ea63fd9559444ed73cdb5b70ffd6c5e8f", func := "loop.example/g01124/laws.FnExactCountOfNorm", spec := "fnExactCountOfNorm", recurses := true, apart := false, narrowed := true }
def FnExactCountOfNormUptoSaid : Prop := fnExactCountOfNormUptoRow.holds Try.pinned (OpenSpec.upto fnExactCountOfNormSpec)

/-- 'laws.FnExactLeastOfNorm', WHERE WHAT IT READS IS OF BULK AT MOST 1048576: true; the input reads as it did. -/
def fnExactLeastOfNormUptoRow : OpenClaim := { program := "ytfcloojemfencaa", sum := "b8846305cdea685f5b710448965a3b3ea63fd9559444ed73cdb5b70ffd6c5e8f", func := "loop.example/g01124/laws.FnExactLeastOfNorm", spec := "fnExactLeastOfNorm", recurses := true, apart := false, narrowed := true }
def FnExactLeastOfNormUptoSaid : Prop := fnExactLeastOfNormUptoRow.holds Try.pinned (OpenSpec.upto fnExactLeastOfNormSpec)

/-- 'laws.FnExactIsAssociativeOn', WHERE WHAT IT READS IS OF BULK AT MOST 1048576: true; the input reads as it did. -/
def fnExactIsAssociativeOnUptoRow : OpenClaim := { program := "ytfcloojemfencaa", sum := "b8846305cdea685f5b710448965a3b3ea63fd9559444ed73cdb5b70ffd6c5e8f", func := "loop.example/g01124/laws.FnExactIsAssociativeOn", spec := "fnExactIsAssociativeOn", unfollowed := true, recurses := true, apart := false, narrowed := true }
def FnExactIsAssociativeOnUptoSaid : Prop := fnExactIsAssociativeOnUptoRow.holds Try.pinned (OpenSpec.upto fnExactIsAssociativeOnSpec)

/-- 'laws.FnExactSubalgebraFrom', WHERE WHAT IT READS IS OF BULK AT MOST 1048576: true; the input reads as it did. -/
def fnExactSubalgebraFromUptoRow : OpenClaim := { program := "ytfcloojemfencaa", sum := "b8846305cdea685f5b710448965a3b3ea63fd9559444ed73cdb5b70ffd6c5e8f", func := "loop.example/g01124/laws.FnExactSubalgebraFrom", spec := "fnExactSubalgebraFrom", unfollowed := true, recurses := true, apart := false, narrowed := true }
def FnExactSubalgebraFromUptoSaid : Prop := fnExactSubalgebraFromUptoRow.holds Try.pinned (OpenSpec.upto fnExactSubalgebraFromSpec)

/-- 'laws.FnExactNucleusOf', WHERE WHAT IT READS IS OF BULK AT MOST 1048576: true; the input reads as it did. -/
def fnExactNucleusOfUptoRow : OpenClaim := { program := "ytfcloojemfencaa", sum := "b8846305cdea685f5b710448965a3b3ea63fd9559444ed73cdb5b70ffd6c5e8f", func := "loop.example/g01124/laws.FnExactNucleusOf", spec := "fnExactNucleusOf", unfollowed := true, recurses := true, apart := false, narrowed := true }
def FnExactNucleusOfUptoSaid : Prop := fnExactNucleusOfUptoRow.holds Try.pinned (OpenSpec.upto fnExactNucleusOfSpec)

/-- 'laws.FnExactAnnihilatorOf', WHERE WHAT IT READS IS OF BULK AT MOST 1048576: true; the input reads as it did. -/
def fnExactAnnihilatorOfUptoRow : OpenClaim := { program := "ytfcloojemfencaa", sum := "b8846305cdea685f5b710448965a3b3ea63fd9559444ed73cdb5b70ffd6c5e8f", func := "loop.example/g01124/laws.FnExactAnnihilatorOf", spec := "fnExactAnnihilatorOf", unfollowed := true, recurses := true, apart := false, narrowed := true }
def FnExactAnnihilatorOfUptoSaid : Prop := fnExactAnnihilatorOfUptoRow.holds Try.pinned (OpenSpec.upto fnExactAnnihilatorOfSpec)

/-- 'laws.FnExactCentreOfDoubling', WHERE WHAT IT READS IS OF BULK AT MOST 1048576: true; the input reads as it did. -/
def fnExactCentreOfDoublingUptoRow : OpenClaim := { program := "ytfcloojemfencaa", sum := "b8846305cdea685f5b710448965a3b3ea63fd9559444ed73cdb5b70ffd6c5e8f", func := "loop.example/g01124/laws.FnExactCentreOfDoubling", spec := "fnExactCentreOfDoubling", unfollowed := true, recurses := true, apart := false, narrowed := true }
def FnExactCentreOfDoublingUptoSaid : Prop := fnExactCentreOfDoublingUptoRow.holds Try.pinned (OpenSpec.upto fnExactCentreOfDoublingSpec)

/-- 'laws.FnNormCounts', WHERE WHAT IT READS IS OF BULK AT MOST 1048576: true; the input reads as it did. -/
def fnNormCountsUptoRow : OpenClaim := { program := "ytfcloojemfencaa", sum := "b8846305cdea685f5b710448965a3b3ea63fd9559444ed73cdb5b70ffd6c5e8f", func := "loop.example/g01124/laws.FnNormCounts", spec := "fnNormCounts", unfollowed := true, recurses := true, apart := false, narrowed := true }
def FnNormCountsUptoSaid : Prop := fnNormCountsUptoRow.holds Try.pinned (OpenSpec.upto fnNormCountsSpec)

/-- 'laws.FnDoublingKinds', WHERE WHAT IT READS IS OF BULK AT MOST 1048576: true; the input reads as it did. -/
def fnDoublingKindsUptoRow : OpenClaim := { program := "ytfcloojemfencaa", sum := "b8846305cdea685f5b710448965a3b3ea63fd9559444ed73cdb5b70ffd6c5e8f", func := "loop.example/g01124/laws.FnDoublingKinds", spec := "fnDoublingKinds", unfollowed := true, recurses := true, apart := false, narrowed := true }
def FnDoublingKindsUptoSaid : Prop := fnDoublingKindsUptoRow.holds Try.pinned (OpenSpec.upto fnDoublingKindsSpec)

/-- 'laws.FnDoublings', WHERE WHAT IT READS IS OF BULK AT MOST 1048576: true; the input reads as it did. -/
def fnDoublingsUptoRow : OpenClaim := { program := "ytfcloojemfencaa", sum := "b8846305cdea685f5b710448965a3b3ea63fd9559444ed73cdb5b70ffd6c5e8f", func := "loop.example/g01124/laws.FnDoublings", spec := "fnDoublings", unfollowed := true, recurses := true, apart := false, narrowed := true }
def FnDoublingsUptoSaid : Prop := fnDoublingsUptoRow.holds Try.pinned (OpenSpec.upto fnDoublingsSpec)

/-- 'laws.FnComposition', WHERE WHAT IT READS IS OF BULK AT MOST 1048576: true; the input reads as it did. -/
def fnCompositionUptoRow : OpenClaim := { program := "ytfcloojemfencaa", sum := "b8846305cdea685f5b710448965a3b3ea63fd9559444ed73cdb5b70ffd6c5e8f", func := "loop.example/g01124/laws.FnComposition", spec := "fnComposition", unfollowed := true, recurses := true, apart := false, narrowed := true }
def FnCompositionUptoSaid : Prop := fnCompositionUptoRow.holds Try.pinned (OpenSpec.upto fnCompositionSpec)

end Rows
end Go.Proofs.Ytfcloojemfencaa
