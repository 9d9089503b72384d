/-
  No cell of these rows narrows 'for every input' (looked for: loops, veiled, ifaces, maps, wideKeys, modest, calm, conditions, laid).
  DERIVED. THE GIVEN ROWS OF THIS SEAT. 9 by the template 'for every input the law returns true; each argument reads behind the call as it read before'; 0 by the template 'total and deterministic' (their statements: YtejjefjpjaeljaaTotals.lean).
  GIVEN WITH THE SEED: the statements are not yours to turn. If you find one false, say at which input.
  Laid BY PROGRAM, IN A SANDBOX (cutbox-rows.mjs): the forced cells as the released guide's own fill.sh prints them over the translation 04e53efff8738687… (all of the seat's roots in one cut). By AI agents, Wed Nov 11 2026. No macro, syntax, notation, axiom, sorry.
-/
import Derived.Test.YtejjefjpjaeljaaChecked
import GoSem.Claim
import GoSem.ClaimJoined
import GoSem.ClaimMapViews
import Derived.JoinedTies
import Derived.KernelRfl
namespace Go.Proofs.Ytejjefjpjaeljaa
/- THE CELL 'sum', in the pinned program and in every row, IS THE sha256 OF THE DUMP (.gsa) THAT YtejjefjpjaeljaaProg.lean LOADS. Nothing in Lean hashes anything: it is a label: what it is worth is what the hold of that sum in a sandbox is worth. -/
noncomputable def Try.pinned : Pinned := { name := "ytejjefjpjaeljaa", sum := "04e53efff8738687fc7c7f0996b5aebae668ea1026338e7ad890ec47f43edd37", checked := Try.checked }
namespace Rows
def none {H : Type} : Left H := { results := [], args := [] }

/-- 'laws.FnExactIsLoop': WHATEVER THE INPUT: true; the input reads as it did. -/
def fnExactIsLoopSpec : ChangeSpec := { name := "fnExactIsLoop", fn := fun _ => fun
  | [d] => { results := [.lit (.bool true)], args := [d] }
  | _ => none }
def fnExactIsLoopRow : OpenClaim := { program := "ytejjefjpjaeljaa", sum := "04e53efff8738687fc7c7f0996b5aebae668ea1026338e7ad890ec47f43edd37", func := "loop.example/g01124/laws.FnExactIsLoop", spec := "fnExactIsLoop", unfollowed := true, recurses := true, apart := false }
def FnExactIsLoopSaid : Prop := fnExactIsLoopRow.holds Try.pinned (OpenSpec.ofChange fnExactIsLoopSpec)

/-- ITS FALSE NEIGHBOUR: 'it returns false'. Refute it at one input. -/
def fnExactIsLoopWrong : ChangeSpec := { name := "fnExactIsLoop", fn := fun _ => fun
  | [d] => { results := [.lit (.bool false)], args := [d] }
  | _ => none }
def FnExactIsLoopWrongFalsely : Prop := fnExactIsLoopRow.holds Try.pinned (OpenSpec.ofChange fnExactIsLoopWrong)

/-- 'laws.FnExactCountCommuting': WHATEVER THE INPUT: true; the input reads as it did. -/
def fnExactCountCommutingSpec : ChangeSpec := { name := "fnExactCountCommuting", fn := fun _ => fun
  | [d] => { results := [.lit (.bool true)], args := [d] }
  | _ => none }
def fnExactCountCommutingRow : OpenClaim := { program := "ytejjefjpjaeljaa", sum := "04e53efff8738687fc7c7f0996b5aebae668ea1026338e7ad890ec47f43edd37", func := "loop.example/g01124/laws.FnExactCountCommuting", spec := "fnExactCountCommuting", unfollowed := true, recurses := true, apart := false }
def FnExactCountCommutingSaid : Prop := fnExactCountCommutingRow.holds Try.pinned (OpenSpec.ofChange fnExactCountCommutingSpec)

/-- ITS FALSE NEIGHBOUR: 'it returns false'. Refute it at one input. -/
def fnExactCountCommutingWrong : ChangeSpec := { name := "fnExactCountCommuting", fn := fun _ => fun
  | [d] => { results := [.lit (.bool false)], args := [d] }
  | _ => none }
def FnExactCountCommutingWrongFalsely : Prop := fnExactCountCommutingRow.holds Try.pinned (OpenSpec.ofChange fnExactCountCommutingWrong)

/-- 'laws.FnExactIsMoufangLoop': WHATEVER THE INPUT: true; the input reads as it did. -/
def fnExactIsMoufangLoopSpec : ChangeSpec := { name := "fnExactIsMoufangLoop", fn := fun _ => fun
  | [d] => { results := [.lit (.bool true)], args := [d] }
  | _ => none }
def fnExactIsMoufangLoopRow : OpenClaim := { program := "ytejjefjpjaeljaa", sum := "04e53efff8738687fc7c7f0996b5aebae668ea1026338e7ad890ec47f43edd37", func := "loop.example/g01124/laws.FnExactIsMoufangLoop", spec := "fnExactIsMoufangLoop", unfollowed := true, recurses := true, apart := false }
def FnExactIsMoufangLoopSaid : Prop := fnExactIsMoufangLoopRow.holds Try.pinned (OpenSpec.ofChange fnExactIsMoufangLoopSpec)

/-- ITS FALSE NEIGHBOUR: 'it returns false'. Refute it at one input. -/
def fnExactIsMoufangLoopWrong : ChangeSpec := { name := "fnExactIsMoufangLoop", fn := fun _ => fun
  | [d] => { results := [.lit (.bool false)], args := [d] }
  | _ => none }
def FnExactIsMoufangLoopWrongFalsely : Prop := fnExactIsMoufangLoopRow.holds Try.pinned (OpenSpec.ofChange fnExactIsMoufangLoopWrong)

/-- 'laws.FnExactLoopOrder': WHATEVER THE INPUT: true; the input reads as it did. -/
def fnExactLoopOrderSpec : ChangeSpec := { name := "fnExactLoopOrder", fn := fun _ => fun
  | [d1, d2] => { results := [.lit (.bool true)], args := [d1, d2] }
  | _ => none }
def fnExactLoopOrderRow : OpenClaim := { program := "ytejjefjpjaeljaa", sum := "04e53efff8738687fc7c7f0996b5aebae668ea1026338e7ad890ec47f43edd37", func := "loop.example/g01124/laws.FnExactLoopOrder", spec := "fnExactLoopOrder", unfollowed := true, recurses := true, apart := false }
def FnExactLoopOrderSaid : Prop := fnExactLoopOrderRow.holds Try.pinned (OpenSpec.ofChange fnExactLoopOrderSpec)

/-- ITS FALSE NEIGHBOUR: 'it returns false'. Refute it at one input. -/
def fnExactLoopOrderWrong : ChangeSpec := { name := "fnExactLoopOrder", fn := fun _ => fun
  | [d1, d2] => { results := [.lit (.bool false)], args := [d1, d2] }
  | _ => none }
def FnExactLoopOrderWrongFalsely : Prop := fnExactLoopOrderRow.holds Try.pinned (OpenSpec.ofChange fnExactLoopOrderWrong)

/-- 'laws.FnExactLoopInverse': WHATEVER THE INPUT: true; the input reads as it did. -/
def fnExactLoopInverseSpec : ChangeSpec := { name := "fnExactLoopInverse", fn := fun _ => fun
  | [d1, d2] => { results := [.lit (.bool true)], args := [d1, d2] }
  | _ => none }
def fnExactLoopInverseRow : OpenClaim := { program := "ytejjefjpjaeljaa", sum := "04e53efff8738687fc7c7f0996b5aebae668ea1026338e7ad890ec47f43edd37", func := "loop.example/g01124/laws.FnExactLoopInverse", spec := "fnExactLoopInverse", unfollowed := true, recurses := true, apart := false }
def FnExactLoopInverseSaid : Prop := fnExactLoopInverseRow.holds Try.pinned (OpenSpec.ofChange fnExactLoopInverseSpec)

/-- ITS FALSE NEIGHBOUR: 'it returns false'. Refute it at one input. -/
def fnExactLoopInverseWrong : ChangeSpec := { name := "fnExactLoopInverse", fn := fun _ => fun
  | [d1, d2] => { results := [.lit (.bool false)], args := [d1, d2] }
  | _ => none }
def FnExactLoopInverseWrongFalsely : Prop := fnExactLoopInverseRow.holds Try.pinned (OpenSpec.ofChange fnExactLoopInverseWrong)

/-- 'laws.FnExactIsAssociativeLoop': WHATEVER THE INPUT: true; the input reads as it did. -/
def fnExactIsAssociativeLoopSpec : ChangeSpec := { name := "fnExactIsAssociativeLoop", fn := fun _ => fun
  | [d] => { results := [.lit (.bool true)], args := [d] }
  | _ => none }
def fnExactIsAssociativeLoopRow : OpenClaim := { program := "ytejjefjpjaeljaa", sum := "04e53efff8738687fc7c7f0996b5aebae668ea1026338e7ad890ec47f43edd37", func := "loop.example/g01124/laws.FnExactIsAssociativeLoop", spec := "fnExactIsAssociativeLoop", unfollowed := true, recurses := true, apart := false }
def FnExactIsAssociativeLoopSaid : Prop := fnExactIsAssociativeLoopRow.holds Try.pinned (OpenSpec.ofChange fnExactIsAssociativeLoopSpec)

/-- ITS FALSE NEIGHBOUR: 'it returns false'. Refute it at one input. -/
def fnExactIsAssociativeLoopWrong : ChangeSpec := { name := "fnExactIsAssociativeLoop", fn := fun _ => fun
  | [d] => { results := [.lit (.bool false)], args := [d] }
  | _ => none }
def FnExactIsAssociativeLoopWrongFalsely : Prop := fnExactIsAssociativeLoopRow.holds Try.pinned (OpenSpec.ofChange fnExactIsAssociativeLoopWrong)

/-- 'laws.FnExactCountAssociating': WHATEVER THE INPUT: true; the input reads as it did. -/
def fnExactCountAssociatingSpec : ChangeSpec := { name := "fnExactCountAssociating", fn := fun _ => fun
  | [d] => { results := [.lit (.bool true)], args := [d] }
  | _ => none }
def fnExactCountAssociatingRow : OpenClaim := { program := "ytejjefjpjaeljaa", sum := "04e53efff8738687fc7c7f0996b5aebae668ea1026338e7ad890ec47f43edd37", func := "loop.example/g01124/laws.FnExactCountAssociating", spec := "fnExactCountAssociating", unfollowed := true, recurses := true, apart := false }
def FnExactCountAssociatingSaid : Prop := fnExactCountAssociatingRow.holds Try.pinned (OpenSpec.ofChange fnExactCountAssociatingSpec)

/-- ITS FALSE NEIGHBOUR: 'it returns false'. Refute it at one input. -/
def fnExactCountAssociatingWrong : ChangeSpec := { name := "fnExactCountAssociating", fn := fun _ => fun
  | [d] => { results := [.lit (.bool false)], args := [d] }
  | _ => none }
def FnExactCountAssociatingWrongFalsely : Prop := fnExactCountAssociatingRow.holds Try.pinned (OpenSpec.ofChange fnExactCountAssociatingWrong)

/-- 'laws.FnExactIsCommutativeLoop': WHATEVER THE INPUT: true; the input reads as it did. -/
def fnExactIsCommutativeLoopSpec : ChangeSpec := { name := "fnExactIsCommutativeLoop", fn := fun _ => fun
  | [d] => { results := [.lit (.bool true)], args := [d] }
  | _ => none }
def fnExactIsCommutativeLoopRow : OpenClaim := { program := "ytejjefjpjaeljaa", sum := "04e53efff8738687fc7c7f0996b5aebae668ea1026338e7ad890ec47f43edd37", func := "loop.example/g01124/laws.FnExactIsCommutativeLoop", spec := "fnExactIsCommutativeLoop", unfollowed := true, recurses := true, apart := false }
def FnExactIsCommutativeLoopSaid : Prop := fnExactIsCommutativeLoopRow.holds Try.pinned (OpenSpec.ofChange fnExactIsCommutativeLoopSpec)

/-- ITS FALSE NEIGHBOUR: 'it returns false'. Refute it at one input. -/
def fnExactIsCommutativeLoopWrong : ChangeSpec := { name := "fnExactIsCommutativeLoop", fn := fun _ => fun
  | [d] => { results := [.lit (.bool false)], args := [d] }
  | _ => none }
def FnExactIsCommutativeLoopWrongFalsely : Prop := fnExactIsCommutativeLoopRow.holds Try.pinned (OpenSpec.ofChange fnExactIsCommutativeLoopWrong)

/-- 'laws.FnExactLoopNucleus': WHATEVER THE INPUT: true; the input reads as it did. -/
def fnExactLoopNucleusSpec : ChangeSpec := { name := "fnExactLoopNucleus", fn := fun _ => fun
  | [d] => { results := [.lit (.bool true)], args := [d] }
  | _ => none }
def fnExactLoopNucleusRow : OpenClaim := { program := "ytejjefjpjaeljaa", sum := "04e53efff8738687fc7c7f0996b5aebae668ea1026338e7ad890ec47f43edd37", func := "loop.example/g01124/laws.FnExactLoopNucleus", spec := "fnExactLoopNucleus", unfollowed := true, recurses := true, apart := false }
def FnExactLoopNucleusSaid : Prop := fnExactLoopNucleusRow.holds Try.pinned (OpenSpec.ofChange fnExactLoopNucleusSpec)

/-- ITS FALSE NEIGHBOUR: 'it returns false'. Refute it at one input. -/
def fnExactLoopNucleusWrong : ChangeSpec := { name := "fnExactLoopNucleus", fn := fun _ => fun
  | [d] => { results := [.lit (.bool false)], args := [d] }
  | _ => none }
def FnExactLoopNucleusWrongFalsely : Prop := fnExactLoopNucleusRow.holds Try.pinned (OpenSpec.ofChange fnExactLoopNucleusWrong)

/- THE SECOND FORM. 'bulk': how many values and letters a reading holds, each counted each time it is reached (what is shared counts as often as it is met; a slice's spare places count too). A statement '..UptoSaid' is the law's where the arguments, and the package variables that the reading takes, are together of bulk at most 1048576: NARROWER than '..Said'. Prove '..Said' where nothing that the law and all that it calls make is longer than what came in: it says more and counts as full. Else prove '..UptoSaid'. A law counts once. -/
mutual
def uptoBulk {H : Type} : DataW H → Nat
  | .lit (.string bytes) => bytes.length + 1
  | .lit _ => 1
  | .nil => 1
  | .ptr d => uptoBulk d + 1
  | .slice elems spare => uptoBulkAll elems + uptoBulkAll spare + 1
  | .agg parts => uptoBulkAll parts + 1
  | .iface _ d => uptoBulk d + 1
  | .map entries => uptoBulkEntries entries + 1
  | .held _ => 1
def uptoBulkAll {H : Type} : List (DataW H) → Nat
  | [] => 0
  | d :: r => uptoBulk d + uptoBulkAll r
def uptoBulkEntries {H : Type} : List (Lit × DataW H) → Nat
  | [] => 0
  | x :: r => uptoBulkEntry x + uptoBulkEntries r
def uptoBulkEntry {H : Type} : Lit × DataW H → Nat
  | (.string bytes, d) => bytes.length + uptoBulk d + 1
  | (_, d) => uptoBulk d + 1
 end
def uptoSmall : (H : Type) → List (DataW H) → Bool := fun _ ds => decide (uptoBulkAll ds ≤ 1048576)
def OpenSpec.upto (s : _root_.Go.ChangeSpec) : _root_.Go.OpenSpec := { _root_.Go.OpenSpec.ofChange s with cond := some uptoSmall }

/-- 'laws.FnExactIsLoop', WHERE WHAT IT READS IS OF BULK AT MOST 1048576: true; the input reads as it did. -/
def fnExactIsLoopUptoRow : OpenClaim := { program := "ytejjefjpjaeljaa", sum := "04e53efff8738687fc7c7f0996b5aebae668ea1026338e7ad890ec47f43edd37", func := "loop.example/g01124/laws.FnExactIsLoop", spec := "fnExactIsLoop", unfollowed := true, recurses := true, apart := false, narrowed := true }
def FnExactIsLoopUptoSaid : Prop := fnExactIsLoopUptoRow.holds Try.pinned (OpenSpec.upto fnExactIsLoopSpec)

/-- 'laws.FnExactCountCommuting', WHERE WHAT IT READS IS OF BULK AT MOST 1048576: true; the input reads as it did. -/
def fnExactCountCommutingUptoRow : OpenClaim := { program := "ytejjefjpjaeljaa", sum := "04e53efff8738687fc7c7f0996b5aebae668ea1026338e7ad890ec47f43edd37", func := "loop.example/g01124/laws.FnExactCountCommuting", spec := "fnExactCountCommuting", unfollowed := true, recurses := true, apart := false, narrowed := true }
def FnExactCountCommutingUptoSaid : Prop := fnExactCountCommutingUptoRow.holds Try.pinned (OpenSpec.upto fnExactCountCommutingSpec)

/-- 'laws.FnExactIsMoufangLoop', WHERE WHAT IT READS IS OF BULK AT MOST 1048576: true; the input reads as it did. -/
def fnExactIsMoufangLoopUptoRow : OpenClaim := { program := "ytejjefjpjaeljaa", sum := "04e53efff8738687fc7c7f0996b5aebae668ea1026338e7ad890ec47f43edd37", func := "loop.example/g01124/laws.FnExactIsMoufangLoop", spec := "fnExactIsMoufangLoop", unfollowed := true, recurses := true, apart := false, narrowed := true }
def FnExactIsMoufangLoopUptoSaid : Prop := fnExactIsMoufangLoopUptoRow.holds Try.pinned (OpenSpec.upto fnExactIsMoufangLoopSpec)

/-- 'laws.FnExactLoopOrder', WHERE WHAT IT READS IS OF BULK AT MOST 1048576: true; the input reads as it did. -/
def fnExactLoopOrderUptoRow : OpenClaim := { program := "ytejjefjpjaeljaa", sum := "04e53efff8738687fc7c7f0996b5aebae668ea1026338e7ad890ec47f43edd37", func := "loop.example/g01124/laws.FnExactLoopOrder", spec := "fnExactLoopOrder", unfollowed := true, recurses := true, apart := false, narrowed := true }
def FnExactLoopOrderUptoSaid : Prop := fnExactLoopOrderUptoRow.holds Try.pinned (OpenSpec.upto fnExactLoopOrderSpec)

/-- 'laws.FnExactLoopInverse', WHERE WHAT IT READS IS OF BULK AT MOST 1048576: true; the input reads as it did. -/
def fnExactLoopInverseUptoRow : OpenClaim := { program := "ytejjefjpjaeljaa", sum := "04e53efff8738687fc7c7f0996b5aebae668ea1026338e7ad890ec47f43edd37", func := "loop.example/g01124/laws.FnExactLoopInverse", spec := "fnExactLoopInverse", unfollowed := true, recurses := true, apart := false, narrowed := true }
def FnExactLoopInverseUptoSaid : Prop := fnExactLoopInverseUptoRow.holds Try.pinned (OpenSpec.upto fnExactLoopInverseSpec)

/-- 'laws.FnExactIsAssociativeLoop', WHERE WHAT IT READS IS OF BULK AT MOST 1048576: true; the input reads as it did. -/
def fnExactIsAssociativeLoopUptoRow : OpenClaim := { program := "ytejjefjpjaeljaa", sum := "04e53efff8738687fc7c7f0996b5aebae668ea1026338e7ad890ec47f43edd37", func := "loop.example/g01124/laws.FnExactIsAssociativeLoop", spec := "fnExactIsAssociativeLoop", unfollowed := true, recurses := true, apart := false, narrowed := true }
def FnExactIsAssociativeLoopUptoSaid : Prop := fnExactIsAssociativeLoopUptoRow.holds Try.pinned (OpenSpec.upto fnExactIsAssociativeLoopSpec)

/-- 'laws.FnExactCountAssociating', WHERE WHAT IT READS IS OF BULK AT MOST 1048576: true; the input reads as it did. -/
def fnExactCountAssociatingUptoRow : OpenClaim := { program := "ytejjefjpjaeljaa", sum := "04e53efff8738687fc7c7f0996b5aebae668ea1026338e7ad890ec47f43edd37", func := "loop.example/g01124/laws.FnExactCountAssociating", spec := "fnExactCountAssociating", unfollowed := true, recurses := true, apart := false, narrowed := true }
def FnExactCountAssociatingUptoSaid : Prop := fnExactCountAssociatingUptoRow.holds Try.pinned (OpenSpec.upto fnExactCountAssociatingSpec)

/-- 'laws.FnExactIsCommutativeLoop', WHERE WHAT IT READS IS OF BULK AT MOST 1048576: true; the input reads as it did. -/
def fnExactIsCommutativeLoopUptoRow : OpenClaim := { program := "ytejjefjpjaeljaa", sum := "04e53efff8738687fc7c7f0996b5aebae668ea1026338e7ad890ec47f43edd37", func := "loop.example/g01124/laws.FnExactIsCommutativeLoop", spec := "fnExactIsCommutativeLoop", unfollowed := true, recurses := true, apart := false, narrowed := true }
def FnExactIsCommutativeLoopUptoSaid : Prop := fnExactIsCommutativeLoopUptoRow.holds Try.pinned (OpenSpec.upto fnExactIsCommutativeLoopSpec)

/-- 'laws.FnExactLoopNucleus', WHERE WHAT IT READS IS OF BULK AT MOST 1048576: true; the input reads as it did. -/
def fnExactLoopNucleusUptoRow : OpenClaim := { program := "ytejjefjpjaeljaa", sum := "04e53efff8738687fc7c7f0996b5aebae668ea1026338e7ad890ec47f43edd37", func := "loop.example/g01124/laws.FnExactLoopNucleus", spec := "fnExactLoopNucleus", unfollowed := true, recurses := true, apart := false, narrowed := true }
def FnExactLoopNucleusUptoSaid : Prop := fnExactLoopNucleusUptoRow.holds Try.pinned (OpenSpec.upto fnExactLoopNucleusSpec)

end Rows
end Go.Proofs.Ytejjefjpjaeljaa
