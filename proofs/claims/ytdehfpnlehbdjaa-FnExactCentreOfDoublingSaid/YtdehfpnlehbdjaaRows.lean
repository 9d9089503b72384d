/-
  No cell of these rows narrows 'for every input' (looked for: loops, veiled, ifaces, maps, wideKeys, modest, calm, conditions, laid).
  DERIVED. THE GIVEN ROWS OF THIS SEAT. 5 by the template 'for every input the law returns true; each argument reads behind the call as it read before'; 0 by the template 'total and deterministic' (their statements: YtdehfpnlehbdjaaTotals.lean).
  GIVEN WITH THE SEED: the statements are not yours to turn. If you find one false, say at which input.
  Laid BY PROGRAM, IN A SANDBOX (cutbox-rows.mjs): the forced cells as the released guide's own fill.sh prints them over the translation a2dbdbe0b7117565… (all of the seat's roots in one cut). By AI agents, Wed Nov 11 2026. No macro, syntax, notation, axiom, sorry.
-/
import Derived.Test.YtdehfpnlehbdjaaChecked
import GoSem.Claim
import GoSem.ClaimJoined
import GoSem.ClaimMapViews
import Derived.JoinedTies
import Derived.KernelRfl
namespace Go.Proofs.Ytdehfpnlehbdjaa
/- THE CELL 'sum', in the pinned program and in every row, IS THE sha256 OF THE DUMP (.gsa) THAT YtdehfpnlehbdjaaProg.lean LOADS. Nothing in Lean hashes anything: it is a label: what it is worth is what the hold of that sum in a sandbox is worth. -/
noncomputable def Try.pinned : Pinned := { name := "ytdehfpnlehbdjaa", sum := "a2dbdbe0b711756521b34ab254a9838aba8644d582043ebc6ff7930b02ed00bd", checked := Try.checked }
namespace Rows
def none {H : Type} : Left H := { results := [], args := [] }

/-- 'laws.FnExactIsAssociativeOn': WHATEVER THE INPUT: true; the input reads as it did. -/
def fnExactIsAssociativeOnSpec : ChangeSpec := { name := "fnExactIsAssociativeOn", fn := fun _ => fun
  | [d1, d2] => { results := [.lit (.bool true)], args := [d1, d2] }
  | _ => none }
def fnExactIsAssociativeOnRow : OpenClaim := { program := "ytdehfpnlehbdjaa", sum := "a2dbdbe0b711756521b34ab254a9838aba8644d582043ebc6ff7930b02ed00bd", func := "loop.example/g01124/laws.FnExactIsAssociativeOn", spec := "fnExactIsAssociativeOn", unfollowed := true, recurses := true, apart := false }
def FnExactIsAssociativeOnSaid : Prop := fnExactIsAssociativeOnRow.holds Try.pinned (OpenSpec.ofChange fnExactIsAssociativeOnSpec)

/-- ITS FALSE NEIGHBOUR: 'it returns false'. Refute it at one input. -/
def fnExactIsAssociativeOnWrong : ChangeSpec := { name := "fnExactIsAssociativeOn", fn := fun _ => fun
  | [d1, d2] => { results := [.lit (.bool false)], args := [d1, d2] }
  | _ => none }
def FnExactIsAssociativeOnWrongFalsely : Prop := fnExactIsAssociativeOnRow.holds Try.pinned (OpenSpec.ofChange fnExactIsAssociativeOnWrong)

/-- 'laws.FnExactSubalgebraFrom': WHATEVER THE INPUT: true; the input reads as it did. -/
def fnExactSubalgebraFromSpec : ChangeSpec := { name := "fnExactSubalgebraFrom", fn := fun _ => fun
  | [d1, d2] => { results := [.lit (.bool true)], args := [d1, d2] }
  | _ => none }
def fnExactSubalgebraFromRow : OpenClaim := { program := "ytdehfpnlehbdjaa", sum := "a2dbdbe0b711756521b34ab254a9838aba8644d582043ebc6ff7930b02ed00bd", func := "loop.example/g01124/laws.FnExactSubalgebraFrom", spec := "fnExactSubalgebraFrom", unfollowed := true, recurses := true, apart := false }
def FnExactSubalgebraFromSaid : Prop := fnExactSubalgebraFromRow.holds Try.pinned (OpenSpec.ofChange fnExactSubalgebraFromSpec)

/-- ITS FALSE NEIGHBOUR: 'it returns false'. Refute it at one input. -/
def fnExactSubalgebraFromWrong : ChangeSpec := { name := "fnExactSubalgebraFrom", fn := fun _ => fun
  | [d1, d2] => { results := [.lit (.bool false)], args := [d1, d2] }
  | _ => none }
def FnExactSubalgebraFromWrongFalsely : Prop := fnExactSubalgebraFromRow.holds Try.pinned (OpenSpec.ofChange fnExactSubalgebraFromWrong)

/-- 'laws.FnExactNucleusOf': WHATEVER THE INPUT: true; the input reads as it did. -/
def fnExactNucleusOfSpec : ChangeSpec := { name := "fnExactNucleusOf", fn := fun _ => fun
  | [d] => { results := [.lit (.bool true)], args := [d] }
  | _ => none }
def fnExactNucleusOfRow : OpenClaim := { program := "ytdehfpnlehbdjaa", sum := "a2dbdbe0b711756521b34ab254a9838aba8644d582043ebc6ff7930b02ed00bd", func := "loop.example/g01124/laws.FnExactNucleusOf", spec := "fnExactNucleusOf", unfollowed := true, recurses := true, apart := false }
def FnExactNucleusOfSaid : Prop := fnExactNucleusOfRow.holds Try.pinned (OpenSpec.ofChange fnExactNucleusOfSpec)

/-- ITS FALSE NEIGHBOUR: 'it returns false'. Refute it at one input. -/
def fnExactNucleusOfWrong : ChangeSpec := { name := "fnExactNucleusOf", fn := fun _ => fun
  | [d] => { results := [.lit (.bool false)], args := [d] }
  | _ => none }
def FnExactNucleusOfWrongFalsely : Prop := fnExactNucleusOfRow.holds Try.pinned (OpenSpec.ofChange fnExactNucleusOfWrong)

/-- 'laws.FnExactAnnihilatorOf': WHATEVER THE INPUT: true; the input reads as it did. -/
def fnExactAnnihilatorOfSpec : ChangeSpec := { name := "fnExactAnnihilatorOf", fn := fun _ => fun
  | [d1, d2] => { results := [.lit (.bool true)], args := [d1, d2] }
  | _ => none }
def fnExactAnnihilatorOfRow : OpenClaim := { program := "ytdehfpnlehbdjaa", sum := "a2dbdbe0b711756521b34ab254a9838aba8644d582043ebc6ff7930b02ed00bd", func := "loop.example/g01124/laws.FnExactAnnihilatorOf", spec := "fnExactAnnihilatorOf", unfollowed := true, recurses := true, apart := false }
def FnExactAnnihilatorOfSaid : Prop := fnExactAnnihilatorOfRow.holds Try.pinned (OpenSpec.ofChange fnExactAnnihilatorOfSpec)

/-- ITS FALSE NEIGHBOUR: 'it returns false'. Refute it at one input. -/
def fnExactAnnihilatorOfWrong : ChangeSpec := { name := "fnExactAnnihilatorOf", fn := fun _ => fun
  | [d1, d2] => { results := [.lit (.bool false)], args := [d1, d2] }
  | _ => none }
def FnExactAnnihilatorOfWrongFalsely : Prop := fnExactAnnihilatorOfRow.holds Try.pinned (OpenSpec.ofChange fnExactAnnihilatorOfWrong)

/-- 'laws.FnExactCentreOfDoubling': WHATEVER THE INPUT: true; the input reads as it did. -/
def fnExactCentreOfDoublingSpec : ChangeSpec := { name := "fnExactCentreOfDoubling", fn := fun _ => fun
  | [d] => { results := [.lit (.bool true)], args := [d] }
  | _ => none }
def fnExactCentreOfDoublingRow : OpenClaim := { program := "ytdehfpnlehbdjaa", sum := "a2dbdbe0b711756521b34ab254a9838aba8644d582043ebc6ff7930b02ed00bd", func := "loop.example/g01124/laws.FnExactCentreOfDoubling", spec := "fnExactCentreOfDoubling", unfollowed := true, recurses := true, apart := false }
def FnExactCentreOfDoublingSaid : Prop := fnExactCentreOfDoublingRow.holds Try.pinned (OpenSpec.ofChange fnExactCentreOfDoublingSpec)

/-- ITS FALSE NEIGHBOUR: 'it returns false'. Refute it at one input. -/
def fnExactCentreOfDoublingWrong : ChangeSpec := { name := "fnExactCentreOfDoubling", fn := fun _ => fun
  | [d] => { results := [.lit (.bool false)], args := [d] }
  | _ => none }
def FnExactCentreOfDoublingWrongFalsely : Prop := fnExactCentreOfDoublingRow.holds Try.pinned (OpenSpec.ofChange fnExactCentreOfDoublingWrong)

/- THE SECOND FORM. 'bulk': how many values and letters a reading holds, each counted each time it is reached (what is shared counts as often as it is met; a slice's spare places count too). A statement '..UptoSaid' is the law's where the arguments, and the package variables that the reading takes, are together of bulk at most 1048576: NARROWER than '..Said'. Prove '..Said' where nothing that the law and all that it calls make is longer than what came in: it says more and counts as full. Else prove '..UptoSaid'. A law counts once. -/
mutual
def uptoBulk {H : Type} : DataW H → Nat
  | .lit (.string bytes) => bytes.length + 1
  | .lit _ => 1
  | .nil => 1
  | .ptr d => uptoBulk d + 1
  | .slice elems spare => uptoBulkAll elems + uptoBulkAll spare + 1
  | .agg parts => uptoBulkAll parts + 1
  | .iface _ d => uptoBulk d + 1
  | .map entries => uptoBulkEntries entries + 1
  | .held _ => 1
def uptoBulkAll {H : Type} : List (DataW H) → Nat
  | [] => 0
  | d :: r => uptoBulk d + uptoBulkAll r
def uptoBulkEntries {H : Type} : List (Lit × DataW H) → Nat
  | [] => 0
  | x :: r => uptoBulkEntry x + uptoBulkEntries r
def uptoBulkEntry {H : Type} : Lit × DataW H → Nat
  | (.string bytes, d) => bytes.length + uptoBulk d + 1
  | (_, d) => uptoBulk d + 1
 end
def uptoSmall : (H : Type) → List (DataW H) → Bool := fun _ ds => decide (uptoBulkAll ds ≤ 1048576)
def OpenSpec.upto (s : _root_.Go.ChangeSpec) : _root_.Go.OpenSpec := { _root_.Go.OpenSpec.ofChange s with cond := some uptoSmall }

/-- 'laws.FnExactIsAssociativeOn', WHERE WHAT IT READS IS OF BULK AT MOST 1048576: true; the input reads as it did. -/
def fnExactIsAssociativeOnUptoRow : OpenClaim := { program := "ytdehfpnlehbdjaa", sum := "a2dbdbe0b711756521b34ab254a9838aba8644d582043ebc6ff7930b02ed00bd", func := "loop.example/g01124/laws.FnExactIsAssociativeOn", spec := "fnExactIsAssociativeOn", unfollowed := true, recurses := true, apart := false, narrowed := true }
def FnExactIsAssociativeOnUptoSaid : Prop := fnExactIsAssociativeOnUptoRow.holds Try.pinned (OpenSpec.upto fnExactIsAssociativeOnSpec)

/-- 'laws.FnExactSubalgebraFrom', WHERE WHAT IT READS IS OF BULK AT MOST 1048576: true; the input reads as it did. -/
def fnExactSubalgebraFromUptoRow : OpenClaim := { program := "ytdehfpnlehbdjaa", sum := "a2dbdbe0b711756521b34ab254a9838aba8644d582043ebc6ff7930b02ed00bd", func := "loop.example/g01124/laws.FnExactSubalgebraFrom", spec := "fnExactSubalgebraFrom", unfollowed := true, recurses := true, apart := false, narrowed := true }
def FnExactSubalgebraFromUptoSaid : Prop := fnExactSubalgebraFromUptoRow.holds Try.pinned (OpenSpec.upto fnExactSubalgebraFromSpec)

/-- 'laws.FnExactNucleusOf', WHERE WHAT IT READS IS OF BULK AT MOST 1048576: true; the input reads as it did. -/
def fnExactNucleusOfUptoRow : OpenClaim := { program := "ytdehfpnlehbdjaa", sum := "a2dbdbe0b711756521b34ab254a9838aba8644d582043ebc6ff7930b02ed00bd", func := "loop.example/g01124/laws.FnExactNucleusOf", spec := "fnExactNucleusOf", unfollowed := true, recurses := true, apart := false, narrowed := true }
def FnExactNucleusOfUptoSaid : Prop := fnExactNucleusOfUptoRow.holds Try.pinned (OpenSpec.upto fnExactNucleusOfSpec)

/-- 'laws.FnExactAnnihilatorOf', WHERE WHAT IT READS IS OF BULK AT MOST 1048576: true; the input reads as it did. -/
def fnExactAnnihilatorOfUptoRow : OpenClaim := { program := "ytdehfpnlehbdjaa", sum := "a2dbdbe0b711756521b34ab254a9838aba8644d582043ebc6ff7930b02ed00bd", func := "loop.example/g01124/laws.FnExactAnnihilatorOf", spec := "fnExactAnnihilatorOf", unfollowed := true, recurses := true, apart := false, narrowed := true }
def FnExactAnnihilatorOfUptoSaid : Prop := fnExactAnnihilatorOfUptoRow.holds Try.pinned (OpenSpec.upto fnExactAnnihilatorOfSpec)

/-- 'laws.FnExactCentreOfDoubling', WHERE WHAT IT READS IS OF BULK AT MOST 1048576: true; the input reads as it did. -/
def fnExactCentreOfDoublingUptoRow : OpenClaim := { program := "ytdehfpnlehbdjaa", sum := "a2dbdbe0b711756521b34ab254a9838aba8644d582043ebc6ff7930b02ed00bd", func := "loop.example/g01124/laws.FnExactCentreOfDoubling", spec := "fnExactCentreOfDoubling", unfollowed := true, recurses := true, apart := false, narrowed := true }
def FnExactCentreOfDoublingUptoSaid : Prop := fnExactCentreOfDoublingUptoRow.holds Try.pinned (OpenSpec.upto fnExactCentreOfDoublingSpec)

end Rows
end Go.Proofs.Ytdehfpnlehbdjaa
