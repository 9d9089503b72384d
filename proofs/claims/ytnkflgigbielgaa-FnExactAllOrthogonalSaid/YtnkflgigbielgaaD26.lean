/-
  DoubleInverse, in both programs. No condition beside sizes.
-/
import Derived.Test.YtnkflgigbielgaaD24
set_option linter.unusedVariables false
set_option linter.unusedSimpArgs false
namespace Go.Proofs.Ytnkflgigbielgaa
open Go.RowKit

/-- a code, then another -/
def thenC (c : Int) (b : Bool) (k : Int) : Int := if c = 0 then (if b then k else 0) else c
theorem thenC_zero {c k : Int} {b : Bool} (h : thenC c b k = 0) : c = 0 := by
  unfold thenC at h; split at h
  · assumption
  · exact h
theorem lenC_then {p : Int} {n m : Nat} {s : Nat → Int} {L : Nat → Nat} {T : Nat → Nat → Int} {b : Bool} {k : Int} : lenC (thenC (codeE (dblB p n s) p n m L T) b k) n ≤ 1048576 := by
  unfold lenC; split
  · rename_i h
    have := pow_le (dblB_ok (codeE_zero (thenC_zero h)).1).le
    omega
  · omega


end Go.Proofs.Ytnkflgigbielgaa
