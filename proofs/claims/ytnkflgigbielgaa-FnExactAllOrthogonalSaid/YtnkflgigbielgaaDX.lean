/-
  Results with a code, as results that are owned. No condition beside sizes.
-/
import Derived.Test.YtnkflgigbielgaaD21
import Derived.Test.YtnkflgigbielgaaDW
set_option linter.unusedVariables false
set_option linter.unusedSimpArgs false
namespace Go.Proofs.Ytnkflgigbielgaa
open Go.RowKit

/-- the length of a result -/
def lenC (cc : Int) (n : Nat) : Nat := if cc = 0 then 2 ^ n else 0
theorem lenC_le {p : Int} {n m : Nat} {s : Nat → Int} {L : Nat → Nat} {T : Nat → Nat → Int} : lenC (codeE (dblB p n s) p n m L T) n ≤ 1048576 := by
  unfold lenC; split
  · rename_i h
    have := pow_le (dblB_ok (codeE_zero h).1).le
    omega
  · omega
theorem ResC.toO {w w' : World} {e : Ending} {cc : Int} {n : Nat} {X : Nat → Int} (h : ResC w w' e cc n X) : ResO w w' e cc (lenC cc n) X := by
  rcases h.out with ⟨h0, g, c, he, hg, hO⟩ | ⟨h0, he⟩
  · subst h0
    exact ⟨some ⟨g, 0, none⟩, c, he, h.bel, ⟨Or.inr ⟨g, rfl, ⟨hg, hO.lt⟩, hO⟩⟩⟩
  · have e0 : lenC cc n = 0 := if_neg h0
    rw [e0]
    exact ⟨none, 0, he, h.bel, ⟨Or.inl ⟨rfl, rfl, rfl⟩⟩⟩

end Go.Proofs.Ytnkflgigbielgaa
