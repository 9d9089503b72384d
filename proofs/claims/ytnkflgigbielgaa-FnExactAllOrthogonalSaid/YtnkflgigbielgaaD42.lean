/-
  CountOfNorm, in both programs. No condition beside sizes.
-/
import Derived.Test.YtnkflgigbielgaaD41
set_option linter.unusedVariables false
set_option linter.unusedSimpArgs false
namespace Go.Proofs.Ytnkflgigbielgaa
open Go.RowKit

/-- the code of a norm -/
def nCode (p : Int) (n : Nat) (s : Nat → Int) (k : Int) : Int := if dblB p n s then (if inB k 0 (p - 1) then 0 else 2) else 1
theorem nCode_out {p : Int} {n : Nat} {s : Nat → Int} {k : Int} (h : dblB p n s = false) : nCode p n s k = 1 := by unfold nCode; rw [h]; rfl
theorem nCode_in {p : Int} {n : Nat} {s : Nat → Int} {k : Int} (h : dblB p n s = true) : nCode p n s k = if inB k 0 (p - 1) then 0 else 2 := by unfold nCode; rw [h]; rfl
theorem inPB_one (p k : Int) : inPB 0 p 1 (fun _ => k) = inB k 0 (p - 1) := by
  cases h : inB k 0 (p - 1)
  · exact inPB_false (k := 0) (by omega) h
  · exact inPB_true fun i hi => h
theorem ints1 (w : World) (k : Int) (t : TypeId) : Ints (w.alloc (.cells #[.int .i64 k] t)) (.slice (some ⟨w.heap.size, 0, none⟩) 1 1) 1 (fun _ => k) :=
  (Own.new w t #[.int .i64 k] (fun _ => .int .i64 k) (by simp) (fun i hi => by
    obtain rfl : i = 0 := by simp at hi; omega
    rfl)).ints

/-- the number of elements with a norm -/
def cntV (p : Int) (n : Nat) (s : Nat → Int) (k : Int) : Int := backK p.toNat (dgF p s n) 0 (2 ^ n) k.toNat

end Go.Proofs.Ytnkflgigbielgaa
