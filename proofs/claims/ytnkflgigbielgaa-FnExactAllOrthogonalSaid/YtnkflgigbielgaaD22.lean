/-
  Lists of one and of two elements; CommutatorOf, in both programs. No condition beside sizes.
-/
import Derived.Test.YtnkflgigbielgaaDX
set_option linter.unusedVariables false
set_option linter.unusedSimpArgs false
namespace Go.Proofs.Ytnkflgigbielgaa
open Go.RowKit

/-- a list of one element -/
theorem list1 {w : World} {xv : Value} {nx : Nat} {X : Nat → Int} (t : TypeId) (hx : Ints w xv nx X) :
    Tab (w.alloc (.cells #[xv] t)) (.slice (some ⟨w.heap.size, 0, none⟩) 1 1) 1 (fun _ => nx) (fun _ => X) := by
  have hb : Below w.heap.size w (w.alloc (.cells #[xv] t)) := (Below.refl _ _).alloc (Nat.le_refl _) _
  obtain ⟨a1, c1, b1, o1, h11, h12, h13, h14, h15⟩ := (hx.below hb).out
  have h3 : ∀ i, i < 1 → i = 0 := fun i hi => by omega
  refine ⟨some ⟨w.heap.size, 0, none⟩, 1, w.heap.size, 0, fun _ => a1, fun _ => c1, fun _ => b1, fun _ => o1, rfl, Nat.le_refl _, by omega, fun _ => rfl, fun i hi => ?_, fun i hi => ⟨h12, h13⟩, fun i hi => h14, fun i j hi => h15 j⟩
  obtain rfl := h3 i hi
  simp [h11]

/-- a list of two elements -/
theorem list2 {w : World} {xv yv : Value} {nx ny : Nat} {X Y : Nat → Int} (t : TypeId) (hx : Ints w xv nx X) (hy : Ints w yv ny Y) :
    Tab (w.alloc (.cells #[xv, yv] t)) (.slice (some ⟨w.heap.size, 0, none⟩) 2 2) 2 (pick3 nx ny ny) (pick3 X Y Y) := by
  have hb : Below w.heap.size w (w.alloc (.cells #[xv, yv] t)) := (Below.refl _ _).alloc (Nat.le_refl _) _
  obtain ⟨a1, c1, b1, o1, h11, h12, h13, h14, h15⟩ := (hx.below hb).out
  obtain ⟨a2, c2, b2, o2, h21, h22, h23, h24, h25⟩ := (hy.below hb).out
  have h3 : ∀ i, i < 2 → i = 0 ∨ i = 1 := fun i hi => by omega
  refine ⟨some ⟨w.heap.size, 0, none⟩, 2, w.heap.size, 0, pick3 a1 a2 a2, pick3 c1 c2 c2, pick3 b1 b2 b2, pick3 o1 o2 o2, rfl, Nat.le_refl _, by omega, fun _ => rfl, fun i hi => ?_, fun i hi => ?_, fun i hi => ?_, fun i j hi => ?_⟩
  · rcases h3 i hi with rfl | rfl
    · simp [pick3, h11]
    · simp [pick3, h21]
  · rcases h3 i hi with rfl | rfl
    · exact ⟨h12, h13⟩
    · exact ⟨h22, h23⟩
  · rcases h3 i hi with rfl | rfl
    · exact h14
    · exact h24
  · rcases h3 i hi with rfl | rfl
    · exact h15 j
    · exact h25 j


end Go.Proofs.Ytnkflgigbielgaa
