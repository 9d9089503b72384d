/-
  The law on IsDivisionDoubling returns true. No condition.
-/
import Derived.Test.YtnkflgigbielgaaD15
import Derived.Test.YtnkflgigbielgaaF13a
set_option linter.unusedVariables false
set_option linter.unusedSimpArgs false
namespace Go.Proofs.Ytnkflgigbielgaa
open Go.RowKit

theorem shapeB (ok : Bool) (x : Bool) : ∃ a b, rB ok x = .tuple #[.bool a, .int .i64 b] := by cases ok <;> exact ⟨_, _, rfl⟩
theorem shapeI (ok : Bool) (x : Int) : ∃ a b, rI ok x = .tuple #[.int .i64 a, .int .i64 b] := by cases ok <;> exact ⟨_, _, rfl⟩
theorem cellKeep {W W' : World} {b o : Nat} {v : Value} (hb : Below W.heap.size W W') (h : W.cell? ⟨b, o, none⟩ = some v) : W'.cell? ⟨b, o, none⟩ = some v := by
  rw [hb.cell (p := ⟨b, o, none⟩) (lt_of_cell h)]; exact h
/-- two boxes, behind w -/
theorem box2Keep {w W W' : World} {b1 b2 : Nat} {v1 v2 v3 v4 : Value} (hb : Below W.heap.size W W')
    (h : W.cell? ⟨b1, 0, none⟩ = some v1 ∧ W.cell? ⟨b1, 1, none⟩ = some v2 ∧ W.cell? ⟨b2, 0, none⟩ = some v3 ∧ W.cell? ⟨b2, 1, none⟩ = some v4 ∧ Below w.heap.size w W) :
    W'.cell? ⟨b1, 0, none⟩ = some v1 ∧ W'.cell? ⟨b1, 1, none⟩ = some v2 ∧ W'.cell? ⟨b2, 0, none⟩ = some v3 ∧ W'.cell? ⟨b2, 1, none⟩ = some v4 ∧ Below w.heap.size w W' :=
  ⟨cellKeep hb h.1, cellKeep hb h.2.1, cellKeep hb h.2.2.1, cellKeep hb h.2.2.2.1, h.2.2.2.2.trans (hb.mono h.2.2.2.2.size)⟩
theorem box2Below {w W : World} {b1 b2 : Nat} {v1 v2 v3 v4 : Value}
    (h : W.cell? ⟨b1, 0, none⟩ = some v1 ∧ W.cell? ⟨b1, 1, none⟩ = some v2 ∧ W.cell? ⟨b2, 0, none⟩ = some v3 ∧ W.cell? ⟨b2, 1, none⟩ = some v4 ∧ Below w.heap.size w W) : Below w.heap.size w W := h.2.2.2.2
theorem drewBelow (W : World) : Below W.heap.size W W.drew := ⟨rfl, rfl, rfl, Nat.le_refl _, fun _ _ => rfl⟩

end Go.Proofs.Ytnkflgigbielgaa
