/-
  Columns, and the matrices of products from the left and from the right, in both programs. No condition beside sizes.
-/
import Derived.Test.YtnkflgigbielgaaD28
set_option linter.unusedVariables false
set_option linter.unusedSimpArgs false
namespace Go.Proofs.Ytnkflgigbielgaa
open Go.RowKit

theorem OTabM.grown {w w' : World} {B M g cap G g0 : Nat} {L : Nat → Nat} {T : Nat → Nat → Int} (h : OTabM w B M g cap G L T) (hg : w.grownBy w' (some g0)) (hd : g0 < B ∨ M ≤ g0) : OTabM w' B M g cap G L T := by
  obtain ⟨R, C, h1, h2, h3, h4⟩ := h.out
  exact ⟨R, C, h1.grown hg (by intro e; injection e with e; omega), h2, fun i hi => ⟨(h3 i hi).1.grown hg (by intro e; injection e with e; have := (h3 i hi).2.1; omega), (h3 i hi).2⟩, h4⟩
theorem OTabM.row {w : World} {B M g cap G : Nat} {L : Nat → Nat} {T : Nat → Nat → Int} (h : OTabM w B M g cap G L T) {k : Nat} (hk : k < G) : ∃ r c, w.cell? ⟨g, k, none⟩ = some (.slice (some ⟨r, 0, none⟩) (L k) c) ∧ Ints w (.slice (some ⟨r, 0, none⟩) (L k) c) (L k) (T k) := by
  obtain ⟨R, C, h1, h2, h3, h4⟩ := h.out
  exact ⟨R k, C k, h1.cell hk, (h3 k hk).1.ints⟩


end Go.Proofs.Ytnkflgigbielgaa
