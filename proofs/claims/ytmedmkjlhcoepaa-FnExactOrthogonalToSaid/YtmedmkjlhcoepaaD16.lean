/-
  Doublings: products and the code of elements, in both programs. No condition beside sizes.
-/
import Derived.Test.YtmedmkjlhcoepaaD15
set_option linter.unusedVariables false
set_option linter.unusedSimpArgs false
namespace Go.Proofs.Ytmedmkjlhcoepaa
open Go.RowKit

theorem cellKp {W W' : World} {b o : Nat} {v : Value} (hb : Below W.heap.size W W') (h : W.cell? ⟨b, o, none⟩ = some v) : W'.cell? ⟨b, o, none⟩ = some v := by
  rw [hb.cell (p := ⟨b, o, none⟩) (lt_of_cell h)]; exact h
theorem drewB (W : World) : Below W.heap.size W W.drew := ⟨rfl, rfl, rfl, Nat.le_refl _, fun _ _ => rfl⟩
theorem boxBelow {w W : World} {p : Int} {ao : Option Addr} {n c : Nat} (h : BoxD w p ao n c W) : Below w.heap.size w W := h.2.2.2

/-- an element of a doubling at a world -/
structure El (w : World) (v : Value) (p : Int) (n : Nat) (X : Nat → Int) : Prop where
  ints : Ints w v (2 ^ n) X
  inp : InP p (2 ^ n) X
theorem El.below {w w' : World} {v : Value} {p : Int} {n : Nat} {X : Nat → Int} (h : El w v p n X) (hb : Below w.heap.size w w') : El w' v p n X := ⟨h.ints.below hb, h.inp⟩
theorem El.pos {w : World} {v : Value} {p : Int} {n : Nat} {X : Nat → Int} (h : El w v p n X) : 0 < 2 ^ n := Nat.pos_of_ne_zero (by simp)
theorem pow_le {n : Nat} (h : n ≤ 4) : 2 ^ n ≤ 16 := by
  have : n = 0 ∨ n = 1 ∨ n = 2 ∨ n = 3 ∨ n = 4 := by omega
  rcases this with rfl | rfl | rfl | rfl | rfl <;> decide
/-- A call that makes an element. -/
structure MakesE (w w' : World) (e : Ending) (p : Int) (n : Nat) (X : Nat → Int) : Prop where
  out : ∃ g c, e = .returned (.slice (some ⟨g, 0, none⟩) (2 ^ n) c) ∧ w.heap.size ≤ g ∧ Below w.heap.size w w' ∧ Own w' 2 g c (2 ^ n) (fun i => .int .i64 (X i)) ∧ El w' (.slice (some ⟨g, 0, none⟩) (2 ^ n) c) p n X
theorem CopyI.makesE {w w' : World} {e : Ending} {p : Int} {n : Nat} {X : Nat → Int} (h : CopyI w w' e (2 ^ n) X) (hX : InP p (2 ^ n) X) : MakesE w w' e p n X := by
  obtain ⟨g, c, rfl, hg, hb, hO⟩ := h.out
  exact ⟨g, c, rfl, hg, hb, hO, hO.ints, hX⟩

end Go.Proofs.Ytmedmkjlhcoepaa
