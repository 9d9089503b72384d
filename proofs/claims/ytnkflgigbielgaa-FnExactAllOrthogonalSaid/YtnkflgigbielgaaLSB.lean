/-
  What the laws on spaces share: the box of the space while calls make memory. No condition beside sizes.
-/
import Derived.Test.YtnkflgigbielgaaLS2
import Derived.Test.YtnkflgigbielgaaLS3
import Derived.Test.YtnkflgigbielgaaDX
set_option linter.unusedVariables false
set_option linter.unusedSimpArgs false
namespace Go.Proofs.Ytnkflgigbielgaa
open Go.RowKit

/-- the doubling's box, at worlds that come after W0 -/
def SB (W0 : World) (bd : Nat) (P : Int) (a : Option Addr) (m c : Nat) (W : World) : Prop :=
  W.cell? ⟨bd, 0, none⟩ = some (.int .i64 P) ∧ W.cell? ⟨bd, 1, none⟩ = some (.slice a m c) ∧ bd < W.heap.size ∧ Below W0.heap.size W0 W
theorem sbKeep {W0 W W' : World} {bd : Nat} {P : Int} {a : Option Addr} {m c : Nat} (hb : Below W.heap.size W W') (h : SB W0 bd P a m c W) : SB W0 bd P a m c W' :=
  ⟨cellKp hb h.1, cellKp hb h.2.1, by have := hb.size; have := h.2.2.1; omega, h.2.2.2.trans (hb.mono h.2.2.2.size)⟩
theorem sb0 {W0 : World} {bd : Nat} {P : Int} {a : Option Addr} {m c : Nat} (h0 : W0.cell? ⟨bd, 0, none⟩ = some (.int .i64 P)) (h1 : W0.cell? ⟨bd, 1, none⟩ = some (.slice a m c)) (hl : bd < W0.heap.size) : SB W0 bd P a m c W0 := ⟨h0, h1, hl, Below.refl _ _⟩
theorem sbRe {W0 W : World} {q r bd : Nat} {P : Int} {a : Option Addr} {m c : Nat} (h : SB W0 bd P a m c (W.drewN q)) : SB W0 bd P a m c (W.drewN r) :=
  ⟨by simpa using h.1, by simpa using h.2.1, h.2.2.1, h.2.2.2.trans ⟨rfl, rfl, rfl, Nat.le_refl _, fun _ _ => rfl⟩⟩
theorem sbDrew {W0 : World} {bd : Nat} {P : Int} {a : Option Addr} {m c : Nat} (h0 : W0.cell? ⟨bd, 0, none⟩ = some (.int .i64 P)) (h1 : W0.cell? ⟨bd, 1, none⟩ = some (.slice a m c)) (hl : bd < W0.heap.size) : SB W0 bd P a m c W0.drew :=
  sbKeep (drewB W0) ⟨h0, h1, hl, Below.refl _ _⟩
theorem sbBelow {W0 W : World} {bd : Nat} {P : Int} {a : Option Addr} {m c : Nat} (h : SB W0 bd P a m c W) : Below W0.heap.size W0 W := h.2.2.2

theorem rC_one (c x : Int) : rC c x = .tuple #[.int .i64 (if c = 0 then x else 0), .int .i64 c] := by
  unfold rC
  by_cases h : c = 0
  · subst h; rfl
  · rw [if_neg h, if_neg h]
theorem sIsSpace_c (p : Int) (sv : Value) (n : Nat) (s : Nat → Int) (w : World) (h : Ints w sv n s) :
    Calls Try.prog 15 #[dbl p sv] w fun e w' => Makes w w' e (.bool (spB p n s)) := by
  obtain ⟨ao, c, _, _, rfl, qh⟩ := h.out
  obtain ⟨e0, e1, e2, e3⟩ := box0 w p ao n c 26
  go_enter Try.func15, Try.ntmps15
  go_wp2_with fail
  refine Calls.makes' (sIsSp_c p _ n s _ (h.below e3)) _ fun w1 hb1 => ?_
  go_wp2
  go_ret
  exact ⟨rfl, e3.trans (hb1.mono e3.size)⟩
theorem vecB_of {p : Int} {n : Nat} {X : Nat → Int} (h : InP p n X) : vecB p n n X = true := by
  rw [vecB_eq rfl]
  exact inPB_true fun i hi => decide_eq_true (by have := h i hi; omega)

end Go.Proofs.Ytnkflgigbielgaa
