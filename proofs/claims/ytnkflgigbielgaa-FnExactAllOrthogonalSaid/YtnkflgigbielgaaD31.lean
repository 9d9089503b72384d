/-
  LeftMatrixOf and RightMatrixOf, in both programs. No condition beside sizes.
-/
import Derived.Test.YtnkflgigbielgaaD30
set_option linter.unusedVariables false
set_option linter.unusedSimpArgs false
namespace Go.Proofs.Ytnkflgigbielgaa
open Go.RowKit

/-- A result that is a table, or nil and a code. -/
structure ResCT (w w' : World) (e : Ending) (cc : Int) (G : Nat) (L : Nat → Nat) (T : Nat → Nat → Int) : Prop where
  bel : Below w.heap.size w w'
  out : (cc = 0 ∧ ∃ g c, e = .returned (.tuple #[.slice (some ⟨g, 0, none⟩) G c, .int .i64 0]) ∧ OTab w' w.heap.size g c G L T) ∨
    (cc ≠ 0 ∧ e = .returned (.tuple #[.slice none 0 0, .int .i64 cc]))
theorem ResCT.toT {w w' : World} {e : Ending} {cc : Int} {G : Nat} {L : Nat → Nat} {T : Nat → Nat → Int} (h : ResCT w w' e cc G L T) : ResT w w' e cc (if cc = 0 then G else 0) L T := by
  rcases h.out with ⟨h0, g, c, he, hO⟩ | ⟨h0, he⟩
  · subst h0
    exact ⟨some ⟨g, 0, none⟩, c, he, h.bel, hO.ot⟩
  · rw [if_neg h0]
    exact ⟨none, 0, he, h.bel, ⟨Or.inl ⟨rfl, rfl, rfl⟩⟩⟩
theorem sumL_const (M : Nat) : ∀ G, sumL (fun _ => M) G = G * M
  | 0 => by simp [sumL]
  | G + 1 => by rw [sumL, sumL_const M G, Nat.succ_mul]
theorem sqr_le {cc : Int} {n : Nat} (h : cc = 0 → n ≤ 4) : (if cc = 0 then 2 ^ n else 0) ≤ 1048576 ∧ sumL (fun _ => 2 ^ n) (if cc = 0 then 2 ^ n else 0) ≤ 1048576 := by
  by_cases h0 : cc = 0
  · rw [if_pos h0, sumL_const]
    have := pow_le (h h0)
    have h2 := Nat.mul_le_mul this this
    omega
  · rw [if_neg h0]; simp [sumL]
theorem codeE_le {p : Int} {n m : Nat} {s : Nat → Int} {L : Nat → Nat} {T : Nat → Nat → Int} (h : codeE (dblB p n s) p n m L T = 0) : n ≤ 4 := (dblB_ok (codeE_zero h).1).le


end Go.Proofs.Ytnkflgigbielgaa
