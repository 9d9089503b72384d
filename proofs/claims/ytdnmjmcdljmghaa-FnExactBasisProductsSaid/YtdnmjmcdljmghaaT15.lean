/-
  What the reference's functions on loops compute: tests, order, inverse, nucleus. No condition beside sizes.
-/
import Derived.Test.YtdnmjmcdljmghaaT14
set_option linter.unusedVariables false
set_option linter.unusedSimpArgs false
namespace Go.Proofs.Ytdnmjmcdljmghaa
open Go.RowKit

/-- The code of a loop and an element. -/
def codeV (ok : Bool) (G : Nat) (x : Int) : Int := if ok then (if inB x 0 ((G : Int) - 1) then 0 else 2) else 1

/-- a number and a code: the code where it is not 0 -/
def rC (code : Int) (x : Int) : Value := if code = 0 then .tuple #[.int .i64 x, .int .i64 0] else .tuple #[.int .i64 0, .int .i64 code]

theorem LT.row {w : World} {v : Value} {G : Nat} {N : Nat → Nat → Nat} (h : LT w v G N) {x : Nat} (hx : x < G) : ∃ (c b o : Nat) (u : Value), v = .slice (some ⟨b, o, none⟩) G c ∧ w.cell? ⟨b, o + x, none⟩ = some u ∧ Ints w u G (fun j => N x j) := by
  obtain ⟨c, b, o, C, RB, RO, p1, p2, p3, p4, p5, p6, p7⟩ := h.out
  exact ⟨c, b, o, _, p1, p4 x hx, ⟨_, C x, RB x, RO x, rfl, (p5 x hx).1, (p5 x hx).2, fun _ => rfl, fun j hj => p6 x j hx hj⟩⟩

theorem codeV_ok {ok : Bool} {G : Nat} {x : Int} (h : codeV ok G x = 0) : ok = true ∧ 0 ≤ x ∧ x < G := by
  unfold codeV at h
  cases ok
  · simp at h
  · cases hx : inB x 0 ((G : Int) - 1)
    · simp [hx] at h
    · unfold inB at hx; have := of_decide_eq_true hx; exact ⟨rfl, by omega, by omega⟩

end Go.Proofs.Ytdnmjmcdljmghaa
