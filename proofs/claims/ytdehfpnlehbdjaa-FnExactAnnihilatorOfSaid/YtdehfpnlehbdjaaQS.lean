/-
  Spaces in plain mathematics: the test, and the product of two vectors, taken in either order. No program is in sight. No condition.
-/
import Derived.Test.YtdehfpnlehbdjaaQN
set_option linter.unusedVariables false
set_option linter.unusedSimpArgs false
namespace Go.Proofs.Ytdehfpnlehbdjaa

/-- the product of two vectors -/
def pairF (p : Int) (s : Nat → Int) (n : Nat) (X Y : Nat → Int) : Int := sumF (fun i => s i * X i * Y i) n % p
theorem pairF_in {p : Int} (hp : 0 < p) (s : Nat → Int) (n : Nat) (X Y : Nat → Int) : 0 ≤ pairF p s n X Y ∧ pairF p s n X Y < p := mod_bd _ _ hp
/-- as the reference takes it: modulo p at each step -/
def spF (p : Int) (s X Y : Nat → Int) : Nat → Int
  | 0 => 0
  | n + 1 => (spF p s X Y n + (X n * Y n) % p * s n) % p
theorem spF_in {p : Int} (hp : 0 < p) (s X Y : Nat → Int) (n : Nat) : 0 ≤ spF p s X Y n ∧ spF p s X Y n < p := by
  cases n with
  | zero => simp [spF]; exact hp
  | succ n => exact mod_bd _ _ hp
theorem spF_eq (p : Int) (s X Y : Nat → Int) : ∀ n, spF p s X Y n = pairF p s n X Y
  | 0 => by simp [spF, pairF, sumF]
  | n + 1 => by
    unfold pairF
    rw [spF, sumF, spF_eq p s X Y n]
    unfold pairF
    rw [mod_add_mod, ← mod_mod_add, mod_mul_mod, mod_mod_add]
    congr 2; grind
/-- as the program takes it: the weights first, one remainder at the end -/
theorem dot_eq (p : Int) (s : Nat → Int) (n : Nat) (X Y : Nat → Int) : sumF (fun i => (X i * s i) % p * Y i) n % p = pairF p s n X Y := by
  unfold pairF
  refine sumF_mod fun i hi => ?_
  rw [mod_mul_mod]
  congr 1; grind
theorem sumF_bd {f : Nat → Int} {B : Int} (hB : 0 ≤ B) : ∀ {n : Nat}, (∀ i, i < n → -B ≤ f i ∧ f i ≤ B) → -(n * B) ≤ sumF f n ∧ sumF f n ≤ n * B
  | 0, _ => by simp [sumF]
  | n + 1, h => by
    have h1 := sumF_bd hB (fun i hi => h i (by omega)) (n := n)
    have h2 := h n (by omega)
    rw [sumF, show ((n + 1 : Nat) : Int) * B = n * B + B by rw [Int.natCast_add, Int.add_mul]; simp]
    omega
theorem pairF_comm (p : Int) (s : Nat → Int) (n : Nat) (X Y : Nat → Int) : pairF p s n X Y = pairF p s n Y X := by
  unfold pairF
  rw [sumF_congr fun i hi => show s i * X i * Y i = s i * Y i * X i by grind]

end Go.Proofs.Ytdehfpnlehbdjaa
