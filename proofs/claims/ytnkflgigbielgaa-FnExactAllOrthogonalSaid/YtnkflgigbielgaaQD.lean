/-
  The product of the squares is nought exactly if one of them is; reflections in plain mathematics. No program is in sight. No condition.
-/
import Derived.Test.YtnkflgigbielgaaQNJ
import Derived.Test.YtnkflgigbielgaaDJ
set_option linter.unusedVariables false
set_option linter.unusedSimpArgs false
namespace Go.Proofs.Ytnkflgigbielgaa

def dF (p : Int) (s : Nat → Int) : Nat → Int
  | 0 => 1
  | k + 1 => (dF p s k * s k) % p
theorem dF_in {p : Int} (hp : 1 < p) (s : Nat → Int) (k : Nat) : 0 ≤ dF p s k ∧ dF p s k < p := by
  cases k with
  | zero => simp [dF]; exact hp
  | succ k => exact mod_bd _ _ (by omega)
theorem mul_table : ∀ p ∈ [3, 5, 7, 11, 13], ∀ a ∈ List.range p, a ≠ 0 → ∀ b ∈ List.range p, b ≠ 0 → ((a : Nat) * (b : Nat) : Int) % (p : Nat) ≠ 0 := by decide +kernel
theorem mul_nz {p a b : Int} (hp : primeB p = true) (h1 : 0 < a) (h2 : a < p) (h3 : 0 < b) (h4 : b < p) : (a * b) % p ≠ 0 := by
  obtain ⟨n, rfl⟩ := Int.eq_ofNat_of_zero_le (show 0 ≤ a by omega)
  obtain ⟨m, rfl⟩ := Int.eq_ofNat_of_zero_le (show 0 ≤ b by omega)
  have hc := primeB_cases hp
  obtain ⟨q, rfl⟩ := Int.eq_ofNat_of_zero_le (show 0 ≤ p by omega)
  exact mul_table q (by simp; omega) n (by simp; omega) (by omega) m (by simp; omega) (by omega)
theorem dF_nz {p : Int} {s : Nat → Int} (hp : primeB p = true) : ∀ {n : Nat}, InP p n s → (∀ j, j < n → s j ≠ 0) → dF p s n ≠ 0
  | 0, _, _ => by simp [dF]
  | n + 1, hs, h => by
    have hb := primeB_bd hp
    have h1 := dF_nz hp (n := n) (hs.mono (by omega)) (fun j hj => h j (by omega))
    have h2 := dF_in (p := p) (by omega) s n
    have h3 := hs n (by omega)
    have h4 := h n (by omega)
    rw [dF]
    exact mul_nz hp (by omega) h2.2 (by omega) h3.2
theorem dF_z {p : Int} {s : Nat → Int} {j : Nat} (h : s j = 0) : ∀ {n : Nat}, j < n → dF p s n = 0
  | 0, hj => absurd hj (Nat.not_lt_zero _)
  | n + 1, hj => by
    rw [dF]
    by_cases e : j = n
    · subst e; rw [h]; simp
    · rw [dF_z h (n := n) (by omega)]; simp
theorem idx_some {f : Nat → Int} {x : Int} : ∀ {n : Nat}, 0 ≤ idx f x n → ∃ j, j < n ∧ f j = x
  | 0, h => by simp [idx] at h
  | n + 1, h => by
    simp only [idx] at h
    by_cases h0 : 0 ≤ idx f x n
    · obtain ⟨j, hj, he⟩ := idx_some h0
      exact ⟨j, by omega, he⟩
    · rw [if_neg h0] at h
      by_cases h1 : f n = x
      · exact ⟨n, by omega, h1⟩
      · rw [if_neg h1] at h; omega
theorem disc_reg {p : Int} {s : Nat → Int} {n : Nat} (hp : primeB p = true) (hs : InP p n s) : (dF p s n == 0) = decide (0 ≤ idx s 0 n) := by
  by_cases h : 0 ≤ idx s 0 n
  · obtain ⟨j, hj, he⟩ := idx_some h
    rw [decide_eq_true h, dF_z he hj]; rfl
  · rw [decide_eq_false h]
    have := dF_nz hp hs (idx_neg h)
    simpa using this

/-- a reflected vector: a the product of the two, b the inverse of the norm -/
def reflF (p a b : Int) (V U : Nat → Int) (i : Nat) : Int := (V i + -2 * a * b * U i) % p
theorem reflF_in {p : Int} (hp : 0 < p) (a b : Int) (V U : Nat → Int) (n : Nat) : InP p n (reflF p a b V U) := fun i _ => mod_bd _ _ hp
theorem refl_spec (p a b v u : Int) : (v + (p - (2 * a % p * b) % p) % p * u) % p = (v + -2 * a * b * u) % p := by
  rw [← mod_mod_add, mod_mul_mod, mod_mod_add]
  rw [show v + (p - (2 * a % p * b) % p) * u = (v + -u * ((2 * a % p * b) % p)) + p * u by grind, Int.add_mul_emod_self_left]
  rw [← mod_mod_add, mod_mod_mul, mod_mod_add]
  rw [show v + -u * (2 * a % p * b) = v + (-u * b) * (2 * a % p) by grind, ← mod_mod_add, mod_mod_mul, mod_mod_add]
  congr 1; grind

end Go.Proofs.Ytnkflgigbielgaa
