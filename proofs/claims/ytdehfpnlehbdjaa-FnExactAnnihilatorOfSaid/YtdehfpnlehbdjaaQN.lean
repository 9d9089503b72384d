/-
  The norm of an element is the sum of the squares of its numbers, each times the number of the diagonal. No program is in sight. No condition.
-/
import Derived.Test.YtdehfpnlehbdjaaQP
set_option linter.unusedVariables false
set_option linter.unusedSimpArgs false
namespace Go.Proofs.Ytdehfpnlehbdjaa

def sumF (f : Nat → Int) : Nat → Int
  | 0 => 0
  | n + 1 => sumF f n + f n
/-- the sum that is taken modulo p at each step -/
def nsF (p : Int) (f : Nat → Int) : Nat → Int
  | 0 => 0
  | n + 1 => (nsF p f n + f n) % p
theorem nsF_eq (p : Int) (f : Nat → Int) : ∀ n, nsF p f n = sumF f n % p
  | 0 => by simp [nsF, sumF]
  | n + 1 => by rw [nsF, sumF, nsF_eq p f n, mod_add_mod]
theorem nsF_in {p : Int} (hp : 0 < p) (f : Nat → Int) (n : Nat) : 0 ≤ nsF p f n ∧ nsF p f n < p := by rw [nsF_eq]; exact mod_bd _ _ hp
theorem sumF_add (f : Nat → Int) (a : Nat) : ∀ b, sumF f (a + b) = sumF f a + sumF (fun i => f (a + i)) b
  | 0 => by simp [sumF]
  | b + 1 => by
    show sumF f (a + b) + f (a + b) = sumF f a + (sumF (fun i => f (a + i)) b + f (a + b))
    rw [sumF_add f a b]; omega
theorem sumF_congr {f g : Nat → Int} : ∀ {n : Nat}, (∀ i, i < n → f i = g i) → sumF f n = sumF g n
  | 0, _ => rfl
  | n + 1, h => by rw [sumF, sumF, sumF_congr fun i hi => h i (by omega), h n (by omega)]
theorem sumF_mod {p : Int} {f g : Nat → Int} : ∀ {n : Nat}, (∀ i, i < n → f i % p = g i % p) → sumF f n % p = sumF g n % p
  | 0, _ => rfl
  | n + 1, h => by
    show (sumF f n + f n) % p = (sumF g n + g n) % p
    rw [Int.add_emod, sumF_mod fun i hi => h i (by omega), h n (by omega), ← Int.add_emod]
theorem sumF_mul (k : Int) (f : Nat → Int) : ∀ n, k * sumF f n = sumF (fun i => k * f i) n
  | 0 => by simp [sumF]
  | n + 1 => by rw [sumF, sumF, Int.mul_add, sumF_mul k f n]

/-- the coefficients of the real part of a product -/
def cF (s : Nat → Int) : Nat → Nat → Int
  | 0, _ => 1
  | k + 1, i => if i < 2 ^ k then cF s k i else s k * cF s k (i - 2 ^ k) * (if i = 2 ^ k then 1 else -1)
/-- the diagonal of the norm -/
def dgF (p : Int) (s : Nat → Int) : Nat → Nat → Int
  | 0, _ => 1
  | k + 1, i => if i < 2 ^ k then dgF p s k i else ((p - s k) * dgF p s k (i - 2 ^ k)) % p
theorem dgF_in {p : Int} (hp : 1 < p) (s : Nat → Int) : ∀ k i, 0 ≤ dgF p s k i ∧ dgF p s k i < p
  | 0, i => ⟨by simp [dgF], by simpa [dgF] using hp⟩
  | k + 1, i => by
    unfold dgF; split
    · exact dgF_in hp s k i
    · exact mod_bd _ _ (by omega)

theorem mod_eq_mul {a b p : Int} (h : a % p = b % p) (k : Int) : (k * a) % p = (k * b) % p := by
  rw [← mod_mod_mul k a, h, mod_mod_mul]

theorem real_mul (p : Int) (s : Nat → Int) : ∀ (k : Nat) (X Y : Nat → Int), mulF p s k X Y 0 = sumF (fun i => cF s k i * (X i * Y i)) (2 ^ k) % p := by
  intro k
  induction k with
  | zero => intro X Y; simp [mulF, sumF, cF]
  | succ k ih =>
    intro X Y
    have hpos : 0 < 2 ^ k := Nat.pos_of_ne_zero (by simp)
    have e : 2 ^ (k + 1) = 2 ^ k + 2 ^ k := by rw [Nat.pow_succ]; omega
    have e1 : mulF p s (k + 1) X Y 0 = (mulF p s k X Y 0 + s k * mulF p s k (conjF p fun j => Y (2 ^ k + j)) (fun j => X (2 ^ k + j)) 0) % p := by
      rw [mulF, if_pos hpos]
    rw [e1, ih, ih, mod_add_mod, e, sumF_add]
    rw [← mod_mod_add, mod_mod_mul, mod_mod_add]
    rw [← mod_mod_add, sumF_mul]
    have a1 : sumF (fun i => cF s (k + 1) i * (X i * Y i)) (2 ^ k) = sumF (fun i => cF s k i * (X i * Y i)) (2 ^ k) := sumF_congr fun i hi => by
      show cF s (k + 1) i * _ = _
      rw [cF, if_pos hi]
    rw [a1]
    have a2 : sumF (fun i => s k * (cF s k i * ((conjF p fun j => Y (2 ^ k + j)) i * X (2 ^ k + i)))) (2 ^ k) % p = sumF (fun i => cF s (k + 1) (2 ^ k + i) * (X (2 ^ k + i) * Y (2 ^ k + i))) (2 ^ k) % p := sumF_mod fun i hi => by
      have c1 : cF s (k + 1) (2 ^ k + i) = s k * cF s k i * (if i = 0 then 1 else -1) := by
        rw [cF, if_neg (by omega), show 2 ^ k + i - 2 ^ k = i by omega]
        by_cases h0 : i = 0
        · rw [if_pos h0, if_pos (by omega)]
        · rw [if_neg h0, if_neg (by omega)]
      rw [c1]
      unfold conjF
      by_cases h0 : i = 0
      · subst h0
        simp only [if_true, Nat.add_zero]
        congr 1; grind
      · rw [if_neg h0, if_neg h0]
        rw [show s k * (cF s k i * (-Y (2 ^ k + i) % p * X (2 ^ k + i))) = (s k * cF s k i * X (2 ^ k + i)) * (-Y (2 ^ k + i) % p) by grind, mod_mod_mul]
        congr 1; grind
    rw [a2, mod_mod_add]

theorem dg_c (p : Int) (s : Nat → Int) : ∀ k i, i < 2 ^ k → dgF p s k i % p = (cF s k i * (if i = 0 then 1 else -1)) % p := by
  intro k
  induction k with
  | zero => intro i hi; obtain rfl : i = 0 := by simp at hi; omega
            simp [dgF, cF]
  | succ k ih =>
    intro i hi
    have e : 2 ^ (k + 1) = 2 ^ k + 2 ^ k := by rw [Nat.pow_succ]; omega
    have hpos : 0 < 2 ^ k := Nat.pos_of_ne_zero (by simp)
    by_cases h : i < 2 ^ k
    · rw [dgF, cF, if_pos h, if_pos h]; exact ih i h
    · rw [dgF, cF, if_neg h, if_neg h, if_neg (show ¬ i = 0 by omega), Int.emod_emod]
      have h1 := mod_eq_mul (ih (i - 2 ^ k) (by omega)) (p - s k)
      rw [h1]
      by_cases h0 : i = 2 ^ k
      · subst h0
        simp only [Nat.sub_self, if_true]
        rw [show (p - s k) * (cF s k 0 * 1) = s k * cF s k 0 * 1 * -1 + p * cF s k 0 by grind, Int.add_mul_emod_self_left]
      · rw [if_neg h0, if_neg (show ¬ i - 2 ^ k = 0 by omega)]
        rw [show (p - s k) * (cF s k (i - 2 ^ k) * -1) = s k * cF s k (i - 2 ^ k) * -1 * -1 + p * (-cF s k (i - 2 ^ k)) by grind, Int.add_mul_emod_self_left]

/-- the norm -/
def normF (p : Int) (s : Nat → Int) (n : Nat) (X : Nat → Int) : Int := mulF p s n X (conjF p X) 0
theorem normF_in {p : Int} (hp : 0 < p) (s : Nat → Int) (n : Nat) (X : Nat → Int) : 0 ≤ normF p s n X ∧ normF p s n X < p := mulF_in hp s n X (conjF p X) 1 0 (by omega)
theorem norm_sum (p : Int) (s : Nat → Int) (n : Nat) (X : Nat → Int) : nsF p (fun i => dgF p s n i * X i * X i) (2 ^ n) = normF p s n X := by
  unfold normF
  rw [nsF_eq, real_mul]
  refine sumF_mod fun i hi => ?_
  rw [Int.mul_assoc, Int.mul_comm, ← mod_mod_mul, dg_c p s n i hi, mod_mod_mul]
  unfold conjF
  by_cases h0 : i = 0
  · rw [if_pos h0, if_pos h0, h0]; congr 1; grind
  · rw [if_neg h0, if_neg h0]
    rw [show cF s n i * (X i * (-X i % p)) = (cF s n i * X i) * (-X i % p) by grind, mod_mod_mul]
    congr 1; grind

end Go.Proofs.Ytdehfpnlehbdjaa
