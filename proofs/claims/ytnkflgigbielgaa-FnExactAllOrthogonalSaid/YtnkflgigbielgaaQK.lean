/-
  Counting the sums of squares with coefficients modulo p: the order of the coefficients does not matter. No program is in sight. No condition.
-/
import Derived.Test.YtnkflgigbielgaaQNJ
set_option linter.unusedVariables false
set_option linter.unusedSimpArgs false
namespace Go.Proofs.Ytnkflgigbielgaa

/-- what one number with the coefficient c adds to the counts of the residues: the count of k is that of all n and a with n + c a a = k -/
def stepK (P : Nat) (c : Int) (C : Nat → Int) (k : Nat) : Int := sumF (fun n => sumF (fun a => if ((n : Int) + c * a * a) % P = (k : Int) then C n else 0) P) P

theorem sumF_zero : ∀ n, sumF (fun _ => 0) n = 0
  | 0 => rfl
  | n + 1 => by rw [sumF, sumF_zero n]; rfl
theorem sumF_plus (f g : Nat → Int) : ∀ n, sumF (fun i => f i + g i) n = sumF f n + sumF g n
  | 0 => rfl
  | n + 1 => by rw [sumF, sumF, sumF, sumF_plus f g n]; omega
theorem sumF_swap (f : Nat → Nat → Int) (m : Nat) : ∀ n, sumF (fun i => sumF (fun j => f i j) m) n = sumF (fun j => sumF (fun i => f i j) n) m
  | 0 => by rw [show (fun j => sumF (fun i => f i j) 0) = fun _ => 0 from rfl, sumF_zero]; rfl
  | n + 1 => by
    rw [sumF, sumF_swap f m n, ← sumF_plus]
    rfl
/-- a sum with one place that counts -/
theorem sumF_one (f : Nat → Int) (k : Nat) : ∀ {n : Nat}, k < n → sumF (fun i => if i = k then f i else 0) n = f k := by
  intro n
  induction n with
  | zero => intro h; exact absurd h (Nat.not_lt_zero _)
  | succ n ih =>
    intro h
    rw [sumF]
    by_cases e : n = k
    · subst e
      rw [if_pos rfl, sumF_congr (g := fun _ => 0) fun i hi => if_neg (by omega), sumF_zero]; omega
    · rw [if_neg e, ih (by omega)]; omega

/-- the count of k, gathered -/
theorem stepK_gather {P : Nat} (hP : 0 < P) (c : Int) (C : Nat → Int) {k : Nat} (hk : k < P) : stepK P c C k = sumF (fun a => C (((k : Int) - c * a * a) % P).toNat) P := by
  unfold stepK
  rw [sumF_swap]
  refine sumF_congr fun a ha => ?_
  have hm := mod_bd ((k : Int) - c * a * a) P (by omega)
  obtain ⟨r, hr⟩ := Int.eq_ofNat_of_zero_le hm.1
  rw [hr] at hm ⊢
  have hrP : r < P := by omega
  show _ = C ((r : Int)).toNat
  rw [Int.toNat_natCast, ← sumF_one C r hrP]
  refine sumF_congr fun n hn => ?_
  by_cases e : n = r
  · subst e
    rw [if_pos rfl, if_pos]
    rw [← hr, mod_add_mod, show (k : Int) - c * a * a + c * a * a = k by omega]
    exact Int.emod_eq_of_lt (by omega) (by omega)
  · rw [if_neg e, if_neg]
    intro h
    apply e
    have : ((n : Int) + c * a * a + -(c * a * a)) % P = ((k : Int) - c * a * a) % P := by rw [← mod_add_mod, h, ← Int.sub_eq_add_neg]
    rw [show (n : Int) + c * a * a + -(c * a * a) = n by omega, Int.emod_eq_of_lt (by omega) (by omega), hr] at this
    omega

theorem stepK_congr {P : Nat} {c : Int} {C D : Nat → Int} (h : ∀ n, n < P → C n = D n) (k : Nat) : stepK P c C k = stepK P c D k := by
  unfold stepK
  refine sumF_congr fun n hn => sumF_congr fun a ha => ?_
  rw [h n hn]

/-- two coefficients may change places -/
theorem stepK_comm {P : Nat} (hP : 0 < P) (c d : Int) (C : Nat → Int) {k : Nat} (hk : k < P) : stepK P c (stepK P d C) k = stepK P d (stepK P c C) k := by
  have lt : ∀ x : Int, (x % P).toNat < P := fun x => by have := mod_bd x P (by omega); omega
  have nn : ∀ x : Int, (((x % P).toNat : Nat) : Int) = x % P := fun x => by have := mod_bd x P (by omega); omega
  rw [stepK_gather hP c _ hk, stepK_gather hP d _ hk]
  rw [sumF_congr fun a _ => stepK_gather hP d C (lt ((k : Int) - c * a * a)), sumF_congr fun a _ => stepK_gather hP c C (lt ((k : Int) - d * a * a))]
  rw [sumF_swap]
  refine sumF_congr fun b hb => sumF_congr fun a ha => ?_
  rw [nn, nn]
  rw [show ((k : Int) - c * a * a) % P - d * b * b = ((k : Int) - c * a * a) % P + -(d * b * b) by omega, mod_add_mod]
  rw [show ((k : Int) - d * b * b) % P - c * a * a = ((k : Int) - d * b * b) % P + -(c * a * a) by omega, mod_add_mod]
  rw [show (k : Int) - c * a * a + -(d * b * b) = (k : Int) - d * b * b + -(c * a * a) by omega]

/-- the counts of the coefficients from lo on, m of them, the last ones taken first -/
def backK (P : Nat) (c : Nat → Int) (lo : Nat) : Nat → Nat → Int
  | 0 => fun k => if k = 0 then 1 else 0
  | m + 1 => stepK P (c lo) (backK P c (lo + 1) m)
/-- .. the first ones taken first -/
def foreK (P : Nat) (c : Nat → Int) (lo : Nat) : Nat → Nat → Int
  | 0 => fun k => if k = 0 then 1 else 0
  | m + 1 => stepK P (c (lo + m)) (foreK P c lo m)

theorem backK_snoc {P : Nat} (hP : 0 < P) (c : Nat → Int) : ∀ (m lo k : Nat), k < P → backK P c lo (m + 1) k = stepK P (c (lo + m)) (backK P c lo m) k
  | 0, lo, k, hk => by rw [Nat.add_zero]; rfl
  | m + 1, lo, k, hk => by
    show stepK P (c lo) (backK P c (lo + 1) (m + 1)) k = stepK P (c (lo + (m + 1))) (stepK P (c lo) (backK P c (lo + 1) m)) k
    rw [stepK_congr (fun n hn => backK_snoc hP c m (lo + 1) n hn) k, stepK_comm hP _ _ _ hk, show lo + 1 + m = lo + (m + 1) by omega]
theorem fore_back {P : Nat} (hP : 0 < P) (c : Nat → Int) (lo : Nat) : ∀ (m k : Nat), k < P → foreK P c lo m k = backK P c lo m k
  | 0, k, hk => rfl
  | m + 1, k, hk => by
    rw [backK_snoc hP c m lo k hk]
    exact stepK_congr (fun n hn => fore_back hP c lo m n hn) k

/-! ### bounds -/

theorem sumF_nonneg {f : Nat → Int} : ∀ {n : Nat}, (∀ i, i < n → 0 ≤ f i) → 0 ≤ sumF f n
  | 0, _ => Int.le_refl _
  | n + 1, h => by have h1 := sumF_nonneg (fun i hi => h i (by omega)) (n := n); have h2 := h n (by omega); rw [sumF]; omega
theorem sumF_le {f g : Nat → Int} : ∀ {n : Nat}, (∀ i, i < n → f i ≤ g i) → sumF f n ≤ sumF g n
  | 0, _ => Int.le_refl _
  | n + 1, h => by have h1 := sumF_le (fun i hi => h i (by omega)) (n := n); have h2 := h n (by omega); rw [sumF, sumF]; omega
theorem sumF_constI (B : Int) : ∀ n : Nat, sumF (fun _ => B) n = n * B
  | 0 => by simp [sumF]
  | n + 1 => by rw [sumF, sumF_constI B n, show ((n + 1 : Nat) : Int) * B = n * B + B by rw [Int.natCast_add, Int.add_mul]; simp]

theorem stepK_bd {P : Nat} (hP : 0 < P) (c : Int) {C : Nat → Int} {B : Int} (h : ∀ n, n < P → 0 ≤ C n ∧ C n ≤ B) {k : Nat} (hk : k < P) : 0 ≤ stepK P c C k ∧ stepK P c C k ≤ P * B := by
  rw [stepK_gather hP c C hk, ← sumF_constI]
  have lt : ∀ x : Int, (x % P).toNat < P := fun x => by have := mod_bd x P (by omega); omega
  exact ⟨sumF_nonneg fun a _ => (h _ (lt _)).1, sumF_le fun a _ => (h _ (lt _)).2⟩
theorem backK_bd {P : Nat} (hP : 0 < P) (c : Nat → Int) : ∀ (m lo k : Nat), k < P → 0 ≤ backK P c lo m k ∧ backK P c lo m k ≤ (P : Int) ^ m
  | 0, lo, k, hk => by simp only [backK]; split <;> simp
  | m + 1, lo, k, hk => by
    have h := stepK_bd hP (c lo) (B := (P : Int) ^ m) (fun n hn => backK_bd hP c m (lo + 1) n hn) hk
    rw [show (P : Int) ^ (m + 1) = P * (P : Int) ^ m by rw [Int.pow_succ, Int.mul_comm]]
    exact h

/-! ### a step in the making -/

/-- what stands after all numbers below n, and of n the first x roots -/
def partK (P : Nat) (c : Int) (C : Nat → Int) (n x k : Nat) : Int :=
  sumF (fun n => sumF (fun a => if ((n : Int) + c * a * a) % P = (k : Int) then C n else 0) P) n + sumF (fun a => if ((n : Int) + c * a * a) % P = (k : Int) then C n else 0) x
theorem partK_zero (P : Nat) (c : Int) (C : Nat → Int) (k : Nat) : partK P c C 0 0 k = 0 := by simp [partK, sumF]
theorem partK_row (P : Nat) (c : Int) (C : Nat → Int) (n k : Nat) : partK P c C n P k = partK P c C (n + 1) 0 k := by
  show _ = sumF _ n + sumF _ P + sumF _ 0
  simp only [sumF]; unfold partK; omega
theorem partK_all (P : Nat) (c : Int) (C : Nat → Int) (k : Nat) : partK P c C P 0 k = stepK P c C k := by
  unfold partK stepK; simp only [sumF]; omega
theorem partK_next (P : Nat) (c : Int) (C : Nat → Int) (n x k : Nat) : partK P c C n (x + 1) k = partK P c C n x k + (if ((n : Int) + c * x * x) % P = (k : Int) then C n else 0) := by
  unfold partK; rw [sumF]; omega
theorem sumF_upTo {f : Nat → Int} (a : Nat) : ∀ d : Nat, (∀ i, i < a + d → 0 ≤ f i) → sumF f a ≤ sumF f (a + d)
  | 0, _ => Int.le_refl _
  | d + 1, h => by
    have h1 := sumF_upTo a d (fun i hi => h i (by omega))
    have h2 := h (a + d) (by omega)
    show sumF f a ≤ sumF f (a + d) + f (a + d)
    omega
theorem sumF_upTo' {f : Nat → Int} {a b : Nat} (hab : a ≤ b) (h : ∀ i, i < b → 0 ≤ f i) : sumF f a ≤ sumF f b := by
  have := sumF_upTo (f := f) a (b - a) (fun i hi => h i (by omega))
  rwa [show a + (b - a) = b by omega] at this
theorem partK_bd {P : Nat} (c : Int) {C : Nat → Int} (hC : ∀ n, n < P → 0 ≤ C n) {n x : Nat} (hn : n < P) (hx : x ≤ P) (k : Nat) : 0 ≤ partK P c C n x k ∧ partK P c C n x k ≤ stepK P c C k := by
  have t : ∀ n, n < P → ∀ a : Nat, 0 ≤ (if ((n : Int) + c * a * a) % P = (k : Int) then C n else 0) := fun n hn a => by
    split
    · exact hC n hn
    · exact Int.le_refl _
  refine ⟨?_, ?_⟩
  · have h1 := sumF_nonneg (f := fun n : Nat => sumF (fun a : Nat => if ((n : Int) + c * a * a) % P = (k : Int) then C n else 0) P) (n := n) (fun i hi => sumF_nonneg fun a _ => t i (by omega) a)
    have h2 := sumF_nonneg (f := fun a : Nat => if ((n : Int) + c * a * a) % P = (k : Int) then C n else 0) (n := x) (fun a _ => t n hn a)
    unfold partK; omega
  · rw [← partK_all]
    have h1 : partK P c C n x k ≤ partK P c C n P k := by
      have := sumF_upTo' (f := fun a : Nat => if ((n : Int) + c * a * a) % P = (k : Int) then C n else 0) hx (fun a _ => t n hn a)
      unfold partK; omega
    have h2 : partK P c C (n + 1) 0 k ≤ partK P c C P 0 k := by
      have := sumF_upTo' (f := fun n : Nat => sumF (fun a : Nat => if ((n : Int) + c * a * a) % P = (k : Int) then C n else 0) P) (show n + 1 ≤ P by omega) (fun i hi => sumF_nonneg fun a _ => t i hi a)
      unfold partK; simp only [sumF] at this ⊢; omega
    rw [partK_row] at h1
    omega
theorem pow_bd {P m : Nat} (hP : P ≤ 13) (hm : m ≤ 16) : (P : Int) ^ m ≤ 665416609183179841 := by
  have h1 : P ^ m ≤ 13 ^ m := Nat.pow_le_pow_left hP m
  have h2 : 13 ^ m ≤ 13 ^ 16 := Nat.pow_le_pow_right (by decide) hm
  have h3 : ((P ^ m : Nat) : Int) = (P : Int) ^ m := by simp
  rw [← h3]
  have h4 : 13 ^ 16 = 665416609183179841 := by decide
  omega
theorem foreK_bd {P : Nat} (hP : 0 < P) (c : Nat → Int) {m k : Nat} (hk : k < P) : 0 ≤ foreK P c 0 m k ∧ foreK P c 0 m k ≤ (P : Int) ^ m := by
  rw [fore_back hP c 0 m k hk]; exact backK_bd hP c m 0 k hk

end Go.Proofs.Ytnkflgigbielgaa
