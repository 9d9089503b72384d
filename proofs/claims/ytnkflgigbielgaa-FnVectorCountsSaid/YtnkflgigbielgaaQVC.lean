/-
  How many vectors have a norm: the counts of sums of squares are the numbers of places in the list of all vectors. No program is in sight. No condition.
-/
import Derived.Test.YtnkflgigbielgaaQV
import Derived.Test.YtnkflgigbielgaaQK
import Derived.Test.YtnkflgigbielgaaQ13
set_option linter.unusedVariables false
set_option linter.unusedSimpArgs false
namespace Go.Proofs.Ytnkflgigbielgaa

theorem cnt_sum (f : Nat → Bool) (a : Nat) : ∀ b, cnt f (a + b) = cnt f a + cnt (fun u => f (a + u)) b
  | 0 => rfl
  | b + 1 => by
    show cnt f (a + b) + (if f (a + b) then 1 else 0) = cnt f a + (cnt (fun u => f (a + u)) b + if f (a + b) then 1 else 0)
    rw [cnt_sum f a b]; omega
theorem cnt_mul (f : Nat → Bool) (N : Nat) : ∀ G, ((cnt f (G * N) : Nat) : Int) = sumF (fun a => ((cnt (fun u => f (a * N + u)) N : Nat) : Int)) G
  | 0 => by rw [Nat.zero_mul]; rfl
  | G + 1 => by
    rw [Nat.succ_mul, cnt_sum]
    show ((cnt f (G * N) + cnt (fun u => f (G * N + u)) N : Nat) : Int) = sumF _ G + ((cnt (fun u => f (G * N + u)) N : Nat) : Int)
    rw [← cnt_mul f N G]
    omega
theorem cnt_cong {f g : Nat → Bool} : ∀ {n : Nat}, (∀ j, j < n → f j = g j) → cnt f n = cnt g n
  | 0, _ => rfl
  | n + 1, h => by
    simp only [cnt]
    rw [cnt_cong (n := n) fun j hj => h j (by omega), h n (by omega)]
theorem vecT_nat (P n t i : Nat) : vecT (P : Int) n t i = ((t / P ^ (n - 1 - i) % P : Nat) : Int) := by unfold vecT; push_cast; rfl
theorem vec_first {P n a u : Nat} (ha : a < P) (hu : u < P ^ n) : vecT (P : Int) (n + 1) (a * P ^ n + u) 0 = a := by
  rw [vecT_nat, show n + 1 - 1 - 0 = n by omega]
  congr 1
  have h : (a * P ^ n + u) / P ^ n = a := by
    rw [Nat.mul_comm, Nat.mul_add_div (by omega), Nat.div_eq_of_lt hu, Nat.add_zero]
  rw [h, Nat.mod_eq_of_lt ha]
theorem vec_next {P n a u i : Nat} (hP : 0 < P) (hi : i < n) : vecT (P : Int) (n + 1) (a * P ^ n + u) (i + 1) = vecT (P : Int) n u i := by
  rw [vecT_nat, vecT_nat, show n + 1 - 1 - (i + 1) = n - 1 - i by omega]
  congr 1
  obtain ⟨j, hj⟩ : ∃ j, n - 1 - i = j := ⟨_, rfl⟩
  rw [hj]
  have e : P ^ n = P ^ j * (P ^ i * P) := by rw [← Nat.pow_succ, ← Nat.pow_add]; congr 1; omega
  have hpj : 0 < P ^ j := Nat.pow_pos hP
  rw [e, show a * (P ^ j * (P ^ i * P)) + u = P ^ j * (a * (P ^ i * P)) + u by rw [Nat.mul_left_comm]]
  rw [Nat.mul_add_div hpj, show a * (P ^ i * P) = P * (a * P ^ i) by rw [← Nat.mul_assoc, Nat.mul_comm], Nat.mul_add_mod]
theorem sumF_first (f : Nat → Int) (n : Nat) : sumF f (n + 1) = f 0 + sumF (fun i => f (i + 1)) n := by
  rw [show n + 1 = 1 + n by omega, sumF_add]
  have e : sumF f 1 = f 0 := by simp [sumF]
  rw [e]
  congr 1
  exact sumF_congr fun i _ => by rw [Nat.add_comm]
theorem backK_gath {P : Nat} (hP : 0 < P) (c : Nat → Int) (lo m : Nat) {k : Nat} (hk : k < P) : backK P c lo (m + 1) k = sumF (fun a => backK P c (lo + 1) m (((k : Int) - c lo * a * a) % P).toNat) P := stepK_gather hP (c lo) _ hk
theorem eq_shift {P : Nat} (hP : 0 < P) (x y : Int) {k : Nat} (hk : k < P) : ((x + y) % (P : Int) == (k : Int)) = (y % (P : Int) == ((((k : Int) - x) % (P : Int)).toNat : Int)) := by
  have hm := mod_bd ((k : Int) - x) P (by omega)
  rw [show ((((k : Int) - x) % (P : Int)).toNat : Int) = ((k : Int) - x) % (P : Int) by omega]
  rw [Bool.eq_iff_iff, beq_iff_eq, beq_iff_eq]
  constructor
  · intro h
    have e : y = (x + y) + -x := by omega
    rw [e, ← mod_add_mod, h]; congr 1
  · intro h
    rw [← mod_mod_add, h, mod_mod_add, show x + ((k : Int) - x) = k by omega]
    exact Int.emod_eq_of_lt (by omega) (by omega)
/-- the number of places whose vectors have the norm k -/
theorem cnt_back {P : Nat} (hP : 0 < P) (c : Nat → Int) : ∀ (n lo k : Nat), k < P → ((cnt (fun t => sumF (fun i => c (lo + i) * vecT (P : Int) n t i * vecT (P : Int) n t i) n % (P : Int) == (k : Int)) (P ^ n) : Nat) : Int) = backK P c lo n k
  | 0, lo, k, hk => by
    show ((cnt _ 1 : Nat) : Int) = if k = 0 then 1 else 0
    by_cases e : k = 0
    · subst e; simp [cnt, sumF]
    · have : ¬ (0 : Int) = (k : Int) := by omega
      simp [cnt, sumF, e, this]
  | n + 1, lo, k, hk => by
    have lt : ∀ x : Int, (x % P).toNat < P := fun x => by have := mod_bd x P (by omega); omega
    rw [Nat.pow_succ, Nat.mul_comm, cnt_mul, backK_gath hP c lo n hk]
    refine sumF_congr fun a ha => ?_
    rw [← cnt_back hP c n (lo + 1) _ (lt _)]
    congr 1
    refine cnt_cong fun u hu => ?_
    rw [sumF_first, vec_first ha hu, Nat.add_zero, eq_shift hP _ _ hk]
    congr 2
    refine sumF_congr fun i hi => ?_
    rw [vec_next hP hi, show lo + (i + 1) = lo + 1 + i by omega]

end Go.Proofs.Ytnkflgigbielgaa
