/-
  Counting through all vectors, the last place fastest. No program is in sight. No condition.
-/
import Derived.Test.YtnkflgigbielgaaQNJ
import Derived.Test.YtnkflgigbielgaaQ13
set_option linter.unusedVariables false
set_option linter.unusedSimpArgs false
namespace Go.Proofs.Ytnkflgigbielgaa

/-- the number that a vector's first n places spell -/
def valV (p : Int) (X : Nat → Int) : Nat → Int
  | 0 => 0
  | k + 1 => valV p X k * p + X k
theorem valV_congr {p : Int} {X Y : Nat → Int} : ∀ {n : Nat}, (∀ i, i < n → X i = Y i) → valV p X n = valV p Y n
  | 0, _ => rfl
  | n + 1, h => by rw [valV, valV, valV_congr fun i hi => h i (by omega), h n (by omega)]
theorem valV_bd {p : Int} (hp : 1 ≤ p) {X : Nat → Int} : ∀ {n : Nat}, InP p n X → 0 ≤ valV p X n ∧ valV p X n ≤ p ^ n - 1
  | 0, _ => by simp [valV]
  | n + 1, h => by
    have h1 := valV_bd hp (n := n) (h.mono (by omega))
    have h2 := h n (by omega)
    rw [valV, Int.pow_succ]
    have h3 : 0 ≤ valV p X n * p := Int.mul_nonneg h1.1 (by omega)
    have h4 : valV p X n * p ≤ (p ^ n - 1) * p := Int.mul_le_mul_of_nonneg_right h1.2 (by omega)
    have h5 : (p ^ n - 1) * p = p ^ n * p - p := by rw [Int.sub_mul]; omega
    omega
/-- the places from j on stand at the end -/
def maxFrom (p : Int) (n j : Nat) (X : Nat → Int) : Prop := ∀ i, j ≤ i → i < n → X i = p - 1
/-- the places from j on are nought, the others as they were -/
def clr (j : Nat) (X : Nat → Int) (i : Nat) : Int := if j ≤ i then 0 else X i
/-- one more at place j, nought behind it -/
def inc (j : Nat) (X : Nat → Int) (i : Nat) : Int := if i = j then X j + 1 else if j < i then 0 else X i
theorem val_max {p : Int} {j : Nat} {X : Nat → Int} : ∀ (d : Nat), maxFrom p (j + d) j X → valV p X (j + d) = valV p X j * p ^ d + (p ^ d - 1)
  | 0, _ => by simp
  | d + 1, h => by
    rw [show j + (d + 1) = (j + d) + 1 from rfl, valV, val_max d fun i h1 h2 => h i h1 (by omega), h (j + d) (by omega) (by omega), Int.pow_succ]
    grind
theorem val_clr {p : Int} {j : Nat} {X : Nat → Int} : ∀ (d : Nat), valV p (clr j X) (j + d) = valV p X j * p ^ d
  | 0 => by
    rw [Nat.add_zero, Int.pow_zero, Int.mul_one]
    exact valV_congr fun i hi => by unfold clr; rw [if_neg (by omega)]
  | d + 1 => by
    rw [show j + (d + 1) = (j + d) + 1 from rfl, valV, val_clr d, Int.pow_succ]
    unfold clr; rw [if_pos (by omega)]; grind
/-- the next vector spells the next number -/
theorem val_inc {p : Int} {n j : Nat} {X : Nat → Int} (hj : j < n) (h : maxFrom p n (j + 1) X) : valV p (inc j X) n = valV p X n + 1 := by
  obtain ⟨d, rfl⟩ : ∃ d, n = (j + 1) + d := ⟨n - (j + 1), by omega⟩
  rw [val_max d h]
  have e : valV p (inc j X) (j + 1 + d) = valV p (clr (j + 1) (inc j X)) (j + 1 + d) := valV_congr fun i hi => by
    unfold clr inc
    by_cases h1 : j + 1 ≤ i
    · rw [if_pos h1, if_neg (by omega), if_pos (by omega)]
    · rw [if_neg h1]
  rw [e, val_clr, valV, valV]
  have e2 : valV p (inc j X) j = valV p X j := valV_congr fun i hi => by unfold inc; rw [if_neg (by omega), if_neg (by omega)]
  rw [e2]
  unfold inc
  rw [if_pos rfl]; grind
theorem val_top {p : Int} {n : Nat} {X : Nat → Int} (h : maxFrom p n 0 X) : valV p X n = p ^ n - 1 := by
  have := val_max (p := p) (j := 0) (X := X) n (by rw [Nat.zero_add]; exact h)
  rw [Nat.zero_add] at this
  rw [this]; simp [valV]
theorem inc_in {p : Int} {n j : Nat} {X : Nat → Int} (hp : 1 ≤ p) (h : InP p n X) (hj : X j ≠ p - 1) : InP p n (inc j X) := fun i hi => by
  have h1 := h i hi
  unfold inc
  by_cases e : i = j
  · subst e; rw [if_pos rfl]; omega
  · rw [if_neg e]
    split
    · omega
    · exact h1
/-- a vector is known by what it spells -/
theorem val_inj {p : Int} (hp : 1 ≤ p) {X Y : Nat → Int} : ∀ {n : Nat}, InP p n X → InP p n Y → valV p X n = valV p Y n → ∀ i, i < n → X i = Y i
  | 0, _, _, _, i, hi => absurd hi (Nat.not_lt_zero _)
  | n + 1, hX, hY, h, i, hi => by
    rw [valV, valV] at h
    have x := hX n (by omega)
    have y := hY n (by omega)
    have e1 : (valV p X n * p + X n) % p = X n := by rw [Int.add_comm, Int.add_mul_emod_self_right]; exact Int.emod_eq_of_lt x.1 x.2
    have e2 : (valV p Y n * p + Y n) % p = Y n := by rw [Int.add_comm, Int.add_mul_emod_self_right]; exact Int.emod_eq_of_lt y.1 y.2
    have e3 : X n = Y n := by rw [← e1, ← e2, h]
    have e4 : valV p X n = valV p Y n := Int.eq_of_mul_eq_mul_right (show p ≠ 0 by omega) (by omega)
    by_cases e : i = n
    · subst e; exact e3
    · exact val_inj hp (hX.mono (by omega)) (hY.mono (by omega)) e4 i (by omega)
/-- the t-th vector -/
def vecT (p : Int) (n t i : Nat) : Int := ((t : Int) / p ^ (n - 1 - i)) % p
theorem vecT_in {p : Int} (hp : 1 ≤ p) (n t m : Nat) : InP p m (vecT p n t) := fun i _ => mod_bd _ _ (by omega)
theorem div_step (t p q : Int) (hp : 0 < p) (hq : 0 < q) : (t / (q * p)) * p + (t / q) % p = t / q := by
  have h1 : t / (q * p) = (t / q) / p := by rw [Int.ediv_ediv_of_nonneg (by omega)]
  rw [h1, Int.mul_comm]
  exact Int.mul_ediv_add_emod _ _
theorem mod_split (u p m : Int) (hp : 0 < p) (hm : 0 < m) : u / p % m * p + u % p = u % (p * m) := by
  have h1 : p * (u / p) + u % p = u := Int.mul_ediv_add_emod u p
  have h2 : m * (u / p / m) + u / p % m = u / p := Int.mul_ediv_add_emod (u / p) m
  have hb := mod_bd u p hp
  have he := mod_bd (u / p) m hm
  obtain ⟨e, qe⟩ : ∃ e, u / p % m = e := ⟨_, rfl⟩
  obtain ⟨b, qb⟩ : ∃ b, u % p = b := ⟨_, rfl⟩
  obtain ⟨c, qc⟩ : ∃ c, u / p / m = c := ⟨_, rfl⟩
  rw [qe, qc] at h2
  rw [qb] at h1 hb
  rw [qe] at he
  rw [qe, qb]
  have hu : u = (e * p + b) + p * m * c := by rw [← h1, ← h2]; grind
  have h3 : 0 ≤ e * p := Int.mul_nonneg he.1 (by omega)
  have h4 : e * p ≤ (m - 1) * p := Int.mul_le_mul_of_nonneg_right (by omega) (by omega)
  have h5 : (m - 1) * p = p * m - p := by grind
  rw [hu, Int.add_mul_emod_self_left, Int.emod_eq_of_lt (by omega) (by omega)]
theorem val_vecT {p : Int} (hp : 1 ≤ p) (n t : Nat) : ∀ k, k ≤ n → valV p (vecT p n t) k = (t : Int) / p ^ (n - k) % p ^ k
  | 0, _ => by simp [valV, Int.emod_one]
  | k + 1, hk => by
    have hpk : ∀ j : Nat, 0 < p ^ j := fun j => Int.pow_pos (by omega)
    rw [valV, val_vecT hp n t k (by omega)]
    unfold vecT
    rw [show n - 1 - k = n - (k + 1) by omega, show n - k = (n - (k + 1)) + 1 by omega, Int.pow_succ]
    obtain ⟨q, hq⟩ : ∃ q, p ^ (n - (k + 1)) = q := ⟨_, rfl⟩
    have hq0 : 0 < q := hq ▸ hpk _
    rw [hq]
    obtain ⟨u, hu⟩ : ∃ u, (t : Int) / q = u := ⟨_, rfl⟩
    have h1 : (t : Int) / (q * p) = u / p := by rw [← hu, Int.ediv_ediv_of_nonneg (by omega)]
    rw [h1, hu, Int.pow_succ, Int.mul_comm (p ^ k) p]
    exact mod_split u p (p ^ k) (by omega) (hpk k)
theorem vecT_val {p : Int} (hp : 1 ≤ p) {n t : Nat} (ht : (t : Int) < p ^ n) {X : Nat → Int} (hX : InP p n X) (h : valV p X n = t) : ∀ i, i < n → X i = vecT p n t i := by
  refine val_inj hp hX (vecT_in hp n t n) ?_
  rw [h, val_vecT hp n t n (Nat.le_refl _), Nat.sub_self, Int.pow_zero, Int.ediv_one, Int.emod_eq_of_lt (by omega) ht]

end Go.Proofs.Ytnkflgigbielgaa
