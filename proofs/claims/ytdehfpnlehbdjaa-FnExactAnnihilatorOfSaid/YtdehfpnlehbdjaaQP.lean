/-
  Numbers modulo a small prime, and products by doubling, in plain mathematics. No program is in sight. No condition.
-/
import Derived.Test.YtdehfpnlehbdjaaRows
set_option linter.unusedVariables false
set_option linter.unusedSimpArgs false
namespace Go.Proofs.Ytdehfpnlehbdjaa

def primeB (p : Int) : Bool := p == 3 || p == 5 || p == 7 || p == 11 || p == 13
theorem primeB_cases {p : Int} (h : primeB p = true) : p = 3 ∨ p = 5 ∨ p = 7 ∨ p = 11 ∨ p = 13 := by
  simp [primeB] at h; omega
theorem primeB_bd {p : Int} (h : primeB p = true) : 3 ≤ p ∧ p ≤ 13 := by
  have := primeB_cases h; omega

theorem tmod_bd (n p : Int) (hp : 0 < p) : -p < n.tmod p ∧ n.tmod p < p :=
  ⟨Int.lt_tmod_of_pos n hp, Int.tmod_lt_of_pos n hp⟩
theorem mod_bd (n p : Int) (hp : 0 < p) : 0 ≤ n % p ∧ n % p < p := ⟨Int.emod_nonneg _ (by omega), Int.emod_lt_of_pos _ hp⟩
theorem go_mod' (n p : Int) (hp : 0 < p) : (n.tmod p + p) % p = n % p := by
  rw [Int.add_emod_right, Int.tmod_def, Int.sub_eq_add_neg, ← Int.mul_neg, Int.add_mul_emod_self_left]
/-- Go's remainder, made not negative. -/
theorem go_mod (n p : Int) (hp : 0 < p) : (n.tmod p + p).tmod p = n % p := by
  have h1 := tmod_bd n p hp
  rw [Int.tmod_eq_emod_of_nonneg (by omega), go_mod' n p hp]

theorem mod_mod_add (a b p : Int) : (a + b % p) % p = (a + b) % p := by rw [Int.add_emod, Int.emod_emod, ← Int.add_emod]
theorem mod_add_mod (a b p : Int) : (a % p + b) % p = (a + b) % p := by rw [Int.add_emod, Int.emod_emod, ← Int.add_emod]
theorem mod_mod_mul (a b p : Int) : (a * (b % p)) % p = (a * b) % p := by rw [Int.mul_emod, Int.emod_emod, ← Int.mul_emod]
theorem mod_mul_mod (a b p : Int) : (a % p * b) % p = (a * b) % p := by rw [Int.mul_emod, Int.emod_emod, ← Int.mul_emod]

/-- n numbers from 0 to p - 1 -/
def InP (p : Int) (n : Nat) (X : Nat → Int) : Prop := ∀ i, i < n → 0 ≤ X i ∧ X i < p
theorem InP.mono {p : Int} {n m : Nat} {X : Nat → Int} (h : InP p n X) (hm : m ≤ n) : InP p m X := fun i hi => h i (by omega)
theorem InP.drop {p : Int} {n m k : Nat} {X : Nat → Int} (h : InP p n X) (hm : m + k ≤ n) : InP p k (fun i => X (m + i)) := fun i hi => h (m + i) (by omega)

def powM (p a : Int) : Nat → Int
  | 0 => 1
  | k + 1 => (powM p a k * a) % p
def invM (p a : Int) : Int := powM p a (p - 2).toNat

theorem inv_table : ∀ p ∈ [3, 5, 7, 11, 13], ∀ a ∈ List.range p, a ≠ 0 → 0 ≤ invM (p : Nat) (a : Nat) ∧ invM (p : Nat) (a : Nat) < (p : Nat) ∧ ((a : Nat) * invM (p : Nat) (a : Nat)) % (p : Nat) = (1 : Int) := by decide +kernel

theorem invM_spec {p a : Int} (hp : primeB p = true) (h1 : 0 < a) (h2 : a < p) : 0 ≤ invM p a ∧ invM p a < p ∧ (a * invM p a) % p = 1 := by
  obtain ⟨n, rfl⟩ := Int.eq_ofNat_of_zero_le (show 0 ≤ a by omega)
  have hc := primeB_cases hp
  obtain ⟨q, rfl⟩ := Int.eq_ofNat_of_zero_le (show 0 ≤ p by omega)
  exact inv_table q (by simp; omega) n (by simp; omega) (by omega)

theorem inv_unique : ∀ p ∈ [3, 5, 7, 11, 13], ∀ a ∈ List.range p, a ≠ 0 → ∀ b ∈ List.range p, ((a : Nat) * (b : Nat) : Int) % (p : Nat) = 1 → (b : Int) = invM (p : Nat) (a : Nat) := by decide +kernel
theorem invM_unique {p a b : Int} (hp : primeB p = true) (h1 : 0 < a) (h2 : a < p) (h3 : 0 ≤ b) (h4 : b < p) (h : (a * b) % p = 1) : b = invM p a := by
  obtain ⟨n, rfl⟩ := Int.eq_ofNat_of_zero_le (show 0 ≤ a by omega)
  obtain ⟨m, rfl⟩ := Int.eq_ofNat_of_zero_le h3
  have hc := primeB_cases hp
  obtain ⟨q, rfl⟩ := Int.eq_ofNat_of_zero_le (show 0 ≤ p by omega)
  exact inv_unique q (by simp; omega) n (by simp; omega) (by omega) m (by simp; omega) h

theorem powM_bd {p a : Int} (hp : 2 ≤ p) (k : Nat) : 0 ≤ powM p a k ∧ powM p a k < p := by
  cases k with
  | zero => simp [powM]; omega
  | succ k => exact mod_bd _ _ (by omega)

/-! ### doubling -/

/-- the conjugate -/
def conjF (p : Int) (X : Nat → Int) (i : Nat) : Int := if i = 0 then X 0 else (-(X i)) % p
theorem conjF_in {p : Int} (hp : 0 < p) {n : Nat} {X : Nat → Int} (h : InP p n X) : InP p n (conjF p X) := fun i hi => by
  unfold conjF; split
  · rename_i e; subst e; exact h 0 hi
  · exact mod_bd _ _ hp
theorem conjF_spec (p : Int) (X : Nat → Int) (i : Nat) : conjF p X i = if i = 0 then X 0 else ((p - 1) * X i) % p := by
  unfold conjF; split
  · rfl
  · rw [show (p - 1) * X i = -X i + p * X i by rw [Int.sub_mul]; omega, Int.add_mul_emod_self_left]

/-- the product for the first k steps -/
def mulF (p : Int) (s : Nat → Int) : Nat → (Nat → Int) → (Nat → Int) → Nat → Int
  | 0, X, Y, _ => (X 0 * Y 0) % p
  | k + 1, X, Y, i =>
    if i < 2 ^ k then (mulF p s k X Y i + s k * mulF p s k (conjF p fun j => Y (2 ^ k + j)) (fun j => X (2 ^ k + j)) i) % p
    else (mulF p s k (fun j => Y (2 ^ k + j)) X (i - 2 ^ k) + mulF p s k (fun j => X (2 ^ k + j)) (conjF p Y) (i - 2 ^ k)) % p
theorem mulF_in {p : Int} (hp : 0 < p) (s : Nat → Int) (k : Nat) (X Y : Nat → Int) (n : Nat) : InP p n (mulF p s k X Y) := fun i _ => by
  cases k with
  | zero => exact mod_bd _ _ hp
  | succ k => unfold mulF; split <;> exact mod_bd _ _ hp

theorem mulF_congr {p : Int} {s : Nat → Int} : ∀ (k : Nat) {X X' Y Y' : Nat → Int}, (∀ i, i < 2 ^ k → X i = X' i) → (∀ i, i < 2 ^ k → Y i = Y' i) → ∀ i, mulF p s k X Y i = mulF p s k X' Y' i := by
  intro k
  induction k with
  | zero => intro X X' Y Y' hX hY i; simp only [mulF]; rw [hX 0 (by decide), hY 0 (by decide)]
  | succ k ih =>
    intro X X' Y Y' hX hY i
    have hp : 2 ^ (k + 1) = 2 ^ k + 2 ^ k := by rw [Nat.pow_succ]; omega
    have hpos : 0 < 2 ^ k := Nat.pos_of_ne_zero (by simp)
    have x1 : ∀ i, i < 2 ^ k → X i = X' i := fun i hi => hX i (by omega)
    have x2 : ∀ i, i < 2 ^ k → X (2 ^ k + i) = X' (2 ^ k + i) := fun i hi => hX _ (by omega)
    have y1 : ∀ i, i < 2 ^ k → Y i = Y' i := fun i hi => hY i (by omega)
    have y2 : ∀ i, i < 2 ^ k → Y (2 ^ k + i) = Y' (2 ^ k + i) := fun i hi => hY _ (by omega)
    have c1 : ∀ i, i < 2 ^ k → conjF p Y i = conjF p Y' i := fun i hi => by unfold conjF; rw [y1 i hi, y1 0 hpos]
    have c2 : ∀ i, i < 2 ^ k → conjF p (fun j => Y (2 ^ k + j)) i = conjF p (fun j => Y' (2 ^ k + j)) i := fun i hi => by
      show (if i = 0 then Y (2 ^ k + 0) else (-(Y (2 ^ k + i))) % p) = if i = 0 then Y' (2 ^ k + 0) else (-(Y' (2 ^ k + i))) % p
      rw [y2 i hi, y2 0 hpos]
    simp only [mulF]
    rw [ih x1 y1 i, ih c2 x2 i, ih y2 x1, ih x2 c1]

end Go.Proofs.Ytdehfpnlehbdjaa
