/-
  Numbers modulo a small prime, and products by doubling, in plain mathematics. No program is in sight. No condition.
-/
import Derived.Test.YtnkflgigbielgaaRows
set_option linter.unusedVariables false
set_option linter.unusedSimpArgs false
namespace Go.Proofs.Ytnkflgigbielgaa

def primeB (p : Int) : Bool := p == 3 || p == 5 || p == 7 || p == 11 || p == 13
theorem primeB_cases {p : Int} (h : primeB p = true) : p = 3 ∨ p = 5 ∨ p = 7 ∨ p = 11 ∨ p = 13 := by
  simp [primeB] at h; omega
theorem primeB_bd {p : Int} (h : primeB p = true) : 3 ≤ p ∧ p ≤ 13 := by
  have := primeB_cases h; omega

theorem tmod_bd (n p : Int) (hp : 0 < p) : -p < n.tmod p ∧ n.tmod p < p :=
  ⟨Int.lt_tmod_of_pos n hp, Int.tmod_lt_of_pos n hp⟩
theorem mod_bd (n p : Int) (hp : 0 < p) : 0 ≤ n % p ∧ n % p < p := ⟨Int.emod_nonneg _ (by omega), Int.emod_lt_of_pos _ hp⟩
theorem go_mod' (n p : Int) (hp : 0 < p) : (n.tmod p + p) % p = n % p := by
  rw [Int.add_emod_right, Int.tmod_def, Int.sub_eq_add_neg, ← Int.mul_neg, Int.add_mul_emod_self_left]
/-- Go's remainder, made not negative. -/
theorem go_mod (n p : Int) (hp : 0 < p) : (n.tmod p + p).tmod p = n % p := by
  have h1 := tmod_bd n p hp
  rw [Int.tmod_eq_emod_of_nonneg (by omega), go_mod' n p hp]

theorem mod_mod_add (a b p : Int) : (a + b % p) % p = (a + b) % p := by rw [Int.add_emod, Int.emod_emod, ← Int.add_emod]
theorem mod_add_mod (a b p : Int) : (a % p + b) % p = (a + b) % p := by rw [Int.add_emod, Int.emod_emod, ← Int.add_emod]
theorem mod_mod_mul (a b p : Int) : (a * (b % p)) % p = (a * b) % p := by rw [Int.mul_emod, Int.emod_emod, ← Int.mul_emod]
theorem mod_mul_mod (a b p : Int) : (a % p * b) % p = (a * b) % p := by rw [Int.mul_emod, Int.emod_emod, ← Int.mul_emod]

/-- n numbers from 0 to p - 1 -/
def InP (p : Int) (n : Nat) (X : Nat → Int) : Prop := ∀ i, i < n → 0 ≤ X i ∧ X i < p
theorem InP.mono {p : Int} {n m : Nat} {X : Nat → Int} (h : InP p n X) (hm : m ≤ n) : InP p m X := fun i hi => h i (by omega)
theorem InP.drop {p : Int} {n m k : Nat} {X : Nat → Int} (h : InP p n X) (hm : m + k ≤ n) : InP p k (fun i => X (m + i)) := fun i hi => h (m + i) (by omega)

def powM (p a : Int) : Nat → Int
  | 0 => 1
  | k + 1 => (powM p a k * a) % p
def invM (p a : Int) : Int := powM p a (p - 2).toNat

theorem inv_table : ∀ p ∈ [3, 5, 7, 11, 13], ∀ a ∈ List.range p, a ≠ 0 → 0 ≤ invM (p : Nat) (a : Nat) ∧ invM (p : Nat) (a : Nat) < (p : Nat) ∧ ((a : Nat) * invM (p : Nat) (a : Nat)) % (p : Nat) = (1 : Int) := by decide +kernel

theorem invM_spec {p a : Int} (hp : primeB p = true) (h1 : 0 < a) (h2 : a < p) : 0 ≤ invM p a ∧ invM p a < p ∧ (a * invM p a) % p = 1 := by
  obtain ⟨n, rfl⟩ := Int.eq_ofNat_of_zero_le (show 0 ≤ a by omega)
  have hc := primeB_cases hp
  obtain ⟨q, rfl⟩ := Int.eq_ofNat_of_zero_le (show 0 ≤ p by omega)
  exact inv_table q (by simp; omega) n (by simp; omega) (by omega)

theorem inv_unique : ∀ p ∈ [3, 5, 7, 11, 13], ∀ a ∈ List.range p, a ≠ 0 → ∀ b ∈ List.range p, ((a : Nat) * (b : Nat) : Int) % (p : Nat) = 1 → (b : Int) = invM (p : Nat) (a : Nat) := by decide +kernel
theorem invM_unique {p a b : Int} (hp : primeB p = true) (h1 : 0 < a) (h2 : a < p) (h3 : 0 ≤ b) (h4 : b < p) (h : (a * b) % p = 1) : b = invM p a := by
  obtain ⟨n, rfl⟩ := Int.eq_ofNat_of_zero_le (show 0 ≤ a by omega)
  obtain ⟨m, rfl⟩ := Int.eq_ofNat_of_zero_le h3
  have hc := primeB_cases hp
  obtain ⟨q, rfl⟩ := Int.eq_ofNat_of_zero_le (show 0 ≤ p by omega)
  exact inv_unique q (by simp; omega) n (by simp; omega) (by omega) m (by simp; omega) h

theorem powM_bd {p a : Int} (hp : 2 ≤ p) (k : Nat) : 0 ≤ powM p a k ∧ powM p a k < p := by
  cases k with
  | zero => simp [powM]; omega
  | succ k => exact mod_bd _ _ (by omega)

/-! ### doubling -/

/-- the conjugate -/
def conjF (p : Int) (X : Nat → Int) (i : Nat) : Int := if i = 0 then X 0 else (-(X i)) % p
theorem conjF_in {p : Int} (hp : 0 < p) {n : Nat} {X : Nat → Int} (h : InP p n X) : InP p n (conjF p X) := fun i hi => by
  unfold conjF; split
  · rename_i e; subst e; exact h 0 hi
  · exact mod_bd _ _ hp
theorem conjF_spec (p : Int) (X : Nat → Int) (i : Nat) : conjF p X i = if i = 0 then X 0 else ((p - 1) * X i) % p := by
  unfold conjF; split
  · rfl
  · rw [show (p - 1) * X i = -X i + p * X i by rw [Int.sub_mul]; omega, Int.add_mul_emod_self_left]

/-- the product for the first k steps -/
def mulF (p : Int) (s : Nat → Int) : Nat → (Nat → Int) → (Nat → Int) → Nat → Int
  | 0, X, Y, _ => (X 0 * Y 0) % p
  | k + 1, X, Y, i =>
    if i < 2 ^ k then (mulF p s k X Y i + s k * mulF p s k (conjF p fun j => Y (2 ^ k + j)) (fun j => X (2 ^ k + j)) i) % p
    else (mulF p s k (fun j => Y (2 ^ k + j)) X (i - 2 ^ k) + mulF p s k (fun j => X (2 ^ k + j)) (conjF p Y) (i - 2 ^ k)) % p
theorem mulF_in {p : Int} (hp : 0 < p) (s : Nat → Int) (k : Nat) (X Y : Nat → Int) (n : Nat) : InP p n (mulF p s k X Y) := fun i _ => by
  cases k with
  | zero => exact mod_bd _ _ hp
  | succ k => unfold mulF; split <;> exact mod_bd _ _ hp

theorem mulF_congr {p : Int} {s : Nat → Int} : ∀ (k : Nat) {X X' Y Y' : Nat → Int}, (∀ i, i < 2 ^ k → X i = X' i) → (∀ i, i < 2 ^ k → Y i = Y' i) → ∀ i, mulF p s k X Y i = mulF p s k X' Y' i := by
  intro k
  induction k with
  | zero => intro X X' Y Y' hX hY i; simp only [mulF]; rw [hX 0 (by decide), hY 0 (by decide)]
  | succ k ih =>
    intro X X' Y Y' hX hY i
    have hp : 2 ^ (k + 1) = 2 ^ k + 2 ^ k := by rw [Nat.pow_succ]; omega
    have hpos : 0 < 2 ^ k := Nat.pos_of_ne_zero (by simp)
    have x1 : ∀ i, i < 2 ^ k → X i = X' i := fun i hi => hX i (by omega)
    have x2 : ∀ i, i < 2 ^ k → X (2 ^ k + i) = X' (2 ^ k + i) := fun i hi => hX _ (by omega)
    have y1 : ∀ i, i < 2 ^ k → Y i = Y' i := fun i hi => hY i (by omega)
    have y2 : ∀ i, i < 2 ^ k → Y (2 ^ k + i) = Y' (2 ^ k + i) := fun i hi => hY _ (by omega)
    have c1 : ∀ i, i < 2 ^ k → conjF p Y i = conjF p Y' i := fun i hi => by unfold conjF; rw [y1 i hi, y1 0 hpos]
    have c2 : ∀ i, i < 2 ^ k → conjF p (fun j => Y (2 ^ k + j)) i = conjF p (fun j => Y' (2 ^ k + j)) i := fun i hi => by
      show (if i = 0 then Y (2 ^ k + 0) else (-(Y (2 ^ k + i))) % p) = if i = 0 then Y' (2 ^ k + 0) else (-(Y' (2 ^ k + i))) % p
      rw [y2 i hi, y2 0 hpos]
    simp only [mulF]
    rw [ih x1 y1 i, ih c2 x2 i, ih y2 x1, ih x2 c1]

end Go.Proofs.Ytnkflgigbielgaa

/-
  The norm of an element is the sum of the squares of its numbers, each times the number of the diagonal. No program is in sight. No condition.
-/
set_option linter.unusedVariables false
set_option linter.unusedSimpArgs false
namespace Go.Proofs.Ytnkflgigbielgaa

def sumF (f : Nat → Int) : Nat → Int
  | 0 => 0
  | n + 1 => sumF f n + f n
/-- the sum that is taken modulo p at each step -/
def nsF (p : Int) (f : Nat → Int) : Nat → Int
  | 0 => 0
  | n + 1 => (nsF p f n + f n) % p
theorem nsF_eq (p : Int) (f : Nat → Int) : ∀ n, nsF p f n = sumF f n % p
  | 0 => by simp [nsF, sumF]
  | n + 1 => by rw [nsF, sumF, nsF_eq p f n, mod_add_mod]
theorem nsF_in {p : Int} (hp : 0 < p) (f : Nat → Int) (n : Nat) : 0 ≤ nsF p f n ∧ nsF p f n < p := by rw [nsF_eq]; exact mod_bd _ _ hp
theorem sumF_add (f : Nat → Int) (a : Nat) : ∀ b, sumF f (a + b) = sumF f a + sumF (fun i => f (a + i)) b
  | 0 => by simp [sumF]
  | b + 1 => by
    show sumF f (a + b) + f (a + b) = sumF f a + (sumF (fun i => f (a + i)) b + f (a + b))
    rw [sumF_add f a b]; omega
theorem sumF_congr {f g : Nat → Int} : ∀ {n : Nat}, (∀ i, i < n → f i = g i) → sumF f n = sumF g n
  | 0, _ => rfl
  | n + 1, h => by rw [sumF, sumF, sumF_congr fun i hi => h i (by omega), h n (by omega)]
theorem sumF_mod {p : Int} {f g : Nat → Int} : ∀ {n : Nat}, (∀ i, i < n → f i % p = g i % p) → sumF f n % p = sumF g n % p
  | 0, _ => rfl
  | n + 1, h => by
    show (sumF f n + f n) % p = (sumF g n + g n) % p
    rw [Int.add_emod, sumF_mod fun i hi => h i (by omega), h n (by omega), ← Int.add_emod]
theorem sumF_mul (k : Int) (f : Nat → Int) : ∀ n, k * sumF f n = sumF (fun i => k * f i) n
  | 0 => by simp [sumF]
  | n + 1 => by rw [sumF, sumF, Int.mul_add, sumF_mul k f n]

/-- the coefficients of the real part of a product -/
def cF (s : Nat → Int) : Nat → Nat → Int
  | 0, _ => 1
  | k + 1, i => if i < 2 ^ k then cF s k i else s k * cF s k (i - 2 ^ k) * (if i = 2 ^ k then 1 else -1)
/-- the diagonal of the norm -/
def dgF (p : Int) (s : Nat → Int) : Nat → Nat → Int
  | 0, _ => 1
  | k + 1, i => if i < 2 ^ k then dgF p s k i else ((p - s k) * dgF p s k (i - 2 ^ k)) % p
theorem dgF_in {p : Int} (hp : 1 < p) (s : Nat → Int) : ∀ k i, 0 ≤ dgF p s k i ∧ dgF p s k i < p
  | 0, i => ⟨by simp [dgF], by simpa [dgF] using hp⟩
  | k + 1, i => by
    unfold dgF; split
    · exact dgF_in hp s k i
    · exact mod_bd _ _ (by omega)

theorem mod_eq_mul {a b p : Int} (h : a % p = b % p) (k : Int) : (k * a) % p = (k * b) % p := by
  rw [← mod_mod_mul k a, h, mod_mod_mul]

theorem real_mul (p : Int) (s : Nat → Int) : ∀ (k : Nat) (X Y : Nat → Int), mulF p s k X Y 0 = sumF (fun i => cF s k i * (X i * Y i)) (2 ^ k) % p := by
  intro k
  induction k with
  | zero => intro X Y; simp [mulF, sumF, cF]
  | succ k ih =>
    intro X Y
    have hpos : 0 < 2 ^ k := Nat.pos_of_ne_zero (by simp)
    have e : 2 ^ (k + 1) = 2 ^ k + 2 ^ k := by rw [Nat.pow_succ]; omega
    have e1 : mulF p s (k + 1) X Y 0 = (mulF p s k X Y 0 + s k * mulF p s k (conjF p fun j => Y (2 ^ k + j)) (fun j => X (2 ^ k + j)) 0) % p := by
      rw [mulF, if_pos hpos]
    rw [e1, ih, ih, mod_add_mod, e, sumF_add]
    rw [← mod_mod_add, mod_mod_mul, mod_mod_add]
    rw [← mod_mod_add, sumF_mul]
    have a1 : sumF (fun i => cF s (k + 1) i * (X i * Y i)) (2 ^ k) = sumF (fun i => cF s k i * (X i * Y i)) (2 ^ k) := sumF_congr fun i hi => by
      show cF s (k + 1) i * _ = _
      rw [cF, if_pos hi]
    rw [a1]
    have a2 : sumF (fun i => s k * (cF s k i * ((conjF p fun j => Y (2 ^ k + j)) i * X (2 ^ k + i)))) (2 ^ k) % p = sumF (fun i => cF s (k + 1) (2 ^ k + i) * (X (2 ^ k + i) * Y (2 ^ k + i))) (2 ^ k) % p := sumF_mod fun i hi => by
      have c1 : cF s (k + 1) (2 ^ k + i) = s k * cF s k i * (if i = 0 then 1 else -1) := by
        rw [cF, if_neg (by omega), show 2 ^ k + i - 2 ^ k = i by omega]
        by_cases h0 : i = 0
        · rw [if_pos h0, if_pos (by omega)]
        · rw [if_neg h0, if_neg (by omega)]
      rw [c1]
      unfold conjF
      by_cases h0 : i = 0
      · subst h0
        simp only [if_true, Nat.add_zero]
        congr 1; grind
      · rw [if_neg h0, if_neg h0]
        rw [show s k * (cF s k i * (-Y (2 ^ k + i) % p * X (2 ^ k + i))) = (s k * cF s k i * X (2 ^ k + i)) * (-Y (2 ^ k + i) % p) by grind, mod_mod_mul]
        congr 1; grind
    rw [a2, mod_mod_add]

theorem dg_c (p : Int) (s : Nat → Int) : ∀ k i, i < 2 ^ k → dgF p s k i % p = (cF s k i * (if i = 0 then 1 else -1)) % p := by
  intro k
  induction k with
  | zero => intro i hi; obtain rfl : i = 0 := by simp at hi; omega
            simp [dgF, cF]
  | succ k ih =>
    intro i hi
    have e : 2 ^ (k + 1) = 2 ^ k + 2 ^ k := by rw [Nat.pow_succ]; omega
    have hpos : 0 < 2 ^ k := Nat.pos_of_ne_zero (by simp)
    by_cases h : i < 2 ^ k
    · rw [dgF, cF, if_pos h, if_pos h]; exact ih i h
    · rw [dgF, cF, if_neg h, if_neg h, if_neg (show ¬ i = 0 by omega), Int.emod_emod]
      have h1 := mod_eq_mul (ih (i - 2 ^ k) (by omega)) (p - s k)
      rw [h1]
      by_cases h0 : i = 2 ^ k
      · subst h0
        simp only [Nat.sub_self, if_true]
        rw [show (p - s k) * (cF s k 0 * 1) = s k * cF s k 0 * 1 * -1 + p * cF s k 0 by grind, Int.add_mul_emod_self_left]
      · rw [if_neg h0, if_neg (show ¬ i - 2 ^ k = 0 by omega)]
        rw [show (p - s k) * (cF s k (i - 2 ^ k) * -1) = s k * cF s k (i - 2 ^ k) * -1 * -1 + p * (-cF s k (i - 2 ^ k)) by grind, Int.add_mul_emod_self_left]

/-- the norm -/
def normF (p : Int) (s : Nat → Int) (n : Nat) (X : Nat → Int) : Int := mulF p s n X (conjF p X) 0
theorem normF_in {p : Int} (hp : 0 < p) (s : Nat → Int) (n : Nat) (X : Nat → Int) : 0 ≤ normF p s n X ∧ normF p s n X < p := mulF_in hp s n X (conjF p X) 1 0 (by omega)
theorem norm_sum (p : Int) (s : Nat → Int) (n : Nat) (X : Nat → Int) : nsF p (fun i => dgF p s n i * X i * X i) (2 ^ n) = normF p s n X := by
  unfold normF
  rw [nsF_eq, real_mul]
  refine sumF_mod fun i hi => ?_
  rw [Int.mul_assoc, Int.mul_comm, ← mod_mod_mul, dg_c p s n i hi, mod_mod_mul]
  unfold conjF
  by_cases h0 : i = 0
  · rw [if_pos h0, if_pos h0, h0]; congr 1; grind
  · rw [if_neg h0, if_neg h0]
    rw [show cF s n i * (X i * (-X i % p)) = (cF s n i * X i) * (-X i % p) by grind, mod_mod_mul]
    congr 1; grind

end Go.Proofs.Ytnkflgigbielgaa

/-
  Spaces in plain mathematics: the test, and the product of two vectors, taken in either order. No program is in sight. No condition.
-/
set_option linter.unusedVariables false
set_option linter.unusedSimpArgs false
namespace Go.Proofs.Ytnkflgigbielgaa

/-- the product of two vectors -/
def pairF (p : Int) (s : Nat → Int) (n : Nat) (X Y : Nat → Int) : Int := sumF (fun i => s i * X i * Y i) n % p
theorem pairF_in {p : Int} (hp : 0 < p) (s : Nat → Int) (n : Nat) (X Y : Nat → Int) : 0 ≤ pairF p s n X Y ∧ pairF p s n X Y < p := mod_bd _ _ hp
/-- as the reference takes it: modulo p at each step -/
def spF (p : Int) (s X Y : Nat → Int) : Nat → Int
  | 0 => 0
  | n + 1 => (spF p s X Y n + (X n * Y n) % p * s n) % p
theorem spF_in {p : Int} (hp : 0 < p) (s X Y : Nat → Int) (n : Nat) : 0 ≤ spF p s X Y n ∧ spF p s X Y n < p := by
  cases n with
  | zero => simp [spF]; exact hp
  | succ n => exact mod_bd _ _ hp
theorem spF_eq (p : Int) (s X Y : Nat → Int) : ∀ n, spF p s X Y n = pairF p s n X Y
  | 0 => by simp [spF, pairF, sumF]
  | n + 1 => by
    unfold pairF
    rw [spF, sumF, spF_eq p s X Y n]
    unfold pairF
    rw [mod_add_mod, ← mod_mod_add, mod_mul_mod, mod_mod_add]
    congr 2; grind
/-- as the program takes it: the weights first, one remainder at the end -/
theorem dot_eq (p : Int) (s : Nat → Int) (n : Nat) (X Y : Nat → Int) : sumF (fun i => (X i * s i) % p * Y i) n % p = pairF p s n X Y := by
  unfold pairF
  refine sumF_mod fun i hi => ?_
  rw [mod_mul_mod]
  congr 1; grind
theorem sumF_bd {f : Nat → Int} {B : Int} (hB : 0 ≤ B) : ∀ {n : Nat}, (∀ i, i < n → -B ≤ f i ∧ f i ≤ B) → -(n * B) ≤ sumF f n ∧ sumF f n ≤ n * B
  | 0, _ => by simp [sumF]
  | n + 1, h => by
    have h1 := sumF_bd hB (fun i hi => h i (by omega)) (n := n)
    have h2 := h n (by omega)
    rw [sumF, show ((n + 1 : Nat) : Int) * B = n * B + B by rw [Int.natCast_add, Int.add_mul]; simp]
    omega
theorem pairF_comm (p : Int) (s : Nat → Int) (n : Nat) (X Y : Nat → Int) : pairF p s n X Y = pairF p s n Y X := by
  unfold pairF
  rw [sumF_congr fun i hi => show s i * X i * Y i = s i * Y i * X i by grind]

end Go.Proofs.Ytnkflgigbielgaa

/-
  Elimination: the first row with a number, rows that change places, a multiple of a row added. No program is in sight. No condition.
-/
set_option linter.unusedVariables false
set_option linter.unusedSimpArgs false
namespace Go.Proofs.Ytnkflgigbielgaa

/-- the first index from i, within d steps, at which f holds; i + d if there is none -/
def fnd (f : Nat → Bool) : Nat → Nat → Nat
  | i, 0 => i
  | i, d + 1 => if f i then i else fnd f (i + 1) d
theorem fnd_yes {f : Nat → Bool} {i d : Nat} (h : f i = true) (hd : 0 < d) : fnd f i d = i := by
  obtain ⟨e, rfl⟩ : ∃ e, d = e + 1 := ⟨d - 1, by omega⟩
  simp [fnd, h]
theorem fnd_no {f : Nat → Bool} {i d : Nat} (h : f i = false) (hd : 0 < d) : fnd f i d = fnd f (i + 1) (d - 1) := by
  obtain ⟨e, rfl⟩ : ∃ e, d = e + 1 := ⟨d - 1, by omega⟩
  simp [fnd, h]
theorem fnd_bd (f : Nat → Bool) : ∀ (d i : Nat), i ≤ fnd f i d ∧ fnd f i d ≤ i + d
  | 0, i => by simp [fnd]
  | d + 1, i => by
    unfold fnd
    split
    · omega
    · have := fnd_bd f d (i + 1); omega
theorem fnd_at (f : Nat → Bool) : ∀ (d i : Nat), fnd f i d < i + d → f (fnd f i d) = true
  | 0, i, h => by simp [fnd] at h
  | d + 1, i, h => by
    unfold fnd at h ⊢
    split
    · assumption
    · rename_i hf
      rw [if_neg hf] at h
      exact fnd_at f d (i + 1) (by omega)
theorem fnd_congr {f g : Nat → Bool} : ∀ {d i : Nat}, (∀ j, i ≤ j → j < i + d → f j = g j) → fnd f i d = fnd g i d
  | 0, i, _ => rfl
  | d + 1, i, h => by
    unfold fnd
    rw [h i (Nat.le_refl _) (by omega), fnd_congr fun j h1 h2 => h j (by omega) (by omega)]

/-- two places change -/
def swp {α : Type} (T : Nat → α) (a b r : Nat) : α := if r = a then T b else if r = b then T a else T r
/-- one place is set -/
def put {α : Type} (T : Nat → α) (a : Nat) (x : α) (r : Nat) : α := if r = a then x else T r
theorem swp_self {α : Type} (T : Nat → α) (a : Nat) : swp T a a = T := by
  funext r; unfold swp
  by_cases e : r = a
  · subst e; simp
  · simp [e]
theorem swp_left {α : Type} (T : Nat → α) (a b : Nat) : swp T a b a = T b := by simp [swp]
theorem put_self {α : Type} (T : Nat → α) (a : Nat) (x : α) : put T a x a = x := by simp [put]
theorem put_other {α : Type} (T : Nat → α) {a r : Nat} (x : α) (h : r ≠ a) : put T a x r = T r := by simp [put, h]
/-- a row, and a multiple of another -/
def elm (p : Int) (X Y : Nat → Int) (k : Int) (j : Nat) : Int := (X j + k * Y j) % p
theorem elm_in {p : Int} (hp : 0 < p) (X Y : Nat → Int) (k : Int) (n : Nat) : InP p n (elm p X Y k) := fun j _ => mod_bd _ _ hp
theorem elm_zero {p : Int} {n : Nat} {X Y : Nat → Int} (h : InP p n X) {j : Nat} (hj : j < n) : elm p X Y (-0) j = X j := by
  have := h j hj
  unfold elm
  rw [Int.neg_zero, Int.zero_mul, Int.add_zero, Int.emod_eq_of_lt this.1 this.2]
/-- the reference's factor does the same -/
theorem elm_mod (p : Int) (X Y : Nat → Int) {a b : Int} (h : a % p = b % p) (j : Nat) : elm p X Y a j = elm p X Y b j := by
  unfold elm
  have e1 : (X j + a * Y j) % p = (X j + a % p * Y j) % p := by
    rw [Int.add_emod, Int.mul_emod, ← Int.emod_emod_of_dvd a (Int.dvd_refl p), ← Int.mul_emod, ← Int.add_emod]
    simp [Int.add_emod, Int.mul_emod]
  have e2 : (X j + b * Y j) % p = (X j + b % p * Y j) % p := by
    simp [Int.add_emod, Int.mul_emod]
  rw [e1, e2, h]
theorem fac_mod (p a f : Int) : ((p - a) * f % p) % p = (-a * f) % p := by
  rw [Int.emod_emod_of_dvd _ (Int.dvd_refl p)]
  have e : (p - a) * f = -a * f + p * f := by grind
  rw [e, Int.add_mul_emod_self_left]
theorem fac_mod1 (p a : Int) : ((p - a) % p) % p = (-a) % p := by
  rw [Int.emod_emod_of_dvd _ (Int.dvd_refl p)]
  have e : p - a = -a + p * 1 := by omega
  rw [e, Int.add_mul_emod_self_left]

/-- rows of n numbers of the field -/
def RowsIn (p : Int) (G n : Nat) (T : Nat → Nat → Int) : Prop := ∀ i, i < G → InP p n (T i)
theorem RowsIn.swp {p : Int} {G n : Nat} {T : Nat → Nat → Int} (h : RowsIn p G n T) {a b : Nat} (ha : a < G) (hb : b < G) : RowsIn p G n (swp T a b) := fun i hi => by
  unfold Go.Proofs.Ytnkflgigbielgaa.swp
  split
  · exact h b hb
  · split
    · exact h a ha
    · exact h i hi

/-- the rows behind row i, each less its multiple of row i -/
def elimD (p : Int) (T : Nat → Nat → Int) (i r : Nat) : Nat → Int := if i < r then elm p (T r) (T i) (-T r i * invM p (T i i)) else T r
theorem elimD_in {p : Int} (hp : 0 < p) {G n : Nat} {T : Nat → Nat → Int} (h : RowsIn p G n T) (i : Nat) : RowsIn p G n (elimD p T i) := fun r hr => by
  unfold elimD
  split
  · exact elm_in hp _ _ _ _
  · exact h r hr
/-- the determinant, from row i on -/
def detR (p : Int) (G : Nat) : Nat → Nat → (Nat → Nat → Int) → Int → Int
  | 0, _, _, o => o
  | f + 1, i, T, o =>
    if fnd (fun r => T r i != 0) i (G - i) = G then 0 else
      detR p G f (i + 1) (elimD p (swp T i (fnd (fun r => T r i != 0) i (G - i))) i) (((if fnd (fun r => T r i != 0) i (G - i) = i then o else (-o) % p) * swp T i (fnd (fun r => T r i != 0) i (G - i)) i i) % p)
theorem elimD_congr {p : Int} {G n : Nat} {T T' : Nat → Nat → Int} {i : Nat} (hi : i < G) (hin : i < n) (h : ∀ r j, r < G → j < n → T r j = T' r j) : ∀ r j, r < G → j < n → elimD p T i r j = elimD p T' i r j := fun r j hr hj => by
  unfold elimD
  split
  · unfold elm; rw [h r j hr hj, h i j hi hj, h r i hr hin, h i i hi hin]
  · exact h r j hr hj
theorem swp_congr {G n : Nat} {T T' : Nat → Nat → Int} {a b : Nat} (ha : a < G) (hb : b < G) (h : ∀ r j, r < G → j < n → T r j = T' r j) : ∀ r j, r < G → j < n → swp T a b r j = swp T' a b r j := fun r j hr hj => by
  unfold swp
  split
  · exact h b j hb hj
  · split
    · exact h a j ha hj
    · exact h r j hr hj
theorem detR_congr {p : Int} {G n : Nat} (hGn : G ≤ n) : ∀ (f i : Nat) {T T' : Nat → Nat → Int} (o : Int), i + f ≤ G → (∀ r j, r < G → j < n → T r j = T' r j) → detR p G f i T o = detR p G f i T' o
  | 0, _, _, _, _, _, _ => rfl
  | f + 1, i, T, T', o, hif, h => by
    unfold detR
    have e : fnd (fun r => T r i != 0) i (G - i) = fnd (fun r => T' r i != 0) i (G - i) := fnd_congr fun r h1 h2 => by show (T r i != 0) = (T' r i != 0); rw [h r i (by omega) (by omega)]
    rw [e]
    have hb := fnd_bd (fun r => T' r i != 0) (G - i) i
    obtain ⟨k, hk⟩ : ∃ k, fnd (fun r => T' r i != 0) i (G - i) = k := ⟨_, rfl⟩
    rw [hk] at hb ⊢
    by_cases hkG : k = G
    · rw [if_pos hkG, if_pos hkG]
    · rw [if_neg hkG, if_neg hkG]
      have hs := swp_congr (n := n) (a := i) (b := k) (by omega) (by omega) h
      rw [hs i i (by omega) (by omega)]
      exact detR_congr hGn f (i + 1) _ (by omega) (elimD_congr (by omega) (by omega) hs)

/-- one column of the elimination: the rows, and how many are done -/
def bStep (p : Int) (G k : Nat) (S : (Nat → Nat → Int) × Nat) : (Nat → Nat → Int) × Nat :=
  if fnd (fun r => S.1 r k != 0) S.2 (G - S.2) = G then S else
    (elimB p (swp S.1 S.2 (fnd (fun r => S.1 r k != 0) S.2 (G - S.2))) S.2 k, S.2 + 1)
where
  /-- row d is made to have 1 at place k, the others nought there -/
  elimB (p : Int) (T : Nat → Nat → Int) (d k r : Nat) : Nat → Int :=
    if r = d then fun j => (T d j * invM p (T d k)) % p else elm p (T r) (fun j => (T d j * invM p (T d k)) % p) (-T r k)
/-- the state after k columns -/
def bSt (p : Int) (G : Nat) (T : Nat → Nat → Int) : Nat → (Nat → Nat → Int) × Nat
  | 0 => (T, 0)
  | k + 1 => bStep p G k (bSt p G T k)
theorem bSt_in {p : Int} (hp : 0 < p) {G n : Nat} {T : Nat → Nat → Int} (h : RowsIn p G n T) : ∀ k, RowsIn p G n (bSt p G T k).1 ∧ (bSt p G T k).2 ≤ G ∧ (bSt p G T k).2 ≤ k
  | 0 => ⟨h, Nat.zero_le _, Nat.le_refl _⟩
  | k + 1 => by
    have ih := bSt_in hp h k
    show RowsIn p G n (bStep p G k (bSt p G T k)).1 ∧ (bStep p G k (bSt p G T k)).2 ≤ G ∧ (bStep p G k (bSt p G T k)).2 ≤ k + 1
    unfold bStep
    have hb := fnd_bd (fun r => (bSt p G T k).1 r k != 0) (G - (bSt p G T k).2) (bSt p G T k).2
    split
    · exact ⟨ih.1, ih.2.1, by omega⟩
    · refine ⟨fun r hr => ?_, by show _ + 1 ≤ G; omega, by show _ + 1 ≤ k + 1; omega⟩
      show InP p n (bStep.elimB p _ _ k r)
      unfold bStep.elimB
      split
      · exact fun j _ => mod_bd _ _ hp
      · exact elm_in hp _ _ _ _
theorem bSt_full {p : Int} {G : Nat} {T : Nat → Nat → Int} {k : Nat} (h : (bSt p G T k).2 = G) : ∀ d, bSt p G T (k + d) = bSt p G T k
  | 0 => rfl
  | d + 1 => by
    show bStep p G (k + d) (bSt p G T (k + d)) = _
    rw [bSt_full h d]
    unfold bStep
    rw [h, Nat.sub_self]; exact if_pos rfl

end Go.Proofs.Ytnkflgigbielgaa
