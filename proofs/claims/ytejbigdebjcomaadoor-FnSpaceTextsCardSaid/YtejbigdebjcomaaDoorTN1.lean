/-
  The reference's source of draws: every state comes, and draws at every fourth place are soon no multiple of 3. No program is in sight. No condition.
-/
import Derived.KernelRfl
set_option linter.unusedVariables false
set_option linter.unusedSimpArgs false
set_option maxRecDepth 100000
namespace Go.Proofs.YtejbigdebjcomaaDoor


/-- equal up to multiples of m -/
def Cm (m a b : Int) : Prop := ∃ t, a = b + m * t

theorem Cm.rfl' (m a : Int) : Cm m a a := ⟨0, by simp⟩

theorem Cm.symm {m a b : Int} (h : Cm m a b) : Cm m b a := by
  obtain ⟨t, rfl⟩ := h
  exact ⟨-t, by rw [Int.mul_neg]; omega⟩

theorem Cm.trans {m a b c : Int} (h : Cm m a b) (h2 : Cm m b c) : Cm m a c := by
  obtain ⟨t, rfl⟩ := h
  obtain ⟨u, rfl⟩ := h2
  exact ⟨u + t, by rw [Int.mul_add]; omega⟩

theorem Cm.add {m a b c d : Int} (h : Cm m a b) (h2 : Cm m c d) : Cm m (a + c) (b + d) := by
  obtain ⟨t, rfl⟩ := h
  obtain ⟨u, rfl⟩ := h2
  exact ⟨t + u, by rw [Int.mul_add]; omega⟩

theorem Cm.mul {m a b c d : Int} (h : Cm m a b) (h2 : Cm m c d) : Cm m (a * c) (b * d) := by
  obtain ⟨t, rfl⟩ := h
  obtain ⟨u, rfl⟩ := h2
  refine ⟨b * u + t * d + t * (m * u), ?_⟩
  rw [Int.add_mul, Int.mul_add, Int.mul_add, Int.mul_add, Int.mul_add]
  have e1 : b * (m * u) = m * (b * u) := by rw [← Int.mul_assoc, Int.mul_comm b m, Int.mul_assoc]
  have e2 : m * t * d = m * (t * d) := Int.mul_assoc _ _ _
  have e3 : m * t * (m * u) = m * (t * (m * u)) := Int.mul_assoc _ _ _
  omega

theorem Cm.mod (m a : Int) : Cm m (a % m) a := ⟨-(a / m), by have := Int.emod_add_mul_ediv a m; rw [Int.mul_neg]; omega⟩

theorem Cm.emod {m a b : Int} (h : Cm m a b) : a % m = b % m := by
  obtain ⟨t, rfl⟩ := h
  exact Int.add_mul_emod_self_left _ _ _

theorem Cm.of_emod {m a b : Int} (h : a % m = b % m) : Cm m a b := ((Cm.mod m a).symm.trans (by rw [h]; exact Cm.rfl' _ _)).trans (Cm.mod m b)

theorem Cm.low {m a b : Int} (k : Int) (h : Cm (m * k) a b) : Cm m a b := by
  obtain ⟨t, rfl⟩ := h
  exact ⟨k * t, by rw [Int.mul_assoc]⟩


/-- one draw's turn of the hash -/
def fL (h : Int) : Int := (h * 6364136223846793005 + 1442695040888963407) % 18446744073709551616

def itL : Nat → Int → Int
  | 0, h => h
  | n + 1, h => itL n (fL h)

theorem itL_add (m : Nat) : ∀ (n : Nat) (h : Int), itL (n + m) h = itL m (itL n h)
  | 0, h => by rw [Nat.zero_add]; rfl
  | n + 1, h => by rw [Nat.add_right_comm]; exact itL_add m n (fL h)

theorem itL_succ (n : Nat) (h : Int) : itL (n + 1) h = fL (itL n h) := itL_add 1 n h


/-- what 2 ^ k turns do: h * a + c -/
def jL : Nat → Int × Int
  | 0 => (6364136223846793005, 1442695040888963407)
  | k + 1 => ((jL k).1 * (jL k).1 % 18446744073709551616, ((jL k).2 * (jL k).1 + (jL k).2) % 18446744073709551616)

theorem jL_ok : ∀ (k : Nat) (h : Int), Cm 18446744073709551616 (itL (2 ^ k) h) (h * (jL k).1 + (jL k).2)
  | 0, h => Cm.mod _ _
  | k + 1, h => by
    have e : 2 ^ (k + 1) = 2 ^ k + 2 ^ k := by rw [Nat.pow_succ]; omega
    rw [e, itL_add]
    have h1 := jL_ok k h
    have h2 := jL_ok k (itL (2 ^ k) h)
    refine h2.trans (((h1.mul (Cm.rfl' _ _)).add (Cm.rfl' _ _)).trans ?_)
    refine Cm.symm (((Cm.rfl' _ h).mul (Cm.mod _ _)).add (Cm.mod _ _) |>.trans ?_)
    rw [Int.add_mul, Int.mul_assoc, Int.add_assoc]
    exact Cm.rfl' _ _

/-! ### every state comes -/

/-- the turns by powers of two, looked at -/
theorem jL_full : ((List.range 57).all fun k => decide ((jL k).1 % 2 ^ (k + 1) = 1 ∧ (jL k).2 % 2 ^ (k + 1) = 2 ^ k)) = true := by kernel_rfl

theorem pow_cast (k : Nat) : (2 : Int) ^ 64 = 18446744073709551616 := by decide

theorem full_at {k : Nat} (hk : k < 57) (y : Int) : Cm (2 ^ (k + 1)) (itL (2 ^ k) y) (y + 2 ^ k) := by
  have h := of_decide_eq_true (List.all_eq_true.1 jL_full k (List.mem_range.2 hk))
  have e : (18446744073709551616 : Int) = 2 ^ (k + 1) * 2 ^ (63 - k) := by
    rw [← Int.pow_add, show k + 1 + (63 - k) = 64 by omega]; rfl
  have h1 := jL_ok k y
  rw [e] at h1
  refine h1.low.trans (Cm.add ?_ ?_)
  · have : Cm (2 ^ (k + 1)) (y * (jL k).1) (y * 1) := (Cm.rfl' _ _).mul (Cm.of_emod (by
      rw [h.1]
      have : (1 : Int) < 2 ^ (k + 1) := by
        have := Int.pow_lt_pow_of_lt (a := 2) (by decide) (show 0 < k + 1 by omega)
        simpa using this
      rw [Int.emod_eq_of_lt (by decide) this]))
    rw [Int.mul_one] at this; exact this
  · exact Cm.of_emod (by
      rw [h.2]
      have h2 : (2 : Int) ^ k < 2 ^ (k + 1) := Int.pow_lt_pow_of_lt (by decide) (by omega)
      have h3 : (0 : Int) ≤ 2 ^ k := Int.pow_nonneg (by decide)
      rw [Int.emod_eq_of_lt h3 h2])

theorem reach (y t : Int) : ∀ k, k ≤ 57 → ∃ n, n < 2 ^ k ∧ Cm (2 ^ k) (itL n y) t
  | 0, _ => ⟨0, by decide, ⟨itL 0 y - t, by simp; omega⟩⟩
  | k + 1, hk => by
    obtain ⟨n, hn, c, hc⟩ := reach y t k (by omega)
    have hp : 2 ^ (k + 1) = 2 ^ k + 2 ^ k := by rw [Nat.pow_succ]; omega
    have hpi : (2 : Int) ^ (k + 1) = 2 ^ k * 2 := Int.pow_succ _ _
    rcases Int.emod_two_eq c with h0 | h1
    · refine ⟨n, by omega, c / 2, ?_⟩
      rw [hc, hpi, Int.mul_assoc]
      congr 2; omega
    · refine ⟨n + 2 ^ k, by omega, ?_⟩
      rw [itL_add]
      refine (full_at (by omega) _).trans ⟨(c + 1) / 2, ?_⟩
      rw [hc, hpi, Int.mul_assoc, show 2 * ((c + 1) / 2) = c + 1 by omega, Int.mul_add, Int.mul_one, Int.add_assoc]

/-! ### two draws, two places apart, that are no multiples of 3 -/

/-- the bits of a draw -/
def xD (h : Int) : Int := h / 8589934592 % 16777216

theorem xD_mod (h : Int) : xD h = h % 144115188075855872 / 8589934592 := by unfold xD; omega

theorem xD_cm {a b : Int} (h : Cm 144115188075855872 a b) : xD a = xD b := by rw [xD_mod, xD_mod, h.emod]

theorem fL_cm {a b : Int} (h : Cm 144115188075855872 a b) : Cm 144115188075855872 (fL a) (fL b) := by
  have e : ∀ x, Cm 144115188075855872 (fL x) (x * 6364136223846793005 + 1442695040888963407) := fun x => Cm.low 128 (Cm.mod 18446744073709551616 _)
  exact ((e a).trans ((h.mul (Cm.rfl' _ _)).add (Cm.rfl' _ _))).trans (e b).symm

theorem fL_par (h : Int) : fL h % 2 = (h + 1) % 2 := by unfold fL; omega

theorem itL_par : ∀ (n : Nat) (h : Int), itL n h % 2 = (h + n) % 2
  | 0, h => by simp [itL]
  | n + 1, h => by
    show itL n (fL h) % 2 = _
    rw [itL_par n (fL h)]
    have := fL_par h
    omega

theorem pair_even : xD 8589934592 % 3 ≠ 0 ∧ xD (fL (fL 8589934592)) % 3 ≠ 0 := by decide +kernel

theorem pair_odd : xD 8589934593 % 3 ≠ 0 ∧ xD (fL (fL 8589934593)) % 3 ≠ 0 := by decide +kernel

theorem soon_pair (h : Int) : ∃ i : Nat, i < 144115188075855872 ∧ i % 2 = 0 ∧ xD (itL (i + 1) h) % 3 ≠ 0 ∧ xD (itL (i + 3) h) % 3 ≠ 0 := by
  have key : ∀ t : Int, t % 2 = (h + 1) % 2 → xD t % 3 ≠ 0 → xD (fL (fL t)) % 3 ≠ 0 → ∃ i : Nat, i < 144115188075855872 ∧ i % 2 = 0 ∧ xD (itL (i + 1) h) % 3 ≠ 0 ∧ xD (itL (i + 3) h) % 3 ≠ 0 := fun t ht h1 h2 => by
    obtain ⟨n, hn, hc⟩ := reach h t 57 (Nat.le_refl _)
    have hc' : Cm 144115188075855872 (itL n h) t := hc
    have hn' : n < 144115188075855872 := hn
    have hp := itL_par n h
    have hq : itL n h % 2 = t % 2 := (Cm.low (m := 2) 72057594037927936 hc').emod
    have hodd : n % 2 = 1 := by omega
    refine ⟨n - 1, by omega, by omega, ?_, ?_⟩
    · rw [show n - 1 + 1 = n by omega, xD_cm hc']; exact h1
    · rw [show n - 1 + 3 = n + 1 + 1 by omega, itL_succ, itL_succ, xD_cm (fL_cm (fL_cm hc'))]; exact h2
  by_cases hp : h % 2 = 0
  · exact key 8589934593 (by omega) pair_odd.1 pair_odd.2
  · exact key 8589934592 (by omega) pair_even.1 pair_even.2

/-! ### draws at every fourth place -/

/-- what 2 ^ 28 turns add, in units of 2 ^ 28 -/
def eA : Int := ((jL 28).1 - 1) / 268435456

def eG : Int := (jL 28).2 / 268435456

def eD (y : Int) : Int := y * eA + eG

theorem j28 : (jL 28).1 = 1 + 268435456 * eA ∧ (jL 28).2 = 268435456 * eG ∧ eA % 4 = 0 ∧ eG % 2 = 1 := ⟨by kernel_rfl, by kernel_rfl, by kernel_rfl, by kernel_rfl⟩

theorem eD_odd (y : Int) : eD y % 2 = 1 := by
  have h := j28.2.2
  obtain ⟨b, hb⟩ : ∃ b, eA = 2 * b := ⟨eA / 2, by omega⟩
  unfold eD
  rw [hb, show y * (2 * b) = 2 * (y * b) by rw [← Int.mul_assoc, Int.mul_comm y 2, Int.mul_assoc]]
  omega

theorem jump28 (y : Int) : Cm 144115188075855872 (itL 268435456 y) (y + 268435456 * eD y) := by
  have h := Cm.low (m := 144115188075855872) 128 (jL_ok 28 y)
  have e : y * (jL 28).1 + (jL 28).2 = y + 268435456 * eD y := by
    rw [j28.1, j28.2.1]
    unfold eD
    rw [Int.mul_add, Int.mul_add, Int.mul_one, ← Int.mul_assoc, Int.mul_comm y 268435456, Int.mul_assoc]
    omega
  rw [e] at h
  exact h

theorem eD_cm {m a b : Int} (h : Cm m a b) : Cm m (eD a) (eD b) := (h.mul (Cm.rfl' _ _)).add (Cm.rfl' _ _)

theorem turn_facts : ((List.range 27).all fun j => decide (((jL j).2 * eA + eG) % 536870912 = (jL j).1 * eG % 536870912)) = true := by kernel_rfl

theorem eD_turn {j : Nat} (hj : j < 27) (y : Int) : Cm 536870912 (eD (itL (2 ^ j) y)) ((jL j).1 * eD y) := by
  have h := of_decide_eq_true (List.all_eq_true.1 turn_facts j (List.mem_range.2 hj))
  have h1 := eD_cm (Cm.low (m := 536870912) 34359738368 (jL_ok j y))
  refine h1.trans ?_
  unfold eD
  rw [Int.add_mul, Int.mul_add, Int.add_assoc]
  refine Cm.add ?_ (Cm.of_emod h)
  rw [Int.mul_comm y, Int.mul_assoc]
  exact Cm.rfl' _ _

theorem four_facts : ((List.range 25).all fun k => decide ((jL (k + 2)).1 % 2 ^ (k + 5) = 1 + 2 ^ (k + 4))) = true := by kernel_rfl

theorem reachE (y t : Int) (ht : t % 2 = 1) (h16 : Cm 16 (eD y) t) : ∀ k, k ≤ 25 → ∃ i, i < 2 ^ k ∧ Cm (2 ^ (k + 4)) (eD (itL (4 * i) y)) t
  | 0, _ => ⟨0, by decide, h16⟩
  | k + 1, hk => by
    obtain ⟨i, hi, c, hc⟩ := reachE y t ht h16 k (by omega)
    have hp : 2 ^ (k + 1) = 2 ^ k + 2 ^ k := by rw [Nat.pow_succ]; omega
    have hpi : (2 : Int) ^ (k + 5) = 2 ^ (k + 4) * 2 := Int.pow_succ _ _
    rcases Int.emod_two_eq c with h0 | h1
    · refine ⟨i, by omega, c / 2, ?_⟩
      show _ = t + 2 ^ (k + 5) * (c / 2)
      rw [hc, hpi, Int.mul_assoc]
      congr 2; omega
    · refine ⟨i + 2 ^ k, by omega, ?_⟩
      have e4 : 4 * (i + 2 ^ k) = 4 * i + 2 ^ (k + 2) := by rw [Nat.pow_add]; omega
      rw [e4, itL_add]
      have hf := of_decide_eq_true (List.all_eq_true.1 four_facts k (List.mem_range.2 (by omega)))
      have e9 : (536870912 : Int) = 2 ^ (k + 5) * 2 ^ (24 - k) := by
        rw [← Int.pow_add, show k + 5 + (24 - k) = 29 by omega]; rfl
      have ht1 := eD_turn (j := k + 2) (by omega) (itL (4 * i) y)
      rw [e9] at ht1
      have hz : (0 : Int) < 2 ^ (k + 4) := Int.pow_pos (by decide)
      have hz1 : (1 : Int) < 2 ^ (k + 4) := by
        have := Int.pow_lt_pow_of_lt (a := 2) (by decide) (show 0 < k + 4 by omega)
        simpa using this
      have hcf : Cm (2 ^ (k + 5)) (jL (k + 2)).1 (1 + 2 ^ (k + 4)) := Cm.of_emod (by
        rw [hf, Int.emod_eq_of_lt (by omega) (by rw [hpi]; omega)])
      show Cm (2 ^ (k + 5)) _ _
      refine ht1.low.trans ((hcf.mul (Cm.rfl' _ _)).trans ?_)
      rw [hc]
      obtain ⟨u, hu⟩ : ∃ u, (2 : Int) ^ (k + 4) = u := ⟨_, rfl⟩
      obtain ⟨d, hd⟩ : ∃ d, u = 2 * d := ⟨2 ^ (k + 3), by rw [← hu, Int.pow_succ, Int.mul_comm]⟩
      rw [hpi, hu]
      refine ⟨(c + t) / 2 + d * c, ?_⟩
      have e1 : (1 + u) * (t + u * c) = t + u * (c + t) + u * (u * c) := by
        rw [Int.add_mul, Int.one_mul, Int.mul_add, Int.mul_add]; omega
      have e2 : u * 2 * ((c + t) / 2 + d * c) = u * (c + t) + u * (u * c) := by
        rw [Int.mul_assoc, Int.mul_add, show 2 * ((c + t) / 2) = c + t by omega, ← Int.mul_assoc 2 d c, ← hd, Int.mul_add]
      rw [e1, e2, Int.add_assoc]

theorem md57 (x : Int) (h0 : 0 ≤ x) (h1 : x < 288230376151711744) : (x < 144115188075855872 ∧ x % 144115188075855872 = x) ∨ (144115188075855872 ≤ x ∧ x % 144115188075855872 = x - 144115188075855872) := by omega

theorem ap_leaves (p e : Int) (h0 : 0 ≤ p) (h1 : p < 144115188075855872) (e0 : 4563402752 ≤ e) (e1 : e ≤ 8321499136)
    (a0 : p / 8589934592 % 3 = 0) (a1 : (p + e) % 144115188075855872 / 8589934592 % 3 = 0) (a2 : (p + 2 * e) % 144115188075855872 / 8589934592 % 3 = 0) (a3 : (p + 3 * e) % 144115188075855872 / 8589934592 % 3 = 0) (a4 : (p + 4 * e) % 144115188075855872 / 8589934592 % 3 = 0) : False := by
  rcases md57 (p + e) (by omega) (by omega) with ⟨w1, b1⟩ | ⟨w1, b1⟩ <;> rcases md57 (p + 2 * e) (by omega) (by omega) with ⟨w2, b2⟩ | ⟨w2, b2⟩ <;>
    rcases md57 (p + 3 * e) (by omega) (by omega) with ⟨w3, b3⟩ | ⟨w3, b3⟩ <;> rcases md57 (p + 4 * e) (by omega) (by omega) with ⟨w4, b4⟩ | ⟨w4, b4⟩ <;>
    (rw [b1] at a1; rw [b2] at a2; rw [b3] at a3; rw [b4] at a4; clear b1 b2 b3 b4; omega)

/-- among the draws at every fourth place one comes soon that is no multiple of 3 -/
theorem soon_four (h : Int) : ∃ m : Nat, m ≤ 301989888 ∧ xD (itL (4 * m) h) % 3 ≠ 0 := by
  obtain ⟨t, ht0, ht1, ht2⟩ : ∃ t : Int, (17 ≤ t ∧ t ≤ 31) ∧ t % 2 = 1 ∧ eD h % 16 = t % 16 := ⟨16 + eD h % 16, by have := eD_odd h; omega, by have := eD_odd h; omega, by omega⟩
  obtain ⟨i, hi, hE⟩ := reachE h t ht1 (Cm.of_emod ht2) 25 (Nat.le_refl _)
  have hi : i < 33554432 := hi
  have hE : Cm 536870912 (eD (itL (4 * i) h)) t := hE
  obtain ⟨y, hy⟩ : ∃ y, itL (4 * i) h = y := ⟨_, rfl⟩
  rw [hy] at hE
  have hstep : ∀ z, Cm 536870912 (eD z) t → Cm 144115188075855872 (itL 268435456 z) (z + 268435456 * t) ∧ Cm 536870912 (eD (itL 268435456 z)) t := fun z hz => by
    have h1 := jump28 z
    have h2 : Cm 144115188075855872 (268435456 * eD z) (268435456 * t) := by
      obtain ⟨u, hu⟩ := hz
      exact ⟨u, by rw [hu]; omega⟩
    refine ⟨h1.trans ((Cm.rfl' _ _).add h2), ?_⟩
    refine (eD_cm (Cm.low (m := 536870912) 268435456 h1)).trans (Cm.trans ?_ hz)
    unfold eD
    obtain ⟨b, hb⟩ : ∃ b, eA = 4 * b := ⟨eA / 4, by have := j28.2.2.1; omega⟩
    rw [Int.add_mul]
    refine Cm.add ?_ (Cm.rfl' _ _)
    refine ⟨2 * ((z * eA + eG) * b), ?_⟩
    rw [hb]
    generalize (z * (4 * b) + eG) = q
    rw [show 268435456 * q * (4 * b) = 1073741824 * (q * b) by rw [← Int.mul_assoc, Int.mul_right_comm 268435456 q 4, Int.mul_assoc, show (268435456 : Int) * 4 = 1073741824 from rfl]]
    omega
  obtain ⟨c1, g1⟩ := hstep y hE
  obtain ⟨c2, g2⟩ := hstep _ g1
  obtain ⟨c3, g3⟩ := hstep _ g2
  obtain ⟨c4, g4⟩ := hstep _ g3
  obtain ⟨J, hJ⟩ : ∃ J : Nat, 268435456 = J := ⟨_, rfl⟩
  rw [hJ] at c1 c2 c3 c4
  rw [← itL_add J J y] at c2 c3 c4
  rw [← itL_add J (J + J) y] at c3 c4
  rw [← itL_add J (J + J + J) y] at c4
  have f2 := c2.trans (c1.add (Cm.rfl' _ (268435456 * t)))
  have f3 := c3.trans (f2.add (Cm.rfl' _ (268435456 * t)))
  have f4 := c4.trans (f3.add (Cm.rfl' _ (268435456 * t)))
  have fin : ∀ m n : Nat, 4 * m = n → m ≤ 301989888 → xD (itL n h) % 3 ≠ 0 → ∃ m : Nat, m ≤ 301989888 ∧ xD (itL (4 * m) h) % 3 ≠ 0 := fun m n e h1 h2 => ⟨m, h1, by rw [e]; exact h2⟩
  obtain ⟨Q, hQ⟩ : ∃ Q : Nat, 67108864 = Q := ⟨_, rfl⟩
  by_cases z0 : xD y % 3 = 0
  rotate_left
  · exact fin i (4 * i) rfl (by omega) (by rw [hy]; exact z0)
  by_cases z1 : xD (itL (J) y) % 3 = 0
  rotate_left
  · refine fin (i + Q) (4 * i + (J)) (by omega) (by omega) ?_
    rw [itL_add (J) (4 * i) h, hy]; exact z1
  by_cases z2 : xD (itL (J + J) y) % 3 = 0
  rotate_left
  · refine fin (i + Q + Q) (4 * i + (J + J)) (by omega) (by omega) ?_
    rw [itL_add (J + J) (4 * i) h, hy]; exact z2
  by_cases z3 : xD (itL (J + J + J) y) % 3 = 0
  rotate_left
  · refine fin (i + Q + Q + Q) (4 * i + (J + J + J)) (by omega) (by omega) ?_
    rw [itL_add (J + J + J) (4 * i) h, hy]; exact z3
  by_cases z4 : xD (itL (J + J + J + J) y) % 3 = 0
  rotate_left
  · refine fin (i + Q + Q + Q + Q) (4 * i + (J + J + J + J)) (by omega) (by omega) ?_
    rw [itL_add (J + J + J + J) (4 * i) h, hy]; exact z4
  exfalso
  rw [xD_mod] at z0
  rw [xD_cm c1, xD_mod] at z1
  rw [xD_cm f2, xD_mod] at z2
  rw [xD_cm f3, xD_mod] at z3
  rw [xD_cm f4, xD_mod] at z4
  refine ap_leaves (y % 144115188075855872) (268435456 * t) (by omega) (by omega) (by omega) (by omega) z0 ?_ ?_ ?_ ?_
  · rw [show (y % 144115188075855872 + 268435456 * t) % 144115188075855872 = (y + 268435456 * t) % 144115188075855872 by omega]; exact z1
  · rw [show (y % 144115188075855872 + 2 * (268435456 * t)) % 144115188075855872 = (y + 268435456 * t + 268435456 * t) % 144115188075855872 by omega]; exact z2
  · rw [show (y % 144115188075855872 + 3 * (268435456 * t)) % 144115188075855872 = (y + 268435456 * t + 268435456 * t + 268435456 * t) % 144115188075855872 by omega]; exact z3
  · rw [show (y % 144115188075855872 + 4 * (268435456 * t)) % 144115188075855872 = (y + 268435456 * t + 268435456 * t + 268435456 * t + 268435456 * t) % 144115188075855872 by omega]; exact z4

end Go.Proofs.YtejbigdebjcomaaDoor
