/-
  Products of the basis: each is a multiple of one element of the basis, a sign times some steps; signs of associators and commutators. No program is in sight. No condition.
-/
import Derived.Test.YtnnacligfoonbaaQA
set_option linter.unusedVariables false
set_option linter.unusedSimpArgs false
namespace Go.Proofs.Ytnnacligfoonbaa

/-- a multiple of an element of the basis -/
def dltC (c : Int) (i j : Nat) : Int := if j = i then c else 0
theorem dltU_C (i : Nat) : dltU i = dltC 1 i := rfl
theorem mulF_nil {p : Int} {s : Nat → Int} (k : Nat) {X Y : Nat → Int} (h : CgV p (2 ^ k) X (fun _ => 0) ∨ CgV p (2 ^ k) Y fun _ => 0) : CgV p (2 ^ k) (mulF p s k X Y) fun _ => 0 := by
  rcases h with h | h
  · exact (Lin.mulL p s k Y).nil h
  · exact (Lin.mulR p s k X).nil h
theorem mulF_scale {p : Int} {s : Nat → Int} (k : Nat) (a b : Int) (X Y : Nat → Int) : CgV p (2 ^ k) (mulF p s k (fun j => a * X j) fun j => b * Y j) fun j => a * b * mulF p s k X Y j := by
  have h0 : CgV p (2 ^ k) (mulF p s k (fun _ => 0) fun j => b * Y j) fun _ => 0 := mulF_nil k (Or.inl (CgV.rfl' _ _ _))
  have h1 : CgV p (2 ^ k) (mulF p s k (fun j => a * X j) fun j => b * Y j) fun j => a * mulF p s k X (fun j => b * Y j) j := by
    have e : (fun j => a * X j) = lin (fun _ => 0) a X := by funext j; simp [lin]
    rw [e]
    refine ((mul_lin k a (fun _ => 0) X fun j => b * Y j).1).trans fun j hj => ?_
    unfold lin
    have := (h0 j hj).add (Cg.rfl' p (a * mulF p s k X (fun j => b * Y j) j))
    simpa using this
  have h2 : CgV p (2 ^ k) (mulF p s k X fun j => b * Y j) fun j => b * mulF p s k X Y j := by
    have h3 : CgV p (2 ^ k) (mulF p s k X fun _ => 0) fun _ => 0 := mulF_nil k (Or.inr (CgV.rfl' _ _ _))
    have e : (fun j => b * Y j) = lin (fun _ => 0) b Y := by funext j; simp [lin]
    rw [e]
    refine ((mul_lin k b (fun _ => 0) Y X).2).trans fun j hj => ?_
    unfold lin
    have := (h3 j hj).add (Cg.rfl' p (b * mulF p s k X Y j))
    simpa using this
  exact h1.trans fun j hj => ((Cg.rfl' p a).mul (h2 j hj)).trans (Cg.of_eq (by rw [Int.mul_assoc]))
theorem dltC_scale (c : Int) (i : Nat) : dltC c i = fun j => c * dltU i j := by
  funext j; unfold dltC dltU; split <;> simp
theorem mulF_dltC {p : Int} {s : Nat → Int} (k : Nat) (a b : Int) (i j : Nat) : CgV p (2 ^ k) (mulF p s k (dltC a i) (dltC b j)) fun t => a * b * mulF p s k (dltU i) (dltU j) t := by
  rw [dltC_scale a i, dltC_scale b j]; exact mulF_scale k a b _ _

/-- the sign of a conjugate -/
def cs (k : Nat) : Int := if k = 0 then 1 else -1
theorem conj_dltU (p : Int) (k n : Nat) : CgV p n (conjF p (dltU k)) (dltC (cs k) k) := fun j hj => by
  unfold conjF dltU dltC cs
  by_cases e : j = 0
  · subst e
    rw [if_pos rfl]
    by_cases e2 : k = 0
    · subst e2; simp; exact Cg.rfl' _ _
    · rw [if_neg (fun h => e2 h.symm), if_neg (fun h => e2 h.symm)]; exact Cg.rfl' _ _
  · rw [if_neg e]
    refine (Cg.mod p _).trans (Cg.of_eq ?_)
    by_cases e2 : j = k
    · subst e2; rw [if_pos rfl, if_pos rfl, if_neg e]
    · rw [if_neg e2, if_neg e2]; rfl

/-- the factor of a product of the basis -/
def bb (s : Nat → Int) : Nat → Nat → Nat → Int
  | 0, _, _ => 1
  | n + 1, i, k =>
    if i < 2 ^ n then (if k < 2 ^ n then bb s n i k else bb s n (k - 2 ^ n) i)
    else if k < 2 ^ n then cs k * bb s n (i - 2 ^ n) k
    else s n * (cs (k - 2 ^ n) * bb s n (k - 2 ^ n) (i - 2 ^ n))

theorem xor_hi {n i k : Nat} (hi : i < 2 ^ n) (hk : k < 2 ^ n) : (2 ^ n + i) ^^^ k = 2 ^ n + (i ^^^ k) := by
  have h1 : i ^^^ k < 2 ^ n := Nat.xor_lt_two_pow hi hk
  apply Nat.eq_of_testBit_eq
  intro t
  rw [Nat.testBit_xor]
  rcases Nat.lt_trichotomy t n with h | h | h
  · rw [Nat.testBit_two_pow_add_gt h, Nat.testBit_two_pow_add_gt h, Nat.testBit_xor]
  · subst h
    rw [Nat.testBit_two_pow_add_eq, Nat.testBit_two_pow_add_eq, Nat.testBit_lt_two_pow hi, Nat.testBit_lt_two_pow hk, Nat.testBit_lt_two_pow h1]; rfl
  · have hp : 2 ^ (n + 1) ≤ 2 ^ t := Nat.pow_le_pow_right (by omega) h
    have hs := pow2_succ n
    rw [Nat.testBit_lt_two_pow (show 2 ^ n + i < 2 ^ t by omega), Nat.testBit_lt_two_pow (show k < 2 ^ t by omega), Nat.testBit_lt_two_pow (show 2 ^ n + (i ^^^ k) < 2 ^ t by omega)]; rfl
theorem xor_hi2 {n i k : Nat} (hi : i < 2 ^ n) (hk : k < 2 ^ n) : (2 ^ n + i) ^^^ (2 ^ n + k) = i ^^^ k := by
  have h1 : i ^^^ k < 2 ^ n := Nat.xor_lt_two_pow hi hk
  rw [Nat.xor_comm (2 ^ n + i), Nat.xor_comm i k]
  have h2 := xor_hi hk (k := i) hi
  apply Nat.eq_of_testBit_eq
  intro t
  rw [Nat.testBit_xor, Nat.testBit_xor]
  rcases Nat.lt_trichotomy t n with h | h | h
  · rw [Nat.testBit_two_pow_add_gt h, Nat.testBit_two_pow_add_gt h]
  · subst h
    rw [Nat.testBit_two_pow_add_eq, Nat.testBit_two_pow_add_eq, Nat.testBit_lt_two_pow hi, Nat.testBit_lt_two_pow hk]; rfl
  · have hp : 2 ^ (n + 1) ≤ 2 ^ t := Nat.pow_le_pow_right (by omega) h
    have hs := pow2_succ n
    rw [Nat.testBit_lt_two_pow (show 2 ^ n + i < 2 ^ t by omega), Nat.testBit_lt_two_pow (show 2 ^ n + k < 2 ^ t by omega), Nat.testBit_lt_two_pow (show k < 2 ^ t by omega), Nat.testBit_lt_two_pow (show i < 2 ^ t by omega)]

/-- each product of the basis is a multiple of one element of it -/
theorem mul_basis {p : Int} {s : Nat → Int} : ∀ (n : Nat) {i k : Nat}, i < 2 ^ n → k < 2 ^ n → CgV p (2 ^ n) (mulF p s n (dltU i) (dltU k)) (dltC (bb s n i k) (i ^^^ k))
  | 0, i, k, hi, hk => fun j hj => by
    obtain rfl : i = 0 := by simpa using hi
    obtain rfl : k = 0 := by simpa using hk
    obtain rfl : j = 0 := by simpa using hj
    exact Cg.mod p _
  | n + 1, i, k, hi, hk => fun j hj => by
    have e := pow2_succ n
    -- the halves of an element of the basis
    have lo : ∀ a, a < 2 ^ n → CgV p (2 ^ n) (fun t => dltU a (2 ^ n + t)) fun _ => 0 := fun a ha t ht => Cg.of_eq (by show (if 2 ^ n + t = a then (1 : Int) else 0) = 0; rw [if_neg (by omega)])
    have hi0 : ∀ a, 2 ^ n ≤ a → CgV p (2 ^ n) (dltU a) fun _ => 0 := fun a ha t ht => Cg.of_eq (by unfold dltU; rw [if_neg (by omega)])
    have hi1 : ∀ a, 2 ^ n ≤ a → CgV p (2 ^ n) (fun t => dltU a (2 ^ n + t)) (dltU (a - 2 ^ n)) := fun a ha t ht => Cg.of_eq (by
      show (if 2 ^ n + t = a then (1 : Int) else 0) = if t = a - 2 ^ n then 1 else 0
      by_cases e2 : 2 ^ n + t = a
      · rw [if_pos e2, if_pos (by omega)]
      · rw [if_neg e2, if_neg (by omega)])
    have cj : ∀ a, CgV p (2 ^ n) (conjF p (dltU a)) (dltC (cs a) a) := fun a => conj_dltU p a _
    have cz : ∀ {X : Nat → Int}, CgV p (2 ^ n) X (fun _ => 0) → CgV p (2 ^ n) (conjF p X) fun _ => 0 := fun {X} h => (conj_cg h).trans fun t ht => Cg.of_eq (by unfold conjF; split <;> simp)
    have z : CgV p (2 ^ n) (fun _ => (0 : Int)) fun _ => 0 := CgV.rfl' _ _ _
    have drop : ∀ c a t, dltC c (2 ^ n + a) (2 ^ n + t) = dltC c a t := fun c a t => by
      unfold dltC
      by_cases e2 : t = a
      · rw [if_pos e2, if_pos (by omega)]
      · rw [if_neg e2, if_neg (by omega)]
    have off : ∀ c a t, t < 2 ^ n → dltC c (2 ^ n + a) t = 0 := fun c a t ht => by unfold dltC; rw [if_neg (by omega)]
    have off2 : ∀ c a t, a < 2 ^ n → dltC c a (2 ^ n + t) = 0 := fun c a t ha => by unfold dltC; rw [if_neg (by omega)]
    simp only [mulF, bb]
    by_cases h1 : i < 2 ^ n
    · by_cases h2 : k < 2 ^ n
      · have hx : i ^^^ k < 2 ^ n := Nat.xor_lt_two_pow h1 h2
        rw [if_pos h1, if_pos h2]
        by_cases h3 : j < 2 ^ n
        · rw [if_pos h3]
          have m1 := mul_basis (p := p) (s := s) n h1 h2 j h3
          have m2 : Cg p _ 0 := mulF_nil (p := p) (s := s) n (Y := fun t => dltU i (2 ^ n + t)) (X := conjF p fun t => dltU k (2 ^ n + t)) (Or.inr (lo i h1)) j h3
          have := m1.add ((Cg.rfl' p (s n)).mul m2)
          rw [Int.mul_zero, Int.add_zero] at this
          exact (Cg.mod p _).trans this
        · rw [if_neg h3]
          obtain ⟨t, rfl⟩ : ∃ t, j = 2 ^ n + t := ⟨j - 2 ^ n, by omega⟩
          rw [Nat.add_sub_cancel_left]
          have m1 : Cg p _ 0 := mulF_nil (p := p) (s := s) n (X := fun t => dltU k (2 ^ n + t)) (Y := dltU i) (Or.inl (lo k h2)) t (by omega)
          have m2 : Cg p _ 0 := mulF_nil (p := p) (s := s) n (X := fun t => dltU i (2 ^ n + t)) (Y := conjF p (dltU k)) (Or.inl (lo i h1)) t (by omega)
          have := m1.add m2
          rw [Int.add_zero] at this
          rw [off2 _ _ _ hx]
          exact (Cg.mod p _).trans this
      · rw [if_pos h1, if_neg h2]
        obtain ⟨k', rfl⟩ : ∃ k', k = 2 ^ n + k' := ⟨k - 2 ^ n, by omega⟩
        have hk' : k' < 2 ^ n := by omega
        have hx : k' ^^^ i < 2 ^ n := Nat.xor_lt_two_pow hk' h1
        rw [Nat.add_sub_cancel_left, Nat.xor_comm i, xor_hi hk' h1]
        have h4 := hi1 (2 ^ n + k') (by omega)
        rw [Nat.add_sub_cancel_left] at h4
        by_cases h3 : j < 2 ^ n
        · rw [if_pos h3, off _ _ _ h3]
          have m1 : Cg p _ 0 := mulF_nil (p := p) (s := s) n (X := dltU i) (Y := dltU (2 ^ n + k')) (Or.inr (hi0 _ (by omega))) j h3
          have m2 : Cg p _ 0 := mulF_nil (p := p) (s := s) n (Y := fun t => dltU i (2 ^ n + t)) (X := conjF p fun t => dltU (2 ^ n + k') (2 ^ n + t)) (Or.inr (lo i h1)) j h3
          have := m1.add ((Cg.rfl' p (s n)).mul m2)
          rw [Int.mul_zero, Int.add_zero] at this
          exact (Cg.mod p _).trans this
        · rw [if_neg h3]
          obtain ⟨t, rfl⟩ : ∃ t, j = 2 ^ n + t := ⟨j - 2 ^ n, by omega⟩
          rw [Nat.add_sub_cancel_left, drop]
          have m1 := (mul_cg (p := p) (s := s) n h4 (CgV.rfl' _ _ (dltU i)) t (by omega)).trans (mul_basis (p := p) (s := s) n hk' h1 t (by omega))
          have m2 : Cg p _ 0 := mulF_nil (p := p) (s := s) n (X := fun t => dltU i (2 ^ n + t)) (Y := conjF p (dltU (2 ^ n + k'))) (Or.inl (lo i h1)) t (by omega)
          have := m1.add m2
          rw [Int.add_zero] at this
          exact (Cg.mod p _).trans this
    · obtain ⟨i', rfl⟩ : ∃ i', i = 2 ^ n + i' := ⟨i - 2 ^ n, by omega⟩
      have hi' : i' < 2 ^ n := by omega
      have h5 := hi1 (2 ^ n + i') (by omega)
      rw [Nat.add_sub_cancel_left] at h5
      by_cases h2 : k < 2 ^ n
      · rw [if_neg h1, if_pos h2, Nat.add_sub_cancel_left, xor_hi hi' h2]
        have hx : i' ^^^ k < 2 ^ n := Nat.xor_lt_two_pow hi' h2
        by_cases h3 : j < 2 ^ n
        · rw [if_pos h3, off _ _ _ h3]
          have m1 : Cg p _ 0 := mulF_nil (p := p) (s := s) n (X := dltU (2 ^ n + i')) (Y := dltU k) (Or.inl (hi0 _ (by omega))) j h3
          have m2 : Cg p _ 0 := mulF_nil (p := p) (s := s) n (Y := fun t => dltU (2 ^ n + i') (2 ^ n + t)) (X := conjF p fun t => dltU k (2 ^ n + t)) (Or.inl (cz (lo k h2))) j h3
          have := m1.add ((Cg.rfl' p (s n)).mul m2)
          rw [Int.mul_zero, Int.add_zero] at this
          exact (Cg.mod p _).trans this
        · rw [if_neg h3]
          obtain ⟨t, rfl⟩ : ∃ t, j = 2 ^ n + t := ⟨j - 2 ^ n, by omega⟩
          rw [Nat.add_sub_cancel_left, drop]
          have m1 : Cg p _ 0 := mulF_nil (p := p) (s := s) n (X := fun t => dltU k (2 ^ n + t)) (Y := dltU (2 ^ n + i')) (Or.inl (lo k h2)) t (by omega)
          have m2 := (mul_cg (p := p) (s := s) n h5 (cj k) t (by omega)).trans ((mulF_dltC (p := p) (s := s) n 1 (cs k) i' k t (by omega)).trans ((Cg.rfl' p _).mul (mul_basis (p := p) (s := s) n hi' h2 t (by omega))))
          have := m1.add m2
          rw [Int.zero_add] at this
          refine (Cg.mod p _).trans (this.trans (Cg.of_eq ?_))
          unfold dltC; split
          · rw [Int.one_mul]
          · rw [Int.mul_zero]
      · rw [if_neg h1, if_neg h2]
        obtain ⟨k', rfl⟩ : ∃ k', k = 2 ^ n + k' := ⟨k - 2 ^ n, by omega⟩
        have hk' : k' < 2 ^ n := by omega
        rw [Nat.add_sub_cancel_left, Nat.add_sub_cancel_left, xor_hi2 hi' hk']
        have hx : i' ^^^ k' < 2 ^ n := Nat.xor_lt_two_pow hi' hk'
        have h4 := hi1 (2 ^ n + k') (by omega)
        rw [Nat.add_sub_cancel_left] at h4
        by_cases h3 : j < 2 ^ n
        · rw [if_pos h3]
          have m1 : Cg p _ 0 := mulF_nil (p := p) (s := s) n (X := dltU (2 ^ n + i')) (Y := dltU (2 ^ n + k')) (Or.inl (hi0 _ (by omega))) j h3
          have m2 := (mul_cg (p := p) (s := s) n ((conj_cg h4).trans (cj k')) h5 j h3).trans ((mulF_dltC (p := p) (s := s) n (cs k') 1 k' i' j h3).trans ((Cg.rfl' p _).mul (mul_basis (p := p) (s := s) n hk' hi' j h3)))
          have := m1.add ((Cg.rfl' p (s n)).mul m2)
          rw [Int.zero_add] at this
          refine (Cg.mod p _).trans (this.trans (Cg.of_eq ?_))
          rw [Nat.xor_comm k' i', Int.mul_one]
          unfold dltC; split
          · rfl
          · rw [Int.mul_zero, Int.mul_zero]
        · rw [if_neg h3]
          obtain ⟨t, rfl⟩ : ∃ t, j = 2 ^ n + t := ⟨j - 2 ^ n, by omega⟩
          rw [Nat.add_sub_cancel_left, off2 _ _ _ hx]
          have m1 : Cg p _ 0 := mulF_nil (p := p) (s := s) n (X := fun t => dltU (2 ^ n + k') (2 ^ n + t)) (Y := dltU (2 ^ n + i')) (Or.inr (hi0 _ (by omega))) t (by omega)
          have m2 : Cg p _ 0 := mulF_nil (p := p) (s := s) n (X := fun t => dltU (2 ^ n + i') (2 ^ n + t)) (Y := conjF p (dltU (2 ^ n + k'))) (Or.inr (cz (hi0 _ (by omega)))) t (by omega)
          have := m1.add m2
          rw [Int.add_zero] at this
          exact (Cg.mod p _).trans this

/-- the steps of the common bits -/
def pr (s : Nat → Int) : Nat → Nat → Int
  | 0, _ => 1
  | n + 1, m => pr s n m * if m.testBit n then s n else 1
/-- the sign alone -/
def sg : Nat → Nat → Nat → Int := bb fun _ => 1
theorem pr_low {s : Nat → Int} : ∀ {n m m' : Nat}, (∀ t, t < n → m.testBit t = m'.testBit t) → pr s n m = pr s n m'
  | 0, _, _, _ => rfl
  | n + 1, m, m', h => by
    unfold pr
    rw [pr_low (n := n) fun t ht => h t (by omega), h n (by omega)]
theorem bb_split (s : Nat → Int) : ∀ (n : Nat) {i k : Nat}, i < 2 ^ n → k < 2 ^ n → bb s n i k = sg n i k * pr s n (i &&& k)
  | 0, i, k, _, _ => by simp [bb, sg, pr]
  | n + 1, i, k, hi, hk => by
    have e := pow2_succ n
    have lowb : ∀ a, a < 2 ^ n → a.testBit n = false := fun a ha => Nat.testBit_lt_two_pow ha
    unfold sg
    simp only [bb, pr, Nat.testBit_and]
    by_cases h1 : i < 2 ^ n
    · rw [if_pos h1, if_pos h1, lowb i h1]
      simp only [Bool.false_and, Bool.false_eq_true, if_false, Int.mul_one]
      by_cases h2 : k < 2 ^ n
      · rw [if_pos h2, if_pos h2]; exact bb_split s n h1 h2
      · rw [if_neg h2, if_neg h2]
        have := bb_split s n (i := k - 2 ^ n) (k := i) (by omega) h1
        rw [this]; congr 1
        refine pr_low fun t ht => ?_
        obtain ⟨k', rfl⟩ : ∃ k', k = 2 ^ n + k' := ⟨k - 2 ^ n, by omega⟩
        rw [Nat.add_sub_cancel_left, Nat.testBit_and, Nat.testBit_and, Nat.testBit_two_pow_add_gt ht, Bool.and_comm]
    · obtain ⟨i', rfl⟩ : ∃ i', i = 2 ^ n + i' := ⟨i - 2 ^ n, by omega⟩
      have hi' : i' < 2 ^ n := by omega
      rw [if_neg h1, if_neg h1, Nat.add_sub_cancel_left, Nat.testBit_two_pow_add_eq, lowb i' hi']
      by_cases h2 : k < 2 ^ n
      · rw [if_pos h2, if_pos h2, lowb k h2, bb_split s n hi' h2]
        simp only [Bool.and_false, Bool.false_eq_true, if_false, Int.mul_one]
        rw [show pr s n ((2 ^ n + i') &&& k) = pr s n (i' &&& k) from pr_low fun t ht => by rw [Nat.testBit_and, Nat.testBit_and, Nat.testBit_two_pow_add_gt ht]]
        unfold sg; rw [Int.mul_assoc]
      · obtain ⟨k', rfl⟩ : ∃ k', k = 2 ^ n + k' := ⟨k - 2 ^ n, by omega⟩
        have hk' : k' < 2 ^ n := by omega
        rw [if_neg h2, if_neg h2, Nat.add_sub_cancel_left, Nat.testBit_two_pow_add_eq, lowb k' hk', bb_split s n hk' hi']
        rw [show pr s n ((2 ^ n + i') &&& (2 ^ n + k')) = pr s n (k' &&& i') from pr_low fun t ht => by rw [Nat.testBit_and, Nat.testBit_and, Nat.testBit_two_pow_add_gt ht, Nat.testBit_two_pow_add_gt ht, Bool.and_comm]]
        unfold sg
        simp only [Bool.not_false, Bool.and_self, if_true, Int.one_mul]
        grind
/-- the steps are the same, whichever product is first -/
theorem pr_assoc (s : Nat → Int) (i k l : Nat) : ∀ n : Nat, pr s n (i &&& k) * pr s n ((i ^^^ k) &&& l) = pr s n (k &&& l) * pr s n (i &&& (k ^^^ l))
  | 0 => rfl
  | n + 1 => by
    have ih := pr_assoc s i k l n
    unfold pr
    simp only [Nat.testBit_and, Nat.testBit_xor]
    cases i.testBit n <;> cases k.testBit n <;> cases l.testBit n <;> simp <;> grind
/-- sign of an associator of the basis, and of a commutator -/
def sA (n i k l : Nat) : Int := sg n i k * sg n (i ^^^ k) l - sg n k l * sg n i (k ^^^ l)
def sC (n i k : Nat) : Int := sg n i k - sg n k i
theorem as_basis {p : Int} {s : Nat → Int} {n i k l : Nat} (hi : i < 2 ^ n) (hk : k < 2 ^ n) (hl : l < 2 ^ n) : CgV p (2 ^ n) (asF p s n (dltU i) (dltU k) (dltU l)) (dltC (sA n i k l * (pr s n (i &&& k) * pr s n ((i ^^^ k) &&& l))) (i ^^^ k ^^^ l)) := fun t ht => by
  have hik : i ^^^ k < 2 ^ n := Nat.xor_lt_two_pow hi hk
  have hkl : k ^^^ l < 2 ^ n := Nat.xor_lt_two_pow hk hl
  have m1 := (mul_cg (p := p) (s := s) n (mul_basis (p := p) (s := s) n hi hk) (show CgV p (2 ^ n) (dltU l) (dltC 1 l) from CgV.rfl' _ _ _) t ht).trans ((mulF_dltC (p := p) (s := s) n _ 1 (i ^^^ k) l t ht).trans ((Cg.rfl' p _).mul (mul_basis (p := p) (s := s) n hik hl t ht)))
  have m2 := (mul_cg (p := p) (s := s) n (show CgV p (2 ^ n) (dltU i) (dltC 1 i) from CgV.rfl' _ _ _) (mul_basis (p := p) (s := s) n hk hl) t ht).trans ((mulF_dltC (p := p) (s := s) n 1 _ i (k ^^^ l) t ht).trans ((Cg.rfl' p _).mul (mul_basis (p := p) (s := s) n hi hkl t ht)))
  unfold asF
  refine (Cg.mod p _).trans ((m1.add ((Cg.rfl' p (-1)).mul m2)).trans (Cg.of_eq ?_))
  rw [← Nat.xor_assoc i k l]
  unfold dltC
  split
  · rw [bb_split s n hi hk, bb_split s n hik hl, bb_split s n hk hl, bb_split s n hi hkl]
    have h := pr_assoc s i k l n
    unfold sA
    grind
  · simp
theorem co_basis {p : Int} {s : Nat → Int} {n i k : Nat} (hi : i < 2 ^ n) (hk : k < 2 ^ n) : CgV p (2 ^ n) (coF p s n (dltU i) (dltU k)) (dltC (sC n i k * pr s n (i &&& k)) (i ^^^ k)) := fun t ht => by
  have m1 := mul_basis (p := p) (s := s) n hi hk t ht
  have m2 := mul_basis (p := p) (s := s) n hk hi t ht
  unfold coF
  refine (Cg.mod p _).trans ((m1.add ((Cg.rfl' p (-1)).mul m2)).trans (Cg.of_eq ?_))
  rw [Nat.xor_comm k i]
  unfold dltC
  split
  · rw [bb_split s n hi hk, bb_split s n hk hi, Nat.and_comm k i]; unfold sC; grind
  · simp

end Go.Proofs.Ytnnacligfoonbaa
