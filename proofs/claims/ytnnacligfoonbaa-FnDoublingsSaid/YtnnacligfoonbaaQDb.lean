/-
  Doublings: the conjugate of a product, an element times its conjugate, the square, powers. Plain. No condition.
-/
import Derived.Test.YtnnacligfoonbaaQI
set_option linter.unusedVariables false
set_option linter.unusedSimpArgs false
namespace Go.Proofs.Ytnnacligfoonbaa

theorem CgV.of_lt {p : Int} {n m : Nat} {X Y : Nat → Int} (h : CgV p n X Y) (hm : m ≤ n) : CgV p m X Y := fun j hj => h j (by omega)
theorem conj_conj (p : Int) (n : Nat) (X : Nat → Int) : CgV p n (conjF p (conjF p X)) X := fun j hj => by
  unfold conjF
  by_cases e : j = 0
  · subst e; rw [if_pos rfl, if_pos rfl]; exact Cg.rfl' _ _
  · rw [if_neg e, if_neg e]
    exact (Cg.mod p _).trans ((Cg.neg (Cg.mod p _)).trans (Cg.of_eq (by omega)))
/-- minus a list -/
def negL (X : Nat → Int) (j : Nat) : Int := -1 * X j
theorem conj_neg (p : Int) (n : Nat) (X : Nat → Int) : CgV p n (conjF p (negL X)) (negL (conjF p X)) := fun j hj => by
  show Cg p (if j = 0 then -1 * X 0 else (-(-1 * X j)) % p) (-1 * if j = 0 then X 0 else (-(X j)) % p)
  by_cases e : j = 0
  · rw [if_pos e, if_pos e]; exact Cg.rfl' _ _
  · rw [if_neg e, if_neg e]
    exact (Cg.mod p _).trans ((Cg.of_eq (by omega)).trans (((Cg.rfl' p (-1)).mul (Cg.mod' p _))))
theorem conj_high (p : Int) {m : Nat} (hm : 0 < m) (n : Nat) (X : Nat → Int) : CgV p n (fun i => conjF p X (m + i)) (negL fun i => X (m + i)) := fun j hj => by
  show Cg p (if m + j = 0 then X 0 else (-(X (m + j))) % p) (-1 * X (m + j))
  rw [if_neg (by omega)]
  exact (Cg.mod p _).trans (Cg.of_eq (by omega))
theorem negL_cg {p : Int} {n : Nat} {X Y : Nat → Int} (h : CgV p n X Y) : CgV p n (negL X) (negL Y) := fun j hj => (Cg.rfl' p (-1)).mul (h j hj)
theorem mul_negL {p : Int} {s : Nat → Int} (k : Nat) (X Y : Nat → Int) : CgV p (2 ^ k) (mulF p s k (negL X) Y) (negL (mulF p s k X Y)) := by
  have h := mulF_scale (p := p) (s := s) k (-1) 1 X Y
  refine (mul_cg k (CgV.rfl' _ _ _) (fun j hj => Cg.of_eq (by omega))).trans (h.trans fun j hj => Cg.of_eq ?_)
  show -1 * 1 * _ = -1 * _
  omega
theorem mul_negR {p : Int} {s : Nat → Int} (k : Nat) (X Y : Nat → Int) : CgV p (2 ^ k) (mulF p s k X (negL Y)) (negL (mulF p s k X Y)) := by
  have h := mulF_scale (p := p) (s := s) k 1 (-1) X Y
  refine (mul_cg k (fun j hj => Cg.of_eq (by omega)) (CgV.rfl' _ _ _)).trans (h.trans fun j hj => Cg.of_eq ?_)
  show 1 * -1 * _ = -1 * _
  omega
/-- the two halves of a product -/
theorem mul_lo (p : Int) (s : Nat → Int) (k : Nat) (X Y : Nat → Int) : CgV p (2 ^ k) (mulF p s (k + 1) X Y) (lin (mulF p s k X Y) (s k) (mulF p s k (conjF p fun i => Y (2 ^ k + i)) fun i => X (2 ^ k + i))) := fun j hj => by
  simp only [mulF]
  rw [if_pos hj]
  exact Cg.mod p _
theorem mul_hi (p : Int) (s : Nat → Int) (k : Nat) (X Y : Nat → Int) : CgV p (2 ^ k) (fun j => mulF p s (k + 1) X Y (2 ^ k + j)) (lin (mulF p s k (fun i => Y (2 ^ k + i)) X) 1 (mulF p s k (fun i => X (2 ^ k + i)) (conjF p Y))) := fun j hj => by
  simp only [mulF]
  rw [if_neg (by omega), show 2 ^ k + j - 2 ^ k = j by omega]
  refine (Cg.mod p _).trans (Cg.of_eq ?_)
  simp only [lin]; grind
/-- from the two halves -/
theorem of_halves {p : Int} {k : Nat} {X Y : Nat → Int} (h1 : CgV p (2 ^ k) X Y) (h2 : CgV p (2 ^ k) (fun j => X (2 ^ k + j)) fun j => Y (2 ^ k + j)) : CgV p (2 ^ (k + 1)) X Y := fun j hj => by
  have e := pow2_succ k
  by_cases hlt : j < 2 ^ k
  · exact h1 j hlt
  · have h3 : Cg p (X (2 ^ k + (j - 2 ^ k))) (Y (2 ^ k + (j - 2 ^ k))) := h2 (j - 2 ^ k) (by omega)
    rwa [show 2 ^ k + (j - 2 ^ k) = j by omega] at h3

theorem conj_mul {p : Int} {s : Nat → Int} : ∀ (k : Nat) (X Y : Nat → Int), CgV p (2 ^ k) (conjF p (mulF p s k X Y)) (mulF p s k (conjF p Y) (conjF p X))
  | 0, X, Y => fun j hj => by
    obtain rfl : j = 0 := by simpa using hj
    exact Cg.of_eq (by show (X 0 * Y 0) % p = (Y 0 * X 0) % p; rw [Int.mul_comm])
  | k + 1, X, Y => by
    have hp : 0 < 2 ^ k := Nat.pow_pos (by decide)
    refine of_halves ?_ ?_
    · refine (conj_cg (mul_lo p s k X Y)).trans ((conj_lin p _ _ (s k) _).trans (CgV.symm ((mul_lo p s k _ _).trans ?_)))
      refine lin_cg (s k) (conj_mul k X Y).symm ?_
      refine CgV.symm ((conj_mul k _ _).trans ?_)
      refine (mul_cg k (CgV.rfl' _ _ _) (conj_conj p _ _)).trans (CgV.symm ?_)
      refine (mul_cg k ((conj_cg (conj_high p hp _ X)).trans (conj_neg p _ _)) (conj_high p hp _ Y)).trans ?_
      refine (mul_negL k _ _).trans ((negL_cg (mul_negR k _ _)).trans fun j hj => Cg.of_eq ?_)
      simp only [negL]; grind
    · refine (conj_high p hp _ _).trans ((negL_cg (mul_hi p s k X Y)).trans (CgV.symm ((mul_hi p s k _ _).trans ?_)))
      refine (lin_cg 1 ((mul_cg k (conj_high p hp _ X) (CgV.rfl' _ _ _)).trans (mul_negL k _ _)) ((mul_cg k (conj_high p hp _ Y) (conj_conj p _ X)).trans (mul_negL k _ _))).trans fun j hj => Cg.of_eq ?_
      simp only [lin, negL]; grind

theorem dlt_high {p : Int} {m n : Nat} (hm : 0 < m) (a : Int) : CgV p n (fun i => dltC a 0 (m + i)) fun _ => 0 := fun j hj => by
  show Cg p (if m + j = 0 then a else 0) 0
  rw [if_neg (by omega)]; exact Cg.rfl' _ _
theorem conj_one (p a : Int) (n : Nat) : CgV p n (conjF p (dltC a 0)) (dltC a 0) := fun j hj => by
  unfold conjF dltC
  by_cases e : j = 0
  · subst e; simp; exact Cg.rfl' _ _
  · rw [if_neg e, if_neg e]; exact (Cg.mod p _).trans (Cg.of_eq (by omega))
theorem mul_oneR {p : Int} {s : Nat → Int} : ∀ (k : Nat) (X : Nat → Int), CgV p (2 ^ k) (mulF p s k X (dltC 1 0)) X
  | 0, X => fun j hj => by
    obtain rfl : j = 0 := by simpa using hj
    exact (Cg.mod p _).trans (Cg.of_eq (by show X 0 * 1 = X 0; omega))
  | k + 1, X => by
    have hp : 0 < 2 ^ k := Nat.pow_pos (by decide)
    have hc : CgV p (2 ^ k) (conjF p fun i => dltC 1 0 (2 ^ k + i)) fun _ => 0 := (conj_cg (dlt_high hp 1)).trans fun j hj => by
      show Cg p (if j = 0 then 0 else (-0) % p) 0
      split
      · exact Cg.rfl' _ _
      · exact Cg.mod p _
    refine of_halves ?_ ?_
    · refine (mul_lo p s k _ _).trans ((lin_cg (s k) (mul_oneR k X) (mulF_nil k (Or.inl hc))).trans fun j hj => Cg.of_eq ?_)
      simp only [lin]; grind
    · refine (mul_hi p s k _ _).trans ((lin_cg 1 (mulF_nil k (Or.inl (dlt_high hp 1))) ((mul_cg k (CgV.rfl' _ _ _) (conj_one p 1 _)).trans (mul_oneR k fun i => X (2 ^ k + i)))).trans fun j hj => Cg.of_eq ?_)
      simp only [lin]; grind
theorem mul_oneL {p : Int} {s : Nat → Int} : ∀ (k : Nat) (X : Nat → Int), CgV p (2 ^ k) (mulF p s k (dltC 1 0) X) X
  | 0, X => fun j hj => by
    obtain rfl : j = 0 := by simpa using hj
    exact (Cg.mod p _).trans (Cg.of_eq (by show 1 * X 0 = X 0; omega))
  | k + 1, X => by
    have hp : 0 < 2 ^ k := Nat.pow_pos (by decide)
    refine of_halves ?_ ?_
    · refine (mul_lo p s k _ _).trans ((lin_cg (s k) (mul_oneL k X) (mulF_nil k (Or.inr (dlt_high hp 1)))).trans fun j hj => Cg.of_eq ?_)
      simp only [lin]; grind
    · refine (mul_hi p s k _ _).trans ((lin_cg 1 (mul_oneR k fun i => X (2 ^ k + i)) (mulF_nil k (Or.inl (dlt_high hp 1)))).trans fun j hj => Cg.of_eq ?_)
      simp only [lin]; grind
theorem mul_cR {p : Int} {s : Nat → Int} (k : Nat) (a : Int) (X : Nat → Int) : CgV p (2 ^ k) (mulF p s k X (dltC a 0)) fun j => a * X j := by
  have h := mulF_scale (p := p) (s := s) k 1 a X (dltC 1 0)
  refine (mul_cg k (fun j hj => Cg.of_eq (by omega)) (fun j hj => Cg.of_eq ?_)).trans (h.trans fun j hj => ?_)
  · unfold dltC; split <;> omega
  · exact ((Cg.of_eq (by omega)).mul (mul_oneR k X j hj))
theorem mul_cL {p : Int} {s : Nat → Int} (k : Nat) (a : Int) (X : Nat → Int) : CgV p (2 ^ k) (mulF p s k (dltC a 0) X) fun j => a * X j := by
  have h := mulF_scale (p := p) (s := s) k a 1 (dltC 1 0) X
  refine (mul_cg k (fun j hj => Cg.of_eq ?_) (fun j hj => Cg.of_eq (by omega))).trans (h.trans fun j hj => ?_)
  · unfold dltC; split <;> omega
  · exact ((Cg.of_eq (by omega)).mul (mul_oneL k X j hj))

/-- an element times its conjugate -/
theorem mul_conj {p : Int} {s : Nat → Int} : ∀ (k : Nat) (X : Nat → Int), CgV p (2 ^ k) (mulF p s k X (conjF p X)) (dltC (normF p s k X) 0) ∧ CgV p (2 ^ k) (mulF p s k (conjF p X) X) (mulF p s k X (conjF p X))
  | 0, X => ⟨fun j hj => by
      obtain rfl : j = 0 := by simpa using hj
      exact Cg.rfl' _ _, fun j hj => by
      obtain rfl : j = 0 := by simpa using hj
      exact Cg.rfl' _ _⟩
  | k + 1, X => by
    have hp : 0 < 2 ^ k := Nat.pow_pos (by decide)
    obtain ⟨a1, a2⟩ := mul_conj (p := p) (s := s) k X
    obtain ⟨b1, b2⟩ := mul_conj (p := p) (s := s) k fun i => X (2 ^ k + i)
    have l1 : CgV p (2 ^ k) (mulF p s (k + 1) X (conjF p X)) (lin (mulF p s k X (conjF p X)) (s k) (negL (mulF p s k (conjF p fun i => X (2 ^ k + i)) fun i => X (2 ^ k + i)))) :=
      (mul_lo p s k _ _).trans (lin_cg (s k) (CgV.rfl' _ _ _) ((mul_cg k ((conj_cg (conj_high p hp _ X)).trans (conj_neg p _ _)) (CgV.rfl' _ _ _)).trans (mul_negL k _ _)))
    have l2 : CgV p (2 ^ k) (mulF p s (k + 1) (conjF p X) X) (lin (mulF p s k (conjF p X) X) (s k) (negL (mulF p s k (conjF p fun i => X (2 ^ k + i)) fun i => X (2 ^ k + i)))) :=
      (mul_lo p s k _ _).trans (lin_cg (s k) (CgV.rfl' _ _ _) ((mul_cg k (CgV.rfl' _ _ _) (conj_high p hp _ X)).trans (mul_negR k _ _)))
    have h1 : CgV p (2 ^ k) (fun j => mulF p s (k + 1) X (conjF p X) (2 ^ k + j)) fun _ => 0 :=
      (mul_hi p s k _ _).trans ((lin_cg 1 ((mul_cg k (conj_high p hp _ X) (CgV.rfl' _ _ _)).trans (mul_negL k _ _)) (mul_cg k (CgV.rfl' _ _ _) (conj_conj p _ X))).trans fun j hj => Cg.of_eq (by simp only [lin, negL]; grind))
    have h2 : CgV p (2 ^ k) (fun j => mulF p s (k + 1) (conjF p X) X (2 ^ k + j)) fun _ => 0 :=
      (mul_hi p s k _ _).trans ((lin_cg 1 (CgV.rfl' _ _ _) ((mul_cg k (conj_high p hp _ X) (CgV.rfl' _ _ _)).trans (mul_negL k _ _))).trans fun j hj => Cg.of_eq (by simp only [lin, negL]; grind))
    refine ⟨of_halves (fun j hj => ?_) (h1.trans (dlt_high hp _).symm), of_halves (l2.trans ((lin_cg (s k) a2 (CgV.rfl' _ _ _)).trans l1.symm)) (h2.trans h1.symm)⟩
    by_cases e : j = 0
    · subst e; exact Cg.rfl' _ _
    · have q := (l1 j hj).trans ((a1 j hj).add ((Cg.rfl' p (s k)).mul ((Cg.rfl' p (-1)).mul ((b2.trans b1) j hj))))
      refine q.trans (Cg.of_eq ?_)
      unfold dltC
      rw [if_neg e, if_neg e, if_neg e]; simp
/-- an element is its trace less its conjugate -/
theorem tr_conj (p : Int) (n : Nat) (X : Nat → Int) : CgV p n X (lin (dltC (2 * X 0) 0) (-1) (conjF p X)) := fun j hj => by
  unfold lin dltC conjF
  by_cases e : j = 0
  · subst e; exact Cg.of_eq (by simp; omega)
  · rw [if_neg e, if_neg e]
    refine Cg.symm (((Cg.rfl' p 0).add ((Cg.rfl' p (-1)).mul (Cg.mod p _))).trans (Cg.of_eq (by omega)))
/-- the square -/
theorem sq_cg {p : Int} {s : Nat → Int} (k : Nat) (X : Nat → Int) : CgV p (2 ^ k) (mulF p s k X X) (lin (fun j => 2 * X 0 * X j) (-1) (dltC (normF p s k X) 0)) :=
  (mul_cg k (CgV.rfl' _ _ _) (tr_conj p _ X)).trans (((mul_lin k (-1) _ _ X).2).trans (lin_cg (-1) (mul_cR k _ X) (mul_conj k X).1))

/-! ### powers -/
/-- a + b x -/
def pl (a b : Int) (X : Nat → Int) : Nat → Int := lin (dltC a 0) b X
theorem mul_pl {p : Int} {s : Nat → Int} (k : Nat) (a b c d : Int) (X : Nat → Int) : CgV p (2 ^ k) (mulF p s k (pl a b X) (pl c d X)) (pl (a * c - b * d * normF p s k X) (a * d + b * c + b * d * (2 * X 0)) X) := by
  refine ((mul_lin k b _ _ _).1).trans ?_
  refine (lin_cg b (mul_cL k a _) (((mul_lin k d _ _ _).2).trans (lin_cg d (mul_cR k c X) (sq_cg k X)))).trans fun j hj => Cg.of_eq ?_
  unfold pl lin dltC
  split <;> grind
/-- the numbers of a power -/
def pc (t N : Int) : Nat → Int × Int
  | 0 => (1, 0)
  | k + 1 => (-(pc t N k).2 * N, (pc t N k).1 + (pc t N k).2 * t)
theorem pc_add (t N : Int) (i : Nat) : ∀ k, pc t N (i + k) = ((pc t N i).1 * (pc t N k).1 - (pc t N i).2 * (pc t N k).2 * N, (pc t N i).1 * (pc t N k).2 + (pc t N i).2 * (pc t N k).1 + (pc t N i).2 * (pc t N k).2 * t)
  | 0 => by simp [pc]
  | k + 1 => by
    rw [show i + (k + 1) = (i + k) + 1 from rfl, pc, pc_add t N i k, pc]
    refine Prod.ext ?_ ?_
    · simp only; grind
    · simp only; grind
def pwF (p : Int) (s : Nat → Int) (n : Nat) (X : Nat → Int) : Nat → Nat → Int
  | 0 => dltC 1 0
  | k + 1 => mulF p s n (pwF p s n X k) X
theorem pow_pl {p : Int} {s : Nat → Int} (n : Nat) (X : Nat → Int) : ∀ k, CgV p (2 ^ n) (pwF p s n X k) (pl (pc (2 * X 0) (normF p s n X) k).1 (pc (2 * X 0) (normF p s n X) k).2 X)
  | 0 => fun j hj => Cg.of_eq (by
      show (if j = 0 then (1 : Int) else 0) = (if j = 0 then 1 else 0) + 0 * X j
      simp)
  | k + 1 => by
    have h1 : CgV p (2 ^ n) X (pl 0 1 X) := fun j hj => Cg.of_eq (by unfold pl lin dltC; split <;> omega)
    refine (mul_cg n (pow_pl n X k) h1).trans ((mul_pl n _ _ _ _ X).trans fun j hj => Cg.of_eq ?_)
    unfold pl lin dltC
    rw [pc]
    simp only
    split <;> grind
theorem pow_add {p : Int} {s : Nat → Int} (n : Nat) (X : Nat → Int) (i k : Nat) : CgV p (2 ^ n) (mulF p s n (pwF p s n X i) (pwF p s n X k)) (pwF p s n X (i + k)) := by
  refine (mul_cg n (pow_pl n X i) (pow_pl n X k)).trans ((mul_pl n _ _ _ _ X).trans (CgV.symm ((pow_pl n X (i + k)).trans fun j hj => Cg.of_eq ?_)))
  rw [pc_add]

end Go.Proofs.Ytnnacligfoonbaa
