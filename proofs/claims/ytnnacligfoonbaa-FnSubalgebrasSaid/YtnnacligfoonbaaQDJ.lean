/-
  Doublings: the conjugate of a product, an element times its conjugate, the square, powers. Plain. No condition.
-/
import Derived.Test.YtnnacligfoonbaaQAJ
import Derived.Test.YtnnacligfoonbaaQGJ
set_option linter.unusedVariables false
set_option linter.unusedSimpArgs false
namespace Go.Proofs.Ytnnacligfoonbaa

theorem CgV.of_lt {p : Int} {n m : Nat} {X Y : Nat → Int} (h : CgV p n X Y) (hm : m ≤ n) : CgV p m X Y := fun j hj => h j (by omega)
theorem conj_conj (p : Int) (n : Nat) (X : Nat → Int) : CgV p n (conjF p (conjF p X)) X := fun j hj => by
  unfold conjF
  by_cases e : j = 0
  · subst e; rw [if_pos rfl, if_pos rfl]; exact Cg.rfl' _ _
  · rw [if_neg e, if_neg e]
    exact (Cg.mod p _).trans ((Cg.neg (Cg.mod p _)).trans (Cg.of_eq (by omega)))
/-- minus a list -/
def negL (X : Nat → Int) (j : Nat) : Int := -1 * X j
theorem conj_neg (p : Int) (n : Nat) (X : Nat → Int) : CgV p n (conjF p (negL X)) (negL (conjF p X)) := fun j hj => by
  show Cg p (if j = 0 then -1 * X 0 else (-(-1 * X j)) % p) (-1 * if j = 0 then X 0 else (-(X j)) % p)
  by_cases e : j = 0
  · rw [if_pos e, if_pos e]; exact Cg.rfl' _ _
  · rw [if_neg e, if_neg e]
    exact (Cg.mod p _).trans ((Cg.of_eq (by omega)).trans (((Cg.rfl' p (-1)).mul (Cg.mod' p _))))
theorem conj_high (p : Int) {m : Nat} (hm : 0 < m) (n : Nat) (X : Nat → Int) : CgV p n (fun i => conjF p X (m + i)) (negL fun i => X (m + i)) := fun j hj => by
  show Cg p (if m + j = 0 then X 0 else (-(X (m + j))) % p) (-1 * X (m + j))
  rw [if_neg (by omega)]
  exact (Cg.mod p _).trans (Cg.of_eq (by omega))
theorem negL_cg {p : Int} {n : Nat} {X Y : Nat → Int} (h : CgV p n X Y) : CgV p n (negL X) (negL Y) := fun j hj => (Cg.rfl' p (-1)).mul (h j hj)
theorem mul_negL {p : Int} {s : Nat → Int} (k : Nat) (X Y : Nat → Int) : CgV p (2 ^ k) (mulF p s k (negL X) Y) (negL (mulF p s k X Y)) := by
  have h := mulF_scale (p := p) (s := s) k (-1) 1 X Y
  refine (mul_cg k (CgV.rfl' _ _ _) (fun j hj => Cg.of_eq (by omega))).trans (h.trans fun j hj => Cg.of_eq ?_)
  show -1 * 1 * _ = -1 * _
  omega
theorem mul_negR {p : Int} {s : Nat → Int} (k : Nat) (X Y : Nat → Int) : CgV p (2 ^ k) (mulF p s k X (negL Y)) (negL (mulF p s k X Y)) := by
  have h := mulF_scale (p := p) (s := s) k 1 (-1) X Y
  refine (mul_cg k (fun j hj => Cg.of_eq (by omega)) (CgV.rfl' _ _ _)).trans (h.trans fun j hj => Cg.of_eq ?_)
  show 1 * -1 * _ = -1 * _
  omega
/-- the two halves of a product -/
theorem mul_lo (p : Int) (s : Nat → Int) (k : Nat) (X Y : Nat → Int) : CgV p (2 ^ k) (mulF p s (k + 1) X Y) (lin (mulF p s k X Y) (s k) (mulF p s k (conjF p fun i => Y (2 ^ k + i)) fun i => X (2 ^ k + i))) := fun j hj => by
  simp only [mulF]
  rw [if_pos hj]
  exact Cg.mod p _
theorem mul_hi (p : Int) (s : Nat → Int) (k : Nat) (X Y : Nat → Int) : CgV p (2 ^ k) (fun j => mulF p s (k + 1) X Y (2 ^ k + j)) (lin (mulF p s k (fun i => Y (2 ^ k + i)) X) 1 (mulF p s k (fun i => X (2 ^ k + i)) (conjF p Y))) := fun j hj => by
  simp only [mulF]
  rw [if_neg (by omega), show 2 ^ k + j - 2 ^ k = j by omega]
  refine (Cg.mod p _).trans (Cg.of_eq ?_)
  simp only [lin]; grind
/-- from the two halves -/
theorem of_halves {p : Int} {k : Nat} {X Y : Nat → Int} (h1 : CgV p (2 ^ k) X Y) (h2 : CgV p (2 ^ k) (fun j => X (2 ^ k + j)) fun j => Y (2 ^ k + j)) : CgV p (2 ^ (k + 1)) X Y := fun j hj => by
  have e := pow2_succ k
  by_cases hlt : j < 2 ^ k
  · exact h1 j hlt
  · have h3 : Cg p (X (2 ^ k + (j - 2 ^ k))) (Y (2 ^ k + (j - 2 ^ k))) := h2 (j - 2 ^ k) (by omega)
    rwa [show 2 ^ k + (j - 2 ^ k) = j by omega] at h3

theorem conj_mul {p : Int} {s : Nat → Int} : ∀ (k : Nat) (X Y : Nat → Int), CgV p (2 ^ k) (conjF p (mulF p s k X Y)) (mulF p s k (conjF p Y) (conjF p X))
  | 0, X, Y => fun j hj => by
    obtain rfl : j = 0 := by simpa using hj
    exact Cg.of_eq (by show (X 0 * Y 0) % p = (Y 0 * X 0) % p; rw [Int.mul_comm])
  | k + 1, X, Y => by
    have hp : 0 < 2 ^ k := Nat.pow_pos (by decide)
    refine of_halves ?_ ?_
    · refine (conj_cg (mul_lo p s k X Y)).trans ((conj_lin p _ _ (s k) _).trans (CgV.symm ((mul_lo p s k _ _).trans ?_)))
      refine lin_cg (s k) (conj_mul k X Y).symm ?_
      refine CgV.symm ((conj_mul k _ _).trans ?_)
      refine (mul_cg k (CgV.rfl' _ _ _) (conj_conj p _ _)).trans (CgV.symm ?_)
      refine (mul_cg k ((conj_cg (conj_high p hp _ X)).trans (conj_neg p _ _)) (conj_high p hp _ Y)).trans ?_
      refine (mul_negL k _ _).trans ((negL_cg (mul_negR k _ _)).trans fun j hj => Cg.of_eq ?_)
      simp only [negL]; grind
    · refine (conj_high p hp _ _).trans ((negL_cg (mul_hi p s k X Y)).trans (CgV.symm ((mul_hi p s k _ _).trans ?_)))
      refine (lin_cg 1 ((mul_cg k (conj_high p hp _ X) (CgV.rfl' _ _ _)).trans (mul_negL k _ _)) ((mul_cg k (conj_high p hp _ Y) (conj_conj p _ X)).trans (mul_negL k _ _))).trans fun j hj => Cg.of_eq ?_
      simp only [lin, negL]; grind

theorem dlt_high {p : Int} {m n : Nat} (hm : 0 < m) (a : Int) : CgV p n (fun i => dltC a 0 (m + i)) fun _ => 0 := fun j hj => by
  show Cg p (if m + j = 0 then a else 0) 0
  rw [if_neg (by omega)]; exact Cg.rfl' _ _
theorem conj_one (p a : Int) (n : Nat) : CgV p n (conjF p (dltC a 0)) (dltC a 0) := fun j hj => by
  unfold conjF dltC
  by_cases e : j = 0
  · subst e; simp; exact Cg.rfl' _ _
  · rw [if_neg e, if_neg e]; exact (Cg.mod p _).trans (Cg.of_eq (by omega))
theorem mul_oneR {p : Int} {s : Nat → Int} : ∀ (k : Nat) (X : Nat → Int), CgV p (2 ^ k) (mulF p s k X (dltC 1 0)) X
  | 0, X => fun j hj => by
    obtain rfl : j = 0 := by simpa using hj
    exact (Cg.mod p _).trans (Cg.of_eq (by show X 0 * 1 = X 0; omega))
  | k + 1, X => by
    have hp : 0 < 2 ^ k := Nat.pow_pos (by decide)
    have hc : CgV p (2 ^ k) (conjF p fun i => dltC 1 0 (2 ^ k + i)) fun _ => 0 := (conj_cg (dlt_high hp 1)).trans fun j hj => by
      show Cg p (if j = 0 then 0 else (-0) % p) 0
      split
      · exact Cg.rfl' _ _
      · exact Cg.mod p _
    refine of_halves ?_ ?_
    · refine (mul_lo p s k _ _).trans ((lin_cg (s k) (mul_oneR k X) (mulF_nil k (Or.inl hc))).trans fun j hj => Cg.of_eq ?_)
      simp only [lin]; grind
    · refine (mul_hi p s k _ _).trans ((lin_cg 1 (mulF_nil k (Or.inl (dlt_high hp 1))) ((mul_cg k (CgV.rfl' _ _ _) (conj_one p 1 _)).trans (mul_oneR k fun i => X (2 ^ k + i)))).trans fun j hj => Cg.of_eq ?_)
      simp only [lin]; grind
theorem mul_oneL {p : Int} {s : Nat → Int} : ∀ (k : Nat) (X : Nat → Int), CgV p (2 ^ k) (mulF p s k (dltC 1 0) X) X
  | 0, X => fun j hj => by
    obtain rfl : j = 0 := by simpa using hj
    exact (Cg.mod p _).trans (Cg.of_eq (by show 1 * X 0 = X 0; omega))
  | k + 1, X => by
    have hp : 0 < 2 ^ k := Nat.pow_pos (by decide)
    refine of_halves ?_ ?_
    · refine (mul_lo p s k _ _).trans ((lin_cg (s k) (mul_oneL k X) (mulF_nil k (Or.inr (dlt_high hp 1)))).trans fun j hj => Cg.of_eq ?_)
      simp only [lin]; grind
    · refine (mul_hi p s k _ _).trans ((lin_cg 1 (mul_oneR k fun i => X (2 ^ k + i)) (mulF_nil k (Or.inl (dlt_high hp 1)))).trans fun j hj => Cg.of_eq ?_)
      simp only [lin]; grind
theorem mul_cR {p : Int} {s : Nat → Int} (k : Nat) (a : Int) (X : Nat → Int) : CgV p (2 ^ k) (mulF p s k X (dltC a 0)) fun j => a * X j := by
  have h := mulF_scale (p := p) (s := s) k 1 a X (dltC 1 0)
  refine (mul_cg k (fun j hj => Cg.of_eq (by omega)) (fun j hj => Cg.of_eq ?_)).trans (h.trans fun j hj => ?_)
  · unfold dltC; split <;> omega
  · exact ((Cg.of_eq (by omega)).mul (mul_oneR k X j hj))
theorem mul_cL {p : Int} {s : Nat → Int} (k : Nat) (a : Int) (X : Nat → Int) : CgV p (2 ^ k) (mulF p s k (dltC a 0) X) fun j => a * X j := by
  have h := mulF_scale (p := p) (s := s) k a 1 (dltC 1 0) X
  refine (mul_cg k (fun j hj => Cg.of_eq ?_) (fun j hj => Cg.of_eq (by omega))).trans (h.trans fun j hj => ?_)
  · unfold dltC; split <;> omega
  · exact ((Cg.of_eq (by omega)).mul (mul_oneL k X j hj))

/-- an element times its conjugate -/
theorem mul_conj {p : Int} {s : Nat → Int} : ∀ (k : Nat) (X : Nat → Int), CgV p (2 ^ k) (mulF p s k X (conjF p X)) (dltC (normF p s k X) 0) ∧ CgV p (2 ^ k) (mulF p s k (conjF p X) X) (mulF p s k X (conjF p X))
  | 0, X => ⟨fun j hj => by
      obtain rfl : j = 0 := by simpa using hj
      exact Cg.rfl' _ _, fun j hj => by
      obtain rfl : j = 0 := by simpa using hj
      exact Cg.rfl' _ _⟩
  | k + 1, X => by
    have hp : 0 < 2 ^ k := Nat.pow_pos (by decide)
    obtain ⟨a1, a2⟩ := mul_conj (p := p) (s := s) k X
    obtain ⟨b1, b2⟩ := mul_conj (p := p) (s := s) k fun i => X (2 ^ k + i)
    have l1 : CgV p (2 ^ k) (mulF p s (k + 1) X (conjF p X)) (lin (mulF p s k X (conjF p X)) (s k) (negL (mulF p s k (conjF p fun i => X (2 ^ k + i)) fun i => X (2 ^ k + i)))) :=
      (mul_lo p s k _ _).trans (lin_cg (s k) (CgV.rfl' _ _ _) ((mul_cg k ((conj_cg (conj_high p hp _ X)).trans (conj_neg p _ _)) (CgV.rfl' _ _ _)).trans (mul_negL k _ _)))
    have l2 : CgV p (2 ^ k) (mulF p s (k + 1) (conjF p X) X) (lin (mulF p s k (conjF p X) X) (s k) (negL (mulF p s k (conjF p fun i => X (2 ^ k + i)) fun i => X (2 ^ k + i)))) :=
      (mul_lo p s k _ _).trans (lin_cg (s k) (CgV.rfl' _ _ _) ((mul_cg k (CgV.rfl' _ _ _) (conj_high p hp _ X)).trans (mul_negR k _ _)))
    have h1 : CgV p (2 ^ k) (fun j => mulF p s (k + 1) X (conjF p X) (2 ^ k + j)) fun _ => 0 :=
      (mul_hi p s k _ _).trans ((lin_cg 1 ((mul_cg k (conj_high p hp _ X) (CgV.rfl' _ _ _)).trans (mul_negL k _ _)) (mul_cg k (CgV.rfl' _ _ _) (conj_conj p _ X))).trans fun j hj => Cg.of_eq (by simp only [lin, negL]; grind))
    have h2 : CgV p (2 ^ k) (fun j => mulF p s (k + 1) (conjF p X) X (2 ^ k + j)) fun _ => 0 :=
      (mul_hi p s k _ _).trans ((lin_cg 1 (CgV.rfl' _ _ _) ((mul_cg k (conj_high p hp _ X) (CgV.rfl' _ _ _)).trans (mul_negL k _ _))).trans fun j hj => Cg.of_eq (by simp only [lin, negL]; grind))
    refine ⟨of_halves (fun j hj => ?_) (h1.trans (dlt_high hp _).symm), of_halves (l2.trans ((lin_cg (s k) a2 (CgV.rfl' _ _ _)).trans l1.symm)) (h2.trans h1.symm)⟩
    by_cases e : j = 0
    · subst e; exact Cg.rfl' _ _
    · have q := (l1 j hj).trans ((a1 j hj).add ((Cg.rfl' p (s k)).mul ((Cg.rfl' p (-1)).mul ((b2.trans b1) j hj))))
      refine q.trans (Cg.of_eq ?_)
      unfold dltC
      rw [if_neg e, if_neg e, if_neg e]; simp
/-- an element is its trace less its conjugate -/
theorem tr_conj (p : Int) (n : Nat) (X : Nat → Int) : CgV p n X (lin (dltC (2 * X 0) 0) (-1) (conjF p X)) := fun j hj => by
  unfold lin dltC conjF
  by_cases e : j = 0
  · subst e; exact Cg.of_eq (by simp; omega)
  · rw [if_neg e, if_neg e]
    refine Cg.symm (((Cg.rfl' p 0).add ((Cg.rfl' p (-1)).mul (Cg.mod p _))).trans (Cg.of_eq (by omega)))
/-- the square -/
theorem sq_cg {p : Int} {s : Nat → Int} (k : Nat) (X : Nat → Int) : CgV p (2 ^ k) (mulF p s k X X) (lin (fun j => 2 * X 0 * X j) (-1) (dltC (normF p s k X) 0)) :=
  (mul_cg k (CgV.rfl' _ _ _) (tr_conj p _ X)).trans (((mul_lin k (-1) _ _ X).2).trans (lin_cg (-1) (mul_cR k _ X) (mul_conj k X).1))

/-! ### powers -/
/-- a + b x -/
def pl (a b : Int) (X : Nat → Int) : Nat → Int := lin (dltC a 0) b X
theorem mul_pl {p : Int} {s : Nat → Int} (k : Nat) (a b c d : Int) (X : Nat → Int) : CgV p (2 ^ k) (mulF p s k (pl a b X) (pl c d X)) (pl (a * c - b * d * normF p s k X) (a * d + b * c + b * d * (2 * X 0)) X) := by
  refine ((mul_lin k b _ _ _).1).trans ?_
  refine (lin_cg b (mul_cL k a _) (((mul_lin k d _ _ _).2).trans (lin_cg d (mul_cR k c X) (sq_cg k X)))).trans fun j hj => Cg.of_eq ?_
  unfold pl lin dltC
  split <;> grind
/-- the numbers of a power -/
def pc (t N : Int) : Nat → Int × Int
  | 0 => (1, 0)
  | k + 1 => (-(pc t N k).2 * N, (pc t N k).1 + (pc t N k).2 * t)
theorem pc_add (t N : Int) (i : Nat) : ∀ k, pc t N (i + k) = ((pc t N i).1 * (pc t N k).1 - (pc t N i).2 * (pc t N k).2 * N, (pc t N i).1 * (pc t N k).2 + (pc t N i).2 * (pc t N k).1 + (pc t N i).2 * (pc t N k).2 * t)
  | 0 => by simp [pc]
  | k + 1 => by
    rw [show i + (k + 1) = (i + k) + 1 from rfl, pc, pc_add t N i k, pc]
    refine Prod.ext ?_ ?_
    · simp only; grind
    · simp only; grind
def pwF (p : Int) (s : Nat → Int) (n : Nat) (X : Nat → Int) : Nat → Nat → Int
  | 0 => dltC 1 0
  | k + 1 => mulF p s n (pwF p s n X k) X
theorem pow_pl {p : Int} {s : Nat → Int} (n : Nat) (X : Nat → Int) : ∀ k, CgV p (2 ^ n) (pwF p s n X k) (pl (pc (2 * X 0) (normF p s n X) k).1 (pc (2 * X 0) (normF p s n X) k).2 X)
  | 0 => fun j hj => Cg.of_eq (by
      show (if j = 0 then (1 : Int) else 0) = (if j = 0 then 1 else 0) + 0 * X j
      simp)
  | k + 1 => by
    have h1 : CgV p (2 ^ n) X (pl 0 1 X) := fun j hj => Cg.of_eq (by unfold pl lin dltC; split <;> omega)
    refine (mul_cg n (pow_pl n X k) h1).trans ((mul_pl n _ _ _ _ X).trans fun j hj => Cg.of_eq ?_)
    unfold pl lin dltC
    rw [pc]
    simp only
    split <;> grind
theorem pow_add {p : Int} {s : Nat → Int} (n : Nat) (X : Nat → Int) (i k : Nat) : CgV p (2 ^ n) (mulF p s n (pwF p s n X i) (pwF p s n X k)) (pwF p s n X (i + k)) := by
  refine (mul_cg n (pow_pl n X i) (pow_pl n X k)).trans ((mul_pl n _ _ _ _ X).trans (CgV.symm ((pow_pl n X (i + k)).trans fun j hj => Cg.of_eq ?_)))
  rw [pc_add]

end Go.Proofs.Ytnnacligfoonbaa

/-
  Doublings with at most three steps: associators alternate, the Moufang law, norms are multiplied; the cyclic form goes round. Plain. No condition.
-/
set_option linter.unusedVariables false
set_option linter.unusedSimpArgs false
namespace Go.Proofs.Ytnnacligfoonbaa

theorem units_all {p : Int} {N : Nat} (v : Nat → Int) : Spn p N (RowS N dltU) v := by
  have key : ∀ m, m ≤ N → Spn p N (RowS N dltU) fun j => if j < m then v j else 0 := by
    intro m
    induction m with
    | zero => intro _; exact .nil _ fun j _ => Cg.of_eq (by rw [if_neg (by omega)])
    | succ m ih =>
      intro hm
      refine (ih (by omega)).comb (v m) (.gen ⟨m, by omega, rfl⟩) fun j _ => Cg.of_eq ?_
      show (if j < m + 1 then v j else 0) = (if j < m then v j else 0) + v m * if j = m then 1 else 0
      by_cases e : j = m
      · subst e; rw [if_pos (by omega), if_neg (by omega), if_pos rfl]; omega
      · rw [if_neg e, Int.mul_zero, Int.add_zero]
        by_cases e2 : j < m
        · rw [if_pos e2, if_pos (by omega)]
        · rw [if_neg e2, if_neg (by omega)]
  refine (key N (Nat.le_refl _)).congr fun j hj => ?_
  rw [if_pos hj]; exact Cg.rfl' _ _
theorem Lin.all {p : Int} {n : Nat} {A : (Nat → Int) → Nat → Int} (h : Lin p n A) (h0 : ∀ i, i < n → CgV p n (A (dltU i)) fun _ => 0) (v : Nat → Int) : CgV p n (A v) fun _ => 0 :=
  h.span (S := RowS n dltU) (fun u hu => by obtain ⟨r, hr, rfl⟩ := hu; exact h0 r hr) (units_all v)
theorem Lin.plus {p : Int} {n : Nat} {A B : (Nat → Int) → Nat → Int} (c : Int) (ha : Lin p n A) (hb : Lin p n B) : Lin p n fun X => lin (A X) c (B X) :=
  ⟨fun h => lin_cg c (ha.cg h) (hb.cg h), fun X k Y => (lin_cg c (ha.add X k Y) (hb.add X k Y)).trans fun j hj => Cg.of_eq (by simp only [lin]; grind)⟩
theorem Lin.at0 {p : Int} {n : Nat} {A : (Nat → Int) → Nat → Int} (hn : 0 < n) (ha : Lin p n A) : Lin p n fun X => dltC (A X 0) 0 :=
  ⟨fun h j hj => by
      unfold dltC; split
      · exact ha.cg h 0 hn
      · exact Cg.rfl' _ _,
    fun X k Y j hj => by
      show Cg p (if j = 0 then _ else 0) ((if j = 0 then _ else 0) + k * (if j = 0 then _ else 0))
      split
      · exact ha.add X k Y 0 hn
      · exact Cg.of_eq (by omega)⟩
theorem dltC_lin (a b c : Int) (i : Nat) : lin (dltC a i) c (dltC b i) = dltC (a + c * b) i := by
  funext j; unfold lin dltC; split <;> omega
theorem dltC_nil {p a : Int} (h : Cg p a 0) (i n : Nat) : CgV p n (dltC a i) fun _ => 0 := fun j hj => by
  unfold dltC; split
  · exact h
  · exact Cg.rfl' _ _
theorem cg_sub0 {p a b : Int} (h : Cg p (a + -1 * b) 0) : Cg p a b := by
  have := h.add (Cg.rfl' p b)
  exact (Cg.of_eq (by omega)).trans (this.trans (Cg.of_eq (by omega)))
theorem conj_tr (p : Int) (n : Nat) (X : Nat → Int) : CgV p n (conjF p X) (lin (dltC (2 * X 0) 0) (-1) X) := fun j hj => by
  have := tr_conj p n X j hj
  unfold lin at this ⊢
  obtain ⟨t, e⟩ := this.ex
  exact Cg.of_ex (t := t) (by omega)
theorem lt8 {n : Nat} (h : n ≤ 3) : n ∈ List.range 4 := List.mem_range.2 (by omega)

/-! ### the steps' numbers -/
def p3 (s : Nat → Int) (n i k l : Nat) : Int := pr s n (i &&& k) * pr s n ((i ^^^ k) &&& l)
theorem p3_swap (s : Nat → Int) (n i k l : Nat) : p3 s n k i l = p3 s n i k l := by unfold p3; rw [Nat.and_comm, Nat.xor_comm]
theorem p3_turn (s : Nat → Int) (n i k l : Nat) : p3 s n k l i = p3 s n i k l := by
  unfold p3; rw [pr_assoc s i k l n, Nat.and_comm i (k ^^^ l)]

/-! ### associators alternate -/
theorem sA_swap : ∀ n ∈ List.range 4, ∀ i ∈ List.range (2 ^ n), ∀ k ∈ List.range (2 ^ n), ∀ l ∈ List.range (2 ^ n), sA n i k l + sA n k i l = 0 ∧ sA n i k l = sA n k l i := by decide +kernel
theorem sA_alt {n i k l : Nat} (hn : n ≤ 3) (hi : i < 2 ^ n) (hk : k < 2 ^ n) (hl : l < 2 ^ n) : sA n i k l + sA n k i l = 0 ∧ sA n i k l = sA n k l i :=
  sA_swap n (lt8 hn) i (List.mem_range.2 hi) k (List.mem_range.2 hk) l (List.mem_range.2 hl)
theorem as_alt {p : Int} {s : Nat → Int} {n : Nat} (hn : n ≤ 3) (X Y Z : Nat → Int) : CgV p (2 ^ n) (lin (asF p s n X Y Z) 1 (asF p s n Y X Z)) fun _ => 0 := by
  refine Lin.all (A := fun X => lin (asF p s n X Y Z) 1 (asF p s n Y X Z)) (Lin.plus 1 (as_lin1 p s n Y Z) (as_lin2 p s n Y Z)) (fun i hi => ?_) X
  refine Lin.all (A := fun Y => lin (asF p s n (dltU i) Y Z) 1 (asF p s n Y (dltU i) Z)) (Lin.plus 1 (as_lin2 p s n _ Z) (as_lin1 p s n _ Z)) (fun k hk => ?_) Y
  refine Lin.all (A := fun Z => lin (asF p s n (dltU i) (dltU k) Z) 1 (asF p s n (dltU k) (dltU i) Z)) (Lin.plus 1 (as_lin3 p s n _ _) (as_lin3 p s n _ _)) (fun l hl => ?_) Z
  refine (lin_cg 1 (as_basis hi hk hl) (as_basis hk hi hl)).trans ?_
  rw [Nat.xor_comm k i, dltC_lin]
  refine dltC_nil (Cg.of_eq ?_) _ _
  have h1 := (sA_alt hn hi hk hl).1
  have h2 := p3_swap s n i k l
  unfold p3 at h2
  rw [Nat.xor_comm k i] at h2
  rw [h2, Int.one_mul, ← Int.add_mul, h1, Int.zero_mul]
theorem as_turn {p : Int} {s : Nat → Int} {n : Nat} (hn : n ≤ 3) (X Y Z : Nat → Int) : CgV p (2 ^ n) (asF p s n X Y Z) (asF p s n Y Z X) := by
  have h : CgV p (2 ^ n) (lin (asF p s n X Y Z) (-1) (asF p s n Y Z X)) fun _ => 0 := by
    refine Lin.all (A := fun X => lin (asF p s n X Y Z) (-1) (asF p s n Y Z X)) (Lin.plus (-1) (as_lin1 p s n Y Z) (as_lin3 p s n Y Z)) (fun i hi => ?_) X
    refine Lin.all (A := fun Y => lin (asF p s n (dltU i) Y Z) (-1) (asF p s n Y Z (dltU i))) (Lin.plus (-1) (as_lin2 p s n _ Z) (as_lin1 p s n Z _)) (fun k hk => ?_) Y
    refine Lin.all (A := fun Z => lin (asF p s n (dltU i) (dltU k) Z) (-1) (asF p s n (dltU k) Z (dltU i))) (Lin.plus (-1) (as_lin3 p s n _ _) (as_lin2 p s n _ _)) (fun l hl => ?_) Z
    refine (lin_cg (-1) (as_basis hi hk hl) (as_basis hk hl hi)).trans ?_
    rw [show k ^^^ l ^^^ i = i ^^^ k ^^^ l by rw [Nat.xor_comm (k ^^^ l) i, Nat.xor_assoc], dltC_lin]
    refine dltC_nil (Cg.of_eq ?_) _ _
    have h1 := (sA_alt hn hi hk hl).2
    have h2 := p3_turn s n i k l
    unfold p3 at h2
    rw [h2, ← h1]; grind
  exact fun j hj => cg_sub0 (a := asF p s n X Y Z j) (b := asF p s n Y Z X j) (h j hj)
theorem half_zero {p : Int} (hp : primeB p = true) {a : Int} (h : Cg p (a + a) 0) : Cg p a 0 := by
  have h2 : Cg p (2 * a) 0 := (Cg.of_eq (by omega)).trans h
  by_cases e : Cg p a 0
  · exact e
  · exact absurd h2 (nz_mul hp (nz_two hp (Or.inl rfl)) e)
theorem as_xxy {p : Int} (hp : primeB p = true) {s : Nat → Int} {n : Nat} (hn : n ≤ 3) (X Y : Nat → Int) : CgV p (2 ^ n) (asF p s n X X Y) fun _ => 0 := fun j hj => by
  refine half_zero hp ?_
  have := as_alt (p := p) (s := s) hn X X Y j hj
  unfold lin at this
  exact (Cg.of_eq (by omega)).trans this
theorem as_xyx {p : Int} (hp : primeB p = true) {s : Nat → Int} {n : Nat} (hn : n ≤ 3) (X Y : Nat → Int) : CgV p (2 ^ n) (asF p s n X Y X) fun _ => 0 :=
  (as_turn hn X Y X).trans ((as_turn hn Y X X).trans (as_xxy hp hn X Y))
theorem as_yxx {p : Int} (hp : primeB p = true) {s : Nat → Int} {n : Nat} (hn : n ≤ 3) (X Y : Nat → Int) : CgV p (2 ^ n) (asF p s n Y X X) fun _ => 0 :=
  (as_turn hn Y X X).trans (as_xxy hp hn X Y)
/-- an associator that is nought -/
theorem as_eq {p : Int} {s : Nat → Int} {n : Nat} {X Y Z : Nat → Int} (h : CgV p (2 ^ n) (asF p s n X Y Z) fun _ => 0) : CgV p (2 ^ n) (mulF p s n (mulF p s n X Y) Z) (mulF p s n X (mulF p s n Y Z)) := fun j hj => by
  exact cg_sub0 ((Cg.mod' p _).trans (h j hj))

/-! ### the Moufang law -/
theorem mul_dC {p : Int} {s : Nat → Int} {n i k : Nat} (a b : Int) (hi : i < 2 ^ n) (hk : k < 2 ^ n) : CgV p (2 ^ n) (mulF p s n (dltC a i) (dltC b k)) (dltC (a * b * bb s n i k) (i ^^^ k)) :=
  (mulF_dltC n a b i k).trans fun j hj => by
    refine ((Cg.rfl' p (a * b)).mul (mul_basis n hi hk j hj)).trans (Cg.of_eq ?_)
    unfold dltC; split
    · rfl
    · omega
def moF (p : Int) (s : Nat → Int) (n : Nat) (X Y Z W : Nat → Int) : Nat → Int := lin (mulF p s n (mulF p s n X (mulF p s n Y Z)) W) (-1) (mulF p s n (mulF p s n X Y) (mulF p s n Z W))
def sM (n i k l m : Nat) : Int := sg n k l * sg n i (k ^^^ l) * sg n (i ^^^ (k ^^^ l)) m - sg n i k * sg n l m * sg n (i ^^^ k) (l ^^^ m)
def p4 (s : Nat → Int) (n i k l m : Nat) : Int := pr s n (k &&& l) * p3 s n i (k ^^^ l) m
theorem p4_swap (s : Nat → Int) (n i k l m : Nat) : p4 s n m k l i = p4 s n i k l m := by
  unfold p4
  rw [← p3_turn s n m (k ^^^ l) i, p3_swap]
theorem p4_other (s : Nat → Int) (n i k l m : Nat) : pr s n (i &&& k) * pr s n (l &&& m) * pr s n ((i ^^^ k) &&& (l ^^^ m)) = p4 s n i k l m := by
  unfold p4 p3
  have h1 := pr_assoc s i k l n
  have h2 := pr_assoc s (i ^^^ k) l m n
  rw [← Nat.xor_assoc, Int.mul_assoc, ← h2, ← Int.mul_assoc, h1, Int.mul_assoc]
theorem mo_basis {p : Int} {s : Nat → Int} {n i k l m : Nat} (hi : i < 2 ^ n) (hk : k < 2 ^ n) (hl : l < 2 ^ n) (hm : m < 2 ^ n) : CgV p (2 ^ n) (moF p s n (dltU i) (dltU k) (dltU l) (dltU m)) (dltC (sM n i k l m * p4 s n i k l m) (i ^^^ k ^^^ l ^^^ m)) := by
  have hkl := Nat.xor_lt_two_pow hk hl
  have hikl := Nat.xor_lt_two_pow hi hkl
  have hik := Nat.xor_lt_two_pow hi hk
  have hlm := Nat.xor_lt_two_pow hl hm
  unfold moF
  rw [dltU_C i, dltU_C k, dltU_C l, dltU_C m]
  refine (lin_cg (-1) ((mul_cg n ((mul_cg n (CgV.rfl' _ _ _) (mul_dC 1 1 hk hl)).trans (mul_dC _ _ hi hkl)) (CgV.rfl' _ _ _)).trans (mul_dC _ _ hikl hm))
    ((mul_cg n (mul_dC 1 1 hi hk) (mul_dC 1 1 hl hm)).trans (mul_dC _ _ hik hlm))).trans ?_
  rw [show i ^^^ (k ^^^ l) ^^^ m = i ^^^ k ^^^ l ^^^ m by rw [Nat.xor_assoc i k l], show i ^^^ k ^^^ (l ^^^ m) = i ^^^ k ^^^ l ^^^ m by rw [Nat.xor_assoc (i ^^^ k) l m], dltC_lin]
  rw [show (dltC _ _ : Nat → Int) = dltC (sM n i k l m * p4 s n i k l m) (i ^^^ k ^^^ l ^^^ m) from congrArg (fun c => dltC c _) ?_]
  · exact CgV.rfl' _ _ _
  · rw [bb_split s n hk hl, bb_split s n hi hkl, bb_split s n hikl hm, bb_split s n hi hk, bb_split s n hl hm, bb_split s n hik hlm]
    have h := p4_other s n i k l m
    unfold sM
    have h' : p4 s n i k l m = pr s n (k &&& l) * (pr s n (i &&& (k ^^^ l)) * pr s n ((i ^^^ (k ^^^ l)) &&& m)) := rfl
    rw [Int.sub_mul]
    conv => rhs; rhs; rw [← h]
    rw [h']
    grind
theorem mul_lin1 (p : Int) (s : Nat → Int) (n : Nat) (Y Z W : Nat → Int) : Lin p (2 ^ n) fun X => moF p s n X Y Z W :=
  Lin.plus (-1) ((Lin.mulL p s n W).comp (Lin.mulL p s n (mulF p s n Y Z))) ((Lin.mulL p s n (mulF p s n Z W)).comp (Lin.mulL p s n Y))
theorem mul_lin2 (p : Int) (s : Nat → Int) (n : Nat) (X Z W : Nat → Int) : Lin p (2 ^ n) fun Y => moF p s n X Y Z W :=
  Lin.plus (-1) ((Lin.mulL p s n W).comp ((Lin.mulR p s n X).comp (Lin.mulL p s n Z))) ((Lin.mulL p s n (mulF p s n Z W)).comp (Lin.mulR p s n X))
theorem mul_lin3 (p : Int) (s : Nat → Int) (n : Nat) (X Y W : Nat → Int) : Lin p (2 ^ n) fun Z => moF p s n X Y Z W :=
  Lin.plus (-1) ((Lin.mulL p s n W).comp ((Lin.mulR p s n X).comp (Lin.mulR p s n Y))) ((Lin.mulR p s n (mulF p s n X Y)).comp (Lin.mulL p s n W))
theorem mul_lin4 (p : Int) (s : Nat → Int) (n : Nat) (X Y Z : Nat → Int) : Lin p (2 ^ n) fun W => moF p s n X Y Z W :=
  Lin.plus (-1) (Lin.mulR p s n (mulF p s n X (mulF p s n Y Z))) ((Lin.mulR p s n (mulF p s n X Y)).comp (Lin.mulR p s n Z))
theorem sM_vals : ∀ n ∈ List.range 4, ∀ i ∈ List.range (2 ^ n), ∀ k ∈ List.range (2 ^ n), ∀ l ∈ List.range (2 ^ n), ∀ m ∈ List.range (2 ^ n), sM n i k l m + sM n m k l i = 0 := by decide +kernel
theorem mo_swap {p : Int} {s : Nat → Int} {n : Nat} (hn : n ≤ 3) (X Y Z W : Nat → Int) : CgV p (2 ^ n) (lin (moF p s n X Y Z W) 1 (moF p s n W Y Z X)) fun _ => 0 := by
  refine Lin.all (A := fun X => lin (moF p s n X Y Z W) 1 (moF p s n W Y Z X)) (Lin.plus 1 (mul_lin1 p s n _ _ _) (mul_lin4 p s n _ _ _)) (fun i hi => ?_) X
  refine Lin.all (A := fun Y => lin (moF p s n (dltU i) Y Z W) 1 (moF p s n W Y Z (dltU i))) (Lin.plus 1 (mul_lin2 p s n _ _ _) (mul_lin2 p s n _ _ _)) (fun k hk => ?_) Y
  refine Lin.all (A := fun Z => lin (moF p s n (dltU i) (dltU k) Z W) 1 (moF p s n W (dltU k) Z (dltU i))) (Lin.plus 1 (mul_lin3 p s n _ _ _) (mul_lin3 p s n _ _ _)) (fun l hl => ?_) Z
  refine Lin.all (A := fun W => lin (moF p s n (dltU i) (dltU k) (dltU l) W) 1 (moF p s n W (dltU k) (dltU l) (dltU i))) (Lin.plus 1 (mul_lin4 p s n _ _ _) (mul_lin1 p s n _ _ _)) (fun m hm => ?_) W
  refine (lin_cg 1 (mo_basis hi hk hl hm) (mo_basis hm hk hl hi)).trans ?_
  rw [show m ^^^ k ^^^ l ^^^ i = i ^^^ k ^^^ l ^^^ m by rw [Nat.xor_comm (m ^^^ k ^^^ l) i, Nat.xor_assoc m k l, Nat.xor_comm m (k ^^^ l), ← Nat.xor_assoc, ← Nat.xor_assoc], dltC_lin]
  refine dltC_nil (Cg.of_eq ?_) _ _
  have h := sM_vals n (lt8 hn) i (List.mem_range.2 hi) k (List.mem_range.2 hk) l (List.mem_range.2 hl) m (List.mem_range.2 hm)
  rw [p4_swap, Int.one_mul, ← Int.add_mul, h, Int.zero_mul]
theorem moufang {p : Int} (hp : primeB p = true) {s : Nat → Int} {n : Nat} (hn : n ≤ 3) (X Y Z : Nat → Int) : CgV p (2 ^ n) (mulF p s n (mulF p s n X (mulF p s n Y Z)) X) (mulF p s n (mulF p s n X Y) (mulF p s n Z X)) := fun j hj => by
  have h := mo_swap (p := p) (s := s) hn X Y Z X j hj
  have h2 : Cg p (moF p s n X Y Z X j) 0 := half_zero hp (Cg.trans (Cg.of_eq (by simp only [lin]; grind)) h)
  have := h2.add (Cg.rfl' p (mulF p s n (mulF p s n X Y) (mulF p s n Z X) j))
  refine Cg.trans (Cg.of_eq ?_) (this.trans (Cg.of_eq ?_))
  · unfold moF lin; omega
  · omega

/-! ### norms are multiplied -/
theorem norm_mul {p : Int} (hp : primeB p = true) {s : Nat → Int} {n : Nat} (hn : n ≤ 3) (X Y : Nat → Int) : Cg p (normF p s n (mulF p s n X Y)) (normF p s n X * normF p s n Y) := by
  have h0 : 0 < 2 ^ n := Nat.pow_pos (by decide)
  -- x y times the conjugate of x y
  have c1 := conj_tr p (2 ^ n) X
  have c2 : CgV p (2 ^ n) (mulF p s n (conjF p Y) (conjF p X)) (lin (fun j => 2 * X 0 * conjF p Y j) (-1) (mulF p s n (conjF p Y) X)) :=
    (mul_cg n (CgV.rfl' _ _ _) c1).trans ((mul_lin n (-1) _ _ _).2.trans (lin_cg (-1) (mul_cR n _ _) (CgV.rfl' _ _ _)))
  have c3 : CgV p (2 ^ n) (mulF p s n (mulF p s n X Y) (conjF p Y)) fun j => normF p s n Y * X j := by
    have a1 : CgV p (2 ^ n) (asF p s n X Y (conjF p Y)) fun _ => 0 := by
      have c4 := conj_tr p (2 ^ n) Y
      refine ((as_lin3 p s n X Y).cg c4).trans (((as_lin3 p s n X Y).add _ _ _).trans fun j hj => ?_)
      have h1 : Cg p (asF p s n X Y (dltC (2 * Y 0) 0) j) 0 := by
        refine (Cg.mod p _).trans ?_
        have g1 := mul_cR (p := p) (s := s) n (2 * Y 0) (mulF p s n X Y) j hj
        have g2 := ((mul_cg (p := p) (s := s) n (CgV.rfl' _ _ X) (mul_cR (s := s) n (2 * Y 0) Y)).trans ((mul_cg n (fun j hj => Cg.of_eq (Int.one_mul _).symm) (CgV.rfl' _ _ _)).trans (mulF_scale n 1 (2 * Y 0) X Y))) j hj
        refine (g1.add ((Cg.rfl' p (-1)).mul g2)).trans (Cg.of_eq ?_)
        grind
      have h2 := as_yxx (s := s) hp hn Y X j hj
      have := h1.add ((Cg.rfl' p (-1)).mul h2)
      simpa [lin] using this
    exact (as_eq a1).trans ((mul_cg n (CgV.rfl' _ _ _) (mul_conj n Y).1).trans (mul_cR n _ X))
  have c5 : CgV p (2 ^ n) (mulF p s n (mulF p s n X Y) (mulF p s n (conjF p Y) X)) fun j => normF p s n Y * mulF p s n X X j := by
    refine (moufang hp hn X Y (conjF p Y)).symm.trans ?_
    refine (mul_cg n ((mul_cg n (CgV.rfl' _ _ _) (mul_conj n Y).1).trans (mul_cR n _ X)) (CgV.rfl' _ _ _)).trans ?_
    refine (mul_cg n (CgV.rfl' _ _ _) (fun j hj => Cg.of_eq (Int.one_mul _).symm)).trans ((mulF_scale n (normF p s n Y) 1 X X).trans fun j hj => Cg.of_eq ?_)
    rw [Int.mul_one]
  have c6 : CgV p (2 ^ n) (mulF p s n (mulF p s n X Y) (conjF p (mulF p s n X Y))) (lin (fun j => 2 * X 0 * (normF p s n Y * X j)) (-1) fun j => normF p s n Y * mulF p s n X X j) := by
    refine (mul_cg n (CgV.rfl' _ _ _) ((conj_mul n X Y).trans c2)).trans ((mul_lin n (-1) _ _ _).2.trans (lin_cg (-1) ?_ c5))
    refine (mul_cg n (fun j hj => Cg.of_eq (Int.one_mul _).symm) (CgV.rfl' _ _ _)).trans ((mulF_scale n 1 (2 * X 0) _ _).trans fun j hj => ?_)
    exact ((Cg.of_eq (by omega)).mul (c3 j hj))
  have h := c6 0 h0
  have h2 := sq_cg (p := p) (s := s) n X 0 h0
  refine Cg.trans (show Cg p (normF p s n (mulF p s n X Y)) _ from h) ?_
  unfold lin at h2 ⊢
  have h3 : dltC (normF p s n X) 0 0 = normF p s n X := rfl
  rw [h3] at h2
  refine ((Cg.rfl' p _).add ((Cg.rfl' p (-1)).mul ((Cg.rfl' p (normF p s n Y)).mul h2))).trans (Cg.of_eq ?_)
  grind

/-! ### the cyclic form -/
def sT (n i k l : Nat) : Int := sg n i k * sg n (i ^^^ k) l
theorem sT_vals : ∀ n ∈ List.range 5, ∀ i ∈ List.range (2 ^ n), ∀ k ∈ List.range (2 ^ n), sT n i k (i ^^^ k) = sT n k (i ^^^ k) i := by decide +kernel
theorem t3_basis {p : Int} {s : Nat → Int} {n i k l : Nat} (hi : i < 2 ^ n) (hk : k < 2 ^ n) (hl : l < 2 ^ n) : CgV p (2 ^ n) (mulF p s n (mulF p s n (dltU i) (dltU k)) (dltU l)) (dltC (sT n i k l * p3 s n i k l) (i ^^^ k ^^^ l)) := by
  have hik := Nat.xor_lt_two_pow hi hk
  rw [dltU_C i, dltU_C k, dltU_C l]
  refine ((mul_cg n (mul_dC 1 1 hi hk) (CgV.rfl' _ _ _)).trans (mul_dC _ _ hik hl)).trans ?_
  rw [bb_split s n hi hk, bb_split s n hik hl]
  rw [show (dltC _ _ : Nat → Int) = dltC (sT n i k l * p3 s n i k l) (i ^^^ k ^^^ l) from congrArg (fun c => dltC c _) (by unfold sT p3; grind)]
  exact CgV.rfl' _ _ _
theorem cyc_turn {p : Int} {s : Nat → Int} {n : Nat} (hn : n ≤ 4) (X Y Z : Nat → Int) : Cg p (mulF p s n (mulF p s n X Y) Z 0) (mulF p s n (mulF p s n Y Z) X 0) := by
  have h0 : 0 < 2 ^ n := Nat.pow_pos (by decide)
  have l1 : ∀ Y Z, Lin p (2 ^ n) fun X => mulF p s n (mulF p s n X Y) Z := fun Y Z => (Lin.mulL p s n Z).comp (Lin.mulL p s n Y)
  have l2 : ∀ X Z, Lin p (2 ^ n) fun Y => mulF p s n (mulF p s n X Y) Z := fun X Z => (Lin.mulL p s n Z).comp (Lin.mulR p s n X)
  have l3 : ∀ X Y, Lin p (2 ^ n) fun Z => mulF p s n (mulF p s n X Y) Z := fun X Y => Lin.mulR p s n _
  have key : CgV p (2 ^ n) (dltC (lin (mulF p s n (mulF p s n X Y) Z) (-1) (mulF p s n (mulF p s n Y Z) X) 0) 0) fun _ => 0 := by
    refine Lin.all (A := fun X => dltC (lin (mulF p s n (mulF p s n X Y) Z) (-1) (mulF p s n (mulF p s n Y Z) X) 0) 0) (Lin.at0 h0 (Lin.plus (-1) (l1 _ _) (l3 _ _))) (fun i hi => ?_) X
    refine Lin.all (A := fun Y => dltC (lin (mulF p s n (mulF p s n (dltU i) Y) Z) (-1) (mulF p s n (mulF p s n Y Z) (dltU i)) 0) 0) (Lin.at0 h0 (Lin.plus (-1) (l2 _ _) (l1 _ _))) (fun k hk => ?_) Y
    refine Lin.all (A := fun Z => dltC (lin (mulF p s n (mulF p s n (dltU i) (dltU k)) Z) (-1) (mulF p s n (mulF p s n (dltU k) Z) (dltU i)) 0) 0) (Lin.at0 h0 (Lin.plus (-1) (l3 _ _) (l2 _ _))) (fun l hl => ?_) Z
    refine dltC_nil ?_ _ _
    have q := (lin_cg (-1) (t3_basis (p := p) (s := s) hi hk hl) (t3_basis (p := p) (s := s) hk hl hi)) 0 h0
    refine q.trans ?_
    rw [show k ^^^ l ^^^ i = i ^^^ k ^^^ l by rw [Nat.xor_comm (k ^^^ l) i, Nat.xor_assoc], dltC_lin]
    refine Cg.of_eq ?_
    unfold dltC
    split
    · rename_i e
      have hl' : l = i ^^^ k := by
        have := congrArg (· ^^^ l) e
        simpa [Nat.xor_assoc] using this
      subst hl'
      have := sT_vals n (List.mem_range.2 (by omega)) i (List.mem_range.2 hi) k (List.mem_range.2 hk)
      rw [p3_turn s n i k (i ^^^ k), this]; omega
    · rfl
  have := key 0 h0
  unfold dltC lin at this
  rw [if_pos rfl] at this
  exact cg_sub0 this

end Go.Proofs.Ytnnacligfoonbaa
