/-
  Products by doubling are linear in each factor, modulo p; and so are associators and commutators. No program is in sight. No condition.
-/
import Derived.Test.YtnnacligfoonbaaQJ
set_option linter.unusedVariables false
set_option linter.unusedSimpArgs false
namespace Go.Proofs.Ytnnacligfoonbaa

/-- lists that are the same modulo p -/
def CgV (p : Int) (n : Nat) (X Y : Nat → Int) : Prop := ∀ j, j < n → Cg p (X j) (Y j)
theorem CgV.rfl' (p : Int) (n : Nat) (X : Nat → Int) : CgV p n X X := fun _ _ => Cg.rfl' _ _
theorem CgV.symm {p : Int} {n : Nat} {X Y : Nat → Int} (h : CgV p n X Y) : CgV p n Y X := fun j hj => (h j hj).symm
theorem CgV.trans {p : Int} {n : Nat} {X Y Z : Nat → Int} (h : CgV p n X Y) (h2 : CgV p n Y Z) : CgV p n X Z := fun j hj => (h j hj).trans (h2 j hj)
theorem conj_cg {p : Int} {n : Nat} {X Y : Nat → Int} (h : CgV p n X Y) : CgV p n (conjF p X) (conjF p Y) := fun j hj => by
  unfold conjF
  by_cases e : j = 0
  · rw [if_pos e, if_pos e]; exact h 0 (by omega)
  · rw [if_neg e, if_neg e]; exact (Cg.mod p _).trans (((h j hj).neg).trans (Cg.mod' p _))
theorem conj_lin (p : Int) (X Y : Nat → Int) (k : Int) (n : Nat) : CgV p n (conjF p fun j => X j + k * Y j) (fun j => conjF p X j + k * conjF p Y j) := fun j hj => by
  show Cg p (if j = 0 then X 0 + k * Y 0 else (-(X j + k * Y j)) % p) ((if j = 0 then X 0 else (-(X j)) % p) + k * if j = 0 then Y 0 else (-(Y j)) % p)
  by_cases e : j = 0
  · rw [if_pos e, if_pos e, if_pos e]; exact Cg.rfl' _ _
  · rw [if_neg e, if_neg e, if_neg e]
    refine (Cg.mod p _).trans (Cg.symm ?_)
    refine ((Cg.mod p _).add ((Cg.rfl' p k).mul (Cg.mod p _))).trans (Cg.of_eq ?_)
    grind
/-- the sum of a list and a multiple -/
def lin (X : Nat → Int) (k : Int) (Y : Nat → Int) (j : Nat) : Int := X j + k * Y j
theorem pow2_succ (k : Nat) : 2 ^ (k + 1) = 2 ^ k + 2 ^ k := by rw [Nat.pow_succ]; omega
theorem mul_cg {p : Int} {s : Nat → Int} : ∀ (k : Nat) {X X' Y Y' : Nat → Int}, CgV p (2 ^ k) X X' → CgV p (2 ^ k) Y Y' → CgV p (2 ^ k) (mulF p s k X Y) (mulF p s k X' Y')
  | 0, X, X', Y, Y', hX, hY => fun j hj => by
    simp only [mulF]
    exact (Cg.mod p _).trans (((hX 0 (by decide)).mul (hY 0 (by decide))).trans (Cg.mod' p _))
  | k + 1, X, X', Y, Y', hX, hY => fun j hj => by
    have e := pow2_succ k
    have x1 : CgV p (2 ^ k) X X' := fun i hi => hX i (by omega)
    have x2 : CgV p (2 ^ k) (fun i => X (2 ^ k + i)) (fun i => X' (2 ^ k + i)) := fun i hi => hX _ (by omega)
    have y1 : CgV p (2 ^ k) Y Y' := fun i hi => hY i (by omega)
    have y2 : CgV p (2 ^ k) (fun i => Y (2 ^ k + i)) (fun i => Y' (2 ^ k + i)) := fun i hi => hY _ (by omega)
    simp only [mulF]
    by_cases hlt : j < 2 ^ k
    · rw [if_pos hlt, if_pos hlt]
      exact (Cg.mod p _).trans (((mul_cg k x1 y1 j hlt).add ((Cg.rfl' p (s k)).mul (mul_cg k (conj_cg y2) x2 j hlt))).trans (Cg.mod' p _))
    · rw [if_neg hlt, if_neg hlt]
      exact (Cg.mod p _).trans (((mul_cg k y2 x1 _ (by omega)).add (mul_cg k x2 (conj_cg y1) _ (by omega))).trans (Cg.mod' p _))
theorem mul_lin {p : Int} {s : Nat → Int} : ∀ (k : Nat) (c : Int) (X X' Y : Nat → Int),
    CgV p (2 ^ k) (mulF p s k (lin X c X') Y) (lin (mulF p s k X Y) c (mulF p s k X' Y)) ∧ CgV p (2 ^ k) (mulF p s k Y (lin X c X')) (lin (mulF p s k Y X) c (mulF p s k Y X'))
  | 0, c, X, X', Y => by
    constructor
    · intro j hj
      simp only [mulF, lin]
      refine (Cg.mod p _).trans (Cg.symm (((Cg.mod p _).add ((Cg.rfl' p c).mul (Cg.mod p _))).trans (Cg.of_eq ?_)))
      grind
    · intro j hj
      simp only [mulF, lin]
      refine (Cg.mod p _).trans (Cg.symm (((Cg.mod p _).add ((Cg.rfl' p c).mul (Cg.mod p _))).trans (Cg.of_eq ?_)))
      grind
  | k + 1, c, X, X', Y => by
    have e := pow2_succ k
    have ih := mul_lin (p := p) (s := s) k c
    have cj : ∀ A B : Nat → Int, CgV p (2 ^ k) (conjF p (lin A c B)) (lin (conjF p A) c (conjF p B)) := fun A B => conj_lin p A B c _
    have hh : (fun i => lin X c X' (2 ^ k + i)) = lin (fun i => X (2 ^ k + i)) c (fun i => X' (2 ^ k + i)) := rfl
    constructor
    · intro j hj
      simp only [mulF]
      rw [hh]
      by_cases hlt : j < 2 ^ k
      · rw [if_pos hlt]
        have q1 := (ih X X' Y).1 j hlt
        have q2 := (ih (fun i => X (2 ^ k + i)) (fun i => X' (2 ^ k + i)) (conjF p fun i => Y (2 ^ k + i))).2 j hlt
        refine (Cg.mod p _).trans ((q1.add ((Cg.rfl' p (s k)).mul q2)).trans (Cg.symm ?_))
        show Cg p (mulF p s (k + 1) X Y j + c * mulF p s (k + 1) X' Y j) _
        simp only [mulF]
        rw [if_pos hlt, if_pos hlt]
        refine ((Cg.mod p _).add ((Cg.rfl' p c).mul (Cg.mod p _))).trans (Cg.of_eq ?_)
        unfold lin; grind
      · rw [if_neg hlt]
        have q1 := (ih X X' (fun i => Y (2 ^ k + i))).2 (j - 2 ^ k) (by omega)
        have q2 := (ih (fun i => X (2 ^ k + i)) (fun i => X' (2 ^ k + i)) (conjF p Y)).1 (j - 2 ^ k) (by omega)
        refine (Cg.mod p _).trans ((q1.add q2).trans (Cg.symm ?_))
        show Cg p (mulF p s (k + 1) X Y j + c * mulF p s (k + 1) X' Y j) _
        simp only [mulF]
        rw [if_neg hlt, if_neg hlt]
        refine ((Cg.mod p _).add ((Cg.rfl' p c).mul (Cg.mod p _))).trans (Cg.of_eq ?_)
        unfold lin; grind
    · intro j hj
      simp only [mulF]
      rw [hh]
      by_cases hlt : j < 2 ^ k
      · rw [if_pos hlt]
        have q1 := (ih X X' Y).2 j hlt
        have q2 := (mul_cg k (cj (fun i => X (2 ^ k + i)) (fun i => X' (2 ^ k + i))) (CgV.rfl' p _ fun i => Y (2 ^ k + i)) j hlt).trans ((ih (conjF p fun i => X (2 ^ k + i)) (conjF p fun i => X' (2 ^ k + i)) (fun i => Y (2 ^ k + i))).1 j hlt)
        refine (Cg.mod p _).trans ((q1.add ((Cg.rfl' p (s k)).mul q2)).trans (Cg.symm ?_))
        show Cg p (mulF p s (k + 1) Y X j + c * mulF p s (k + 1) Y X' j) _
        simp only [mulF]
        rw [if_pos hlt, if_pos hlt]
        refine ((Cg.mod p _).add ((Cg.rfl' p c).mul (Cg.mod p _))).trans (Cg.of_eq ?_)
        unfold lin; grind
      · rw [if_neg hlt]
        have q1 := (ih (fun i => X (2 ^ k + i)) (fun i => X' (2 ^ k + i)) Y).1 (j - 2 ^ k) (by omega)
        have q2 := (mul_cg k (CgV.rfl' p _ fun i => Y (2 ^ k + i)) (cj X X') (j - 2 ^ k) (by omega)).trans ((ih (conjF p X) (conjF p X') (fun i => Y (2 ^ k + i))).2 (j - 2 ^ k) (by omega))
        refine (Cg.mod p _).trans ((q1.add q2).trans (Cg.symm ?_))
        show Cg p (mulF p s (k + 1) Y X j + c * mulF p s (k + 1) Y X' j) _
        simp only [mulF]
        rw [if_neg hlt, if_neg hlt]
        refine ((Cg.mod p _).add ((Cg.rfl' p c).mul (Cg.mod p _))).trans (Cg.of_eq ?_)
        unfold lin; grind

/-- a map of lists that is linear modulo p -/
structure Lin (p : Int) (n : Nat) (A : (Nat → Int) → Nat → Int) : Prop where
  cg : ∀ {X Y : Nat → Int}, CgV p n X Y → CgV p n (A X) (A Y)
  add : ∀ (X : Nat → Int) (k : Int) (Y : Nat → Int), CgV p n (A (lin X k Y)) (lin (A X) k (A Y))
theorem lin_cg {p : Int} {n : Nat} {X X' Y Y' : Nat → Int} (k : Int) (h : CgV p n X X') (h2 : CgV p n Y Y') : CgV p n (lin X k Y) (lin X' k Y') := fun j hj => (h j hj).add ((Cg.rfl' p k).mul (h2 j hj))
theorem Lin.nil {p : Int} {n : Nat} {A : (Nat → Int) → Nat → Int} (h : Lin p n A) {X : Nat → Int} (hX : CgV p n X fun _ => 0) : CgV p n (A X) fun _ => 0 := by
  have h1 : CgV p n (A X) (A (lin X (-1) X)) := h.cg (hX.trans fun j hj => by
    have := hX j hj
    show Cg p 0 (X j + -1 * X j)
    exact Cg.of_eq (by omega))
  refine h1.trans ((h.add X (-1) X).trans fun j hj => Cg.of_eq ?_)
  show A X j + -1 * A X j = 0
  omega
theorem Lin.comp {p : Int} {n : Nat} {A B : (Nat → Int) → Nat → Int} (ha : Lin p n A) (hb : Lin p n B) : Lin p n fun X => A (B X) :=
  ⟨fun h => ha.cg (hb.cg h), fun X k Y => (ha.cg (hb.add X k Y)).trans (ha.add _ k _)⟩
theorem Lin.sub {p : Int} {n : Nat} {A B : (Nat → Int) → Nat → Int} (ha : Lin p n A) (hb : Lin p n B) : Lin p n fun X j => (A X j + -1 * B X j) % p :=
  ⟨fun h j hj => (Cg.mod p _).trans ((((ha.cg h j hj)).add ((Cg.rfl' p (-1)).mul (hb.cg h j hj))).trans (Cg.mod' p _)),
    fun X k Y j hj => by
      refine (Cg.mod p _).trans (((ha.add X k Y j hj).add ((Cg.rfl' p (-1)).mul (hb.add X k Y j hj))).trans (Cg.symm ?_))
      show Cg p ((A X j + -1 * B X j) % p + k * ((A Y j + -1 * B Y j) % p)) _
      refine ((Cg.mod p _).add ((Cg.rfl' p k).mul (Cg.mod p _))).trans (Cg.of_eq ?_)
      unfold lin; grind⟩
theorem Lin.id (p : Int) (n : Nat) : Lin p n fun X => X := ⟨fun h => h, fun _ _ _ => CgV.rfl' _ _ _⟩
theorem Lin.mulL (p : Int) (s : Nat → Int) (n : Nat) (Y : Nat → Int) : Lin p (2 ^ n) fun X => mulF p s n X Y := ⟨fun h => mul_cg n h (CgV.rfl' _ _ _), fun X k X' => (mul_lin n k X X' Y).1⟩
theorem Lin.mulR (p : Int) (s : Nat → Int) (n : Nat) (Y : Nat → Int) : Lin p (2 ^ n) fun X => mulF p s n Y X := ⟨fun h => mul_cg n (CgV.rfl' _ _ _) h, fun X k X' => (mul_lin n k X X' Y).2⟩
/-- a linear map that leads lists to nought leads what they make to nought -/
theorem Lin.span {p : Int} {n : Nat} {A : (Nat → Int) → Nat → Int} (h : Lin p n A) {S : (Nat → Int) → Prop} (h0 : ∀ u, S u → CgV p n (A u) fun _ => 0) {v : Nat → Int} (hv : Spn p n S v) : CgV p n (A v) fun _ => 0 := by
  induction hv with
  | nil v hz => exact h.nil hz
  | add u v w k hu hv hw ih =>
    have h1 : CgV p n (A w) (A (lin v k u)) := h.cg hw
    refine h1.trans ((h.add v k u).trans fun j hj => ?_)
    have := (ih j hj).add ((Cg.rfl' p k).mul (h0 u hu j hj))
    simpa [lin] using this

/-- the associator, the commutator -/
def asF (p : Int) (s : Nat → Int) (n : Nat) (X Y Z : Nat → Int) (j : Nat) : Int := (mulF p s n (mulF p s n X Y) Z j + -1 * mulF p s n X (mulF p s n Y Z) j) % p
def coF (p : Int) (s : Nat → Int) (n : Nat) (X Y : Nat → Int) (j : Nat) : Int := (mulF p s n X Y j + -1 * mulF p s n Y X j) % p
theorem asF_in {p : Int} (hp : 0 < p) (s : Nat → Int) (n : Nat) (X Y Z : Nat → Int) (m : Nat) : InP p m (asF p s n X Y Z) := fun j _ => mod_bd _ _ hp
theorem as_lin1 (p : Int) (s : Nat → Int) (n : Nat) (Y Z : Nat → Int) : Lin p (2 ^ n) fun X => asF p s n X Y Z :=
  Lin.sub ((Lin.mulL p s n Z).comp (Lin.mulL p s n Y)) (Lin.mulL p s n (mulF p s n Y Z))
theorem as_lin2 (p : Int) (s : Nat → Int) (n : Nat) (X Z : Nat → Int) : Lin p (2 ^ n) fun Y => asF p s n X Y Z :=
  Lin.sub ((Lin.mulL p s n Z).comp (Lin.mulR p s n X)) ((Lin.mulR p s n X).comp (Lin.mulL p s n Z))
theorem as_lin3 (p : Int) (s : Nat → Int) (n : Nat) (X Y : Nat → Int) : Lin p (2 ^ n) fun Z => asF p s n X Y Z :=
  Lin.sub (Lin.mulR p s n (mulF p s n X Y)) ((Lin.mulR p s n X).comp (Lin.mulR p s n Y))
/-- associators that are nought on lists are nought on what they make -/
theorem as_span {p : Int} {s : Nat → Int} {n : Nat} {S : (Nat → Int) → Prop} (h : ∀ u v w, S u → S v → S w → CgV p (2 ^ n) (asF p s n u v w) fun _ => 0) {u v w : Nat → Int} (hu : Spn p (2 ^ n) S u) (hv : Spn p (2 ^ n) S v) (hw : Spn p (2 ^ n) S w) :
    CgV p (2 ^ n) (asF p s n u v w) fun _ => 0 :=
  (as_lin1 p s n v w).span (fun u hu => (as_lin2 p s n u w).span (fun v hv => (as_lin3 p s n u v).span (fun w hw => h u v w hu hv hw) hw) hv) hu

end Go.Proofs.Ytnnacligfoonbaa

/-
  Products of the basis: each is a multiple of one element of the basis, a sign times some steps; signs of associators and commutators. No program is in sight. No condition.
-/
set_option linter.unusedVariables false
set_option linter.unusedSimpArgs false
namespace Go.Proofs.Ytnnacligfoonbaa

/-- a multiple of an element of the basis -/
def dltC (c : Int) (i j : Nat) : Int := if j = i then c else 0
theorem dltU_C (i : Nat) : dltU i = dltC 1 i := rfl
theorem mulF_nil {p : Int} {s : Nat → Int} (k : Nat) {X Y : Nat → Int} (h : CgV p (2 ^ k) X (fun _ => 0) ∨ CgV p (2 ^ k) Y fun _ => 0) : CgV p (2 ^ k) (mulF p s k X Y) fun _ => 0 := by
  rcases h with h | h
  · exact (Lin.mulL p s k Y).nil h
  · exact (Lin.mulR p s k X).nil h
theorem mulF_scale {p : Int} {s : Nat → Int} (k : Nat) (a b : Int) (X Y : Nat → Int) : CgV p (2 ^ k) (mulF p s k (fun j => a * X j) fun j => b * Y j) fun j => a * b * mulF p s k X Y j := by
  have h0 : CgV p (2 ^ k) (mulF p s k (fun _ => 0) fun j => b * Y j) fun _ => 0 := mulF_nil k (Or.inl (CgV.rfl' _ _ _))
  have h1 : CgV p (2 ^ k) (mulF p s k (fun j => a * X j) fun j => b * Y j) fun j => a * mulF p s k X (fun j => b * Y j) j := by
    have e : (fun j => a * X j) = lin (fun _ => 0) a X := by funext j; simp [lin]
    rw [e]
    refine ((mul_lin k a (fun _ => 0) X fun j => b * Y j).1).trans fun j hj => ?_
    unfold lin
    have := (h0 j hj).add (Cg.rfl' p (a * mulF p s k X (fun j => b * Y j) j))
    simpa using this
  have h2 : CgV p (2 ^ k) (mulF p s k X fun j => b * Y j) fun j => b * mulF p s k X Y j := by
    have h3 : CgV p (2 ^ k) (mulF p s k X fun _ => 0) fun _ => 0 := mulF_nil k (Or.inr (CgV.rfl' _ _ _))
    have e : (fun j => b * Y j) = lin (fun _ => 0) b Y := by funext j; simp [lin]
    rw [e]
    refine ((mul_lin k b (fun _ => 0) Y X).2).trans fun j hj => ?_
    unfold lin
    have := (h3 j hj).add (Cg.rfl' p (b * mulF p s k X Y j))
    simpa using this
  exact h1.trans fun j hj => ((Cg.rfl' p a).mul (h2 j hj)).trans (Cg.of_eq (by rw [Int.mul_assoc]))
theorem dltC_scale (c : Int) (i : Nat) : dltC c i = fun j => c * dltU i j := by
  funext j; unfold dltC dltU; split <;> simp
theorem mulF_dltC {p : Int} {s : Nat → Int} (k : Nat) (a b : Int) (i j : Nat) : CgV p (2 ^ k) (mulF p s k (dltC a i) (dltC b j)) fun t => a * b * mulF p s k (dltU i) (dltU j) t := by
  rw [dltC_scale a i, dltC_scale b j]; exact mulF_scale k a b _ _

/-- the sign of a conjugate -/
def cs (k : Nat) : Int := if k = 0 then 1 else -1
theorem conj_dltU (p : Int) (k n : Nat) : CgV p n (conjF p (dltU k)) (dltC (cs k) k) := fun j hj => by
  unfold conjF dltU dltC cs
  by_cases e : j = 0
  · subst e
    rw [if_pos rfl]
    by_cases e2 : k = 0
    · subst e2; simp; exact Cg.rfl' _ _
    · rw [if_neg (fun h => e2 h.symm), if_neg (fun h => e2 h.symm)]; exact Cg.rfl' _ _
  · rw [if_neg e]
    refine (Cg.mod p _).trans (Cg.of_eq ?_)
    by_cases e2 : j = k
    · subst e2; rw [if_pos rfl, if_pos rfl, if_neg e]
    · rw [if_neg e2, if_neg e2]; rfl

/-- the factor of a product of the basis -/
def bb (s : Nat → Int) : Nat → Nat → Nat → Int
  | 0, _, _ => 1
  | n + 1, i, k =>
    if i < 2 ^ n then (if k < 2 ^ n then bb s n i k else bb s n (k - 2 ^ n) i)
    else if k < 2 ^ n then cs k * bb s n (i - 2 ^ n) k
    else s n * (cs (k - 2 ^ n) * bb s n (k - 2 ^ n) (i - 2 ^ n))

theorem xor_hi {n i k : Nat} (hi : i < 2 ^ n) (hk : k < 2 ^ n) : (2 ^ n + i) ^^^ k = 2 ^ n + (i ^^^ k) := by
  have h1 : i ^^^ k < 2 ^ n := Nat.xor_lt_two_pow hi hk
  apply Nat.eq_of_testBit_eq
  intro t
  rw [Nat.testBit_xor]
  rcases Nat.lt_trichotomy t n with h | h | h
  · rw [Nat.testBit_two_pow_add_gt h, Nat.testBit_two_pow_add_gt h, Nat.testBit_xor]
  · subst h
    rw [Nat.testBit_two_pow_add_eq, Nat.testBit_two_pow_add_eq, Nat.testBit_lt_two_pow hi, Nat.testBit_lt_two_pow hk, Nat.testBit_lt_two_pow h1]; rfl
  · have hp : 2 ^ (n + 1) ≤ 2 ^ t := Nat.pow_le_pow_right (by omega) h
    have hs := pow2_succ n
    rw [Nat.testBit_lt_two_pow (show 2 ^ n + i < 2 ^ t by omega), Nat.testBit_lt_two_pow (show k < 2 ^ t by omega), Nat.testBit_lt_two_pow (show 2 ^ n + (i ^^^ k) < 2 ^ t by omega)]; rfl
theorem xor_hi2 {n i k : Nat} (hi : i < 2 ^ n) (hk : k < 2 ^ n) : (2 ^ n + i) ^^^ (2 ^ n + k) = i ^^^ k := by
  have h1 : i ^^^ k < 2 ^ n := Nat.xor_lt_two_pow hi hk
  rw [Nat.xor_comm (2 ^ n + i), Nat.xor_comm i k]
  have h2 := xor_hi hk (k := i) hi
  apply Nat.eq_of_testBit_eq
  intro t
  rw [Nat.testBit_xor, Nat.testBit_xor]
  rcases Nat.lt_trichotomy t n with h | h | h
  · rw [Nat.testBit_two_pow_add_gt h, Nat.testBit_two_pow_add_gt h]
  · subst h
    rw [Nat.testBit_two_pow_add_eq, Nat.testBit_two_pow_add_eq, Nat.testBit_lt_two_pow hi, Nat.testBit_lt_two_pow hk]; rfl
  · have hp : 2 ^ (n + 1) ≤ 2 ^ t := Nat.pow_le_pow_right (by omega) h
    have hs := pow2_succ n
    rw [Nat.testBit_lt_two_pow (show 2 ^ n + i < 2 ^ t by omega), Nat.testBit_lt_two_pow (show 2 ^ n + k < 2 ^ t by omega), Nat.testBit_lt_two_pow (show k < 2 ^ t by omega), Nat.testBit_lt_two_pow (show i < 2 ^ t by omega)]

/-- each product of the basis is a multiple of one element of it -/
theorem mul_basis {p : Int} {s : Nat → Int} : ∀ (n : Nat) {i k : Nat}, i < 2 ^ n → k < 2 ^ n → CgV p (2 ^ n) (mulF p s n (dltU i) (dltU k)) (dltC (bb s n i k) (i ^^^ k))
  | 0, i, k, hi, hk => fun j hj => by
    obtain rfl : i = 0 := by simpa using hi
    obtain rfl : k = 0 := by simpa using hk
    obtain rfl : j = 0 := by simpa using hj
    exact Cg.mod p _
  | n + 1, i, k, hi, hk => fun j hj => by
    have e := pow2_succ n
    -- the halves of an element of the basis
    have lo : ∀ a, a < 2 ^ n → CgV p (2 ^ n) (fun t => dltU a (2 ^ n + t)) fun _ => 0 := fun a ha t ht => Cg.of_eq (by show (if 2 ^ n + t = a then (1 : Int) else 0) = 0; rw [if_neg (by omega)])
    have hi0 : ∀ a, 2 ^ n ≤ a → CgV p (2 ^ n) (dltU a) fun _ => 0 := fun a ha t ht => Cg.of_eq (by unfold dltU; rw [if_neg (by omega)])
    have hi1 : ∀ a, 2 ^ n ≤ a → CgV p (2 ^ n) (fun t => dltU a (2 ^ n + t)) (dltU (a - 2 ^ n)) := fun a ha t ht => Cg.of_eq (by
      show (if 2 ^ n + t = a then (1 : Int) else 0) = if t = a - 2 ^ n then 1 else 0
      by_cases e2 : 2 ^ n + t = a
      · rw [if_pos e2, if_pos (by omega)]
      · rw [if_neg e2, if_neg (by omega)])
    have cj : ∀ a, CgV p (2 ^ n) (conjF p (dltU a)) (dltC (cs a) a) := fun a => conj_dltU p a _
    have cz : ∀ {X : Nat → Int}, CgV p (2 ^ n) X (fun _ => 0) → CgV p (2 ^ n) (conjF p X) fun _ => 0 := fun {X} h => (conj_cg h).trans fun t ht => Cg.of_eq (by unfold conjF; split <;> simp)
    have z : CgV p (2 ^ n) (fun _ => (0 : Int)) fun _ => 0 := CgV.rfl' _ _ _
    have drop : ∀ c a t, dltC c (2 ^ n + a) (2 ^ n + t) = dltC c a t := fun c a t => by
      unfold dltC
      by_cases e2 : t = a
      · rw [if_pos e2, if_pos (by omega)]
      · rw [if_neg e2, if_neg (by omega)]
    have off : ∀ c a t, t < 2 ^ n → dltC c (2 ^ n + a) t = 0 := fun c a t ht => by unfold dltC; rw [if_neg (by omega)]
    have off2 : ∀ c a t, a < 2 ^ n → dltC c a (2 ^ n + t) = 0 := fun c a t ha => by unfold dltC; rw [if_neg (by omega)]
    simp only [mulF, bb]
    by_cases h1 : i < 2 ^ n
    · by_cases h2 : k < 2 ^ n
      · have hx : i ^^^ k < 2 ^ n := Nat.xor_lt_two_pow h1 h2
        rw [if_pos h1, if_pos h2]
        by_cases h3 : j < 2 ^ n
        · rw [if_pos h3]
          have m1 := mul_basis (p := p) (s := s) n h1 h2 j h3
          have m2 : Cg p _ 0 := mulF_nil (p := p) (s := s) n (Y := fun t => dltU i (2 ^ n + t)) (X := conjF p fun t => dltU k (2 ^ n + t)) (Or.inr (lo i h1)) j h3
          have := m1.add ((Cg.rfl' p (s n)).mul m2)
          rw [Int.mul_zero, Int.add_zero] at this
          exact (Cg.mod p _).trans this
        · rw [if_neg h3]
          obtain ⟨t, rfl⟩ : ∃ t, j = 2 ^ n + t := ⟨j - 2 ^ n, by omega⟩
          rw [Nat.add_sub_cancel_left]
          have m1 : Cg p _ 0 := mulF_nil (p := p) (s := s) n (X := fun t => dltU k (2 ^ n + t)) (Y := dltU i) (Or.inl (lo k h2)) t (by omega)
          have m2 : Cg p _ 0 := mulF_nil (p := p) (s := s) n (X := fun t => dltU i (2 ^ n + t)) (Y := conjF p (dltU k)) (Or.inl (lo i h1)) t (by omega)
          have := m1.add m2
          rw [Int.add_zero] at this
          rw [off2 _ _ _ hx]
          exact (Cg.mod p _).trans this
      · rw [if_pos h1, if_neg h2]
        obtain ⟨k', rfl⟩ : ∃ k', k = 2 ^ n + k' := ⟨k - 2 ^ n, by omega⟩
        have hk' : k' < 2 ^ n := by omega
        have hx : k' ^^^ i < 2 ^ n := Nat.xor_lt_two_pow hk' h1
        rw [Nat.add_sub_cancel_left, Nat.xor_comm i, xor_hi hk' h1]
        have h4 := hi1 (2 ^ n + k') (by omega)
        rw [Nat.add_sub_cancel_left] at h4
        by_cases h3 : j < 2 ^ n
        · rw [if_pos h3, off _ _ _ h3]
          have m1 : Cg p _ 0 := mulF_nil (p := p) (s := s) n (X := dltU i) (Y := dltU (2 ^ n + k')) (Or.inr (hi0 _ (by omega))) j h3
          have m2 : Cg p _ 0 := mulF_nil (p := p) (s := s) n (Y := fun t => dltU i (2 ^ n + t)) (X := conjF p fun t => dltU (2 ^ n + k') (2 ^ n + t)) (Or.inr (lo i h1)) j h3
          have := m1.add ((Cg.rfl' p (s n)).mul m2)
          rw [Int.mul_zero, Int.add_zero] at this
          exact (Cg.mod p _).trans this
        · rw [if_neg h3]
          obtain ⟨t, rfl⟩ : ∃ t, j = 2 ^ n + t := ⟨j - 2 ^ n, by omega⟩
          rw [Nat.add_sub_cancel_left, drop]
          have m1 := (mul_cg (p := p) (s := s) n h4 (CgV.rfl' _ _ (dltU i)) t (by omega)).trans (mul_basis (p := p) (s := s) n hk' h1 t (by omega))
          have m2 : Cg p _ 0 := mulF_nil (p := p) (s := s) n (X := fun t => dltU i (2 ^ n + t)) (Y := conjF p (dltU (2 ^ n + k'))) (Or.inl (lo i h1)) t (by omega)
          have := m1.add m2
          rw [Int.add_zero] at this
          exact (Cg.mod p _).trans this
    · obtain ⟨i', rfl⟩ : ∃ i', i = 2 ^ n + i' := ⟨i - 2 ^ n, by omega⟩
      have hi' : i' < 2 ^ n := by omega
      have h5 := hi1 (2 ^ n + i') (by omega)
      rw [Nat.add_sub_cancel_left] at h5
      by_cases h2 : k < 2 ^ n
      · rw [if_neg h1, if_pos h2, Nat.add_sub_cancel_left, xor_hi hi' h2]
        have hx : i' ^^^ k < 2 ^ n := Nat.xor_lt_two_pow hi' h2
        by_cases h3 : j < 2 ^ n
        · rw [if_pos h3, off _ _ _ h3]
          have m1 : Cg p _ 0 := mulF_nil (p := p) (s := s) n (X := dltU (2 ^ n + i')) (Y := dltU k) (Or.inl (hi0 _ (by omega))) j h3
          have m2 : Cg p _ 0 := mulF_nil (p := p) (s := s) n (Y := fun t => dltU (2 ^ n + i') (2 ^ n + t)) (X := conjF p fun t => dltU k (2 ^ n + t)) (Or.inl (cz (lo k h2))) j h3
          have := m1.add ((Cg.rfl' p (s n)).mul m2)
          rw [Int.mul_zero, Int.add_zero] at this
          exact (Cg.mod p _).trans this
        · rw [if_neg h3]
          obtain ⟨t, rfl⟩ : ∃ t, j = 2 ^ n + t := ⟨j - 2 ^ n, by omega⟩
          rw [Nat.add_sub_cancel_left, drop]
          have m1 : Cg p _ 0 := mulF_nil (p := p) (s := s) n (X := fun t => dltU k (2 ^ n + t)) (Y := dltU (2 ^ n + i')) (Or.inl (lo k h2)) t (by omega)
          have m2 := (mul_cg (p := p) (s := s) n h5 (cj k) t (by omega)).trans ((mulF_dltC (p := p) (s := s) n 1 (cs k) i' k t (by omega)).trans ((Cg.rfl' p _).mul (mul_basis (p := p) (s := s) n hi' h2 t (by omega))))
          have := m1.add m2
          rw [Int.zero_add] at this
          refine (Cg.mod p _).trans (this.trans (Cg.of_eq ?_))
          unfold dltC; split
          · rw [Int.one_mul]
          · rw [Int.mul_zero]
      · rw [if_neg h1, if_neg h2]
        obtain ⟨k', rfl⟩ : ∃ k', k = 2 ^ n + k' := ⟨k - 2 ^ n, by omega⟩
        have hk' : k' < 2 ^ n := by omega
        rw [Nat.add_sub_cancel_left, Nat.add_sub_cancel_left, xor_hi2 hi' hk']
        have hx : i' ^^^ k' < 2 ^ n := Nat.xor_lt_two_pow hi' hk'
        have h4 := hi1 (2 ^ n + k') (by omega)
        rw [Nat.add_sub_cancel_left] at h4
        by_cases h3 : j < 2 ^ n
        · rw [if_pos h3]
          have m1 : Cg p _ 0 := mulF_nil (p := p) (s := s) n (X := dltU (2 ^ n + i')) (Y := dltU (2 ^ n + k')) (Or.inl (hi0 _ (by omega))) j h3
          have m2 := (mul_cg (p := p) (s := s) n ((conj_cg h4).trans (cj k')) h5 j h3).trans ((mulF_dltC (p := p) (s := s) n (cs k') 1 k' i' j h3).trans ((Cg.rfl' p _).mul (mul_basis (p := p) (s := s) n hk' hi' j h3)))
          have := m1.add ((Cg.rfl' p (s n)).mul m2)
          rw [Int.zero_add] at this
          refine (Cg.mod p _).trans (this.trans (Cg.of_eq ?_))
          rw [Nat.xor_comm k' i', Int.mul_one]
          unfold dltC; split
          · rfl
          · rw [Int.mul_zero, Int.mul_zero]
        · rw [if_neg h3]
          obtain ⟨t, rfl⟩ : ∃ t, j = 2 ^ n + t := ⟨j - 2 ^ n, by omega⟩
          rw [Nat.add_sub_cancel_left, off2 _ _ _ hx]
          have m1 : Cg p _ 0 := mulF_nil (p := p) (s := s) n (X := fun t => dltU (2 ^ n + k') (2 ^ n + t)) (Y := dltU (2 ^ n + i')) (Or.inr (hi0 _ (by omega))) t (by omega)
          have m2 : Cg p _ 0 := mulF_nil (p := p) (s := s) n (X := fun t => dltU (2 ^ n + i') (2 ^ n + t)) (Y := conjF p (dltU (2 ^ n + k'))) (Or.inr (cz (hi0 _ (by omega)))) t (by omega)
          have := m1.add m2
          rw [Int.add_zero] at this
          exact (Cg.mod p _).trans this

/-- the steps of the common bits -/
def pr (s : Nat → Int) : Nat → Nat → Int
  | 0, _ => 1
  | n + 1, m => pr s n m * if m.testBit n then s n else 1
/-- the sign alone -/
def sg : Nat → Nat → Nat → Int := bb fun _ => 1
theorem pr_low {s : Nat → Int} : ∀ {n m m' : Nat}, (∀ t, t < n → m.testBit t = m'.testBit t) → pr s n m = pr s n m'
  | 0, _, _, _ => rfl
  | n + 1, m, m', h => by
    unfold pr
    rw [pr_low (n := n) fun t ht => h t (by omega), h n (by omega)]
theorem bb_split (s : Nat → Int) : ∀ (n : Nat) {i k : Nat}, i < 2 ^ n → k < 2 ^ n → bb s n i k = sg n i k * pr s n (i &&& k)
  | 0, i, k, _, _ => by simp [bb, sg, pr]
  | n + 1, i, k, hi, hk => by
    have e := pow2_succ n
    have lowb : ∀ a, a < 2 ^ n → a.testBit n = false := fun a ha => Nat.testBit_lt_two_pow ha
    unfold sg
    simp only [bb, pr, Nat.testBit_and]
    by_cases h1 : i < 2 ^ n
    · rw [if_pos h1, if_pos h1, lowb i h1]
      simp only [Bool.false_and, Bool.false_eq_true, if_false, Int.mul_one]
      by_cases h2 : k < 2 ^ n
      · rw [if_pos h2, if_pos h2]; exact bb_split s n h1 h2
      · rw [if_neg h2, if_neg h2]
        have := bb_split s n (i := k - 2 ^ n) (k := i) (by omega) h1
        rw [this]; congr 1
        refine pr_low fun t ht => ?_
        obtain ⟨k', rfl⟩ : ∃ k', k = 2 ^ n + k' := ⟨k - 2 ^ n, by omega⟩
        rw [Nat.add_sub_cancel_left, Nat.testBit_and, Nat.testBit_and, Nat.testBit_two_pow_add_gt ht, Bool.and_comm]
    · obtain ⟨i', rfl⟩ : ∃ i', i = 2 ^ n + i' := ⟨i - 2 ^ n, by omega⟩
      have hi' : i' < 2 ^ n := by omega
      rw [if_neg h1, if_neg h1, Nat.add_sub_cancel_left, Nat.testBit_two_pow_add_eq, lowb i' hi']
      by_cases h2 : k < 2 ^ n
      · rw [if_pos h2, if_pos h2, lowb k h2, bb_split s n hi' h2]
        simp only [Bool.and_false, Bool.false_eq_true, if_false, Int.mul_one]
        rw [show pr s n ((2 ^ n + i') &&& k) = pr s n (i' &&& k) from pr_low fun t ht => by rw [Nat.testBit_and, Nat.testBit_and, Nat.testBit_two_pow_add_gt ht]]
        unfold sg; rw [Int.mul_assoc]
      · obtain ⟨k', rfl⟩ : ∃ k', k = 2 ^ n + k' := ⟨k - 2 ^ n, by omega⟩
        have hk' : k' < 2 ^ n := by omega
        rw [if_neg h2, if_neg h2, Nat.add_sub_cancel_left, Nat.testBit_two_pow_add_eq, lowb k' hk', bb_split s n hk' hi']
        rw [show pr s n ((2 ^ n + i') &&& (2 ^ n + k')) = pr s n (k' &&& i') from pr_low fun t ht => by rw [Nat.testBit_and, Nat.testBit_and, Nat.testBit_two_pow_add_gt ht, Nat.testBit_two_pow_add_gt ht, Bool.and_comm]]
        unfold sg
        simp only [Bool.not_false, Bool.and_self, if_true, Int.one_mul]
        grind
/-- the steps are the same, whichever product is first -/
theorem pr_assoc (s : Nat → Int) (i k l : Nat) : ∀ n : Nat, pr s n (i &&& k) * pr s n ((i ^^^ k) &&& l) = pr s n (k &&& l) * pr s n (i &&& (k ^^^ l))
  | 0 => rfl
  | n + 1 => by
    have ih := pr_assoc s i k l n
    unfold pr
    simp only [Nat.testBit_and, Nat.testBit_xor]
    cases i.testBit n <;> cases k.testBit n <;> cases l.testBit n <;> simp <;> grind
/-- sign of an associator of the basis, and of a commutator -/
def sA (n i k l : Nat) : Int := sg n i k * sg n (i ^^^ k) l - sg n k l * sg n i (k ^^^ l)
def sC (n i k : Nat) : Int := sg n i k - sg n k i
theorem as_basis {p : Int} {s : Nat → Int} {n i k l : Nat} (hi : i < 2 ^ n) (hk : k < 2 ^ n) (hl : l < 2 ^ n) : CgV p (2 ^ n) (asF p s n (dltU i) (dltU k) (dltU l)) (dltC (sA n i k l * (pr s n (i &&& k) * pr s n ((i ^^^ k) &&& l))) (i ^^^ k ^^^ l)) := fun t ht => by
  have hik : i ^^^ k < 2 ^ n := Nat.xor_lt_two_pow hi hk
  have hkl : k ^^^ l < 2 ^ n := Nat.xor_lt_two_pow hk hl
  have m1 := (mul_cg (p := p) (s := s) n (mul_basis (p := p) (s := s) n hi hk) (show CgV p (2 ^ n) (dltU l) (dltC 1 l) from CgV.rfl' _ _ _) t ht).trans ((mulF_dltC (p := p) (s := s) n _ 1 (i ^^^ k) l t ht).trans ((Cg.rfl' p _).mul (mul_basis (p := p) (s := s) n hik hl t ht)))
  have m2 := (mul_cg (p := p) (s := s) n (show CgV p (2 ^ n) (dltU i) (dltC 1 i) from CgV.rfl' _ _ _) (mul_basis (p := p) (s := s) n hk hl) t ht).trans ((mulF_dltC (p := p) (s := s) n 1 _ i (k ^^^ l) t ht).trans ((Cg.rfl' p _).mul (mul_basis (p := p) (s := s) n hi hkl t ht)))
  unfold asF
  refine (Cg.mod p _).trans ((m1.add ((Cg.rfl' p (-1)).mul m2)).trans (Cg.of_eq ?_))
  rw [← Nat.xor_assoc i k l]
  unfold dltC
  split
  · rw [bb_split s n hi hk, bb_split s n hik hl, bb_split s n hk hl, bb_split s n hi hkl]
    have h := pr_assoc s i k l n
    unfold sA
    grind
  · simp
theorem co_basis {p : Int} {s : Nat → Int} {n i k : Nat} (hi : i < 2 ^ n) (hk : k < 2 ^ n) : CgV p (2 ^ n) (coF p s n (dltU i) (dltU k)) (dltC (sC n i k * pr s n (i &&& k)) (i ^^^ k)) := fun t ht => by
  have m1 := mul_basis (p := p) (s := s) n hi hk t ht
  have m2 := mul_basis (p := p) (s := s) n hk hi t ht
  unfold coF
  refine (Cg.mod p _).trans ((m1.add ((Cg.rfl' p (-1)).mul m2)).trans (Cg.of_eq ?_))
  rw [Nat.xor_comm k i]
  unfold dltC
  split
  · rw [bb_split s n hi hk, bb_split s n hk hi, Nat.and_comm k i]; unfold sC; grind
  · simp

end Go.Proofs.Ytnnacligfoonbaa
