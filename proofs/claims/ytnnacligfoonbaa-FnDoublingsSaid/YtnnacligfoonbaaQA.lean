/-
  Products by doubling are linear in each factor, modulo p; and so are associators and commutators. No program is in sight. No condition.
-/
import Derived.Test.YtnnacligfoonbaaQJ
set_option linter.unusedVariables false
set_option linter.unusedSimpArgs false
namespace Go.Proofs.Ytnnacligfoonbaa

/-- lists that are the same modulo p -/
def CgV (p : Int) (n : Nat) (X Y : Nat → Int) : Prop := ∀ j, j < n → Cg p (X j) (Y j)
theorem CgV.rfl' (p : Int) (n : Nat) (X : Nat → Int) : CgV p n X X := fun _ _ => Cg.rfl' _ _
theorem CgV.symm {p : Int} {n : Nat} {X Y : Nat → Int} (h : CgV p n X Y) : CgV p n Y X := fun j hj => (h j hj).symm
theorem CgV.trans {p : Int} {n : Nat} {X Y Z : Nat → Int} (h : CgV p n X Y) (h2 : CgV p n Y Z) : CgV p n X Z := fun j hj => (h j hj).trans (h2 j hj)
theorem conj_cg {p : Int} {n : Nat} {X Y : Nat → Int} (h : CgV p n X Y) : CgV p n (conjF p X) (conjF p Y) := fun j hj => by
  unfold conjF
  by_cases e : j = 0
  · rw [if_pos e, if_pos e]; exact h 0 (by omega)
  · rw [if_neg e, if_neg e]; exact (Cg.mod p _).trans (((h j hj).neg).trans (Cg.mod' p _))
theorem conj_lin (p : Int) (X Y : Nat → Int) (k : Int) (n : Nat) : CgV p n (conjF p fun j => X j + k * Y j) (fun j => conjF p X j + k * conjF p Y j) := fun j hj => by
  show Cg p (if j = 0 then X 0 + k * Y 0 else (-(X j + k * Y j)) % p) ((if j = 0 then X 0 else (-(X j)) % p) + k * if j = 0 then Y 0 else (-(Y j)) % p)
  by_cases e : j = 0
  · rw [if_pos e, if_pos e, if_pos e]; exact Cg.rfl' _ _
  · rw [if_neg e, if_neg e, if_neg e]
    refine (Cg.mod p _).trans (Cg.symm ?_)
    refine ((Cg.mod p _).add ((Cg.rfl' p k).mul (Cg.mod p _))).trans (Cg.of_eq ?_)
    grind
/-- the sum of a list and a multiple -/
def lin (X : Nat → Int) (k : Int) (Y : Nat → Int) (j : Nat) : Int := X j + k * Y j
theorem pow2_succ (k : Nat) : 2 ^ (k + 1) = 2 ^ k + 2 ^ k := by rw [Nat.pow_succ]; omega
theorem mul_cg {p : Int} {s : Nat → Int} : ∀ (k : Nat) {X X' Y Y' : Nat → Int}, CgV p (2 ^ k) X X' → CgV p (2 ^ k) Y Y' → CgV p (2 ^ k) (mulF p s k X Y) (mulF p s k X' Y')
  | 0, X, X', Y, Y', hX, hY => fun j hj => by
    simp only [mulF]
    exact (Cg.mod p _).trans (((hX 0 (by decide)).mul (hY 0 (by decide))).trans (Cg.mod' p _))
  | k + 1, X, X', Y, Y', hX, hY => fun j hj => by
    have e := pow2_succ k
    have x1 : CgV p (2 ^ k) X X' := fun i hi => hX i (by omega)
    have x2 : CgV p (2 ^ k) (fun i => X (2 ^ k + i)) (fun i => X' (2 ^ k + i)) := fun i hi => hX _ (by omega)
    have y1 : CgV p (2 ^ k) Y Y' := fun i hi => hY i (by omega)
    have y2 : CgV p (2 ^ k) (fun i => Y (2 ^ k + i)) (fun i => Y' (2 ^ k + i)) := fun i hi => hY _ (by omega)
    simp only [mulF]
    by_cases hlt : j < 2 ^ k
    · rw [if_pos hlt, if_pos hlt]
      exact (Cg.mod p _).trans (((mul_cg k x1 y1 j hlt).add ((Cg.rfl' p (s k)).mul (mul_cg k (conj_cg y2) x2 j hlt))).trans (Cg.mod' p _))
    · rw [if_neg hlt, if_neg hlt]
      exact (Cg.mod p _).trans (((mul_cg k y2 x1 _ (by omega)).add (mul_cg k x2 (conj_cg y1) _ (by omega))).trans (Cg.mod' p _))
theorem mul_lin {p : Int} {s : Nat → Int} : ∀ (k : Nat) (c : Int) (X X' Y : Nat → Int),
    CgV p (2 ^ k) (mulF p s k (lin X c X') Y) (lin (mulF p s k X Y) c (mulF p s k X' Y)) ∧ CgV p (2 ^ k) (mulF p s k Y (lin X c X')) (lin (mulF p s k Y X) c (mulF p s k Y X'))
  | 0, c, X, X', Y => by
    constructor
    · intro j hj
      simp only [mulF, lin]
      refine (Cg.mod p _).trans (Cg.symm (((Cg.mod p _).add ((Cg.rfl' p c).mul (Cg.mod p _))).trans (Cg.of_eq ?_)))
      grind
    · intro j hj
      simp only [mulF, lin]
      refine (Cg.mod p _).trans (Cg.symm (((Cg.mod p _).add ((Cg.rfl' p c).mul (Cg.mod p _))).trans (Cg.of_eq ?_)))
      grind
  | k + 1, c, X, X', Y => by
    have e := pow2_succ k
    have ih := mul_lin (p := p) (s := s) k c
    have cj : ∀ A B : Nat → Int, CgV p (2 ^ k) (conjF p (lin A c B)) (lin (conjF p A) c (conjF p B)) := fun A B => conj_lin p A B c _
    have hh : (fun i => lin X c X' (2 ^ k + i)) = lin (fun i => X (2 ^ k + i)) c (fun i => X' (2 ^ k + i)) := rfl
    constructor
    · intro j hj
      simp only [mulF]
      rw [hh]
      by_cases hlt : j < 2 ^ k
      · rw [if_pos hlt]
        have q1 := (ih X X' Y).1 j hlt
        have q2 := (ih (fun i => X (2 ^ k + i)) (fun i => X' (2 ^ k + i)) (conjF p fun i => Y (2 ^ k + i))).2 j hlt
        refine (Cg.mod p _).trans ((q1.add ((Cg.rfl' p (s k)).mul q2)).trans (Cg.symm ?_))
        show Cg p (mulF p s (k + 1) X Y j + c * mulF p s (k + 1) X' Y j) _
        simp only [mulF]
        rw [if_pos hlt, if_pos hlt]
        refine ((Cg.mod p _).add ((Cg.rfl' p c).mul (Cg.mod p _))).trans (Cg.of_eq ?_)
        unfold lin; grind
      · rw [if_neg hlt]
        have q1 := (ih X X' (fun i => Y (2 ^ k + i))).2 (j - 2 ^ k) (by omega)
        have q2 := (ih (fun i => X (2 ^ k + i)) (fun i => X' (2 ^ k + i)) (conjF p Y)).1 (j - 2 ^ k) (by omega)
        refine (Cg.mod p _).trans ((q1.add q2).trans (Cg.symm ?_))
        show Cg p (mulF p s (k + 1) X Y j + c * mulF p s (k + 1) X' Y j) _
        simp only [mulF]
        rw [if_neg hlt, if_neg hlt]
        refine ((Cg.mod p _).add ((Cg.rfl' p c).mul (Cg.mod p _))).trans (Cg.of_eq ?_)
        unfold lin; grind
    · intro j hj
      simp only [mulF]
      rw [hh]
      by_cases hlt : j < 2 ^ k
      · rw [if_pos hlt]
        have q1 := (ih X X' Y).2 j hlt
        have q2 := (mul_cg k (cj (fun i => X (2 ^ k + i)) (fun i => X' (2 ^ k + i))) (CgV.rfl' p _ fun i => Y (2 ^ k + i)) j hlt).trans ((ih (conjF p fun i => X (2 ^ k + i)) (conjF p fun i => X' (2 ^ k + i)) (fun i => Y (2 ^ k + i))).1 j hlt)
        refine (Cg.mod p _).trans ((q1.add ((Cg.rfl' p (s k)).mul q2)).trans (Cg.symm ?_))
        show Cg p (mulF p s (k + 1) Y X j + c * mulF p s (k + 1) Y X' j) _
        simp only [mulF]
        rw [if_pos hlt, if_pos hlt]
        refine ((Cg.mod p _).add ((Cg.rfl' p c).mul (Cg.mod p _))).trans (Cg.of_eq ?_)
        unfold lin; grind
      · rw [if_neg hlt]
        have q1 := (ih (fun i => X (2 ^ k + i)) (fun i => X' (2 ^ k + i)) Y).1 (j - 2 ^ k) (by omega)
        have q2 := (mul_cg k (CgV.rfl' p _ fun i => Y (2 ^ k + i)) (cj X X') (j - 2 ^ k) (by omega)).trans ((ih (conjF p X) (conjF p X') (fun i => Y (2 ^ k + i))).2 (j - 2 ^ k) (by omega))
        refine (Cg.mod p _).trans ((q1.add q2).trans (Cg.symm ?_))
        show Cg p (mulF p s (k + 1) Y X j + c * mulF p s (k + 1) Y X' j) _
        simp only [mulF]
        rw [if_neg hlt, if_neg hlt]
        refine ((Cg.mod p _).add ((Cg.rfl' p c).mul (Cg.mod p _))).trans (Cg.of_eq ?_)
        unfold lin; grind

/-- a map of lists that is linear modulo p -/
structure Lin (p : Int) (n : Nat) (A : (Nat → Int) → Nat → Int) : Prop where
  cg : ∀ {X Y : Nat → Int}, CgV p n X Y → CgV p n (A X) (A Y)
  add : ∀ (X : Nat → Int) (k : Int) (Y : Nat → Int), CgV p n (A (lin X k Y)) (lin (A X) k (A Y))
theorem lin_cg {p : Int} {n : Nat} {X X' Y Y' : Nat → Int} (k : Int) (h : CgV p n X X') (h2 : CgV p n Y Y') : CgV p n (lin X k Y) (lin X' k Y') := fun j hj => (h j hj).add ((Cg.rfl' p k).mul (h2 j hj))
theorem Lin.nil {p : Int} {n : Nat} {A : (Nat → Int) → Nat → Int} (h : Lin p n A) {X : Nat → Int} (hX : CgV p n X fun _ => 0) : CgV p n (A X) fun _ => 0 := by
  have h1 : CgV p n (A X) (A (lin X (-1) X)) := h.cg (hX.trans fun j hj => by
    have := hX j hj
    show Cg p 0 (X j + -1 * X j)
    exact Cg.of_eq (by omega))
  refine h1.trans ((h.add X (-1) X).trans fun j hj => Cg.of_eq ?_)
  show A X j + -1 * A X j = 0
  omega
theorem Lin.comp {p : Int} {n : Nat} {A B : (Nat → Int) → Nat → Int} (ha : Lin p n A) (hb : Lin p n B) : Lin p n fun X => A (B X) :=
  ⟨fun h => ha.cg (hb.cg h), fun X k Y => (ha.cg (hb.add X k Y)).trans (ha.add _ k _)⟩
theorem Lin.sub {p : Int} {n : Nat} {A B : (Nat → Int) → Nat → Int} (ha : Lin p n A) (hb : Lin p n B) : Lin p n fun X j => (A X j + -1 * B X j) % p :=
  ⟨fun h j hj => (Cg.mod p _).trans ((((ha.cg h j hj)).add ((Cg.rfl' p (-1)).mul (hb.cg h j hj))).trans (Cg.mod' p _)),
    fun X k Y j hj => by
      refine (Cg.mod p _).trans (((ha.add X k Y j hj).add ((Cg.rfl' p (-1)).mul (hb.add X k Y j hj))).trans (Cg.symm ?_))
      show Cg p ((A X j + -1 * B X j) % p + k * ((A Y j + -1 * B Y j) % p)) _
      refine ((Cg.mod p _).add ((Cg.rfl' p k).mul (Cg.mod p _))).trans (Cg.of_eq ?_)
      unfold lin; grind⟩
theorem Lin.id (p : Int) (n : Nat) : Lin p n fun X => X := ⟨fun h => h, fun _ _ _ => CgV.rfl' _ _ _⟩
theorem Lin.mulL (p : Int) (s : Nat → Int) (n : Nat) (Y : Nat → Int) : Lin p (2 ^ n) fun X => mulF p s n X Y := ⟨fun h => mul_cg n h (CgV.rfl' _ _ _), fun X k X' => (mul_lin n k X X' Y).1⟩
theorem Lin.mulR (p : Int) (s : Nat → Int) (n : Nat) (Y : Nat → Int) : Lin p (2 ^ n) fun X => mulF p s n Y X := ⟨fun h => mul_cg n (CgV.rfl' _ _ _) h, fun X k X' => (mul_lin n k X X' Y).2⟩
/-- a linear map that leads lists to nought leads what they make to nought -/
theorem Lin.span {p : Int} {n : Nat} {A : (Nat → Int) → Nat → Int} (h : Lin p n A) {S : (Nat → Int) → Prop} (h0 : ∀ u, S u → CgV p n (A u) fun _ => 0) {v : Nat → Int} (hv : Spn p n S v) : CgV p n (A v) fun _ => 0 := by
  induction hv with
  | nil v hz => exact h.nil hz
  | add u v w k hu hv hw ih =>
    have h1 : CgV p n (A w) (A (lin v k u)) := h.cg hw
    refine h1.trans ((h.add v k u).trans fun j hj => ?_)
    have := (ih j hj).add ((Cg.rfl' p k).mul (h0 u hu j hj))
    simpa [lin] using this

/-- the associator, the commutator -/
def asF (p : Int) (s : Nat → Int) (n : Nat) (X Y Z : Nat → Int) (j : Nat) : Int := (mulF p s n (mulF p s n X Y) Z j + -1 * mulF p s n X (mulF p s n Y Z) j) % p
def coF (p : Int) (s : Nat → Int) (n : Nat) (X Y : Nat → Int) (j : Nat) : Int := (mulF p s n X Y j + -1 * mulF p s n Y X j) % p
theorem asF_in {p : Int} (hp : 0 < p) (s : Nat → Int) (n : Nat) (X Y Z : Nat → Int) (m : Nat) : InP p m (asF p s n X Y Z) := fun j _ => mod_bd _ _ hp
theorem as_lin1 (p : Int) (s : Nat → Int) (n : Nat) (Y Z : Nat → Int) : Lin p (2 ^ n) fun X => asF p s n X Y Z :=
  Lin.sub ((Lin.mulL p s n Z).comp (Lin.mulL p s n Y)) (Lin.mulL p s n (mulF p s n Y Z))
theorem as_lin2 (p : Int) (s : Nat → Int) (n : Nat) (X Z : Nat → Int) : Lin p (2 ^ n) fun Y => asF p s n X Y Z :=
  Lin.sub ((Lin.mulL p s n Z).comp (Lin.mulR p s n X)) ((Lin.mulR p s n X).comp (Lin.mulL p s n Z))
theorem as_lin3 (p : Int) (s : Nat → Int) (n : Nat) (X Y : Nat → Int) : Lin p (2 ^ n) fun Z => asF p s n X Y Z :=
  Lin.sub (Lin.mulR p s n (mulF p s n X Y)) ((Lin.mulR p s n X).comp (Lin.mulR p s n Y))
/-- associators that are nought on lists are nought on what they make -/
theorem as_span {p : Int} {s : Nat → Int} {n : Nat} {S : (Nat → Int) → Prop} (h : ∀ u v w, S u → S v → S w → CgV p (2 ^ n) (asF p s n u v w) fun _ => 0) {u v w : Nat → Int} (hu : Spn p (2 ^ n) S u) (hv : Spn p (2 ^ n) S v) (hw : Spn p (2 ^ n) S w) :
    CgV p (2 ^ n) (asF p s n u v w) fun _ => 0 :=
  (as_lin1 p s n v w).span (fun u hu => (as_lin2 p s n u w).span (fun v hv => (as_lin3 p s n u v).span (fun w hw => h u v w hu hv hw) hw) hv) hu

end Go.Proofs.Ytnnacligfoonbaa
