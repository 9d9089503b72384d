/-
  Witt: vectors with the norms of one space can be found in an isometric one, whatever ones were taken before. No program is in sight. No condition beside sizes.
-/
import Derived.Test.YtnkflgigbielgaaLIJ
import Derived.Test.YtnkflgigbielgaaDJB
import Derived.Test.YtnkflgigbielgaaTJ
import Derived.Test.YtnkflgigbielgaaDT
import Derived.Test.YtnkflgigbielgaaF11b
set_option linter.unusedVariables false
set_option linter.unusedSimpArgs false
namespace Go.Proofs.Ytnkflgigbielgaa
open Go.RowKit

/-- the product of two vectors, not taken modulo p -/
def bil (n : Nat) (t X Y : Nat → Int) : Int := sumF (fun i => t i * X i * Y i) n
theorem bil_pair (p : Int) (n : Nat) (t X Y : Nat → Int) : pairF p t n X Y = bil n t X Y % p := rfl
theorem bil_comm (n : Nat) (t X Y : Nat → Int) : bil n t X Y = bil n t Y X := sumF_congr fun i _ => by grind
theorem bil_comb (n : Nat) (t A B Y : Nat → Int) (x y : Int) : bil n t (fun j => x * A j + y * B j) Y = x * bil n t A Y + y * bil n t B Y := by
  unfold bil
  rw [sumF_mul, sumF_mul, ← sumF_plus]
  exact sumF_congr fun i _ => by grind
theorem bil_cg {p : Int} {n : Nat} {t X X' Y Y' : Nat → Int} (h : ∀ i, i < n → Cg p (X i) (X' i)) (h2 : ∀ i, i < n → Cg p (Y i) (Y' i)) : Cg p (bil n t X Y) (bil n t X' Y') := by
  unfold bil
  exact sumF_mod fun i hi => ((Cg.rfl' p (t i)).mul (h i hi)).mul (h2 i hi)

theorem nzm {p : Int} (hp : primeB p = true) {a b : Int} (ha : ¬ Cg p a 0) (hb : ¬ Cg p b 0) : ¬ Cg p (a * b) 0 := fun h => by
  have hpb := primeB_bd hp
  have h1 := mod_bd a p (by omega)
  have h2 := mod_bd b p (by omega)
  have h3 : a % p ≠ 0 := fun e => ha (Cg.of_zero e)
  have h4 : b % p ≠ 0 := fun e => hb (Cg.of_zero e)
  have h5 := mul_nz hp (a := a % p) (b := b % p) (by omega) h1.2 (by omega) h2.2
  exact h5 ((((Cg.mod p a).mul (Cg.mod p b)).trans h).zero)
theorem nz_of_mul {p : Int} {a b : Int} (h : ¬ Cg p (a * b) 0) : ¬ Cg p a 0 ∧ ¬ Cg p b 0 := by
  refine ⟨fun e => h ?_, fun e => h ?_⟩
  · have := e.mul (Cg.rfl' p b); rw [Int.zero_mul] at this; exact this
  · have := (Cg.rfl' p a).mul e; rw [Int.mul_zero] at this; exact this
/-- an inverse -/
theorem inv_ex {p : Int} (hp : primeB p = true) {a : Int} (ha : ¬ Cg p a 0) : ∃ b, Cg p (a * b) 1 := by
  have hpb := primeB_bd hp
  have h1 := mod_bd a p (by omega)
  have h3 : a % p ≠ 0 := fun e => ha (Cg.of_zero e)
  have h2 := (invM_spec hp (a := a % p) (by omega) h1.2).2.2
  refine ⟨invM p (a % p), ((Cg.mod' p a).mul (Cg.rfl' p _)).trans ?_⟩
  show (a % p * invM p (a % p)) % p = 1 % p
  rw [h2, Int.emod_eq_of_lt (by omega) (by omega)]
theorem nz_one {p : Int} (hp : primeB p = true) : ¬ Cg p 1 0 := fun h => by
  have hpb := primeB_bd hp
  have h1 : (1 : Int) % p = 0 := h.zero
  rw [Int.emod_eq_of_lt (by omega) (by omega)] at h1
  exact absurd h1 (by decide)
theorem nz_inv {p : Int} (hp : primeB p = true) {a b : Int} (h : Cg p (a * b) 1) : ¬ Cg p a 0 ∧ ¬ Cg p b 0 := nz_of_mul fun e => nz_one hp (h.symm.trans e)
theorem nz_four {p : Int} (hp : primeB p = true) : ¬ Cg p 4 0 := fun h => by
  have h1 : (4 : Int) % p = 0 := h.zero
  rcases primeB_cases hp with rfl | rfl | rfl | rfl | rfl <;> exact absurd h1 (by decide)
/-- two squares with given numbers make each number -/
theorem rep2 {p : Int} (hp : primeB p = true) {a b : Int} (c : Int) (ha : ¬ Cg p a 0) (hb : ¬ Cg p b 0) : ∃ x y : Int, Cg p (a * x * x + b * y * y) c := by
  have hpb := primeB_bd hp
  obtain ⟨P, rfl⟩ := Int.eq_ofNat_of_zero_le (show 0 ≤ p by omega)
  have h1 := mod_bd a P (by omega)
  have h2 := mod_bd b P (by omega)
  have h3 := mod_bd (-c) P (by omega)
  have ha0 : a % P ≠ 0 := fun e => ha (Cg.of_zero e)
  have hb0 : b % P ≠ 0 := fun e => hb (Cg.of_zero e)
  obtain ⟨a', ha'⟩ := Int.eq_ofNat_of_zero_le h1.1
  obtain ⟨b', hb'⟩ := Int.eq_ofNat_of_zero_le h2.1
  obtain ⟨c', hc'⟩ := Int.eq_ofNat_of_zero_le h3.1
  obtain ⟨x, y, _, _, h⟩ := three_ex (P := P) (a := a') (b := b') (c := c') hp ⟨by omega, by omega⟩ ⟨by omega, by omega⟩ (by omega)
  refine ⟨x, y, ?_⟩
  have h4 : Cg (P : Int) ((a' : Int) * x * x + b' * y * y + c') 0 := by
    refine Cg.of_zero ?_
    have h5 : (((a' * x * x + b' * y * y + c') % P : Nat) : Int) = 0 := by rw [h]; rfl
    push_cast at h5
    exact h5
  rw [← ha', ← hb', ← hc'] at h4
  have h6 : Cg (P : Int) (a % P * x * x + b % P * y * y + (-c) % P) (a * x * x + b * y * y + -c) := ((((Cg.mod (P : Int) a).mul (Cg.rfl' _ _)).mul (Cg.rfl' _ _)).add (((Cg.mod (P : Int) b).mul (Cg.rfl' _ _)).mul (Cg.rfl' _ _))).add (Cg.mod _ _)
  have h7 := (h6.symm.trans h4).add (Cg.rfl' (P : Int) c)
  rw [show a * x * x + b * y * y + -c + c = a * x * x + b * y * y by omega, Int.zero_add] at h7
  exact h7

/-- n vectors whose products are nought but for their own norms -/
structure Sys (p : Int) (n : Nat) (t : Nat → Int) (g : Nat → Nat → Int) (d : Nat → Int) : Prop where
  gram : ∀ i j, i < n → j < n → Cg p (bil n t (g i) (g j)) (if i = j then d i else 0)
theorem sys_unit (p : Int) (n : Nat) (t : Nat → Int) : Sys p n t (fun i j => if j = i then 1 else 0) t := by
  refine ⟨fun i j hi hj => Cg.of_eq ?_⟩
  unfold bil
  by_cases e : i = j
  · subst e
    rw [if_pos rfl, sumF_congr (g := fun k => if k = i then t k else 0) (fun k _ => by by_cases e : k = i <;> simp [e])]
    exact sumF_one t i hi
  · rw [if_neg e, sumF_congr (g := fun _ => 0) (fun k _ => by
      by_cases e1 : k = i
      · subst e1; simp [e]
      · simp [e1]), sumF_zero]
/-- all vectors turned by one map that keeps products -/
theorem Sys.refl {p : Int} {n : Nat} {t : Nat → Int} {g : Nat → Nat → Int} {d : Nat → Int} (h : Sys p n t g d) (W : Nat → Int) (I : Int) (hI : Cg p (bil n t W W * I) 1) :
    Sys p n t (fun i j => 1 * g i j + (-2 * bil n t (g i) W * I) * W j) d := by
  refine ⟨fun i j hi hj => ?_⟩
  have e : bil n t (fun k => 1 * g i k + (-2 * bil n t (g i) W * I) * W k) (fun k => 1 * g j k + (-2 * bil n t (g j) W * I) * W k) = bil n t (g i) (g j) + (-4 * bil n t (g i) W * bil n t (g j) W * I + 4 * bil n t (g i) W * bil n t (g j) W * I * (bil n t W W * I)) := by
    rw [bil_comb, bil_comm n t (g i) (fun k => _), bil_comm n t W (fun k => _), bil_comb, bil_comb, bil_comm n t (g j) (g i), bil_comm n t W (g i), bil_comm n t (g j) W]
    rw [bil_comm n t W (g j)]
    grind
  rw [e]
  have h2 := (h.gram i j hi hj).add (((Cg.rfl' p (-4 * bil n t (g i) W * bil n t (g j) W * I)).add ((Cg.rfl' p (4 * bil n t (g i) W * bil n t (g j) W * I)).mul hI)))
  refine h2.trans (Cg.of_eq ?_)
  grind
/-- one vector with another sign -/
theorem Sys.neg {p : Int} {n : Nat} {t : Nat → Int} {g : Nat → Nat → Int} {d : Nat → Int} (h : Sys p n t g d) (k : Nat) : Sys p n t (fun i j => if i = k then -(g i j) else g i j) d := by
  have hb : ∀ i, (fun j => if i = k then -(g i j) else g i j) = fun j => (if i = k then -1 else 1) * g i j + 0 * g i j := fun i => by
    funext j; by_cases e : i = k <;> simp [e]
  refine ⟨fun i j hi hj => ?_⟩
  show Cg p (bil n t (fun l => if i = k then -(g i l) else g i l) (fun l => if j = k then -(g j l) else g j l)) _
  rw [hb i, hb j, bil_comb, bil_comm n t (g i), bil_comb, bil_comm n t (g j)]
  have hg := h.gram i j hi hj
  by_cases e : i = j
  · subst e
    rw [if_pos rfl] at hg ⊢
    refine Cg.trans (Cg.of_eq ?_) hg
    by_cases e2 : i = k <;> simp [e2]
  · rw [if_neg e] at hg ⊢
    have h2 := (Cg.rfl' p ((if i = k then -1 else 1) * (if j = k then -1 else 1))).mul hg
    rw [Int.mul_zero] at h2
    refine Cg.trans (Cg.of_eq ?_) h2
    grind
/-- two vectors in a row turned so that the first has the norm c -/
theorem Sys.rot {p : Int} {n : Nat} {t : Nat → Int} {g : Nat → Nat → Int} {d : Nat → Int} (h : Sys p n t g d) {k : Nat} (hk : k + 1 < n) {x y c : Int} (hc : Cg p (d k * x * x + d (k + 1) * y * y) c) :
    Sys p n t (fun i j => if i = k then x * g k j + y * g (k + 1) j else if i = k + 1 then (-(d (k + 1)) * y) * g k j + (d k * x) * g (k + 1) j else g i j) (fun i => if i = k then c else if i = k + 1 then c * d k * d (k + 1) else d i) := by
  have h00 := h.gram k k (by omega) (by omega)
  have h11 := h.gram (k + 1) (k + 1) hk hk
  have h01 := h.gram k (k + 1) (by omega) hk
  have h10 := h.gram (k + 1) k hk (by omega)
  rw [if_pos rfl] at h00 h11
  rw [if_neg (by omega)] at h01 h10
  -- the product of two combinations of both, and of one with another vector
  have two : ∀ x y z u : Int, Cg p (bil n t (fun j => x * g k j + y * g (k + 1) j) (fun j => z * g k j + u * g (k + 1) j)) (x * z * d k + y * u * d (k + 1)) := fun x y z u => by
    rw [bil_comb, bil_comm n t (g k), bil_comm n t (g (k + 1)), bil_comb, bil_comb]
    refine Cg.trans (((Cg.rfl' p x).mul (((Cg.rfl' p z).mul h00).add ((Cg.rfl' p u).mul h10))).add ((Cg.rfl' p y).mul (((Cg.rfl' p z).mul h01).add ((Cg.rfl' p u).mul h11)))) (Cg.of_eq (by grind))
  have one : ∀ x y : Int, ∀ j, j < n → j ≠ k → j ≠ k + 1 → Cg p (bil n t (fun i => x * g k i + y * g (k + 1) i) (g j)) 0 := fun x y j hj h1 h2 => by
    have g0 := h.gram k j (by omega) hj
    have g1 := h.gram (k + 1) j hk hj
    rw [if_neg (by omega)] at g0 g1
    rw [bil_comb]
    refine Cg.trans (((Cg.rfl' p x).mul g0).add ((Cg.rfl' p y).mul g1)) (Cg.of_eq (by simp))
  refine ⟨fun i j hi hj => ?_⟩
  by_cases i0 : i = k
  · subst i0
    by_cases j0 : j = i
    · subst j0
      simp only [if_true]
      refine (two x y x y).trans (Cg.trans (Cg.of_eq (by grind)) hc)
    · by_cases j1 : j = i + 1
      · subst j1
        simp only [if_true, if_neg (show ¬ i + 1 = i by omega), if_neg (show ¬ i = i + 1 by omega)]
        refine (two x y _ _).trans (Cg.of_eq (by grind))
      · simp only [if_true, if_neg j0, if_neg j1, if_neg (Ne.symm j0)]
        exact one x y j hj j0 j1
  · by_cases i1 : i = k + 1
    · subst i1
      by_cases j0 : j = k
      · subst j0
        simp only [if_true, if_neg (show ¬ j + 1 = j by omega)]
        refine (two _ _ x y).trans (Cg.of_eq (by grind))
      · by_cases j1 : j = k + 1
        · subst j1
          simp only [if_true, if_neg (show ¬ k + 1 = k by omega)]
          refine (two _ _ _ _).trans (Cg.trans (Cg.of_eq (show _ = (d k * x * x + d (k + 1) * y * y) * d k * d (k + 1) by grind)) ((hc.mul (Cg.rfl' _ _)).mul (Cg.rfl' _ _)))
        · simp only [if_true, if_neg (show ¬ k + 1 = k by omega), if_neg j0, if_neg j1, if_neg (Ne.symm j1)]
          exact one _ _ j hj j0 j1
    · by_cases j0 : j = k
      · subst j0
        simp only [if_true, if_neg i0, if_neg i1]
        rw [bil_comm]; exact one x y i hi i0 i1
      · by_cases j1 : j = k + 1
        · subst j1
          simp only [if_true, if_neg (show ¬ k + 1 = k by omega), if_neg i0, if_neg i1]
          rw [bil_comm]; exact one _ _ i hi i0 i1
        · simp only [if_neg i0, if_neg i1, if_neg j0, if_neg j1]
          have hg := h.gram i j hi hj
          by_cases e : i = j
          · subst e; simpa using hg
          · simpa [e] using hg

theorem Sys.congr {p : Int} {n : Nat} {t : Nat → Int} {g : Nat → Nat → Int} {d d' : Nat → Int} (h : Sys p n t g d) (hd : ∀ i, i < n → Cg p (d i) (d' i)) : Sys p n t g d' := by
  refine ⟨fun i j hi hj => (h.gram i j hi hj).trans ?_⟩
  by_cases e : i = j
  · rw [if_pos e, if_pos e]; exact hd i hi
  · rw [if_neg e, if_neg e]; exact Cg.rfl' _ _
/-- one vector with a factor -/
theorem Sys.scale {p : Int} {n : Nat} {t : Nat → Int} {g : Nat → Nat → Int} {d : Nat → Int} (h : Sys p n t g d) (k : Nat) (z : Int) : Sys p n t (fun i j => (if i = k then z else 1) * g i j + 0 * g i j) (fun i => if i = k then z * z * d i else d i) := by
  refine ⟨fun i j hi hj => ?_⟩
  rw [bil_comb, bil_comm n t (g i), bil_comb, bil_comm n t (g j)]
  have hg := h.gram i j hi hj
  by_cases e : i = j
  · subst e
    rw [if_pos rfl] at hg ⊢
    by_cases e2 : i = k
    · simp only [if_pos e2]
      refine Cg.trans (Cg.of_eq ?_) ((Cg.rfl' p (z * z)).mul hg)
      grind
    · simp only [if_neg e2]
      refine Cg.trans (Cg.of_eq ?_) hg
      grind
  · rw [if_neg e] at hg ⊢
    have h2 := (Cg.rfl' p ((if i = k then z else 1) * (if j = k then z else 1))).mul hg
    rw [Int.mul_zero] at h2
    refine Cg.trans (Cg.of_eq ?_) h2
    grind
/-- products of numbers -/
def prd (f : Nat → Int) : Nat → Int
  | 0 => 1
  | k + 1 => prd f k * f k
theorem prd_nz {p : Int} (hp : primeB p = true) {f : Nat → Int} : ∀ {k : Nat}, (∀ i, i < k → ¬ Cg p (f i) 0) → ¬ Cg p (prd f k) 0
  | 0, _ => nz_one hp
  | k + 1, h => nzm hp (prd_nz hp fun i hi => h i (by omega)) (h k (by omega))
/-- the first k norms are those that are wanted -/
theorem sys_steps {p : Int} (hp : primeB p = true) {n : Nat} {s t : Nat → Int} (hs : ∀ i, i < n → ¬ Cg p (s i) 0) (ht : ∀ i, i < n → ¬ Cg p (t i) 0) : ∀ k, k < n → ∃ g d, Sys p n t g d ∧ (∀ i, i < k → d i = s i) ∧ (∀ i, k < i → d i = t i) ∧ d k = prd s k * prd t (k + 1)
  | 0, _ => ⟨_, t, sys_unit p n t, fun i hi => absurd hi (Nat.not_lt_zero _), fun i _ => rfl, by simp [prd]⟩
  | k + 1, hk => by
    obtain ⟨g, d, h, h1, h2, h3⟩ := sys_steps hp hs ht k (by omega)
    have hdk : ¬ Cg p (d k) 0 := by
      rw [h3]
      exact nzm hp (prd_nz hp fun i hi => hs i (by omega)) (prd_nz hp fun i hi => ht i (by omega))
    have hdk1 : ¬ Cg p (d (k + 1)) 0 := by rw [h2 (k + 1) (by omega)]; exact ht (k + 1) hk
    obtain ⟨x, y, hxy⟩ := rep2 hp (s k) hdk hdk1
    refine ⟨_, _, h.rot hk hxy, fun i hi => ?_, fun i hi => ?_, ?_⟩
    · by_cases e : i = k
      · subst e; simp
      · simp only [if_neg e, if_neg (show ¬ i = k + 1 by omega)]; exact h1 i (by omega)
    · simp only [if_neg (show ¬ i = k by omega), if_neg (show ¬ i = k + 1 by omega)]; exact h2 i (by omega)
    · simp only [if_neg (show ¬ k + 1 = k by omega), if_true]
      rw [h2 (k + 1) (by omega), h3]
      show _ = prd s k * s k * (prd t (k + 1) * t (k + 1))
      grind
/-- a whole system with the norms of the other space -/
theorem sys_full {p : Int} (hp : primeB p = true) {n : Nat} (hn : 1 ≤ n) {s t : Nat → Int} (hs : ∀ i, i < n → ¬ Cg p (s i) 0) (ht : ∀ i, i < n → ¬ Cg p (t i) 0) {r : Int} (hr : Cg p (prd s n * prd t n) (r * r)) : ∃ g, Sys p n t g s := by
  obtain ⟨k, rfl⟩ : ∃ k, n = k + 1 := ⟨n - 1, by omega⟩
  obtain ⟨g, d, h, h1, _, h3⟩ := sys_steps hp hs ht k (by omega)
  have hr0 : ¬ Cg p r 0 := fun e => by
    have h4 := hr.trans (e.mul e)
    rw [Int.mul_zero] at h4
    exact nzm hp (prd_nz hp hs) (prd_nz hp ht) h4
  obtain ⟨v, hv⟩ := inv_ex hp hr0
  refine ⟨_, (h.scale k (s k * v)).congr fun i hi => ?_⟩
  by_cases e : i = k
  · subst e
    simp only [if_true]
    rw [h3]
    have h5 : Cg p (prd s i * prd t (i + 1) * s i) (r * r) := Cg.trans (Cg.of_eq (show _ = prd s i * s i * prd t (i + 1) by grind)) hr
    refine Cg.trans (Cg.of_eq (show _ = (prd s i * prd t (i + 1) * s i) * (s i * v * v) by grind)) ?_
    refine Cg.trans (h5.mul (Cg.rfl' _ _)) ?_
    refine Cg.trans (Cg.of_eq (show _ = s i * (r * v) * (r * v) by grind)) ?_
    refine Cg.trans (((Cg.rfl' p (s i)).mul hv).mul hv) (Cg.of_eq (by simp))
  · simp only [if_neg e]
    exact Cg.of_eq (h1 i (by omega))
/-- what was taken goes on to a whole system -/
theorem witt {p : Int} (hp : primeB p = true) {n : Nat} {s t : Nat → Int} (hs : ∀ i, i < n → ¬ Cg p (s i) 0) {g0 : Nat → Nat → Int} (h0 : Sys p n t g0 s) : ∀ (k : Nat) (f : Nat → Nat → Int), k ≤ n → (∀ i j, i < k → j < k → Cg p (bil n t (f i) (f j)) (if i = j then s i else 0)) →
    ∃ g, Sys p n t g s ∧ ∀ i, i < k → ∀ l, l < n → Cg p (g i l) (f i l)
  | 0, _, _, _ => ⟨g0, h0, fun i hi => absurd hi (Nat.not_lt_zero _)⟩
  | k + 1, f, hk, hf => by
    obtain ⟨g, h, hgf⟩ := witt hp hs h0 k f (by omega) (fun i j hi hj => hf i j (by omega) (by omega))
    have huu := h.gram k k (by omega) (by omega)
    have hvv := hf k k (by omega) (by omega)
    rw [if_pos rfl] at huu hvv
    obtain ⟨u, hu⟩ : ∃ u, g k = u := ⟨_, rfl⟩
    obtain ⟨v, hv⟩ : ∃ v, f k = v := ⟨_, rfl⟩
    rw [hu] at huu
    rw [hv] at hvv
    obtain ⟨a, ha⟩ : ∃ a, bil n t u v = a := ⟨_, rfl⟩
    -- the products with vectors that were taken before
    have hiu : ∀ i, i < k → Cg p (bil n t (g i) u) 0 := fun i hi => by
      have := h.gram i k (by omega) (by omega)
      rw [if_neg (by omega), hu] at this; exact this
    have hiv : ∀ i, i < k → Cg p (bil n t (g i) v) 0 := fun i hi => by
      have h1 := hf i k (by omega) (by omega)
      rw [if_neg (by omega), hv] at h1
      exact (bil_cg (fun l hl => hgf i hi l hl) (fun l _ => Cg.rfl' p (v l))).trans h1
    have hW : ∀ e : Int, e * e = 1 → Cg p (bil n t (fun j => 1 * u j + e * v j) (fun j => 1 * u j + e * v j)) (2 * s k + 2 * e * a) := fun e he => by
      rw [bil_comb, bil_comm n t u (fun j => _), bil_comm n t v (fun j => _), bil_comb, bil_comb, bil_comm n t v u, ha]
      refine Cg.trans ((((Cg.rfl' p 1).mul (((Cg.rfl' p 1).mul huu).add (Cg.rfl' p (e * a))))).add ((Cg.rfl' p e).mul ((Cg.rfl' p (1 * a)).add ((Cg.rfl' p e).mul hvv)))) (Cg.of_eq ?_)
      have : e * (1 * a + e * s k) = e * a + (e * e) * s k := by grind
      rw [this, he]; grind
    -- a reflection in u + e v that can be made
    have step : ∀ e : Int, e * e = 1 → ¬ Cg p (bil n t (fun j => 1 * u j + e * v j) (fun j => 1 * u j + e * v j)) 0 → ∃ g', Sys p n t g' s ∧ (∀ i, i < k → ∀ l, l < n → Cg p (g' i l) (f i l)) ∧ ∀ l, l < n → Cg p (g' k l) (-e * v l) := fun e he hz => by
      obtain ⟨I, hI⟩ := inv_ex hp hz
      have hN := hW e he
      obtain ⟨W, hWW⟩ : ∃ W, (fun j => 1 * u j + e * v j) = W := ⟨_, rfl⟩
      have hWl : ∀ l, W l = u l + e * v l := fun l => by rw [← hWW]; simp
      have hbW : ∀ X, bil n t X W = bil n t X u + e * bil n t X v := fun X => by
        rw [← hWW, bil_comm n t X (fun j => _), bil_comb, bil_comm n t u X, bil_comm n t v X]; simp
      rw [hWW] at hI hN
      refine ⟨_, h.refl W I hI, fun i hi l hl => ?_, fun l hl => ?_⟩
      · have h1 : Cg p (bil n t (g i) W) 0 := by
          rw [hbW]
          exact ((hiu i hi).add ((Cg.rfl' p e).mul (hiv i hi))).trans (Cg.of_eq (by simp))
        have h2 : Cg p (1 * g i l + (-2 * bil n t (g i) W * I) * W l) (1 * f i l + (-2 * 0 * I) * W l) := ((Cg.rfl' p 1).mul (hgf i hi l hl)).add ((((Cg.rfl' p (-2)).mul h1).mul (Cg.rfl' p I)).mul (Cg.rfl' p (W l)))
        exact h2.trans (Cg.of_eq (by simp))
      · show Cg p (1 * g k l + (-2 * bil n t (g k) W * I) * W l) (-e * v l)
        rw [hu, hbW, ha, hWl]
        have h1 : Cg p (2 * (bil n t u u + e * a)) (bil n t W W) := Cg.trans ((Cg.rfl' p 2).mul (huu.add (Cg.rfl' p (e * a)))) (Cg.trans (Cg.of_eq (by grind)) hN.symm)
        have h2 : Cg p (2 * (bil n t u u + e * a) * I) 1 := (h1.mul (Cg.rfl' p I)).trans hI
        have h3 : Cg p (1 * u l + (-2 * (bil n t u u + e * a) * I) * (u l + e * v l)) (u l + (-1) * 1 * (u l + e * v l)) := Cg.trans (Cg.of_eq (show _ = u l + (-1) * (2 * (bil n t u u + e * a) * I) * (u l + e * v l) by grind)) ((Cg.rfl' p (u l)).add (((Cg.rfl' p (-1)).mul h2).mul (Cg.rfl' p _)))
        exact h3.trans (Cg.of_eq (by grind))
    have fin : ∀ g', Sys p n t g' s → (∀ i, i < k → ∀ l, l < n → Cg p (g' i l) (f i l)) → (∀ l, l < n → Cg p (g' k l) (v l)) → ∃ g, Sys p n t g s ∧ ∀ i, i < k + 1 → ∀ l, l < n → Cg p (g i l) (f i l) := fun g' h1 h2 h3 => ⟨g', h1, fun i hi l hl => by
      by_cases e : i = k
      · subst e; rw [hv]; exact h3 l hl
      · exact h2 i (by omega) l hl⟩
    by_cases hz : Cg p (bil n t (fun j => 1 * u j + (-1) * v j) (fun j => 1 * u j + (-1) * v j)) 0
    · have hz2 : ¬ Cg p (bil n t (fun j => 1 * u j + 1 * v j) (fun j => 1 * u j + 1 * v j)) 0 := fun e2 => by
        have h1 := ((hW (-1) (by decide)).symm.trans hz).add ((hW 1 (by decide)).symm.trans e2)
        have h2 : Cg p (4 * s k) 0 := Cg.trans (Cg.of_eq (by grind)) h1
        exact nzm hp (nz_four hp) (hs k (by omega)) h2
      obtain ⟨g', h1, h2, h3⟩ := step 1 (by decide) hz2
      refine fin _ (h1.neg k) (fun i hi l hl => ?_) (fun l hl => ?_)
      · simp only [if_neg (show ¬ i = k by omega)]; exact h2 i hi l hl
      · simp only [if_true]
        exact (h3 l hl).neg.trans (Cg.of_eq (by grind))
    · obtain ⟨g', h1, h2, h3⟩ := step (-1) (by decide) hz
      exact fin g' h1 h2 fun l hl => (h3 l hl).trans (Cg.of_eq (by grind))

/-- the vector that comes next can be found -/
theorem fit_ex {p : Int} {n k : Nat} {s t : Nat → Int} {f : Nat → Nat → Int} (hS : SpOk p n s) (hT : SpOk p n t) (hs : regB s n = true) (ht : regB t n = true) {r : Int} (hr : Cg p (prd s n * prd t n) (r * r)) (hk : k < n)
    (hf : ∀ i j, i < k → j < k → pairF p t n (f i) (f j) = if i = j then s i else 0) : ∃ X, InP p n X ∧ pairF p t n X X = s k ∧ ∀ j, j < k → pairF p t n X (f j) = 0 := by
  have hp := hS.prime
  have hb := hS.bd
  have nz : ∀ {q : Nat → Int}, SpOk p n q → regB q n = true → ∀ i, i < n → ¬ Cg p (q i) 0 := fun hq hr i hi e => regB_at hr i hi (e.eq0 (hq.inp i hi))
  obtain ⟨g0, h0⟩ := sys_full hp hS.n1 (nz hS hs) (nz hT ht) hr
  obtain ⟨g, h, hg⟩ := witt hp (nz hS hs) h0 k f (by omega) (fun i j hi hj => by
    have h1 := hf i j hi hj
    rw [bil_pair] at h1
    refine (Cg.mod' p _).trans (Cg.of_eq h1))
  refine ⟨fun j => g k j % p, fun j _ => mod_bd _ _ (by omega), ?_, fun j hj => ?_⟩
  · have h1 := h.gram k k hk hk
    rw [if_pos rfl] at h1
    have h2 := (bil_cg (t := t) (fun l (_ : l < n) => Cg.mod p (g k l)) (fun l (_ : l < n) => Cg.mod p (g k l))).trans h1
    rw [bil_pair]
    have h3 : bil n t (fun j => g k j % p) (fun j => g k j % p) % p = s k % p := h2
    rw [h3, Int.emod_eq_of_lt (hS.inp k hk).1 (hS.inp k hk).2]
  · have h1 := h.gram k j hk (by omega)
    rw [if_neg (by omega)] at h1
    have h2 := (bil_cg (t := t) (fun l (_ : l < n) => Cg.mod p (g k l)) (fun l hl => (hg j hj l hl).symm)).trans h1
    rw [bil_pair]
    exact h2.zero

end Go.Proofs.Ytnkflgigbielgaa

/-
  The columns of an isometry, each the first vector that fits. No program is in sight. No condition beside sizes.
-/
set_option linter.unusedVariables false
set_option linter.unusedSimpArgs false
namespace Go.Proofs.Ytnkflgigbielgaa
open Go.RowKit

/-- does the vector with number u fit behind k columns? -/
def fitB (p : Int) (t : Nat → Int) (n : Nat) (c : Int) (k : Nat) (F : Nat → Nat → Int) (u : Nat) : Bool := okV p t n c u && decide (∀ j, j < k → pairF p t n (vecT p n u) (F j) = 0)
/-- the number of the first that fits -/
def fitN (p : Int) (t : Nat → Int) (n : Nat) (c : Int) (k : Nat) (F : Nat → Nat → Int) : Nat := fst (fitB p t n c k F) (p ^ n).toNat
/-- the first k columns -/
def colsF (p : Int) (s t : Nat → Int) (n : Nat) : Nat → Nat → Nat → Int
  | 0 => fun _ _ => 0
  | k + 1 => fun i => if i = k then vecT p n (fitN p t n (s k) k (colsF p s t n k)) else colsF p s t n k i
theorem colsF_old {p : Int} {s t : Nat → Int} {n k i : Nat} (h : i < k) : colsF p s t n (k + 1) i = colsF p s t n k i := by
  show (if i = k then _ else _) = _
  rw [if_neg (by omega)]
theorem colsF_new (p : Int) (s t : Nat → Int) (n k : Nat) : colsF p s t n (k + 1) k = vecT p n (fitN p t n (s k) k (colsF p s t n k)) := by
  show (if k = k then _ else _) = _
  rw [if_pos rfl]
theorem pairF_cg {p : Int} {s X X' Y : Nat → Int} {n : Nat} (h : ∀ i, i < n → X i = X' i) : pairF p s n X Y = pairF p s n X' Y := by
  unfold pairF
  rw [sumF_congr fun i hi => by rw [h i hi]]

/-- the two spaces are isometric -/
structure IsoOk (p : Int) (n : Nat) (s t : Nat → Int) : Prop where
  ss : SpOk p n s
  tt : SpOk p n t
  rs : regB s n = true
  rt : regB t n = true
  sq : ∃ r, Cg p (prd s n * prd t n) (r * r)

theorem cols_fit {p : Int} {n tT : Nat} {s t : Nat → Int} (h : IsoOk p n s t) (hT : p ^ n = (tT : Int)) {k : Nat} (hk : k < n) (hg : ∀ i j, i < k → j < k → pairF p t n (colsF p s t n k i) (colsF p s t n k j) = if i = j then s i else 0) :
    fitN p t n (s k) k (colsF p s t n k) < tT ∧ fitB p t n (s k) k (colsF p s t n k) (fitN p t n (s k) k (colsF p s t n k)) = true := by
  have hb := h.ss.bd
  obtain ⟨r, hr⟩ := h.sq
  obtain ⟨X, hX, h1, h2⟩ := fit_ex h.ss h.tt h.rs h.rt hr hk hg
  have hvb := valV_bd (by omega) hX
  obtain ⟨u, hu⟩ := Int.eq_ofNat_of_zero_le hvb.1
  have hul : (u : Int) < p ^ n := by omega
  have hv := vecT_val (by omega) hul hX hu
  have hfit : fitB p t n (s k) k (colsF p s t n k) u = true := by
    unfold fitB okV
    rw [← pairF_congr2 hv, h1]
    simp only [beq_self_eq_true, Bool.true_and]
    exact decide_eq_true fun j hj => by rw [← pairF_cg hv]; exact h2 j hj
  have hlt : fitN p t n (s k) k (colsF p s t n k) < tT := by
    unfold fitN
    rw [hT, Int.toNat_natCast]
    rcases Nat.lt_or_ge (fst (fitB p t n (s k) k (colsF p s t n k)) tT) tT with h3 | h3
    · exact h3
    · have := fst_before (fitB p t n (s k) k (colsF p s t n k)) tT u (by omega)
      rw [hfit] at this; exact absurd this (by simp)
  refine ⟨hlt, ?_⟩
  have h4 := hlt
  unfold fitN at h4 ⊢
  rw [hT, Int.toNat_natCast] at h4 ⊢
  exact fst_is _ _ h4
theorem cols_gram {p : Int} {n tT : Nat} {s t : Nat → Int} (h : IsoOk p n s t) (hT : p ^ n = (tT : Int)) : ∀ k, k ≤ n → ∀ i j, i < k → j < k → pairF p t n (colsF p s t n k i) (colsF p s t n k j) = if i = j then s i else 0
  | 0, _, i, _, hi, _ => absurd hi (Nat.not_lt_zero _)
  | k + 1, hk, i, j, hi, hj => by
    have ih := cols_gram h hT k (by omega)
    obtain ⟨_, hf⟩ := cols_fit h hT (k := k) (by omega) ih
    unfold fitB okV at hf
    simp only [Bool.and_eq_true, beq_iff_eq, decide_eq_true_eq] at hf
    by_cases e1 : i = k
    · subst e1
      rw [colsF_new]
      by_cases e2 : j = i
      · subst e2
        rw [colsF_new, if_pos rfl]; exact hf.1
      · rw [colsF_old (by omega), if_neg (Ne.symm e2)]; exact hf.2 j (by omega)
    · rw [colsF_old (by omega)]
      by_cases e2 : j = k
      · subst e2
        rw [colsF_new, if_neg e1, pairF_comm]; exact hf.2 i (by omega)
      · rw [colsF_old (by omega)]; exact ih i j (by omega) (by omega)
theorem cols_in {p : Int} (hp : 1 ≤ p) (s t : Nat → Int) (n : Nat) : ∀ k i, i < k → InP p n (colsF p s t n k i)
  | 0, i, hi => absurd hi (Nat.not_lt_zero _)
  | k + 1, i, hi => by
    by_cases e : i = k
    · subst e; rw [colsF_new]; exact vecT_in hp n _ n
    · rw [colsF_old (by omega)]; exact cols_in hp s t n k i (by omega)
/-- for each column there is one that fits -/
theorem fit_lt {p : Int} {n tT : Nat} {s t : Nat → Int} (h : IsoOk p n s t) (hT : p ^ n = (tT : Int)) {k : Nat} (hk : k < n) :
    fitN p t n (s k) k (colsF p s t n k) < tT ∧ fitB p t n (s k) k (colsF p s t n k) (fitN p t n (s k) k (colsF p s t n k)) = true ∧ ∀ u, u < fitN p t n (s k) k (colsF p s t n k) → fitB p t n (s k) k (colsF p s t n k) u = false := by
  obtain ⟨h1, h2⟩ := cols_fit h hT hk (cols_gram h hT k (by omega))
  exact ⟨h1, h2, fun u hu => fst_before _ _ u hu⟩
/-- the zero vector does not fit: the first that fits is not the first of all -/
theorem fit_pos {p : Int} {n tT : Nat} {s t : Nat → Int} (h : IsoOk p n s t) (hT : p ^ n = (tT : Int)) {k : Nat} (hk : k < n) : 0 < fitN p t n (s k) k (colsF p s t n k) := by
  have hb := h.ss.bd
  obtain ⟨_, h2, _⟩ := fit_lt h hT hk
  rcases Nat.eq_zero_or_pos (fitN p t n (s k) k (colsF p s t n k)) with h0 | h0
  · rw [h0] at h2
    unfold fitB okV at h2
    simp only [Bool.and_eq_true, beq_iff_eq] at h2
    have h3 := h2.1
    unfold pairF at h3
    rw [sumF_congr (g := fun _ => 0) (fun i _ => by rw [vecT_zero]; simp), sumF_zero, Int.zero_emod] at h3
    exact absurd h3.symm (regB_at h.rs k hk)
  · exact h0

/-- the product that both programs take: the squares of both spaces in turn, modulo p -/
def ispF (p : Int) (s t : Nat → Int) : Nat → Int
  | 0 => 1
  | k + 1 => ((ispF p s t k * s k) % p * t k) % p
theorem ispF_in {p : Int} (hp : 1 < p) (s t : Nat → Int) (k : Nat) : 0 ≤ ispF p s t k ∧ ispF p s t k < p := by
  cases k with
  | zero => exact ⟨by show (0 : Int) ≤ 1; decide, by show (1 : Int) < p; exact hp⟩
  | succ k => exact mod_bd _ _ (by omega)
theorem ispF_cg (p : Int) (s t : Nat → Int) : ∀ k, Cg p (ispF p s t k) (prd s k * prd t k)
  | 0 => Cg.rfl' _ _
  | k + 1 => by
    show Cg p (((ispF p s t k * s k) % p * t k) % p) (prd s k * s k * (prd t k * t k))
    refine (Cg.mod p _).trans ?_
    refine (((Cg.mod p _).mul (Cg.rfl' p (t k)))).trans ?_
    refine (((ispF_cg p s t k).mul (Cg.rfl' p (s k))).mul (Cg.rfl' p (t k))).trans (Cg.of_eq (by grind))
theorem iso_sq {p : Int} {n : Nat} {s t : Nat → Int} (hp : 1 < p) (h : hasRoot p.toNat (ispF p s t n) = true) : ∃ r, Cg p (prd s n * prd t n) (r * r) := by
  obtain ⟨r, hr, h1⟩ := hasRoot_iff.1 h
  have e : ((p.toNat : Nat) : Int) = p := by omega
  rw [e] at h1
  refine ⟨r, (ispF_cg p s t n).symm.trans ?_⟩
  rw [← h1]; exact Cg.mod p _
/-- the code -/
def isoK (p : Int) (n : Nat) (s : Nat → Int) (p2 : Int) (n2 : Nat) (t : Nat → Int) : Int :=
  if spB p n s && spB p2 n2 t then (if regB s n && regB t n2 then (if decide (p = p2 ∧ n = n2) && hasRoot p.toNat (ispF p s t n) then (if 5000 < p ^ n then 3 else 0) else 4) else 5) else 1
theorem isoK_ok {p : Int} {n : Nat} {s : Nat → Int} {p2 : Int} {n2 : Nat} {t : Nat → Int} (h : isoK p n s p2 n2 t = 0) : p = p2 ∧ n = n2 ∧ IsoOk p n s t ∧ p ^ n ≤ 5000 := by
  unfold isoK at h
  cases h1 : spB p n s && spB p2 n2 t
  · rw [h1] at h; simp at h
  · rw [h1, if_pos rfl] at h
    cases h2 : regB s n && regB t n2
    · rw [h2] at h; simp at h
    · rw [h2, if_pos rfl] at h
      cases h3 : decide (p = p2 ∧ n = n2) && hasRoot p.toNat (ispF p s t n)
      · rw [h3] at h; simp at h
      · rw [h3, if_pos rfl] at h
        simp only [Bool.and_eq_true, decide_eq_true_eq] at h1 h2 h3
        obtain ⟨⟨rfl, rfl⟩, h4⟩ := h3
        have hs := spB_ok h1.1
        have hb := hs.bd
        refine ⟨rfl, rfl, ⟨hs, spB_ok h1.2, h2.1, h2.2, iso_sq (by omega) h4⟩, ?_⟩
        by_cases h5 : 5000 < p ^ n
        · rw [if_pos h5] at h; exact absurd h (by decide)
        · omega

end Go.Proofs.Ytnkflgigbielgaa

/-
  What the reference's IsometryOf calls: columns turned to rows, and the test of isometric spaces at regular ones. No condition beside sizes.
-/
set_option linter.unusedVariables false
set_option linter.unusedSimpArgs false
namespace Go.Proofs.Ytnkflgigbielgaa
open Go.RowKit

set_option maxHeartbeats 1000000 in
theorem sTurn_c (v : Value) (G M : Nat) (L : Nat → Nat) (T : Nat → Nat → Int) (w : World) (h : Tab w v G L T) (hG : 1 ≤ G) (hG2 : G ≤ 1048576) (hM : M ≤ 1048576) (hL0 : L 0 = M) (hL : ∀ i, i < G → M ≤ L i) :
    Calls Try.prog 110 #[v] w fun e w' => CopyT w w' e M (fun _ => G) (fun k i => T i k) := by
  obtain ⟨ao, c, b, o, A, C, RB, RO, rfl, p2, p3, p4, p5, p6, p7, p8⟩ := h.out
  clear h
  obtain rfl := p4 (by omega)
  have e0 : w.cell? ⟨b, o, none⟩ = some (.slice (A 0) M (C 0)) := by rw [show o = o + 0 from rfl, p5 0 (by omega), hL0]
  have hG0 : 0 < G := hG
  have hG0i : (0 : Int) < (G : Int) := by omega
  have hbl : b < w.heap.size := lt_of_cell e0
  have E0 := Lib.hid e0
  have P5 := Lib.hid p5
  have P7 := Lib.hid p7
  have P8 := Lib.hid p8
  have HL := Lib.hid hL
  clear p4 p5 p6 p7 p8 hL hL0 e0
  go_enter Try.func110, Try.ntmps110
  go_wp2
  go_loopg [3, 4] M (fun g s i wr => ∃ k : Nat, k ≤ M ∧ g = M - k ∧ i = .int .i64 k ∧ ∃ g' c', s = .slice (some ⟨g', 0, none⟩) k c' ∧ Below w.heap.size w wr ∧ OTab wr w.heap.size g' c' k (fun _ => G) (fun k i => T i k))
  case atStart => exact ⟨0, Nat.zero_le _, rfl, rfl, _, _, rfl, (Below.refl _ _).alloc (Nat.le_refl _) _, ⟨fun _ => 0, fun _ => 0, Own.empty _ _ _, Nat.le_refl _, fun i hi => absurd hi (Nat.not_lt_zero _), fun i j hi => absurd hi (Nat.not_lt_zero _)⟩⟩
  case round =>
    obtain ⟨k, hk, rfl, rfl, g', c', rfl, hb, hT⟩ := hrel
    have e0 : wr.cell? ⟨b, o, none⟩ = some (.slice (A 0) M (C 0)) := by rw [hb.cell (p := ⟨b, o, none⟩) hbl]; exact E0.out
    by_cases hlt : k < M
    · go_wp2
      obtain ⟨wo, hwo⟩ : ∃ wo, wo = wr := ⟨_, rfl⟩
      rw [← hwo] at hb hT ⊢
      clear hwo e0
      have hbs := hb.size
      go_loopg [5, 6] G (fun g s i wr => ∃ j : Nat, j ≤ G ∧ g = G - j ∧ i = .int .i64 j ∧ ∃ g2 c2, s = .slice (some ⟨g2, 0, none⟩) j c2 ∧ wo.heap.size ≤ g2 ∧ Below wo.heap.size wo wr ∧ Own wr 2 g2 c2 j (fun i => .int .i64 (T i k)))
      case atStart => exact ⟨0, Nat.zero_le _, rfl, rfl, _, _, rfl, Nat.le_refl _, (Below.refl _ _).alloc (Nat.le_refl _) _, Own.empty _ _ _⟩
      case round =>
        obtain ⟨j, hj, rfl, rfl, g2, c2, rfl, hg2, hb2, hO⟩ := hrel
        by_cases hlt2 : j < G
        · have hkL : k < L j := by have := HL.out j hlt2; omega
          have hbb := hb.trans (hb2.mono hbs)
          have e1 : wr.cell? ⟨b, o + j, none⟩ = some (.slice (some ⟨RB j, RO j, none⟩) (L j) (C j)) := by
            rw [hbb.cell (p := ⟨b, o + j, none⟩) (lt_of_cell (P5.out j hlt2)), P5.out j hlt2, P7.out j hlt2 (by omega)]
          have e2 : wr.cell? ⟨RB j, RO j + k, none⟩ = some (.int .i64 (T j k)) := by
            rw [hbb.cell (p := ⟨RB j, RO j + k, none⟩) (lt_of_cell (P8.out j k hlt2 hkL)), P8.out j k hlt2 hkL]
          go_wp2_with (at_builtin; refine wpList_push _ rfl _ _ _ _ elI rfl hO (.int .i64 (T j k)) rfl rfl rfl (by omega) (by omega) ?_; rotate_right; intro g3 c3 w3 hO3 hg3 hgr3)
          go_roundg (G - (j + 1))
          case measure => omega
          case rel =>
            have hlt4 := hb2.size
            refine ⟨j + 1, by omega, rfl, by go_num, g3, c3, rfl, by omega, hb2.grown hgr3 hlt4 (fun k e => by injection e with e; omega), hO3.congr fun i hi => ?_⟩
            by_cases e2 : i = j
            · subst e2; simp
            · simp [e2]
        · obtain rfl : j = G := by omega
          obtain ⟨V, hV, hpush⟩ := hT.pushAt hbs
          have hV2 := hV.kept hb2
          have HP := Lib.hid hpush
          clear hpush
          go_wp2_with (at_builtin; refine wpList_push _ rfl _ _ _ _ elR rfl hV2 (.slice (some ⟨g2, 0, none⟩) j c2) rfl rfl rfl (by omega) (by omega) ?_; intro g3 c3 w3 hO3 hg3 hgr3)
          have hs2 := hb2.size
          have hgB := hT.base
          go_roundg (M - (k + 1))
          case measure => omega
          case rel => exact ⟨k + 1, by omega, rfl, by go_num, g3, c3, rfl, (hb.trans (hb2.mono hbs)).grown hgr3 (by omega) (fun k e => by injection e with e; omega), (HP.out _ _ _ _ _ _ _ _ hb2 hO hg2 hO3 hg3 hgr3).congr (fun i hi => by by_cases e : i = k <;> simp [e]) (fun i j hi hj => by by_cases e : i = k <;> simp [e])⟩
    · obtain rfl : k = M := by omega
      go_wp2
      go_ret
      exact ⟨g', c', rfl, hb, hT⟩

/-- the boxes of two spaces -/
def Box2 (w : World) (p : Int) (ao : Option Addr) (n c : Nat) (p2 : Int) (bo : Option Addr) (m d : Nat) (W : World) : Prop :=
  W.cell? ⟨w.heap.size, 0, none⟩ = some (.int .i64 p) ∧ W.cell? ⟨w.heap.size, 1, none⟩ = some (.slice ao n c) ∧ W.cell? ⟨w.heap.size + 1, 0, none⟩ = some (.int .i64 p2) ∧ W.cell? ⟨w.heap.size + 1, 1, none⟩ = some (.slice bo m d) ∧ w.heap.size + 1 < W.heap.size ∧ Below w.heap.size w W
theorem bxTwoKeep {w W W' : World} {p : Int} {ao : Option Addr} {n c : Nat} {p2 : Int} {bo : Option Addr} {m d : Nat} (hb : Below W.heap.size W W') (h : Box2 w p ao n c p2 bo m d W) : Box2 w p ao n c p2 bo m d W' :=
  ⟨cellKp hb h.1, cellKp hb h.2.1, cellKp hb h.2.2.1, cellKp hb h.2.2.2.1, by have := hb.size; have := h.2.2.2.2.1; omega, h.2.2.2.2.2.trans (hb.mono h.2.2.2.2.2.size)⟩
theorem box2_0 (w : World) (p : Int) (ao : Option Addr) (n c : Nat) (p2 : Int) (bo : Option Addr) (m d : Nat) : Box2 w p ao n c p2 bo m d ((w.alloc (.cells #[.int .i64 p, .slice ao n c] 26)).alloc (.cells #[.int .i64 p2, .slice bo m d] 26)) := by
  obtain ⟨e0, e1, e2, e3⟩ := box0 w p ao n c 26
  obtain ⟨g0, g1, g2, g3⟩ := box0 (w.alloc (.cells #[.int .i64 p, .slice ao n c] 26)) p2 bo m d 26
  have hsz : (w.alloc (.cells #[.int .i64 p, .slice ao n c] 26)).heap.size = w.heap.size + 1 := alloc_size _ _
  rw [hsz] at g0 g1 g2
  exact ⟨cellKp g3 e0, cellKp g3 e1, g0, g1, g2, e3.trans (g3.mono e3.size)⟩

/-- the test of isometric spaces, at two that are regular -/
def ispB (p : Int) (n : Nat) (s : Nat → Int) (p2 : Int) (n2 : Nat) (t : Nat → Int) : Bool := decide (p = p2 ∧ n = n2) && hasRoot p.toNat (ispF p s t n)

set_option maxRecDepth 100000 in
set_option maxHeartbeats 4000000 in
theorem sIsometric_c (p : Int) (sv : Value) (n : Nat) (s : Nat → Int) (p2 : Int) (tv : Value) (n2 : Nat) (t : Nat → Int) (w : World) (hs : SV w sv p n s) (ht : SV w tv p2 n2 t) (rs : regB s n = true) (rt : regB t n2 = true) :
    Calls Try.prog 109 #[dbl p sv, dbl p2 tv] w fun e w' => Makes w w' e (.bool (ispB p n s p2 n2 t)) := by
  have hpb := hs.ok.bd
  have hsi := Lib.hid hs.ok.inp
  have hti := Lib.hid ht.ok.inp
  have hsz := Lib.hid (regB_at rs)
  have htz := Lib.hid (regB_at rt)
  have hn6 := hs.ok.n6
  obtain ⟨ao, c, b, o, rfl, p2', p3, p4, p5⟩ := hs.ints.out
  obtain ⟨bo, d, b2, o2, rfl, q2, q3, q4, q5⟩ := ht.ints.out
  have P5 := Lib.hid p5
  have Q5 := Lib.hid q5
  have BX := Lib.hid (box2_0 w p ao n c p2 bo n2 d)
  obtain ⟨e0, e1, e2, e3, e4, e5⟩ := BX.out
  clear hs ht p5 q5 rs rt
  by_cases hpp : p = p2
  rotate_left
  · have hB : ispB p n s p2 n2 t = false := by unfold ispB; rw [decide_eq_false (fun h => hpp h.1)]; rfl
    have hne : (p != p2) = true := by simpa using hpp
    rw [hB]
    clear hpp
    go_enter Try.func109, Try.ntmps109
    go_wp2
    go_ret
    exact ⟨rfl, e5⟩
  subst hpp
  by_cases hnn : n = n2
  rotate_left
  · have hB : ispB p n s p n2 t = false := by unfold ispB; rw [decide_eq_false (fun h => hnn h.2)]; rfl
    have hne : ((n : Int) != (n2 : Int)) = true := by simp; omega
    have hpe : (p != p) = false := by simp
    rw [hB]
    clear hnn
    go_enter Try.func109, Try.ntmps109
    go_wp2
    go_ret
    exact ⟨rfl, e5⟩
  subst hnn
  obtain ⟨P, rfl⟩ := Int.eq_ofNat_of_zero_le (show 0 ≤ p by omega)
  have hB : ispB (P : Int) n s P n t = hasRoot P (ispF P s t n) := by unfold ispB; rw [decide_eq_true ⟨rfl, rfl⟩, Int.toNat_natCast]; rfl
  rw [hB]
  have hpe : ((P : Int) != (P : Int)) = false := by simp
  have hne : ((n : Int) != (n : Int)) = false := by simp
  have hP0 : (P : Int) ≠ 0 := by omega
  clear hB
  go_enter Try.func109, Try.ntmps109
  go_wp2
  go_loopg [5, 6, 7, 8] n (fun gg u z1 z2 i wr => ∃ k : Nat, k ≤ n ∧ gg = n - k ∧ i = .int .i64 k ∧ z1 = .int .i64 0 ∧ z2 = .int .i64 0 ∧ u = .int .i64 (ispF P s t k) ∧ Hid (Box2 w P ao n c P bo n d wr))
  case atStart => exact ⟨0, Nat.zero_le _, rfl, rfl, rfl, rfl, rfl, BX.out⟩
  case round =>
    obtain ⟨k, hk, rfl, rfl, rfl, rfl, rfl, hbx⟩ := hrel
    clear e0 e1 e2 e3 e4 e5
    obtain ⟨f0, f1, f2, f3, f4, f5⟩ := hbx.out
    by_cases hlt : k < n
    · obtain rfl := p4 (by omega)
      obtain rfl := q4 (by omega)
      have hsk := hsi.out k hlt
      have htk := hti.out k hlt
      have hs0 := hsz.out k hlt
      have ht0 := htz.out k hlt
      have z1 : wr.cell? ⟨b, o + k, none⟩ = some (.int .i64 (s k)) := by rw [f5.cell (p := ⟨b, o + k, none⟩) (lt_of_cell (P5.out k hlt))]; exact P5.out k hlt
      have z2 : wr.cell? ⟨b2, o2 + k, none⟩ = some (.int .i64 (t k)) := by rw [f5.cell (p := ⟨b2, o2 + k, none⟩) (lt_of_cell (Q5.out k hlt))]; exact Q5.out k hlt
      have hu := ispF_in (p := (P : Int)) (by omega) s t k
      have hnx : Hid (ispF P s t (k + 1) = ((ispF P s t k * s k) % P * t k) % P) := rfl
      obtain ⟨u, hue⟩ : ∃ u, ispF P s t k = u := ⟨_, rfl⟩
      obtain ⟨x, hxe⟩ : ∃ x, s k = x := ⟨_, rfl⟩
      obtain ⟨y, hye⟩ : ∃ y, t k = y := ⟨_, rfl⟩
      rw [hue, hxe, hye] at hnx
      rw [hxe] at z1 hsk hs0
      rw [hye] at z2 htk ht0
      rw [hue] at hu
      rw [hue]
      have hxb : (x == 0) = false := by simpa using hs0
      have hyb : (y == 0) = false := by simpa using ht0
      have h1 : 0 ≤ u * x ∧ u * x ≤ 144 := ⟨Int.mul_nonneg hu.1 hsk.1, by have := Int.mul_le_mul (show u ≤ 12 by omega) (show x ≤ 12 by omega) hsk.1 (by omega : (0:Int) ≤ 12); omega⟩
      obtain ⟨a, hae⟩ : ∃ a, u * x = a := ⟨_, rfl⟩
      rw [hae] at h1 hnx
      have v1 : IntKind.i64.wrap (u * x) = a := wrap_as hae (by omega)
      have v2 : Int.tmod a P = a % P := Int.tmod_eq_emod_of_nonneg h1.1
      have h2 := mod_bd a P (by omega)
      obtain ⟨a2, ha2⟩ : ∃ z, a % P = z := ⟨_, rfl⟩
      rw [ha2] at v2 h2 hnx
      have h3 : 0 ≤ a2 * y ∧ a2 * y ≤ 144 := ⟨Int.mul_nonneg h2.1 htk.1, by have := Int.mul_le_mul (show a2 ≤ 12 by omega) (show y ≤ 12 by omega) htk.1 (by omega : (0:Int) ≤ 12); omega⟩
      obtain ⟨a3, ha3⟩ : ∃ z, a2 * y = z := ⟨_, rfl⟩
      rw [ha3] at h3 hnx
      have v3 : IntKind.i64.wrap (a2 * y) = a3 := wrap_as ha3 (by omega)
      have v4 : Int.tmod a3 P = a3 % P := Int.tmod_eq_emod_of_nonneg h3.1
      obtain ⟨a4, ha4⟩ : ∃ z, a3 % P = z := ⟨_, rfl⟩
      rw [ha4] at v4 hnx
      have i0 : (0 : Int) ≤ (k : Int) := by omega
      have i1 : (k : Int) < (n : Int) := by omega
      clear hue hxe hye hae ha2 ha3 ha4 hs0 ht0 h1 h2 h3
      go_wp2
      go_quiet (fail)
      go_wp2
      go_quiet (fail)
      go_wp2
      go_roundg (n - (k + 1))
      case measure => omega
      case rel => exact ⟨k + 1, by omega, rfl, by go_num, rfl, rfl, by rw [hnx.out], bxTwoKeep (below_drewN _ _) hbx.out⟩
    · obtain rfl : k = n := by omega
      obtain ⟨u, hue⟩ : ∃ u, ispF P s t k = u := ⟨_, rfl⟩
      rw [hue]
      obtain ⟨r, hr⟩ : ∃ r, idxB (rootB P u) P = r := ⟨_, rfl⟩
      have CR : Hid (∀ W, Calls Try.prog 136 #[.int .i64 (P : Int), .int .i64 u] W fun e w' => e = .returned (.int .i64 r) ∧ W = w') := fun W => hr ▸ sRoot_c P u W (by omega) (by omega)
      have hg := root_ge P u
      rw [hr] at hg
      obtain ⟨q, hq⟩ : ∃ q, hasRoot P u = q := ⟨_, rfl⟩
      rw [hq] at hg
      have HQ := Lib.hid hq
      have HUE := Lib.hid hue
      clear hue hr hq
      cases q
      all_goals
        go_wp2_with (go_at_call 136; refine (CR.out _).mono ?_; rintro e w' ⟨rfl, rfl⟩)
        go_ret
        exact ⟨by rw [HUE.out, HQ.out]; rfl, f5⟩

end Go.Proofs.Ytnkflgigbielgaa

/-
  The program's test of isometric spaces, at regular ones. No condition beside sizes.
-/
set_option linter.unusedVariables false
set_option linter.unusedSimpArgs false
namespace Go.Proofs.Ytnkflgigbielgaa
open Go.RowKit

set_option maxRecDepth 100000 in
set_option maxHeartbeats 4000000 in
theorem iIsometric_c (p : Int) (sv : Value) (n : Nat) (s : Nat → Int) (p2 : Int) (tv : Value) (n2 : Nat) (t : Nat → Int) (w : World) (hs : SV w sv p n s) (ht : SV w tv p2 n2 t) (rs : regB s n = true) (rt : regB t n2 = true) :
    Calls Try.prog 112 #[dbl p sv, dbl p2 tv] w fun e w' => Makes w w' e (.bool (ispB p n s p2 n2 t)) := by
  have hpb := hs.ok.bd
  have hsi := Lib.hid hs.ok.inp
  have hti := Lib.hid ht.ok.inp
  have hsz := Lib.hid (regB_at rs)
  have htz := Lib.hid (regB_at rt)
  have hn6 := hs.ok.n6
  have hm6 := ht.ok.n6
  obtain ⟨ao, c, b, o, rfl, p2', p3, p4, p5⟩ := hs.ints.out
  obtain ⟨bo, d, b2, o2, rfl, q2, q3, q4, q5⟩ := ht.ints.out
  have P5 := Lib.hid p5
  have Q5 := Lib.hid q5
  have BX := Lib.hid (box2_0 w p ao n c p2 bo n2 d)
  obtain ⟨e0, e1, e2, e3, e4, e5⟩ := BX.out
  clear hs ht p5 q5 rs rt
  by_cases hpp : p = p2
  rotate_left
  · have hB : ispB p n s p2 n2 t = false := by unfold ispB; rw [decide_eq_false (fun h => hpp h.1)]; rfl
    have hne : (p != p2) = true := by simpa using hpp
    rw [hB]
    clear hpp
    go_enter Try.func112, Try.ntmps112
    go_wp2
    go_quiet (fail)
    have b9 := e5.trans ((below_drewN _ nq).mono e5.size)
    go_wp2
    go_ret
    exact ⟨rfl, b9⟩
  subst hpp
  by_cases hnn : n = n2
  rotate_left
  · have hB : ispB p n s p n2 t = false := by unfold ispB; rw [decide_eq_false (fun h => hnn h.2)]; rfl
    have hne : ((n : Int) != (n2 : Int)) = true := by simp; omega
    have hpe : (p != p) = false := by simp
    rw [hB]
    clear hnn
    go_enter Try.func112, Try.ntmps112
    go_wp2
    go_region_held3 (fun W => W.cell? ⟨w.heap.size, 0, none⟩ = some (.int .i64 p) ∧ W.cell? ⟨w.heap.size, 1, none⟩ = some (.slice ao n c) ∧ W.cell? ⟨w.heap.size + 1, 0, none⟩ = some (.int .i64 p) ∧ W.cell? ⟨w.heap.size + 1, 1, none⟩ = some (.slice bo n2 d) ∧ w.heap.size + 1 < W.heap.size ∧ Below w.heap.size w W)
      ((first | assumption | exact bxTwoKeep (drewB _) ⟨e0, e1, e2, e3, e4, e5⟩ | exact bxTwoKeep (by assumption) (by assumption)))
      ((first
        | (go_at_call 92; refine Calls.makes' (iDim_c _ _ _ _ _ (by omega)) _ fun v1 hv1 => ?_)))
    all_goals rename_i hHeld
    all_goals have b9 := hHeld.2.2.2.2.2
    all_goals go_wp2
    all_goals go_ret
    all_goals exact ⟨rfl, b9⟩
  subst hnn
  obtain ⟨P, rfl⟩ := Int.eq_ofNat_of_zero_le (show 0 ≤ p by omega)
  have hB : ispB (P : Int) n s P n t = hasRoot P (ispF P s t n) := by unfold ispB; rw [decide_eq_true ⟨rfl, rfl⟩, Int.toNat_natCast]; rfl
  rw [hB]
  have hpe : ((P : Int) != (P : Int)) = false := by simp
  have hne : ((n : Int) != (n : Int)) = false := by simp
  have hP0 : (P : Int) ≠ 0 := by omega
  clear hB
  go_enter Try.func112, Try.ntmps112
  go_wp2
  go_region_held3 (fun W => W.cell? ⟨w.heap.size, 0, none⟩ = some (.int .i64 (P : Int)) ∧ W.cell? ⟨w.heap.size, 1, none⟩ = some (.slice ao n c) ∧ W.cell? ⟨w.heap.size + 1, 0, none⟩ = some (.int .i64 (P : Int)) ∧ W.cell? ⟨w.heap.size + 1, 1, none⟩ = some (.slice bo n d) ∧ w.heap.size + 1 < W.heap.size ∧ Below w.heap.size w W)
    ((first | assumption | exact bxTwoKeep (drewB _) ⟨e0, e1, e2, e3, e4, e5⟩ | exact bxTwoKeep (by assumption) (by assumption)))
    ((first
      | (go_at_call 92; refine Calls.makes' (iDim_c _ _ _ _ _ (by omega)) _ fun v1 hv1 => ?_)))
  rename_i hHeld
  have HB0 : Hid (Box2 w P ao n c P bo n d _) := hHeld
  obtain ⟨e0, e1, e2, e3, e4, e5⟩ := hHeld
  go_wp2
  go_loopg [5, 6, 25] n (fun gg z u i wr => ∃ k : Nat, k ≤ n ∧ gg = n - k ∧ i = .int .i64 k ∧ z = .int .i64 0 ∧ u = .int .i64 (ispF P s t k) ∧ Hid (Box2 w P ao n c P bo n d wr))
  case atStart => exact ⟨0, Nat.zero_le _, rfl, rfl, rfl, rfl, HB0.out⟩
  case round =>
    obtain ⟨k, hk, rfl, rfl, rfl, rfl, hbx⟩ := hrel
    clear e0 e1 e2 e3 e4 e5 HB0
    obtain ⟨f0, f1, f2, f3, f4, f5⟩ := hbx.out
    by_cases hlt : k < n
    · obtain rfl := p4 (by omega)
      obtain rfl := q4 (by omega)
      have hsk := hsi.out k hlt
      have htk := hti.out k hlt
      have hs0 := hsz.out k hlt
      have ht0 := htz.out k hlt
      have z1 : wr.cell? ⟨b, o + k, none⟩ = some (.int .i64 (s k)) := by rw [f5.cell (p := ⟨b, o + k, none⟩) (lt_of_cell (P5.out k hlt))]; exact P5.out k hlt
      have z2 : wr.cell? ⟨b2, o2 + k, none⟩ = some (.int .i64 (t k)) := by rw [f5.cell (p := ⟨b2, o2 + k, none⟩) (lt_of_cell (Q5.out k hlt))]; exact Q5.out k hlt
      have hu := ispF_in (p := (P : Int)) (by omega) s t k
      have hnx : Hid (ispF P s t (k + 1) = ((ispF P s t k * s k) % P * t k) % P) := rfl
      obtain ⟨u, hue⟩ : ∃ u, ispF P s t k = u := ⟨_, rfl⟩
      obtain ⟨x, hxe⟩ : ∃ x, s k = x := ⟨_, rfl⟩
      obtain ⟨y, hye⟩ : ∃ y, t k = y := ⟨_, rfl⟩
      rw [hue, hxe, hye] at hnx
      rw [hxe] at z1 hsk hs0
      rw [hye] at z2 htk ht0
      rw [hue] at hu
      rw [hue]
      have hxb : (x == 0) = false := by simpa using hs0
      have hyb : (y == 0) = false := by simpa using ht0
      have h1 : 0 ≤ u * x ∧ u * x ≤ 144 := ⟨Int.mul_nonneg hu.1 hsk.1, by have := Int.mul_le_mul (show u ≤ 12 by omega) (show x ≤ 12 by omega) hsk.1 (by omega : (0:Int) ≤ 12); omega⟩
      obtain ⟨a, hae⟩ : ∃ a, u * x = a := ⟨_, rfl⟩
      rw [hae] at h1 hnx
      have v1 : IntKind.i64.wrap (u * x) = a := wrap_as hae (by omega)
      have CM1 : Hid (∀ W, Calls Try.prog 86 #[.int .i64 P, .int .i64 a] W fun e w' => e = .returned (.int .i64 (a % P)) ∧ W = w') := fun W => iNum_c P a W (by omega) (by omega) (by omega) (by omega)
      have h2 := mod_bd a P (by omega)
      obtain ⟨a2, ha2⟩ : ∃ z, a % P = z := ⟨_, rfl⟩
      rw [ha2] at CM1 h2 hnx
      have h3 : 0 ≤ a2 * y ∧ a2 * y ≤ 144 := ⟨Int.mul_nonneg h2.1 htk.1, by have := Int.mul_le_mul (show a2 ≤ 12 by omega) (show y ≤ 12 by omega) htk.1 (by omega : (0:Int) ≤ 12); omega⟩
      obtain ⟨a3, ha3⟩ : ∃ z, a2 * y = z := ⟨_, rfl⟩
      rw [ha3] at h3 hnx
      have v3 : IntKind.i64.wrap (a2 * y) = a3 := wrap_as ha3 (by omega)
      have CM2 : Hid (∀ W, Calls Try.prog 86 #[.int .i64 P, .int .i64 a3] W fun e w' => e = .returned (.int .i64 (a3 % P)) ∧ W = w') := fun W => iNum_c P a3 W (by omega) (by omega) (by omega) (by omega)
      obtain ⟨a4, ha4⟩ : ∃ z, a3 % P = z := ⟨_, rfl⟩
      rw [ha4] at CM2 hnx
      have i0 : (0 : Int) ≤ (k : Int) := by omega
      have i1 : (k : Int) < (n : Int) := by omega
      have hx0 : ∀ W : World, (Instr.index 131 (.agg #[.int .i64 x, .int .i64 y]) (.int .i64 0)).run Try.prog W = .ok (.int .i64 x) W := fun _ => rfl
      have hx1 : ∀ W : World, (Instr.index 131 (.agg #[.int .i64 x, .int .i64 y]) (.int .i64 1)).run Try.prog W = .ok (.int .i64 y) W := fun _ => rfl
      clear hue hxe hye hae ha2 ha3 ha4 hs0 ht0 h1 h2 h3
      go_wp2
      go_quiet (fail)
      have hbq := Lib.hid (bxTwoKeep (below_drewN wr nq) hbx.out)
      clear f0 f1 f2 f3 f4 f5 z1 z2 hbx
      go_wp2
      go_loopg [5, 6, 39] 2 (fun gg z v j wq => (gg = 2 ∧ j = .int .i64 0 ∧ z = .int .i64 0 ∧ v = .int .i64 u ∧ Hid (Box2 w P (some ⟨b, o, none⟩) n c P (some ⟨b2, o2, none⟩) n d wq)) ∨ (gg = 1 ∧ j = .int .i64 1 ∧ z = .int .i64 0 ∧ v = .int .i64 a2 ∧ Hid (Box2 w P (some ⟨b, o, none⟩) n c P (some ⟨b2, o2, none⟩) n d wq)) ∨ (gg = 0 ∧ j = .int .i64 2 ∧ z = .int .i64 0 ∧ v = .int .i64 a4 ∧ Hid (Box2 w P (some ⟨b, o, none⟩) n c P (some ⟨b2, o2, none⟩) n d wq)))
      case atStart => exact Or.inl ⟨rfl, rfl, rfl, rfl, hbq.out⟩
      case round =>
        clear hbq
        rcases hrel with ⟨rfl, rfl, rfl, rfl, hbr⟩ | ⟨rfl, rfl, rfl, rfl, hbr⟩ | ⟨rfl, rfl, rfl, rfl, hbr⟩
        · obtain ⟨f0, f1, f2, f3, f4, f5⟩ := hbr.out
          go_wp2_with fail
          go_at_call 71
          refine Calls.makes' (iSField_c _ _ _) _ fun w5 hb5 => ?_
          have hb6 := Lib.hid (bxTwoKeep hb5 hbr.out)
          clear hb5 f0 f1 f2 f3
          go_wp2_with fail
          go_at_call 86
          refine (CM1.out _).mono ?_
          rintro e w' ⟨rfl, rfl⟩
          go_wp2
          go_roundg 1
          case measure => omega
          case rel => exact Or.inr (Or.inl ⟨rfl, rfl, rfl, rfl, hb6.out⟩)
        · obtain ⟨f0, f1, f2, f3, f4, f5⟩ := hbr.out
          go_wp2_with fail
          go_at_call 71
          refine Calls.makes' (iSField_c _ _ _) _ fun w5 hb5 => ?_
          have hb6 := Lib.hid (bxTwoKeep hb5 hbr.out)
          clear hb5 f0 f1 f2 f3
          go_wp2_with fail
          go_at_call 86
          refine (CM2.out _).mono ?_
          rintro e w' ⟨rfl, rfl⟩
          go_wp2
          go_roundg 0
          case measure => omega
          case rel => exact Or.inr (Or.inr ⟨rfl, rfl, rfl, rfl, hb6.out⟩)
        · go_wp2
          go_roundg (n - (k + 1))
          case measure => omega
          case rel => exact ⟨k + 1, by omega, rfl, by go_num, rfl, by rw [hnx.out], hbr.out⟩
    · obtain rfl : k = n := by omega
      obtain ⟨u, hue⟩ : ∃ u, ispF P s t k = u := ⟨_, rfl⟩
      rw [hue]
      have CR : Hid (∀ W, Calls Try.prog 93 #[.int .i64 (P : Int), .int .i64 u] W fun e w' => e = .returned (.bool (hasRoot P u)) ∧ W = w') := fun W => iSquare_c P u W (by omega) (by omega)
      have HUE := Lib.hid hue
      clear hue
      go_wp2_with fail
      go_at_call 71
      refine Calls.makes' (iSField_c _ _ _) _ fun w5 hb5 => ?_
      have b9 := f5.trans (hb5.mono f5.size)
      clear hb5
      go_wp2_with fail
      go_at_call 93
      refine (CR.out _).mono ?_
      rintro e w' ⟨rfl, rfl⟩
      go_wp2
      go_ret
      exact ⟨by rw [HUE.out]; rfl, b9⟩

end Go.Proofs.Ytnkflgigbielgaa

/-
  What the program's IsometryOf is made of: the test against the columns that were taken, and the walk of all vectors for its closure. No condition beside sizes.
-/
set_option linter.unusedVariables false
set_option linter.unusedSimpArgs false
namespace Go.Proofs.Ytnkflgigbielgaa
open Go.RowKit

set_option maxHeartbeats 400000 in
/-- slices.IndexFunc over a table, the test a closure over one pointer, that makes memory and turns none. -/
theorem iIndexFuncR2_c (f : FuncId) (hcf : ∀ (a : Array Value) (W : World), (callFunc f a).run Try.prog W = .ok (.enter f a) W) (cp cq : Value) (v : Value) (G : Nat) (L : Nat → Nat) (T : Nat → Nat → Int) (p : Nat → Bool) (w : World) (h : Tab w v G L T)
    (hf : ∀ i, i < G → ∀ W u, Below w.heap.size w W → Ints W u (L i) (T i) → Calls Try.prog f #[u, cp, cq] W fun e W' => Makes W W' e (.bool (p i))) :
    Calls Try.prog 149 #[v, .func (.func f) #[] #[cp, cq]] w fun e w' => Makes w w' e (.int .i64 (idxB p G)) := by
  obtain ⟨ao, c, b, o, A, C, RB, RO, rfl, p2, p3, p4, p5, p6, p7, p8⟩ := h.out
  have hr := fun i hi => Tab.rowAt p6 p7 p8 (i := i) hi
  have Hr := Lib.hid hr
  have P5 := Lib.hid p5
  have HF := Lib.hid hf
  clear p5 p6 p7 p8 h hf hr
  go_enter Try.func149, Try.ntmps149
  go_wp2
  go_loopg [8] G (fun g i wr => ∃ k : Nat, k ≤ G ∧ g = G - k ∧ i = .int .i64 k ∧ Below w.heap.size w wr ∧ ∀ j, j < k → p j = false)
  case atStart => exact ⟨0, Nat.zero_le _, rfl, rfl, Below.refl _ _, fun j hj => absurd hj (Nat.not_lt_zero _)⟩
  case round =>
    obtain ⟨k, hk, rfl, rfl, hb, hall⟩ := hrel
    have HA := Lib.hid hall; clear hall
    by_cases hlt : k < G
    · obtain rfl := p4 (by omega)
      have e1 : wr.cell? ⟨b, o + k, none⟩ = some (.slice (A k) (L k) (C k)) := by rw [hb.cell (p := ⟨b, o + k, none⟩) (lt_of_cell (P5.out k hlt))]; exact P5.out k hlt
      have hbs := hb.size
      go_wp2_with fail
      refine Calls.makes' (HF.out k hlt _ _ hb ((Hr.out k hlt).below hb)) _ fun w1 hb1 => ?_
      cases hp : p k
      · go_wp2
        go_roundg (G - (k + 1))
        case measure => omega
        case rel => exact ⟨k + 1, by omega, rfl, by go_num, hb.trans (hb1.mono hbs), fun j hj => by
          by_cases e : j = k
          · subst e; exact hp
          · exact HA.out j (by omega)⟩
      · go_wp2
        go_ret
        exact ⟨ret_i64 (idxB_at hlt HA.out hp).symm, hb.trans (hb1.mono hbs)⟩
    · obtain rfl : k = G := by omega
      go_wp2
      go_ret
      exact ⟨ret_i64 (idxB_none HA.out).symm, hb⟩

theorem iContainsFuncR2_c (f : FuncId) (hcf : ∀ (a : Array Value) (W : World), (callFunc f a).run Try.prog W = .ok (.enter f a) W) (cp cq : Value) (v : Value) (G : Nat) (L : Nat → Nat) (T : Nat → Nat → Int) (p : Nat → Bool) (w : World) (h : Tab w v G L T)
    (hf : ∀ i, i < G → ∀ W u, Below w.heap.size w W → Ints W u (L i) (T i) → Calls Try.prog f #[u, cp, cq] W fun e W' => Makes W W' e (.bool (p i))) :
    Calls Try.prog 114 #[v, .func (.func f) #[] #[cp, cq]] w fun e w' => Makes w w' e (.bool (anyB p G)) := by
  have HF := Lib.hid hf
  clear hf
  go_enter Try.func114, Try.ntmps114
  go_wp2_with fail
  refine Calls.makes' (iIndexFuncR2_c f hcf _ _ _ _ _ _ p _ h HF.out) _ fun w1 hb1 => ?_
  go_wp2
  go_ret
  exact ⟨rfl, hb1⟩


set_option maxRecDepth 100000 in
set_option maxHeartbeats 4000000 in
theorem iVectorsIm_c (p : Int) (ao : Option Addr) (n c : Nat) (v1 v2 v3 : Value) (tT : Nat) (w : World) (hpb : 3 ≤ p ∧ p ≤ 13) (hn6 : n ≤ 6) (hT : p ^ n = (tT : Int)) (J : Nat → Nat → World → Prop) (stop : Nat → Bool)
    (H0 : ∀ gv W, Below w.heap.size w W → w.heap.size < gv → gv < W.heap.size → W.cell? ⟨w.heap.size, 0, none⟩ = some (.int .i64 p) → J 0 gv W)
    (HK : ∀ t gv W W', J t gv W → Chg W W' (· = gv) → w.heap.size < gv → J t gv W')
    (HX : ∀ t gv W, J t gv W → W.cell? ⟨w.heap.size, 0, none⟩ = some (.int .i64 p))
    (HF : ∀ t gv W, t < tT → (∀ u, u < t → stop u = false) → w.heap.size < gv → J t gv W → Own W 2 gv n n (fun i => .int .i64 (vecT p n t i)) → Calls Try.prog 113 #[.slice (some ⟨gv, 0, none⟩) n n, v1, v2, v3] W fun e w' => e = .returned (.bool (stop t)) ∧ J (t + 1) gv w' ∧ Own w' 2 gv n n (fun i => .int .i64 (vecT p n t i))) :
    Calls Try.prog 79 #[dbl p (.slice ao n c), .func (.func 113) #[] #[v1, v2, v3]] w fun e w' => ∃ gv, (e = .returned (.bool false) ∧ (∀ t, t < tT → stop t = false) ∧ J tT gv w') ∨ (∃ t, t < tT ∧ e = .returned (.bool true) ∧ stop t = true ∧ (∀ u, u < t → stop u = false) ∧ J (t + 1) gv w') := by
  have hp0 : 1 ≤ tT := by
    have := pow_sm hpb.1 hpb.2 hn6
    omega
  obtain ⟨e0, e1, e2, e3⟩ := box0 w p ao n c 26
  have BX := Lib.hid (box0 w p ao n c 26)
  have HT := Lib.hid hT
  have H0 := Lib.hid H0
  have HK := Lib.hid HK
  have HX := Lib.hid HX
  have HF := Lib.hid HF
  have hmf : ∀ (fn : Fn) (first cap : Array Value) (w : World), (Instr.makeFunc fn first cap).run Try.prog w = .ok (.func fn first cap) w := fun _ _ _ _ => rfl
  clear hT
  go_enter Try.func79, Try.ntmps79
  go_wp2_with fail
  refine Calls.makes' (iDim_c _ _ _ _ _ (by omega)) _ fun w1 hb1 => ?_
  have bx1 := boxKeep hb1 ⟨e0, e1, e2, e3⟩
  have BX1 := Lib.hid bx1
  have hs1 := hb1.size
  have hsb : (w.alloc (.cells #[.int .i64 p, .slice ao n c] 26)).heap.size = w.heap.size + 1 := alloc_size _ _
  clear e0 e1 e2 e3
  go_wp2_with (at_make; refine wpList_mkA _ rfl _ _ _ _ elI rfl rfl .i64 .i64 n rfl rfl (by omega) (by omega) ?_; intro W3 hB3 hS3 hO3; have HS3 := Lib.hid hS3; clear hS3)
  rw [hsb] at hs1
  obtain ⟨bx, hbx⟩ : ∃ bx, w.heap.size = bx := ⟨_, rfl⟩
  obtain ⟨gv, hgv⟩ : ∃ gv, w1.heap.size = gv := ⟨_, rfl⟩
  have hbw3 : Below w.heap.size w W3 := bx1.2.2.2.trans (hB3.mono bx1.2.2.2.size)
  have hbg : bx ≠ gv := by omega
  have hbl : bx < gv := by omega
  rw [hgv] at hO3
  have hv0 : J 0 gv W3 := H0.out gv W3 hbw3 (by omega) hO3.lt (cellKp hB3 bx1.1)
  have HV0 := Lib.hid hv0
  have HO3 : Hid (Own W3 2 gv n n (fun i => .int .i64 (vecT p n 0 i))) := hO3.congr fun i hi => by rw [vecT_zero]
  rw [hbx] at HK HX HF
  rw [hbx, hgv]
  clear hv0 hbw3 hO3 hB3 HS3 hb1 bx1 BX BX1 hsb H0 hs1 hgv
  go_loopg [6] tT (fun g (i : Value) wr => ∃ t : Nat, t < tT ∧ g = tT - t ∧ Hid (J t gv wr) ∧ Hid (Own wr 2 gv n n (fun i => .int .i64 (vecT p n t i))) ∧ Hid (∀ u, u < t → stop u = false))
  case atStart => exact ⟨0, by omega, rfl, HV0.out, HO3.out, fun u hu => absurd hu (Nat.not_lt_zero _)⟩
  case round =>
    obtain ⟨t, ht, rfl, hV, hO, hU⟩ := hrel
    obtain ⟨wo, rfl⟩ : ∃ wo, wo = wr := ⟨_, rfl⟩
    clear HV0 HO3
    obtain ⟨b, hb⟩ : ∃ b, stop t = b := ⟨_, rfl⟩
    have HFt := HF.out t gv wo ht hU.out hbl hV.out hO.out
    rw [hb] at HFt
    have HFt := Lib.hid HFt
    have HB := Lib.hid hb
    clear hb
    cases b
    rotate_left
    · go_wp2_with (go_at_call 113; refine HFt.out.mono ?_; rintro e w5 ⟨rfl, hV5, hO5⟩; have HV5 := Lib.hid hV5; clear hV5 hO5)
      go_ret
      exact ⟨gv, Or.inr ⟨t, ht, rfl, HB.out, hU.out, HV5.out⟩⟩
    go_wp2_with (go_at_call 113; refine HFt.out.mono ?_; rintro e w5 ⟨rfl, hV5, hO5⟩; have HV5 := Lib.hid hV5; have HO5 := Lib.hid hO5; clear hV5 hO5)
    have hU5 : Hid (∀ u, u < t + 1 → stop u = false) := fun u hu => by
      by_cases e : u = t
      · subst e; exact HB.out
      · exact hU.out u (by omega)
    clear HFt HB hU hV hO
    go_loopg [6] n (fun gg i wq => ∃ r : Nat, r ≤ n ∧ r = gg ∧ i = .int .i64 ((r : Int) - 1) ∧ Chg w5 wq (· = gv) ∧ Own wq 2 gv n n (fun i => .int .i64 (clr r (vecT p n t) i)) ∧ Hid (maxFrom p n r (vecT p n t)))
    case atStart => exact ⟨n, Nat.le_refl _, rfl, rfl, Chg.refl _ _, HO5.out.congr fun i hi => by unfold clr; rw [if_neg (by omega)], fun i h1 h2 => absurd h2 (by omega)⟩
    case round =>
      obtain ⟨r, hr, rfl, rfl, hc, hOq, hmx⟩ := hrel
      have yb := hc.cellN hbg (HX.out _ _ _ HV5.out)
      by_cases hlt : 0 < r
      · obtain ⟨i, rfl⟩ : ∃ i, r = i + 1 := ⟨r - 1, by omega⟩
        rw [show (((i + 1 : Nat) : Int) - 1) = (i : Int) by omega]
        have hxi := vecT_in (p := p) (by omega) n t n i (by omega)
        have y1 : wr.cell? ⟨gv, i, none⟩ = some (.int .i64 (vecT p n t i)) := by
          have h := hOq.cell (show i < n by omega)
          rw [h]; unfold clr; rw [if_neg (by omega)]
        obtain ⟨xi, hxe⟩ : ∃ xi, vecT p n t i = xi := ⟨_, rfl⟩
        rw [hxe] at y1 hxi
        have HXE := Lib.hid hxe
        have y2 := hOq.frozen i
        have i1 : (0 : Int) ≤ (i : Int) := by omega
        have i2 : (i : Int) < (n : Int) := by omega
        have hw1 : IntKind.i64.wrap (p - 1) = p - 1 := wrap_in _ (by omega)
        clear hxe
        have HC := Lib.hid hc
        have HOq := Lib.hid hOq
        have HY2 := Lib.hid y2
        by_cases hmax : xi = p - 1
        · have HMX := Lib.hid (HXE.out.trans hmax)
          subst hmax
          have HY1 := Lib.hid y1
          clear hOq hc HXE
          go_wp2
          go_quiet (fail)
          have z1 : (wr.drewN nq).cell? ⟨gv, i, none⟩ = some (.int .i64 (p - 1)) := HY1.out
          have z2 : (wr.drewN nq).frozen? ⟨gv, i, none⟩ = false := HY2.out
          have HC9 : Hid (Chg w5 (wr.drewN nq) (· = gv)) := ⟨HC.out.os, HC.out.tape, HC.out.output, HC.out.size, HC.out.block⟩
          have HO9 := Lib.hid ((HOq.out.drewN nq).set i (.int .i64 0))
          clear yb y1 y2
          go_wp2
          go_roundg i
          case measure => omega
          case rel => exact ⟨i, by omega, rfl, by go_num, HC9.out.setCell (a := ⟨gv, i, none⟩) rfl _, HO9.out.congr fun j hj => by
              unfold clr
              by_cases e : j = i
              · subst e; simp
              · rw [if_neg e]
                by_cases e2 : i + 1 ≤ j
                · rw [if_pos e2, if_pos (by omega)]
                · rw [if_neg e2, if_neg (by omega)], fun j h1 h2 => by
              by_cases e : j = i
              · subst e; exact HMX.out
              · exact hmx.out j (by omega) h2⟩
        · have HMX : Hid (vecT p n t i ≠ p - 1) := fun e => hmax (HXE.out.symm.trans e)
          have hne : decide (xi = p - 1) = false := decide_eq_false hmax
          have HY1 := Lib.hid y1
          have hwx : IntKind.i64.wrap (xi + 1) = xi + 1 := wrap_in _ (by omega)
          clear hOq hc
          go_wp2
          go_quiet (fail)
          have z1 : (wr.drewN nq).cell? ⟨gv, i, none⟩ = some (.int .i64 xi) := HY1.out
          have z2 : (wr.drewN nq).frozen? ⟨gv, i, none⟩ = false := HY2.out
          have HC9 : Hid (Chg w5 (wr.drewN nq) (· = gv)) := ⟨HC.out.os, HC.out.tape, HC.out.output, HC.out.size, HC.out.block⟩
          have HO9 := Lib.hid ((HOq.out.drewN nq).set i (.int .i64 (xi + 1)))
          clear yb y1 y2
          go_wp2
          have hnx := next_vecT (show 1 ≤ p by omega) (t := t) (b := true) (X' := inc i (vecT p n t)) (by rw [HT.out]; omega) (Or.inl ⟨rfl, inc_in (by omega) (vecT_in (by omega) n t n) HMX.out, val_inc (by omega) hmx.out⟩)
          rcases hnx with ⟨_, h1, h2⟩ | ⟨h1, _⟩
          · rw [HT.out] at h1
            go_roundg (tT - (t + 1))
            case measure => omega
            case rel => exact ⟨t + 1, by omega, rfl, HK.out _ _ _ _ HV5.out (HC9.out.setCell (a := ⟨gv, i, none⟩) rfl _) hbl, HO9.out.congr fun j hj => by
                rw [← h2 j hj]
                unfold clr inc
                by_cases e : j = i
                · subst e; rw [if_pos rfl, if_pos rfl, HXE.out]
                · rw [if_neg e, if_neg e]
                  by_cases e2 : i + 1 ≤ j
                  · rw [if_pos e2, if_pos (by omega)]
                  · rw [if_neg e2, if_neg (by omega)], hU5.out⟩
          · exact absurd h1 (by decide)
      · obtain rfl : r = 0 := by omega
        rw [show (((0 : Nat) : Int) - 1) = -1 by omega]
        have HC := Lib.hid hc
        clear hOq hc
        go_wp2
        go_quiet (fail)
        go_wp2
        go_ret
        have HC9 : Hid (Chg w5 (wr.drewN nq) (· = gv)) := ⟨HC.out.os, HC.out.tape, HC.out.output, HC.out.size, HC.out.block⟩
        have hnx := next_vecT (show 1 ≤ p by omega) (t := t) (b := false) (X' := fun _ => 0) (by rw [HT.out]; omega) (Or.inr ⟨rfl, val_top hmx.out⟩)
        rcases hnx with ⟨h1, _⟩ | ⟨_, h1⟩
        · exact absurd h1 (by decide)
        · rw [HT.out] at h1
          obtain rfl : t + 1 = tT := by omega
          exact ⟨gv, Or.inl ⟨rfl, hU5.out, HK.out _ _ _ _ HV5.out HC9.out hbl⟩⟩

set_option maxRecDepth 100000 in
set_option maxHeartbeats 1000000 in
/-- the test of one column: is the product with it other than 0? -/
theorem iIsoCol_c (p : Int) (bT bV gv : Nat) (bo : Option Addr) (n d : Nat) (t V : Nat → Int) (u : Value) (X : Nat → Int) (w : World) (ht : SV w (.slice bo n d) p n t) (hV : Vc w (.slice (some ⟨gv, 0, none⟩) n n) p n V) (hX : Vc w u p n X)
    (c0 : w.cell? ⟨bT, 0, none⟩ = some (.int .i64 p)) (c1 : w.cell? ⟨bT, 1, none⟩ = some (.slice bo n d)) (c2 : w.cell? ⟨bV, 0, none⟩ = some (.slice (some ⟨gv, 0, none⟩) n n)) :
    Calls Try.prog 115 #[u, .pointer (some ⟨bT, 0, none⟩), .pointer (some ⟨bV, 0, none⟩)] w fun e w' => Makes w w' e (.bool (!(pairF p t n V X == 0))) := by
  obtain ⟨a, ha⟩ : ∃ a, pairF p t n V X = a := ⟨_, rfl⟩
  have HP : Hid (∀ W, Below w.heap.size w W → Calls Try.prog 64 #[dbl p (.slice bo n d), .slice (some ⟨gv, 0, none⟩) n n, u] W fun e w' => Makes W w' e (.int .i64 a)) := fun W hb => ha ▸ iPair_c p _ _ _ n t V X W (ht.below hb) (hV.below hb) (hX.below hb)
  obtain ⟨xa, xc, b, o, rfl, q2, q3, qx⟩ := hX.ints.out
  rw [ha]
  clear ht hV hX qx ha
  go_enter Try.func115, Try.ntmps115
  go_wp2_with fail
  go_at_call 64
  refine Calls.makes' (HP.out _ (by first | exact Below.refl _ _ | exact below_drewN _ _)) _ fun w1 hb1 => ?_
  have hf : Below w.heap.size w w1 := by first | exact hb1 | exact (below_drewN _ _).trans (hb1.mono (below_drewN _ _).size)
  go_wp2
  go_ret
  exact ⟨rfl, hf⟩

end Go.Proofs.Ytnkflgigbielgaa

/-
  IsometryOf's closure: a vector that fits is appended to the columns. No condition beside sizes.
-/
set_option linter.unusedVariables false
set_option linter.unusedSimpArgs false
namespace Go.Proofs.Ytnkflgigbielgaa
open Go.RowKit

/-- what stands while the closure runs: the boxes, and the columns that were taken -/
structure ImJ (w0 : World) (p : Int) (s t : Nat → Int) (bo : Option Addr) (n d k bT bC bq bx tt gv : Nat) (W : World) : Prop where
  below : Below w0.heap.size w0 W
  c0 : W.cell? ⟨bT, 0, none⟩ = some (.int .i64 p)
  c1 : W.cell? ⟨bT, 1, none⟩ = some (.slice bo n d)
  cq : W.cell? ⟨bq, 0, none⟩ = some (.int .i64 (s k))
  cx : W.cell? ⟨bx, 0, none⟩ = some (.int .i64 p)
  fC : W.frozen? ⟨bC, 0, none⟩ = false
  ord : w0.heap.size ≤ bT ∧ bT < bC ∧ bC < bq ∧ bq < bx ∧ bx < gv ∧ gv < W.heap.size
  tab : ∃ g' c' G, W.cell? ⟨bC, 0, none⟩ = some (.slice (some ⟨g', 0, none⟩) G c') ∧ G = k + (if fitN p t n (s k) k (colsF p s t n k) < tt then 1 else 0) ∧ OTabS W w0.heap.size (boxS bT bq bC bx gv) g' c' G (fun _ => n) (colsF p s t n G)
theorem ImJ.chgV {w0 : World} {p : Int} {s t : Nat → Int} {bo : Option Addr} {n d k bT bC bq bx tt gv : Nat} {W W' : World} (h : ImJ w0 p s t bo n d k bT bC bq bx tt gv W) (hc : Chg W W' (· = gv)) : ImJ w0 p s t bo n d k bT bC bq bx tt gv W' := by
  obtain ⟨o1, o2, o3, o4, o5, o6⟩ := h.ord
  have hs := hc.size
  obtain ⟨g', c', G, h1, h2, h3⟩ := h.tab
  refine ⟨h.below.trans (hc.below h.below.size (fun x hx => by have hx : x = gv := hx; omega)), hc.cellN (by omega) h.c0, hc.cellN (by omega) h.c1, hc.cellN (by omega) h.cq, hc.cellN (by omega) h.cx, ?_, ⟨o1, o2, o3, o4, o5, by omega⟩, g', c', G, hc.cellN (by omega) h1, h2, h3.chg (Or.inr (Or.inr (Or.inr (Or.inr rfl)))) hc⟩
  rw [frz_of_block (w := W) (hc.block bC (lt_of_cell h1) (by intro e; have e : bC = gv := e; omega))]; exact h.fC

theorem box5Keep {w W W' : World} {b1 b2 b3 b4 : Nat} {v1 v2 v3 v4 v5 : Value} (hb : Below W.heap.size W W')
    (h : W.cell? ⟨b1, 0, none⟩ = some v1 ∧ W.cell? ⟨b1, 1, none⟩ = some v2 ∧ W.cell? ⟨b2, 0, none⟩ = some v3 ∧ W.cell? ⟨b3, 0, none⟩ = some v4 ∧ W.cell? ⟨b4, 0, none⟩ = some v5 ∧ Below w.heap.size w W) :
    W'.cell? ⟨b1, 0, none⟩ = some v1 ∧ W'.cell? ⟨b1, 1, none⟩ = some v2 ∧ W'.cell? ⟨b2, 0, none⟩ = some v3 ∧ W'.cell? ⟨b3, 0, none⟩ = some v4 ∧ W'.cell? ⟨b4, 0, none⟩ = some v5 ∧ Below w.heap.size w W' :=
  ⟨cellKp hb h.1, cellKp hb h.2.1, cellKp hb h.2.2.1, cellKp hb h.2.2.2.1, cellKp hb h.2.2.2.2.1, h.2.2.2.2.2.trans (hb.mono h.2.2.2.2.2.size)⟩
theorem box5Below {w W : World} {b1 b2 b3 b4 : Nat} {v1 v2 v3 v4 v5 : Value}
    (h : W.cell? ⟨b1, 0, none⟩ = some v1 ∧ W.cell? ⟨b1, 1, none⟩ = some v2 ∧ W.cell? ⟨b2, 0, none⟩ = some v3 ∧ W.cell? ⟨b3, 0, none⟩ = some v4 ∧ W.cell? ⟨b4, 0, none⟩ = some v5 ∧ Below w.heap.size w W) : Below w.heap.size w W := h.2.2.2.2.2

theorem box5V {w W : World} {b1 b2 b3 b4 : Nat} {v1 v2 v3 v4 v5 : Value}
    (h : W.cell? ⟨b1, 0, none⟩ = some v1 ∧ W.cell? ⟨b1, 1, none⟩ = some v2 ∧ W.cell? ⟨b2, 0, none⟩ = some v3 ∧ W.cell? ⟨b3, 0, none⟩ = some v4 ∧ W.cell? ⟨b4, 0, none⟩ = some v5 ∧ Below w.heap.size w W) : W.cell? ⟨b2, 0, none⟩ = some v3 := h.2.2.1

set_option maxRecDepth 100000 in
set_option maxHeartbeats 4000000 in
theorem iImCl_c (w0 : World) (p : Int) (s t : Nat → Int) (bo : Option Addr) (n d k bT bC bq bx tt gv : Nat) (w : World) (ht : SV w0 (.slice bo n d) p n t) (hk : k ≤ 6) (h : ImJ w0 p s t bo n d k bT bC bq bx tt gv w) (hO : Own w 2 gv n n (fun i => .int .i64 (vecT p n tt i))) (htt : tt ≤ fitN p t n (s k) k (colsF p s t n k)) (hfit : (tt < fitN p t n (s k) k (colsF p s t n k) → fitB p t n (s k) k (colsF p s t n k) tt = false) ∧ (tt = fitN p t n (s k) k (colsF p s t n k) → fitB p t n (s k) k (colsF p s t n k) tt = true)) :
    Calls Try.prog 113 #[.slice (some ⟨gv, 0, none⟩) n n, .pointer (some ⟨bT, 0, none⟩), .pointer (some ⟨bq, 0, none⟩), .pointer (some ⟨bC, 0, none⟩)] w fun e w' => e = .returned (.bool (fitB p t n (s k) k (colsF p s t n k) tt)) ∧ ImJ w0 p s t bo n d k bT bC bq bx (tt + 1) gv w' ∧ Own w' 2 gv n n (fun i => .int .i64 (vecT p n tt i)) := by
  have hpb := ht.ok.bd
  have hn6 := ht.ok.n6
  obtain ⟨o1, o2, o3, o4, o5, o6⟩ := h.ord
  obtain ⟨g', c', G, q1, q2, q3⟩ := h.tab
  rw [if_neg (by omega), Nat.add_zero] at q2
  subst q2
  obtain ⟨a, ha⟩ : ∃ a, pairF p t n (vecT p n tt) (vecT p n tt) = a := ⟨_, rfl⟩
  have HN : Hid (∀ W, Below w.heap.size w W → Calls Try.prog 73 #[dbl p (.slice bo n d), .slice (some ⟨gv, 0, none⟩) n n] W fun e w' => Makes W w' e (.int .i64 a)) := fun W hb => ha ▸ iSNorm_c p _ _ n t _ W (ht.below (h.below.trans (hb.mono h.below.size))) ⟨(hO.kept hb).ints, vecT_in (by omega) n tt n⟩
  obtain ⟨sk, hsk⟩ : ∃ z, s G = z := ⟨_, rfl⟩
  obtain ⟨q, hq⟩ : ∃ q, decide (∀ j, j < G → pairF p t n (vecT p n tt) (colsF p s t n G j) = 0) = q := ⟨_, rfl⟩
  have hfb : Hid (fitB p t n (s G) G (colsF p s t n G) tt = ((a == sk) && q)) := by
    show fitB p t n (s G) G (colsF p s t n G) tt = ((a == sk) && q)
    unfold fitB okV
    rw [ha, hq, hsk]
  have hany : anyB (fun j => !(pairF p t n (vecT p n tt) (colsF p s t n G j) == 0)) G = !q := by
    cases q
    · have h1 := of_decide_eq_false hq
      have h2 : ∃ j, j < G ∧ pairF p t n (vecT p n tt) (colsF p s t n G j) ≠ 0 := Classical.byContradiction fun hno => h1 fun j hj => Classical.byContradiction fun hne => hno ⟨j, hj, hne⟩
      obtain ⟨j, hj, hne⟩ := h2
      exact anyB_at hj (by simpa using hne)
    · have h1 := of_decide_eq_true hq
      exact anyB_none fun j hj => by rw [h1 j hj]; rfl
  have c0 := h.c0
  have c1 := h.c1
  have cq := h.cq
  rw [hsk] at cq
  have CX := Lib.hid h.cx
  have fC := h.fC
  have hbel := Lib.hid h.below
  have hgl := hO.lt
  have HO := Lib.hid hO
  have HT := Lib.hid q3
  have HTV := Lib.hid ht
  have hcin := Lib.hid (cols_in (p := p) (by omega) s t n G)
  have HC : Hid (∀ W bV, Below w.heap.size w W → W.cell? ⟨bV, 0, none⟩ = some (.slice (some ⟨gv, 0, none⟩) n n) → Calls Try.prog 114 #[.slice (some ⟨g', 0, none⟩) G c', .func (.func 115) #[] #[.pointer (some ⟨bT, 0, none⟩), .pointer (some ⟨bV, 0, none⟩)]] W fun e w' => Makes W w' e (.bool (!q))) := fun W bV hb hcV => hany ▸ iContainsFuncR2_c 115 (fun _ _ => rfl) _ _ _ G (fun _ => n) (colsF p s t n G) (fun j => !(pairF p t n (vecT p n tt) (colsF p s t n G j) == 0)) W (HT.out.otab.tab.below hb) (fun i hi W' u hb' hu =>
    iIsoCol_c p bT bV gv bo n d t (vecT p n tt) u (colsF p s t n G i) W' (HTV.out.below (hbel.out.trans ((hb.trans (hb'.mono hb.size)).mono hbel.out.size))) ⟨(HO.out.kept (hb.trans (hb'.mono hb.size))).ints, vecT_in (by omega) n tt n⟩ ⟨hu, hcin.out i hi⟩ (cellKp hb' (cellKp hb c0)) (cellKp hb' (cellKp hb c1)) (cellKp hb' hcV))
  have hmf : ∀ (fn : Fn) (first cap : Array Value) (w : World), (Instr.makeFunc fn first cap).run Try.prog w = .ok (.func fn first cap) w := fun _ _ _ _ => rfl
  have hob := Own.new w 24 #[.slice (some ⟨gv, 0, none⟩) n n] (fun _ => .slice (some ⟨gv, 0, none⟩) n n) (by simp) (fun i hi => by
    obtain rfl : i = 0 := by simp at hi; omega
    rfl)
  have cV := hob.cell (i := 0) (by simp)
  have hbA : Below w.heap.size w (w.alloc (.cells #[.slice (some ⟨gv, 0, none⟩) n n] 24)) := (Below.refl _ _).alloc (Nat.le_refl _) _
  have hsA : (w.alloc (.cells #[.slice (some ⟨gv, 0, none⟩) n n] 24)).heap.size = w.heap.size + 1 := alloc_size _ _
  have H5 : Hid ((w.alloc (.cells #[.slice (some ⟨gv, 0, none⟩) n n] 24)).cell? ⟨bT, 0, none⟩ = some (.int .i64 p) ∧ (w.alloc (.cells #[.slice (some ⟨gv, 0, none⟩) n n] 24)).cell? ⟨bT, 1, none⟩ = some (.slice bo n d) ∧ (w.alloc (.cells #[.slice (some ⟨gv, 0, none⟩) n n] 24)).cell? ⟨w.heap.size, 0, none⟩ = some (.slice (some ⟨gv, 0, none⟩) n n) ∧ (w.alloc (.cells #[.slice (some ⟨gv, 0, none⟩) n n] 24)).cell? ⟨bq, 0, none⟩ = some (.int .i64 sk) ∧ (w.alloc (.cells #[.slice (some ⟨gv, 0, none⟩) n n] 24)).cell? ⟨bC, 0, none⟩ = some (.slice (some ⟨g', 0, none⟩) G c') ∧ Below w.heap.size w (w.alloc (.cells #[.slice (some ⟨gv, 0, none⟩) n n] 24))) := ⟨cellKp hbA c0, cellKp hbA c1, cV, cellKp hbA cq, cellKp hbA q1, hbA⟩
  -- what is handed on when the vector does not fit
  have HNO : Hid (((a == sk) && q) = false → ∀ W, Below w.heap.size w W → ImJ w0 p s t bo n d G bT bC bq bx (tt + 1) gv W ∧ Own W 2 gv n n (fun i => .int .i64 (vecT p n tt i))) := fun e W hb => by
    have hs := hb.size
    have h1 : ¬ fitN p t n (s G) G (colsF p s t n G) < tt + 1 := fun hl => by
      have := hfit.2 (by omega)
      rw [hfb.out, e] at this; exact absurd this (by decide)
    refine ⟨⟨hbel.out.trans (hb.mono hbel.out.size), cellKp hb c0, cellKp hb c1, ?_, cellKp hb CX.out, ?_, ⟨o1, o2, o3, o4, o5, by omega⟩, g', c', G, cellKp hb q1, by rw [if_neg h1]; rfl, HT.out.kept hb⟩, HO.out.kept hb⟩
    · rw [hsk]; exact cellKp hb cq
    · rw [frz_of_block (w := w) (hb.block bC (by omega))]; exact fC
  have HYES : Hid (((a == sk) && q) = true → tt = fitN p t n (s G) G (colsF p s t n G)) := fun e => by
    rcases Nat.lt_or_ge tt (fitN p t n (s G) G (colsF p s t n G)) with h1 | h1
    · have := hfit.1 h1
      rw [hfb.out, e] at this; exact absurd this (by decide)
    · omega
  have HCQ := Lib.hid cq
  have HSK := Lib.hid hsk
  obtain ⟨y0, y1, y2, y3, y4, y5⟩ := H5.out
  rw [hfb.out]
  clear ht h hO ha hq hany hcin q3 hob c0 c1 cq q1 cV hsk hfit htt hbA
  cases hae : (a == sk)
  · rw [hae] at HNO HYES
    go_enter Try.func113, Try.ntmps113
    go_wp2
    refine wp_region_held_drew (S := fun W => W.cell? ⟨bT, 0, none⟩ = some (.int .i64 p) ∧ W.cell? ⟨bT, 1, none⟩ = some (.slice bo n d) ∧ W.cell? ⟨w.heap.size, 0, none⟩ = some (.slice (some ⟨gv, 0, none⟩) n n) ∧ W.cell? ⟨bq, 0, none⟩ = some (.int .i64 sk) ∧ W.cell? ⟨bC, 0, none⟩ = some (.slice (some ⟨g', 0, none⟩) G c') ∧ Below w.heap.size w W) (by kernel_rfl) (box5Keep (drewB _) H5.out) (fun hHeld => ?_)
    refine tkRun 0 7 (.agg #[.int .i64 p, .slice bo n d]) rfl rfl (by kernel_rfl) (by kernel_rfl) (by kernel_rfl) (fun _ _ _ h => h) rfl (fun W hW => by (try dsimp only at hW); go_simp) (by assumption) ?_
    try simp only [Act.put, List.setIfInBounds_toArray, List.set_cons_zero, List.set_cons_succ]
    refine tkRun 1 8 (.slice (some ⟨gv, 0, none⟩) n n) rfl rfl (by kernel_rfl) (by kernel_rfl) (by kernel_rfl) (fun _ _ _ h => h) rfl (fun W hW => by (try dsimp only at hW); go_simp) (by assumption) ?_
    try simp only [Act.put, List.setIfInBounds_toArray, List.set_cons_zero, List.set_cons_succ]
    refine tkRun 3 10 (.int .i64 sk) rfl rfl (by kernel_rfl) (by kernel_rfl) (by kernel_rfl) (fun _ _ _ h => h) rfl (fun W hW => by (try dsimp only at hW); go_simp) (by assumption) ?_
    try simp only [Act.put, List.setIfInBounds_toArray, List.set_cons_zero, List.set_cons_succ]
    refine wpAnyH_ready (rs := [2]) (by kernel_rfl) (by simp) ?_
    refine AllReadyH.cons (o := _) rfl (fun K hK => ?_) AllReadyH.nil
    go_simp
    go_at_call 73
    refine Calls.makes' (HN.out _ (box5Below hHeld)) _ fun w4 hb4 => ?_
    go_wp2_with fail
    refine hK.out _ _ (box5Keep hb4 (by assumption)) (fun hHeld2 => ?_)
    clear hK K
    try simp only [Act.put, List.setIfInBounds_toArray, List.set_cons_zero, List.set_cons_succ]
    refine tkRun 4 11 (.bool false) rfl rfl (by kernel_rfl) (by kernel_rfl) (by kernel_rfl) (fun _ _ _ h => h) rfl (fun W hW => by (try dsimp only at hW); go_simp) (by assumption) ?_
    try simp only [Act.put, List.setIfInBounds_toArray, List.set_cons_zero, List.set_cons_succ]
    refine tkRun 5 12 (.bool false) rfl rfl (by kernel_rfl) (by kernel_rfl) (by kernel_rfl) (fun _ _ _ h => h) rfl (fun W hW => by (try dsimp only at hW); go_simp) (by assumption) ?_
    try simp only [Act.put, List.setIfInBounds_toArray, List.set_cons_zero, List.set_cons_succ]
    refine tkOff 6 13 rfl rfl (by kernel_rfl) (by kernel_rfl) (by kernel_rfl) (fun _ _ _ h => h) rfl (by assumption) ?_
    try simp only [Act.put, List.setIfInBounds_toArray, List.set_cons_zero, List.set_cons_succ]
    refine tkOff 7 14 rfl rfl (by kernel_rfl) (by kernel_rfl) (by kernel_rfl) (fun _ _ _ h => h) rfl (by assumption) ?_
    try simp only [Act.put, List.setIfInBounds_toArray, List.set_cons_zero, List.set_cons_succ]
    refine tkOff 8 15 rfl rfl (by kernel_rfl) (by kernel_rfl) (by kernel_rfl) (fun _ _ _ h => h) rfl (by assumption) ?_
    try simp only [Act.put, List.setIfInBounds_toArray, List.set_cons_zero, List.set_cons_succ]
    refine tkOff 9 16 rfl rfl (by kernel_rfl) (by kernel_rfl) (by kernel_rfl) (fun _ _ _ h => h) rfl (by assumption) ?_
    try simp only [Act.put, List.setIfInBounds_toArray, List.set_cons_zero, List.set_cons_succ]
    refine tkRun 10 17 (.bool false) rfl rfl (by kernel_rfl) (by kernel_rfl) (by kernel_rfl) (fun _ _ _ h => h) rfl (fun W hW => by (try dsimp only at hW); go_simp) (by assumption) ?_
    try simp only [Act.put, List.setIfInBounds_toArray, List.set_cons_zero, List.set_cons_succ]
    refine tkRun 11 6 (.bool false) rfl rfl (by kernel_rfl) (by kernel_rfl) (by kernel_rfl) (fun _ _ _ h => h) rfl (fun W hW => by (try dsimp only at hW); go_simp) (by assumption) ?_
    try simp only [Act.put, List.setIfInBounds_toArray, List.set_cons_zero, List.set_cons_succ]
    refine wpAnyH_done (by kernel_rfl) ?_ _
    have hf := HNO.out rfl w4 (box5Below hHeld2)
    go_wp2
    go_ret
    exact ⟨rfl, hf⟩
  · cases q
    · rw [hae] at HNO
      go_enter Try.func113, Try.ntmps113
      go_wp2
      go_region_held3 (fun W => W.cell? ⟨bT, 0, none⟩ = some (.int .i64 p) ∧ W.cell? ⟨bT, 1, none⟩ = some (.slice bo n d) ∧ W.cell? ⟨w.heap.size, 0, none⟩ = some (.slice (some ⟨gv, 0, none⟩) n n) ∧ W.cell? ⟨bq, 0, none⟩ = some (.int .i64 sk) ∧ W.cell? ⟨bC, 0, none⟩ = some (.slice (some ⟨g', 0, none⟩) G c') ∧ Below w.heap.size w W)
        ((first | assumption | exact box5Keep (drewB _) H5.out | exact box5Keep (by assumption) (by assumption)))
        ((first
          | (go_at_call 73; refine Calls.makes' (HN.out _ (box5Below (by assumption))) _ fun v4 hv4 => ?_)
          | (go_at_call 114; refine Calls.makes' (HC.out _ _ (box5Below (by assumption)) (box5V (by assumption))) _ fun v5 hv5 => ?_)))
      rename_i hHeld
      have hf := HNO.out rfl _ (box5Below hHeld)
      go_wp2
      go_ret
      exact ⟨rfl, hf⟩
    · rw [hae] at HYES
      have hy := Lib.hid (HYES.out rfl)
      go_enter Try.func113, Try.ntmps113
      go_wp2
      go_region_held3 (fun W => W.cell? ⟨bT, 0, none⟩ = some (.int .i64 p) ∧ W.cell? ⟨bT, 1, none⟩ = some (.slice bo n d) ∧ W.cell? ⟨w.heap.size, 0, none⟩ = some (.slice (some ⟨gv, 0, none⟩) n n) ∧ W.cell? ⟨bq, 0, none⟩ = some (.int .i64 sk) ∧ W.cell? ⟨bC, 0, none⟩ = some (.slice (some ⟨g', 0, none⟩) G c') ∧ Below w.heap.size w W)
        ((first | assumption | exact box5Keep (drewB _) H5.out | exact box5Keep (by assumption) (by assumption)))
        ((first
          | (go_at_call 73; refine Calls.makes' (HN.out _ (box5Below (by assumption))) _ fun v4 hv4 => ?_)
          | (go_at_call 114; refine Calls.makes' (HC.out _ _ (box5Below (by assumption)) (box5V (by assumption))) _ fun v5 hv5 => ?_)))
      rename_i hHeld
      have hb := hHeld.2.2.2.2.2
      have hs1 := hb.size
      obtain ⟨V, hV, hpush⟩ := HT.out.pushAt hbel.out.size (fun x hx => by rcases hx with h | h | h | h | h <;> omega)
      have HPU := Lib.hid hpush
      have HVV := Lib.hid ((hV.kept hb).drew)
      have hne : g' ≠ bT ∧ g' ≠ bq ∧ g' ≠ bC ∧ g' ≠ gv ∧ g' ≠ bx ∧ w0.heap.size ≤ g' ∧ g' < w.heap.size := by
        have hgl' := hV.lt
        obtain ⟨R, C, _, h2, _⟩ := HT.out.out
        exact ⟨fun e => h2.2 (Or.inl e), fun e => h2.2 (Or.inr (Or.inl e)), fun e => h2.2 (Or.inr (Or.inr (Or.inl e))), fun e => h2.2 (Or.inr (Or.inr (Or.inr (Or.inr e)))), fun e => h2.2 (Or.inr (Or.inr (Or.inr (Or.inl e)))), h2.1, hgl'⟩
      obtain ⟨m1, m2, m3, m4, m7, m5, m6⟩ := hne
      have yC : v5.drew.cell? ⟨bC, 0, none⟩ = some (.slice (some ⟨g', 0, none⟩) G c') := hHeld.2.2.2.2.1
      have yV : v5.drew.cell? ⟨w.heap.size, 0, none⟩ = some (.slice (some ⟨gv, 0, none⟩) n n) := hHeld.2.2.1
      have HHELD := Lib.hid hHeld
      have HOd := Lib.hid ((HO.out.kept hb).drew)
      have hsz1 : v5.drew.heap.size = v5.heap.size := rfl
      clear hHeld hpush hV hv4 hv5 y0 y1 y2 y3 y4 y5 HNO
      go_wp2
      go_region_law (first
        | (go_simp; go_at_call 81; refine (iClone_c gv n n (vecT p n tt) _ HOd.out (by omega)).mono ?_; rintro e w6 ⟨g6, c6, rfl, hg6, hb6, hO6⟩; have y6 : w6.cell? ⟨bC, 0, none⟩ = some (.slice (some ⟨g', 0, none⟩) G c') := cellKp hb6 yC; have y6' : (w6.alloc (.cells #[.slice (some ⟨g6, 0, none⟩) n c6] 24)).cell? ⟨bC, 0, none⟩ = some (.slice (some ⟨g', 0, none⟩) G c') := cellKp ((Below.refl _ _).alloc (Nat.le_refl _) _) y6; have hV6 := HVV.out.kept hb6; have hs6 := hb6.size)
        | (refine step_push rfl _ _ _ _ elR rfl hV6 (.slice (some ⟨g6, 0, none⟩) n c6) rfl rfl rfl (by omega) (by omega) ?_; intro g3 c3 w3 hO3 hg3 hgr3; have y7 : w3.cell? ⟨bC, 0, none⟩ = some (.slice (some ⟨g', 0, none⟩) G c') := (World.cell?_of_block (hgr3.block bC (by omega) (by intro e; injection e with e; exact m3 e.symm))).trans y6; have y8 : w3.frozen? ⟨bC, 0, none⟩ = false := by rw [frz_of_block (w := w6) (hgr3.block bC (by omega) (by intro e; injection e with e; exact m3 e.symm)), frz_of_block (w := v5) (hb6.block bC (by omega)), frz_of_block (w := w) (HHELD.out.2.2.2.2.2.block bC (by omega))]; exact fC))
      all_goals go_wp2
      all_goals go_ret
      all_goals
        have hb' : Below w.heap.size w w6 := hb.drew.trans (hb6.mono hs1)
        have hb0 : Below w0.heap.size w0 w6 := hbel.out.trans (hb'.mono hbel.out.size)
        have hbs := hbel.out.size
        obtain ⟨u, hu⟩ : ∃ u, Value.slice (some ⟨g3, 0, none⟩) (G + 1) c3 = u := ⟨_, rfl⟩
        have hcs : Chg w3 (w3.setCell ⟨bC, 0, none⟩ u) (· = bC) := (Chg.refl w3 (· = bC)).setCell (a := ⟨bC, 0, none⟩) rfl u
        have cw : ∀ b, b ≠ g' → b ≠ bC → b < w6.heap.size → (w3.setCell ⟨bC, 0, none⟩ u).heap[b]? = w6.heap[b]? := fun b h1 h2 h3 => (hcs.block b (by have := hgr3.size; omega) h2).trans (hgr3.block b h3 (by intro e; injection e with e; exact h1 e))
        obtain ⟨r0, r1, r2, r3, r4, r5⟩ := HHELD.out
        have hsq := hgr3.size
        have hyy := hy.out
        have hT9 := ((HPU.out _ _ _ _ _ _ _ _ hb' hO6 (by omega) hO3 hg3 hgr3).chg (Or.inr (Or.inr (Or.inl rfl))) hcs).congr (L' := fun _ => n) (T' := colsF p s t n (G + 1)) (fun i hi => by by_cases e : i = G <;> simp [e]) (fun i j hi hj => by
          by_cases e : i = G
          · subst e; simp only [if_true]; rw [colsF_new, ← hyy]
          · simp only [if_neg e]; rw [colsF_old (by omega)])
        rw [hu]
        refine ⟨rfl, ⟨(hb0.grown hgr3 (by omega) (fun k e => by injection e with e; omega)).setCell (by show _ ≤ bC; omega) _, (World.cell?_of_block (w := w6) (cw bT (Ne.symm m1) (by omega) (by omega))).trans (cellKp hb6 r0), (World.cell?_of_block (w := w6) (cw bT (Ne.symm m1) (by omega) (by omega))).trans (cellKp hb6 r1), ?_, (World.cell?_of_block (w := w6) (cw bx (Ne.symm m7) (by omega) (by omega))).trans (cellKp hb6 (cellKp hb.drew CX.out)), ?_, ⟨o1, o2, o3, o4, o5, by have := hcs.size; omega⟩, g3, c3, G + 1, ?_, ?_, hT9⟩, ?_⟩
        · rw [HSK.out]; exact (World.cell?_of_block (w := w6) (cw bq (Ne.symm m2) (by omega) (by omega))).trans (cellKp hb6 r3)
        · rw [World.frozen?_setCell]; exact y8
        · rw [hu]; exact World.cell?_setCell_same _ _ _ y7
        · rw [if_pos (by omega)]
        · exact ((HOd.out.kept hb6).grown hgr3 (by intro e; injection e with e; exact m4 e)).setOther (by show gv ≠ bC; omega) _

end Go.Proofs.Ytnkflgigbielgaa

/-
  checkSpaces at two spaces. No condition beside sizes.
-/
set_option linter.unusedVariables false
set_option linter.unusedSimpArgs false
namespace Go.Proofs.Ytnkflgigbielgaa
open Go.RowKit

theorem iCkSp1_c (p : Int) (sv : Value) (n : Nat) (s : Nat → Int) (w : World) (h : Ints w sv n s) :
    Calls Try.prog 148 #[dbl p sv] w fun e w' => Makes w w' e (.bool (!spB p n s)) := by
  have H := Lib.hid h
  obtain ⟨ao, c, b, o, rfl, p2, p3, qx⟩ := h.out
  obtain ⟨e0, e1, e2, e3⟩ := box0 w p ao n c 26
  obtain ⟨q, hq⟩ : ∃ q, spB p n s = q := ⟨_, rfl⟩
  have HC := Lib.hid (hq ▸ iIsSp_c p _ n s _ (H.out.below e3))
  rw [hq]
  clear h qx hq
  go_enter Try.func148, Try.ntmps148
  go_wp2_with fail
  refine Calls.makes' HC.out _ fun w1 hb1 => ?_
  have b4 := e3.trans (hb1.mono e3.size)
  go_wp2
  go_ret
  exact ⟨rfl, b4⟩

/-- a list of two spaces -/
structure TwoSp (w : World) (b : Nat) (p : Int) (sv : Value) (p2 : Int) (tv : Value) : Prop where
  c0 : w.cell? ⟨b, 0, none⟩ = some (.int .i64 p)
  c1 : w.cell? ⟨b, 1, none⟩ = some sv
  c2 : w.cell? ⟨b, 2, none⟩ = some (.int .i64 p2)
  c3 : w.cell? ⟨b, 3, none⟩ = some tv
theorem TwoSp.kept {w w' : World} {b : Nat} {p : Int} {sv : Value} {p2 : Int} {tv : Value} (h : TwoSp w b p sv p2 tv) (hb : Below w.heap.size w w') : TwoSp w' b p sv p2 tv := ⟨cellKp hb h.c0, cellKp hb h.c1, cellKp hb h.c2, cellKp hb h.c3⟩

set_option maxRecDepth 100000 in
set_option maxHeartbeats 1000000 in
theorem iIndexSp_c (b : Nat) (p : Int) (sv : Value) (n : Nat) (s : Nat → Int) (p2 : Int) (tv : Value) (n2 : Nat) (t : Nat → Int) (w : World) (h : TwoSp w b p sv p2 tv) (hs : Ints w sv n s) (ht : Ints w tv n2 t) :
    Calls Try.prog 161 #[.slice (some ⟨b, 0, none⟩) 2 2, .func (.func 148) #[] #[]] w fun e w' => Makes w w' e (.int .i64 (if spB p n s then (if spB p2 n2 t then -1 else 1) else 0)) := by
  obtain ⟨q, hq⟩ : ∃ q, spB p n s = q := ⟨_, rfl⟩
  obtain ⟨q2, hq2⟩ : ∃ q, spB p2 n2 t = q := ⟨_, rfl⟩
  have C1 : Hid (∀ W, Below w.heap.size w W → Calls Try.prog 148 #[dbl p sv] W fun e w' => Makes W w' e (.bool (!q))) := fun W hb => hq ▸ iCkSp1_c p sv n s W (hs.below hb)
  have C2 : Hid (∀ W, Below w.heap.size w W → Calls Try.prog 148 #[dbl p2 tv] W fun e w' => Makes W w' e (.bool (!q2))) := fun W hb => hq2 ▸ iCkSp1_c p2 tv n2 t W (ht.below hb)
  rw [hq, hq2]
  have H := Lib.hid h
  clear hs ht hq hq2 h
  go_enter Try.func161, Try.ntmps161
  go_wp2
  go_loopg [8] 2 (fun g i wr => Hid (Below w.heap.size w wr) ∧ ((g = 2 ∧ i = .int .i64 0) ∨ (g = 1 ∧ i = .int .i64 1 ∧ q = true) ∨ (g = 0 ∧ i = .int .i64 2 ∧ q = true ∧ q2 = true)))
  case atStart => exact ⟨Below.refl _ _, Or.inl ⟨rfl, rfl⟩⟩
  case round =>
    obtain ⟨hb, ⟨rfl, rfl⟩ | ⟨rfl, rfl, rfl⟩ | ⟨rfl, rfl, rfl, rfl⟩⟩ := hrel
    · obtain ⟨z0, z1, z2, z3⟩ := H.out.kept hb.out
      go_wp2_with fail
      go_at_call 148
      refine Calls.makes' (C1.out _ (by first | exact hb.out | exact hb.out.trans ((below_drewN _ _).mono hb.out.size))) _ fun w1 hb1 => ?_
      have hb2 := Lib.hid (hb.out.trans (hb1.mono hb.out.size))
      clear z0 z1 z2 z3
      cases q
      · go_wp2
        go_ret
        exact ⟨rfl, hb2.out⟩
      · go_wp2
        go_roundg 1
        case measure => omega
        case rel => exact ⟨hb2.out, Or.inr (Or.inl ⟨rfl, rfl, trivial⟩)⟩
    · obtain ⟨z0, z1, z2, z3⟩ := H.out.kept hb.out
      go_wp2_with fail
      go_at_call 148
      refine Calls.makes' (C2.out _ (by first | exact hb.out | exact hb.out.trans ((below_drewN _ _).mono hb.out.size))) _ fun w1 hb1 => ?_
      have hb2 := Lib.hid (hb.out.trans (hb1.mono hb.out.size))
      clear z0 z1 z2 z3
      cases q2
      · go_wp2
        go_ret
        exact ⟨rfl, hb2.out⟩
      · go_wp2
        go_roundg 0
        case measure => omega
        case rel =>
          first
            | exact ⟨hb2.out, Or.inr (Or.inr ⟨rfl, rfl, trivial, trivial⟩)⟩
            | exact ⟨hb2.out, Or.inr (Or.inr ⟨rfl, rfl, trivial⟩)⟩
            | exact ⟨hb2.out, Or.inr (Or.inr ⟨rfl, rfl, trivial, rfl⟩)⟩
    · go_wp2
      go_ret
      exact ⟨rfl, hb.out⟩

theorem iCkSpaces_c (b : Nat) (p : Int) (sv : Value) (n : Nat) (s : Nat → Int) (p2 : Int) (tv : Value) (n2 : Nat) (t : Nat → Int) (w : World) (h : TwoSp w b p sv p2 tv) (hs : Ints w sv n s) (ht : Ints w tv n2 t) :
    Calls Try.prog 111 #[.slice (some ⟨b, 0, none⟩) 2 2] w fun e w' => Makes w w' e (.int .i64 (if spB p n s && spB p2 n2 t then 0 else 1)) := by
  have HI := Lib.hid (iIndexSp_c b p sv n s p2 tv n2 t w h hs ht)
  obtain ⟨q, hq⟩ : ∃ q, spB p n s = q := ⟨_, rfl⟩
  obtain ⟨q2, hq2⟩ : ∃ q, spB p2 n2 t = q := ⟨_, rfl⟩
  rw [hq, hq2] at HI
  rw [hq, hq2]
  have HK : Hid (Calls Try.prog 147 #[.slice (some ⟨b, 0, none⟩) 2 2, .func (.func 148) #[] #[]] w fun e w' => Makes w w' e (.bool (!(q && q2)))) := by
    show Calls Try.prog 147 #[.slice (some ⟨b, 0, none⟩) 2 2, .func (.func 148) #[] #[]] w fun e w' => Makes w w' e (.bool (!(q && q2)))
    clear hq hq2 h hs ht
    cases q <;> cases q2
    all_goals
      go_enter Try.func147, Try.ntmps147
      go_wp2_with fail
      go_at_call 161
      refine Calls.makes' HI.out _ fun w1 hb1 => ?_
      go_wp2
      go_ret
      exact ⟨rfl, hb1⟩
  clear HI hq hq2 h hs ht
  cases q <;> cases q2
  all_goals
    go_enter Try.func111, Try.ntmps111
    go_wp2_with fail
    go_at_call 147
    refine Calls.makes' HK.out _ fun w1 hb1 => ?_
    go_wp2
    go_ret
    exact ⟨rfl, hb1⟩

end Go.Proofs.Ytnkflgigbielgaa

/-
  The reference's IsometryOf where its spaces are isometric. No condition beside sizes.
-/
set_option linter.unusedVariables false
set_option linter.unusedSimpArgs false
namespace Go.Proofs.Ytnkflgigbielgaa
open Go.RowKit

/-- an owned table whose blocks all lie from B to hi -/
structure OTabH (w : World) (B hi g cap G : Nat) (L : Nat → Nat) (T : Nat → Nat → Int) : Prop where
  out : ∃ R C : Nat → Nat, Own w 24 g cap G (fun i => .slice (some ⟨R i, 0, none⟩) (L i) (C i)) ∧ (B ≤ g ∧ g < hi) ∧
    (∀ i, i < G → Own w 2 (R i) (C i) (L i) (fun j => .int .i64 (T i j)) ∧ B ≤ R i ∧ R i ≠ g ∧ R i < hi) ∧ ∀ i j, i < G → j < i → R i ≠ R j
theorem OTabH.otab {w : World} {B hi g cap G : Nat} {L : Nat → Nat} {T : Nat → Nat → Int} (h : OTabH w B hi g cap G L T) : OTab w B g cap G L T := by
  obtain ⟨R, C, h1, h2, h3, h4⟩ := h.out
  exact ⟨R, C, h1, h2.1, fun i hi => ⟨(h3 i hi).1, (h3 i hi).2.1, (h3 i hi).2.2.1⟩, h4⟩
theorem OTabH.chg {w w' : World} {B hi g cap G : Nat} {L : Nat → Nat} {T : Nat → Nat → Int} {S : Nat → Prop} (h : OTabH w B hi g cap G L T) (hc : Chg w w' S) (hS : ∀ k, S k → k < B ∨ hi ≤ k) : OTabH w' B hi g cap G L T := by
  obtain ⟨R, C, h1, h2, h3, h4⟩ := h.out
  exact ⟨R, C, hc.own h1 (fun e => by have := hS _ e; omega), h2, fun i hi => ⟨hc.own (h3 i hi).1 (fun e => by have := hS _ e; have := (h3 i hi).2; omega), (h3 i hi).2⟩, h4⟩
theorem OTabH.high {w : World} {B hi hi' g cap G : Nat} {L : Nat → Nat} {T : Nat → Nat → Int} (h : OTabH w B hi g cap G L T) (hh : hi ≤ hi') : OTabH w B hi' g cap G L T := by
  obtain ⟨R, C, h1, h2, h3, h4⟩ := h.out
  exact ⟨R, C, h1, ⟨h2.1, by omega⟩, fun i hi => ⟨(h3 i hi).1, (h3 i hi).2.1, (h3 i hi).2.2.1, by have := (h3 i hi).2.2.2; omega⟩, h4⟩
theorem OTabH.own {w : World} {B hi g cap G : Nat} {L : Nat → Nat} {T : Nat → Nat → Int} (h : OTabH w B hi g cap G L T) : ∃ V, Own w 24 g cap G V := by
  obtain ⟨R, C, h1, _⟩ := h.out
  exact ⟨_, h1⟩
/-- an append of a row that lies behind the table's blocks -/
theorem OTabH.push {w : World} {B hi g cap G : Nat} {L : Nat → Nat} {T : Nat → Nat → Int} (h : OTabH w B hi g cap G L T) {r c n : Nat} {X : Nat → Int} (hr : Own w 2 r c n (fun j => .int .i64 (X j))) (hrh : hi ≤ r) (hhi : hi ≤ w.heap.size) : ∃ V, Own w 24 g cap G V ∧
    ∀ (w' : World) (g' cap' : Nat), Own w' 24 g' cap' (G + 1) (fun j => if j = G then .slice (some ⟨r, 0, none⟩) n c else V j) → (g' = g ∨ w.heap.size ≤ g') → w.grownBy w' (some g) →
      OTabH w' B w'.heap.size g' cap' (G + 1) (fun i => if i = G then n else L i) (fun i => if i = G then X else T i) := by
  obtain ⟨R, C, h1, h2, h3, h4⟩ := h.out
  refine ⟨_, h1, fun w' g' cap' hO hg hgr => ?_⟩
  have hgl := h1.lt
  have hrl := hr.lt
  have hol := hO.lt
  have hsz := hgr.size
  refine ⟨fun i => if i = G then r else R i, fun i => if i = G then c else C i, hO.congr fun i hi => ?_, ⟨by omega, hol⟩, fun i hi => ?_, fun i j hi hj => ?_⟩
  · by_cases e : i = G
    · subst e; simp
    · simp [e]
  · by_cases e : i = G
    · subst e; simp only [if_true]
      exact ⟨hr.grown hgr (by intro e; injection e with e; omega), by omega, by omega, by omega⟩
    · have hi' : i < G := by omega
      simp only [if_neg e]
      have h5 := (h3 i hi').1.lt
      have h6 := (h3 i hi').2
      refine ⟨(h3 i hi').1.grown hgr (by intro e; injection e with e; exact h6.2.1 e.symm), h6.1, ?_, by omega⟩
      rcases hg with h | h
      · rw [h]; exact h6.2.1
      · omega
  · by_cases e : i = G
    · subst e
      have := (h3 j hj).2
      simp only [if_true, if_neg (show j ≠ i by omega)]; omega
    · simp only [if_neg e, if_neg (show j ≠ G by omega)]; exact h4 i j (by omega) hj
theorem OTabH.empty (w : World) : OTabH (w.alloc (.cells #[] 24)) w.heap.size (w.heap.size + 1) w.heap.size 0 0 (fun _ => 0) (fun _ _ => 0) :=
  ⟨fun _ => 0, fun _ => 0, Own.empty w 24 _, ⟨Nat.le_refl _, by omega⟩, fun i hi => absurd hi (Nat.not_lt_zero _), fun i j hi => absurd hi (Nat.not_lt_zero _)⟩

theorem dF_reg {p : Int} {n : Nat} {s : Nat → Int} (h : SpOk p n s) : (dF p s n == 0) = !regB s n := by
  rw [disc_reg h.prime h.inp]; unfold regB; simp

theorem OTabH.congr {w : World} {B hi g cap G : Nat} {L L' : Nat → Nat} {T T' : Nat → Nat → Int} (h : OTabH w B hi g cap G L T) (hL : ∀ i, i < G → L i = L' i) (hT : ∀ i j, i < G → j < L i → T i j = T' i j) : OTabH w B hi g cap G L' T' := by
  obtain ⟨R, C, h1, h2, h3, h4⟩ := h.out
  exact ⟨R, C, h1.congr fun i hi => by rw [hL i hi], h2, fun i hi => ⟨by rw [← hL i hi]; exact (h3 i hi).1.congr fun j hj => by rw [hT i j hi hj], (h3 i hi).2⟩, h4⟩
theorem Chg.grownT {w w' : World} {g : Nat} (h : w.grownBy w' (some g)) : Chg w w' (· = g) := ⟨h.os, h.tape, h.output, h.size, fun k hk hne => h.block k hk (fun e => by injection e with e; exact hne e)⟩
theorem bxTwoChg {w W W' : World} {p : Int} {ao : Option Addr} {n c : Nat} {p2 : Int} {bo : Option Addr} {m d g : Nat} (hc : Chg W W' (· = g)) (hg : w.heap.size + 1 < g) (h : Box2 w p ao n c p2 bo m d W) : Box2 w p ao n c p2 bo m d W' :=
  ⟨hc.cellN (by omega) h.1, hc.cellN (by omega) h.2.1, hc.cellN (by omega) h.2.2.1, hc.cellN (by omega) h.2.2.2.1, by have := hc.size; have := h.2.2.2.2.1; omega, h.2.2.2.2.2.trans (hc.below h.2.2.2.2.2.size (fun k e => by have e : k = g := e; omega))⟩
/-- four cells and what a call leaves of them -/
theorem cell4Keep {w W W' : World} {a1 a2 a3 a4 : Nat} {o1 o2 o3 o4 : Nat} {v1 v2 v3 v4 : Value} (hb : Below W.heap.size W W')
    (h : W.cell? ⟨a1, o1, none⟩ = some v1 ∧ W.cell? ⟨a2, o2, none⟩ = some v2 ∧ W.cell? ⟨a3, o3, none⟩ = some v3 ∧ W.cell? ⟨a4, o4, none⟩ = some v4 ∧ Below w.heap.size w W) :
    W'.cell? ⟨a1, o1, none⟩ = some v1 ∧ W'.cell? ⟨a2, o2, none⟩ = some v2 ∧ W'.cell? ⟨a3, o3, none⟩ = some v3 ∧ W'.cell? ⟨a4, o4, none⟩ = some v4 ∧ Below w.heap.size w W' :=
  ⟨cellKp hb h.1, cellKp hb h.2.1, cellKp hb h.2.2.1, cellKp hb h.2.2.2.1, h.2.2.2.2.trans (hb.mono h.2.2.2.2.size)⟩
theorem cell4Below {w W : World} {a1 a2 a3 a4 : Nat} {o1 o2 o3 o4 : Nat} {v1 v2 v3 v4 : Value}
    (h : W.cell? ⟨a1, o1, none⟩ = some v1 ∧ W.cell? ⟨a2, o2, none⟩ = some v2 ∧ W.cell? ⟨a3, o3, none⟩ = some v3 ∧ W.cell? ⟨a4, o4, none⟩ = some v4 ∧ Below w.heap.size w W) : Below w.heap.size w W := h.2.2.2.2

theorem fitB_eq {p : Int} {t : Nat → Int} {n : Nat} {c : Int} {k : Nat} {F : Nat → Nat → Int} {u : Nat} : fitB p t n c k F u = ((pairF p t n (vecT p n u) (vecT p n u) == c) && decide (∀ j, j < k → pairF p t n (vecT p n u) (F j) = 0)) := rfl

set_option maxRecDepth 100000 in
set_option maxHeartbeats 8000000 in
theorem sIsometryOk_c (p : Int) (sv : Value) (n : Nat) (s : Nat → Int) (tv : Value) (t : Nat → Int) (tT : Nat) (w : World) (hs : Ints w sv n s) (ht : Ints w tv n t) (h1 : spB p n s = true) (h2 : spB p n t = true) (r1 : regB s n = true) (r2 : regB t n = true) (hq : ispB p n s p n t = true) (hok : IsoOk p n s t) (hTT : p ^ n = (tT : Int)) (hm : tT ≤ 5000) :
    Calls Try.prog 50 #[dbl p sv, dbl p tv] w fun e w' => ResCT w w' e 0 n (fun _ => n) (fun k i => colsF p s t n n i k) := by
  have HS : Hid (∀ W, Below w.heap.size w W → Ints W sv n s) := fun W hb => hs.below hb
  have HT : Hid (∀ W, Below w.heap.size w W → Ints W tv n t) := fun W hb => ht.below hb
  obtain ⟨ao, c, b, o, rfl, q2, q3, q31, q32⟩ := hs.out
  obtain ⟨bo, d, b2, o2, rfl, q4, q5, qy⟩ := ht.out
  have HK := Lib.hid q32
  have HK0 := Lib.hid q31
  have BX := Lib.hid (box2_0 w p ao n c p bo n d)
  obtain ⟨e0, e1, e2, e3, e4, e5⟩ := BX.out
  have hS := spB_ok h1
  have hT := spB_ok h2
  have hpb := hS.bd
  have hn1 := hS.n1
  have hn6 := hS.n6
  have C1 : Hid (∀ W, Below w.heap.size w W → Calls Try.prog 65 #[dbl p (.slice ao n c)] W fun e w' => Makes W w' e (.bool true)) := fun W hb => h1 ▸ sIsSp_c p _ n s W (HS.out W hb)
  have C2 : Hid (∀ W, Below w.heap.size w W → Calls Try.prog 65 #[dbl p (.slice bo n d)] W fun e w' => Makes W w' e (.bool true)) := fun W hb => h2 ▸ sIsSp_c p _ n t W (HT.out W hb)
  have D1 : Hid (∀ W, Below w.heap.size w W → Calls Try.prog 95 #[dbl p (.slice ao n c)] W fun e w' => Makes W w' e (.int .i64 (dF p s n))) := fun W hb => sDisc_c p _ n s W ⟨HS.out W hb, hS⟩
  have D2 : Hid (∀ W, Below w.heap.size w W → Calls Try.prog 95 #[dbl p (.slice bo n d)] W fun e w' => Makes W w' e (.int .i64 (dF p t n))) := fun W hb => sDisc_c p _ n t W ⟨HT.out W hb, hT⟩
  have hd1 := dF_reg hS
  have hd2 := dF_reg hT
  obtain ⟨x1, hx1⟩ : ∃ x, dF p s n = x := ⟨_, rfl⟩
  obtain ⟨x2, hx2⟩ : ∃ x, dF p t n = x := ⟨_, rfl⟩
  rw [hx1] at hd1 D1
  rw [hx2] at hd2 D2
  rw [r1] at hd1
  rw [r2] at hd2
  have hd1' : (x1 == 0) = false := hd1
  have hd2' : (x2 == 0) = false := hd2
  have I1 : Hid (∀ W, Below w.heap.size w W → Calls Try.prog 109 #[dbl p (.slice ao n c), dbl p (.slice bo n d)] W fun e w' => Makes W w' e (.bool (ispB p n s p n t))) := fun W hb => sIsometric_c p _ n s p _ n t W ⟨HS.out W hb, hS⟩ ⟨HT.out W hb, hT⟩ r1 r2
  rw [hq] at I1
  have M1 : Hid (∀ W, Below w.heap.size w W → Calls Try.prog 83 #[dbl p (.slice ao n c)] W fun e w' => Makes W w' e (.bool (decide (5000 < (tT : Int))))) := fun W hb => hTT ▸ sMany_c p _ n s W ⟨HS.out W hb, hS⟩
  rw [decide_eq_false (show ¬ 5000 < (tT : Int) by omega)] at M1
  have FL := Lib.hid (fun k (hk : k < n) => fit_lt hok hTT hk)
  have FP := Lib.hid (fun k (hk : k < n) => fit_pos hok hTT hk)
  have CI := Lib.hid (cols_in (p := p) (by omega) s t n)
  have HTT := Lib.hid hTT
  have HVT : Hid (∀ W, Below w.heap.size w W → SV W (.slice bo n d) p n t) := fun W hb => ⟨HT.out W hb, hT⟩
  clear hs ht h1 h2 hx1 hx2 r1 r2 hd1 hd2 hq hTT hok hS hT qy q31 q32
  go_enter Try.func50, Try.ntmps50
  go_wp2_with fail
  refine Calls.makes' (C1.out _ e5) _ fun w1 hb1 => ?_
  have BX1 := Lib.hid (bxTwoKeep hb1 BX.out)
  obtain ⟨f10, f11, f12, f13, f14, f15⟩ := BX1.out
  clear e0 e1 e2 e3 e4 e5 hb1
  go_wp2_with fail
  go_at_call 65
  refine Calls.makes' (C2.out _ f15) _ fun w2 hb2 => ?_
  have BX2 := Lib.hid (bxTwoKeep hb2 BX1.out)
  obtain ⟨f20, f21, f22, f23, f24, f25⟩ := BX2.out
  clear f10 f11 f12 f13 f14 f15 hb2
  go_wp2_with fail
  go_at_call 95
  refine Calls.makes' (D1.out _ f25) _ fun w3 hb3 => ?_
  have BX3 := Lib.hid (bxTwoKeep hb3 BX2.out)
  obtain ⟨f30, f31, f32, f33, f34, f35⟩ := BX3.out
  clear f20 f21 f22 f23 f24 f25 hb3
  go_wp2_with fail
  go_at_call 95
  refine Calls.makes' (D2.out _ f35) _ fun w4 hb4 => ?_
  have BX4 := Lib.hid (bxTwoKeep hb4 BX3.out)
  obtain ⟨f40, f41, f42, f43, f44, f45⟩ := BX4.out
  clear f30 f31 f32 f33 f34 f35 hb4
  go_wp2_with fail
  go_at_call 109
  refine Calls.makes' (I1.out _ f45) _ fun w5 hb5 => ?_
  have BX5 := Lib.hid (bxTwoKeep hb5 BX4.out)
  obtain ⟨f50, f51, f52, f53, f54, f55⟩ := BX5.out
  clear f40 f41 f42 f43 f44 f45 hb5
  go_wp2_with fail
  go_at_call 83
  refine Calls.makes' (M1.out _ f55) _ fun w6 hb6 => ?_
  have BX6 := Lib.hid (bxTwoKeep hb6 BX5.out)
  obtain ⟨f60, f61, f62, f63, f64, f65⟩ := BX6.out
  clear f50 f51 f52 f53 f54 f55 hb6
  have hE := OTabH.empty w6
  have hba : Below w6.heap.size w6 (w6.alloc (.cells #[] 24)) := (Below.refl _ _).alloc (Nat.le_refl _) _
  have BX7 := Lib.hid (bxTwoKeep hba BX6.out)
  have hsz : (w6.alloc (.cells #[] 24)).heap.size = w6.heap.size + 1 := alloc_size _ _
  have hw6 : w.heap.size + 1 < w6.heap.size := BX6.out.2.2.2.2.1
  have HE : Hid (OTabH (w6.alloc (.cells #[] 24)) w6.heap.size (w6.alloc (.cells #[] 24)).heap.size w6.heap.size 0 0 (fun _ => n) (colsF p s t n 0)) := by
    show OTabH (w6.alloc (.cells #[] 24)) w6.heap.size (w6.alloc (.cells #[] 24)).heap.size w6.heap.size 0 0 (fun _ => n) (colsF p s t n 0)
    rw [hsz]
    exact hE.congr (fun i hi => absurd hi (Nat.not_lt_zero _)) (fun i j hi => absurd hi (Nat.not_lt_zero _))
  clear hE hba
  obtain ⟨B6, hB6⟩ : ∃ B, w6.heap.size = B := ⟨_, rfl⟩
  rw [hB6] at HE hw6
  clear BX BX1 BX2 BX3 BX4 BX5 BX6 f60 f61 f62 f63 f64 f65
  go_wp2
  try rw [hB6]
  clear hB6 hsz
  go_loopg [6, 7] n (fun gg sl iv wr => ∃ (k g' c' : Nat), k ≤ n ∧ gg = n - k ∧ iv = .int .i64 k ∧ sl = .slice (some ⟨g', 0, none⟩) k c' ∧ Hid (Box2 w p ao n c p bo n d wr) ∧ Hid (OTabH wr B6 wr.heap.size g' c' k (fun _ => n) (colsF p s t n k)))
  case atStart => exact ⟨0, B6, 0, Nat.zero_le _, rfl, rfl, rfl, BX7.out, HE.out⟩
  case round =>
    obtain ⟨k, g', c', hk, rfl, rfl, rfl, hbx, hT⟩ := hrel
    obtain ⟨wo, rfl⟩ : ∃ wo, wo = wr := ⟨_, rfl⟩
    clear BX7 HE
    obtain ⟨e0, e1, e2, e3, e4, e5⟩ := hbx.out
    by_cases hlt : k < n
    · obtain rfl := HK0.out (by omega)
      obtain ⟨sk, hsk⟩ : ∃ z, s k = z := ⟨_, rfl⟩
      have zs : Hid (∀ W, Below w.heap.size w W → W.cell? ⟨b, o + k, none⟩ = some (.int .i64 sk)) := fun W hb => by
        rw [hb.cell (p := ⟨b, o + k, none⟩) (lt_of_cell (HK.out k hlt)), ← hsk]; exact HK.out k hlt
      have FLk := Lib.hid (FL.out k hlt)
      have FPk := Lib.hid (FP.out k hlt)
      have HSK := Lib.hid hsk
      have CIk := Lib.hid (CI.out k)
      rw [hsk] at FLk FPk
      obtain ⟨fN, hfN⟩ : ∃ z, fitN p t n sk k (colsF p s t n k) = z := ⟨_, rfl⟩
      rw [hfN] at FLk FPk
      have HFN := Lib.hid hfN
      obtain ⟨F, hF⟩ : ∃ F, colsF p s t n k = F := ⟨_, rfl⟩
      rw [hF] at hT FLk HFN CIk
      have HF := Lib.hid hF
      have i0 : (0 : Int) ≤ (k : Int) := by omega
      have i1 : (k : Int) < (n : Int) := by omega
      clear hsk hfN hF
      go_wp2_with (at_make; refine wpList_mkA _ rfl _ _ _ _ elI rfl rfl .i64 .i64 n rfl rfl (by omega) (by omega) ?_; intro W3 hB3 hS3 hO3; have HS3 := Lib.hid hS3; clear hS3)
      obtain ⟨gv, hgv⟩ : ∃ gv, wo.heap.size = gv := ⟨_, rfl⟩
      have BX3 := Lib.hid (bxTwoKeep hB3 hbx.out)
      have HT3 := Lib.hid (hT.out.chg (Chg.of_below hB3 (fun _ => False)) (fun k e => e.elim))
      rw [hgv] at hO3 e4 HT3
      try rw [hgv]
      have HO3 : Hid (Own W3 2 gv n n (fun i => .int .i64 (vecT p n 0 i))) := hO3.congr fun i hi => by rw [vecT_zero]
      have hg6 : B6 ≤ g' ∧ g' < gv := by
        obtain ⟨_, _, _, q, _⟩ := HT3.out.out
        exact q
      clear hO3 hB3 HS3 hbx e0 e1 e2 e3 e5 hT hgv
      go_loopg [9, 10] tT (fun g (f : Value) (jj : Value) wr => ∃ u : Nat, u < tT ∧ g = tT - u ∧ Hid (Box2 w p (some ⟨b, o, none⟩) n c p bo n d wr) ∧ Hid (Own wr 2 gv n n (fun i => .int .i64 (vecT p n u i))) ∧ Hid (OTabH wr B6 gv g' c' k (fun _ => n) F) ∧ Hid (∀ x, x ≤ u → fitB p t n sk k F x = false))
      case atStart => exact ⟨0, by have := FLk.out.1; omega, rfl, BX3.out, HO3.out, HT3.out, fun x hx => FLk.out.2.2 x (by have := FPk.out; omega)⟩
      case round =>
        obtain ⟨u, hu, rfl, hbx2, hO2, hT2, hU2⟩ := hrel
        clear BX3 HO3 HT3
        obtain ⟨f0, f1, f2, f3, f4, f5⟩ := hbx2.out
        have HN := Lib.hid (sNextT_c p n tT u _ gv (by omega) (by omega) HTT.out hu hO2.out)
        go_wp2_with fail
        go_at_call 84
        refine HN.out.mono ?_
        rintro e w8 ⟨bb, rfl, hc, hcase⟩
        have BX8 := Lib.hid (bxTwoChg hc (by omega) hbx2.out)
        have HT8 := Lib.hid (hT2.out.chg hc (fun k e => Or.inr (by have e : k = gv := e; omega)))
        clear f0 f1 f2 f3 f4 f5 hc HN hbx2 hO2 hT2
        obtain ⟨f0, f1, f2, f3, f4, f5⟩ := BX8.out
        rcases hcase with ⟨rfl, hn1, hO8⟩ | ⟨rfl, hn1⟩
        · have HO8 := Lib.hid hO8
          have hvi := vecT_in (p := p) (by omega) n (u + 1) n
          obtain ⟨a, ha⟩ : ∃ a, pairF p t n (vecT p n (u + 1)) (vecT p n (u + 1)) = a := ⟨_, rfl⟩
          have HP : Hid (∀ W, Below w8.heap.size w8 W → Calls Try.prog 67 #[dbl p (.slice bo n d), .slice (some ⟨gv, 0, none⟩) n n, .slice (some ⟨gv, 0, none⟩) n n] W fun e w' => Makes W w' e (.int .i64 a)) := fun W hb => ha ▸ sPair_c p _ _ _ n t _ _ W (HVT.out W (f5.trans (hb.mono f5.size))) ⟨(HO8.out.kept hb).ints, hvi⟩ ⟨(HO8.out.kept hb).ints, hvi⟩
          have hfb : Hid (fitB p t n sk k F (u + 1) = ((a == sk) && decide (∀ j, j < k → pairF p t n (vecT p n (u + 1)) (F j) = 0))) := by
            show fitB p t n sk k F (u + 1) = ((a == sk) && decide (∀ j, j < k → pairF p t n (vecT p n (u + 1)) (F j) = 0))
            rw [fitB_eq, ha]
          obtain ⟨q0, hq0⟩ : ∃ q, (a == sk) = q := ⟨_, rfl⟩
          rw [hq0] at hfb
          have zk := zs.out _ f5
          have H4 : Hid (w8.cell? ⟨w.heap.size, 1, none⟩ = some (.slice (some ⟨b, o, none⟩) n c) ∧ w8.cell? ⟨w.heap.size + 1, 0, none⟩ = some (.int .i64 p) ∧ w8.cell? ⟨w.heap.size + 1, 1, none⟩ = some (.slice bo n d) ∧ w8.cell? ⟨b, o + k, none⟩ = some (.int .i64 sk) ∧ Below w8.heap.size w8 w8) := ⟨f1, f2, f3, zk, Below.refl _ _⟩
          clear ha hO8 hvi f0 f1 f2 f3 zk
          go_wp2
          go_region_held3 (fun W => W.cell? ⟨w.heap.size, 1, none⟩ = some (.slice (some ⟨b, o, none⟩) n c) ∧ W.cell? ⟨w.heap.size + 1, 0, none⟩ = some (.int .i64 p) ∧ W.cell? ⟨w.heap.size + 1, 1, none⟩ = some (.slice bo n d) ∧ W.cell? ⟨b, o + k, none⟩ = some (.int .i64 sk) ∧ Below w8.heap.size w8 W)
            ((first | assumption | exact cell4Keep (drewB _) H4.out | exact cell4Keep (by assumption) (by assumption)))
            ((first
              | (go_at_call 67; refine Calls.makes' (HP.out _ (cell4Below (by assumption))) _ fun v4 hv4 => ?_)))
          rename_i hHeld
          have hb9 := Lib.hid (cell4Below hHeld)
          clear hHeld HP
          go_wp2
          go_loopg [9, 10] (k + 1) (fun g (fl : Value) jv wq => ∃ (f : Bool) (j : Nat), j ≤ k ∧ jv = .int .i64 j ∧ fl = .bool f ∧ Hid (Below w8.heap.size w8 wq) ∧ ((f = true ∧ g = k - j + 1 ∧ Hid (q0 = true ∧ ∀ i, i < j → pairF p t n (vecT p n (u + 1)) (F i) = 0)) ∨ (f = false ∧ Hid (fitB p t n sk k F (u + 1) = false))))
          case atStart =>
            refine ⟨q0, 0, Nat.zero_le _, rfl, by first | rfl | rw [hq0], hb9.out, ?_⟩
            cases q0
            · exact Or.inr ⟨rfl, by show fitB p t n sk k F (u + 1) = false; rw [hfb.out]; rfl⟩
            · exact Or.inl ⟨rfl, rfl, rfl, fun i hi => absurd hi (Nat.not_lt_zero _)⟩
          case round =>
            obtain ⟨f, j, hj, rfl, rfl, hbq, hcs⟩ := hrel
            clear hb9 hq0 FL FP CI M1 C1 C2 D1 D2 I1 HS HT
            rcases hcs with ⟨rfl, rfl, hall⟩ | ⟨rfl, hno⟩
            · by_cases hlt3 : j < k
              · obtain ⟨R, C, o1, o2, o3, o4⟩ := HT8.out.out
                have zt := cellKp hbq.out (o1.cell hlt3)
                have hrj := Lib.hid (o3 j hlt3).1
                have hvi := vecT_in (p := p) (by omega) n (u + 1) n
                obtain ⟨a3, ha3⟩ : ∃ a, pairF p t n (vecT p n (u + 1)) (F j) = a := ⟨_, rfl⟩
                have HP3 : Hid (∀ W, Below w8.heap.size w8 W → Calls Try.prog 67 #[dbl p (.slice bo n d), .slice (some ⟨gv, 0, none⟩) n n, .slice (some ⟨R j, 0, none⟩) n (C j)] W fun e w' => Makes W w' e (.int .i64 a3)) := fun W hb => ha3 ▸ sPair_c p _ _ _ n t _ _ W (HVT.out W (f5.trans (hb.mono f5.size))) ⟨(HO8.out.kept hb).ints, hvi⟩ ⟨(hrj.out.kept hb).ints, CIk.out j hlt3⟩
                obtain ⟨g0, g1, g2, g3, g4, g5⟩ := bxTwoKeep hbq.out BX8.out
                have H5 : Hid (wr.cell? ⟨w.heap.size, 1, none⟩ = some (.slice (some ⟨b, o, none⟩) n c) ∧ wr.cell? ⟨w.heap.size + 1, 0, none⟩ = some (.int .i64 p) ∧ wr.cell? ⟨w.heap.size + 1, 1, none⟩ = some (.slice bo n d) ∧ wr.cell? ⟨g', j, none⟩ = some (.slice (some ⟨R j, 0, none⟩) n (C j)) ∧ Below w8.heap.size w8 wr) := ⟨g1, g2, g3, zt, hbq.out⟩
                have j0 : (0 : Int) ≤ (j : Int) := by omega
                have j1 : (j : Int) < (k : Int) := by omega
                have HA3 := Lib.hid ha3
                clear g0 g1 g2 g3 g4 g5 zt hrj hvi o1 o2 o3 o4 ha3
                cases hq3 : (a3 == 0)
                · go_wp2
                  go_region_held3 (fun W => W.cell? ⟨w.heap.size, 1, none⟩ = some (.slice (some ⟨b, o, none⟩) n c) ∧ W.cell? ⟨w.heap.size + 1, 0, none⟩ = some (.int .i64 p) ∧ W.cell? ⟨w.heap.size + 1, 1, none⟩ = some (.slice bo n d) ∧ W.cell? ⟨g', j, none⟩ = some (.slice (some ⟨R j, 0, none⟩) n (C j)) ∧ Below w8.heap.size w8 W)
                    ((first | assumption | exact cell4Keep (drewB _) H5.out | exact cell4Keep (by assumption) (by assumption)))
                    ((first
                      | (go_at_call 67; refine Calls.makes' (HP3.out _ (cell4Below (by assumption))) _ fun v4 hv4 => ?_)))
                  rename_i hHeld
                  have hbn := Lib.hid (cell4Below hHeld)
                  clear hHeld HP3 H5
                  go_wp2
                  go_roundg (k - j)
                  case measure => omega
                  case rel => exact ⟨false, j + 1, by omega, by go_num, rfl, hbn.out, Or.inr ⟨rfl, by
                    show fitB p t n sk k F (u + 1) = false
                    rw [hfb.out, decide_eq_false (fun h => by have h1 := h j hlt3; rw [HA3.out] at h1; rw [h1] at hq3; exact absurd hq3 (by decide)), Bool.and_false]⟩⟩
                · go_wp2
                  go_region_held3 (fun W => W.cell? ⟨w.heap.size, 1, none⟩ = some (.slice (some ⟨b, o, none⟩) n c) ∧ W.cell? ⟨w.heap.size + 1, 0, none⟩ = some (.int .i64 p) ∧ W.cell? ⟨w.heap.size + 1, 1, none⟩ = some (.slice bo n d) ∧ W.cell? ⟨g', j, none⟩ = some (.slice (some ⟨R j, 0, none⟩) n (C j)) ∧ Below w8.heap.size w8 W)
                    ((first | assumption | exact cell4Keep (drewB _) H5.out | exact cell4Keep (by assumption) (by assumption)))
                    ((first
                      | (go_at_call 67; refine Calls.makes' (HP3.out _ (cell4Below (by assumption))) _ fun v4 hv4 => ?_)))
                  rename_i hHeld
                  have hbn := Lib.hid (cell4Below hHeld)
                  clear hHeld HP3 H5
                  go_wp2
                  go_roundg (k - (j + 1) + 1)
                  case measure => omega
                  case rel => exact ⟨true, j + 1, by omega, by go_num, rfl, hbn.out, Or.inl ⟨rfl, rfl, hall.out.1, fun i hi => by
                    by_cases e : i = j
                    · subst e; rw [HA3.out]; simpa using hq3
                    · exact hall.out.2 i (by omega)⟩⟩
              · obtain rfl : k = j := by omega
                have hfit : fitB p t n sk k F (u + 1) = true := by rw [hfb.out, hall.out.1, decide_eq_true hall.out.2]; rfl
                have hun : Hid (u + 1 = fN) := by
                  show u + 1 = fN
                  obtain ⟨l1, l2, l3⟩ := FLk.out
                  rcases Nat.lt_trichotomy (u + 1) fN with h | h | h
                  · rw [l3 _ h] at hfit; exact absurd hfit (by decide)
                  · exact h
                  · rw [hU2.out fN (by omega)] at l2; exact absurd l2 (by decide)
                have hO9 := HO8.out.kept hbq.out
                have hT9 := HT8.out.chg (Chg.of_below hbq.out (fun _ => False)) (fun k e => e.elim)
                have hgl := hO9.lt
                obtain ⟨V, hOw, hpush⟩ := hT9.push hO9 (Nat.le_refl _) (by omega)
                have HPU := Lib.hid hpush
                have BX9 := Lib.hid (bxTwoKeep hbq.out BX8.out)
                have hnot : ¬ ((k : Int) < (k : Int)) := by omega
                clear hpush hfit hT9 hO9 hall hfb HT8 HO8 BX8 f4 f5
                go_wp2_with (at_builtin; refine wpList_push _ rfl _ _ _ _ elR rfl hOw (.slice (some ⟨gv, 0, none⟩) n n) rfl rfl rfl (by omega) (by omega) ?_; intro g3 c3 w4 hO4 hg4 hgr4)
                go_roundg (n - (k + 1))
                case measure => omega
                case rel =>
                  refine ⟨k + 1, g3, c3, by omega, rfl, by go_num, rfl, bxTwoChg (Chg.grownT hgr4) (by omega) BX9.out, (HPU.out _ _ _ hO4 hg4 hgr4).congr (fun i hi => by by_cases e : i = k <;> simp [e]) (fun i j hi hj => ?_)⟩
                  by_cases e : i = k
                  · subst e
                    rw [if_pos rfl, colsF_new, HSK.out, HF.out, HFN.out, hun.out]
                  · rw [if_neg e, colsF_old (by omega), HF.out]
            · have BX9 := Lib.hid (bxTwoKeep hbq.out BX8.out)
              have HO9 := Lib.hid (HO8.out.kept hbq.out)
              have HT9 := Lib.hid (HT8.out.chg (Chg.of_below hbq.out (fun _ => False)) (fun k e => e.elim))
              have hU9 : Hid (∀ x, x ≤ u + 1 → fitB p t n sk k F x = false) := fun x hx => by
                by_cases e : x = u + 1
                · subst e; exact hno.out
                · exact hU2.out x (by omega)
              clear HT8 HO8 f4 f5 hno hU2 hfb
              by_cases hlt3 : (j : Int) < (k : Int)
              all_goals
                go_wp2
                go_roundg (tT - (u + 1))
                case measure => omega
                case rel => exact ⟨u + 1, hn1, rfl, BX9.out, HO9.out, HT9.out, hU9.out⟩
        · exfalso
          have h1 := FLk.out.2.1
          rw [hU2.out fN (by have := FLk.out.1; omega)] at h1
          exact absurd h1 (by decide)
    · obtain rfl : n = k := by omega
      have HTU := Lib.hid (sTurn_c (.slice (some ⟨g', 0, none⟩) n c') n n (fun _ => n) (colsF p s t n n) _ hT.out.otab.tab (by omega) (by omega) (by omega) rfl (fun i hi => Nat.le_refl _))
      go_wp2_with fail
      go_at_call 110
      refine HTU.out.mono ?_
      rintro e w9 ⟨g9, c9, rfl, hb9, hO9⟩
      have hb := e5.trans (hb9.mono e5.size)
      have hsz := e5.size
      go_wp2
      go_ret2
      exact ⟨hb, Or.inl ⟨rfl, g9, c9, rfl, hO9.mono hsz⟩⟩

end Go.Proofs.Ytnkflgigbielgaa

/-
  The program's IsometryOf where its spaces are isometric. No condition beside sizes.
-/
set_option linter.unusedVariables false
set_option linter.unusedSimpArgs false
namespace Go.Proofs.Ytnkflgigbielgaa
open Go.RowKit

theorem OTabS.turn {w : World} {B : Nat} {S S' : Nat → Prop} {g cap G : Nat} {L : Nat → Nat} {T : Nat → Nat → Int} (h : OTabS w B S g cap G L T) (hS : ∀ x, S' x → S x ∨ w.heap.size ≤ x) : OTabS w B S' g cap G L T := by
  obtain ⟨R, C, h1, h2, h3, h4⟩ := h.out
  refine ⟨R, C, h1, ⟨h2.1, fun e => ?_⟩, fun i hi => ⟨(h3 i hi).1, (h3 i hi).2.1, (h3 i hi).2.2.1, fun e => ?_⟩, h4⟩
  · have := h1.lt
    rcases hS _ e with h | h
    · exact h2.2 h
    · omega
  · have := (h3 i hi).1.lt
    rcases hS _ e with h | h
    · exact (h3 i hi).2.2.2 h
    · omega

/-- what stands between two columns -/
structure IsoL (w : World) (p : Int) (s t : Nat → Int) (bo : Option Addr) (n d bT bC k : Nat) (W : World) : Prop where
  below : Below w.heap.size w W
  c0 : W.cell? ⟨bT, 0, none⟩ = some (.int .i64 p)
  c1 : W.cell? ⟨bT, 1, none⟩ = some (.slice bo n d)
  fC : W.frozen? ⟨bC, 0, none⟩ = false
  ord : w.heap.size ≤ bT ∧ bT < bC ∧ bC < W.heap.size
  tab : ∃ g' c', W.cell? ⟨bC, 0, none⟩ = some (.slice (some ⟨g', 0, none⟩) k c') ∧ OTabS W w.heap.size (fun x => x = bT ∨ x = bC) g' c' k (fun _ => n) (colsF p s t n k)
theorem IsoL.imJ {w : World} {p : Int} {s t : Nat → Int} {bo : Option Addr} {n d bT bC k gv bx : Nat} {W W' : World} (h : IsoL w p s t bo n d bT bC k W) (hb : Below W.heap.size W W') (hq : W'.cell? ⟨W.heap.size, 0, none⟩ = some (.int .i64 (s k))) (hx : W'.cell? ⟨bx, 0, none⟩ = some (.int .i64 p)) (h1 : W.heap.size < bx) (h2 : bx < gv) (h3 : gv < W'.heap.size) : ImJ w p s t bo n d k bT bC W.heap.size bx 0 gv W' := by
  obtain ⟨o1, o2, o3⟩ := h.ord
  obtain ⟨g', c', q1, q2⟩ := h.tab
  refine ⟨h.below.trans (hb.mono h.below.size), cellKp hb h.c0, cellKp hb h.c1, hq, hx, ?_, ⟨o1, o2, o3, h1, h2, h3⟩, g', c', k, cellKp hb q1, by rw [if_neg (Nat.not_lt_zero _)]; rfl, ?_⟩
  · rw [frz_of_block (w := W) (hb.block bC o3)]; exact h.fC
  · refine (q2.turn (S' := boxS bT W.heap.size bC bx gv) fun x hx => ?_).kept hb
    rcases hx with h | h | h | h | h
    · exact Or.inl (Or.inl h)
    · exact Or.inr (by omega)
    · exact Or.inl (Or.inr h)
    · exact Or.inr (by omega)
    · exact Or.inr (by omega)
theorem IsoL.next {w : World} {p : Int} {s t : Nat → Int} {bo : Option Addr} {n d bT bC bq bx k tt gv : Nat} {W : World} (h : ImJ w p s t bo n d k bT bC bq bx (tt + 1) gv W) (hf : fitN p t n (s k) k (colsF p s t n k) = tt) : IsoL w p s t bo n d bT bC (k + 1) W := by
  obtain ⟨o1, o2, o3, o4, o5, o6⟩ := h.ord
  obtain ⟨g', c', G, q1, q2, q3⟩ := h.tab
  rw [hf, if_pos (by omega)] at q2
  subst q2
  exact ⟨h.below, h.c0, h.c1, h.fC, ⟨o1, o2, by omega⟩, g', c', q1, q3.turn fun x hx => Or.inl (by rcases hx with h | h <;> simp [boxS, h])⟩

theorem two0 (W : World) (b : Nat) (p : Int) (sv : Value) (p2 : Int) (tv : Value) (ty : TypeId) (hb : W.heap.size = b) : TwoSp (W.alloc (.cells #[.int .i64 p, sv, .int .i64 p2, tv] ty)) b p sv p2 tv := by
  subst hb
  have hO := Own.new W ty #[.int .i64 p, sv, .int .i64 p2, tv] (fun i => if i = 0 then .int .i64 p else if i = 1 then sv else if i = 2 then .int .i64 p2 else tv) (by simp) (fun i hi => by
    simp at hi
    match i, hi with
    | 0, _ => rfl
    | 1, _ => rfl
    | 2, _ => rfl
    | 3, _ => rfl)
  exact ⟨hO.cell (i := 0) (by simp), hO.cell (i := 1) (by simp), hO.cell (i := 2) (by simp), hO.cell (i := 3) (by simp)⟩

set_option maxRecDepth 100000 in
set_option maxHeartbeats 8000000 in
theorem iIsometryOk_c (p : Int) (sv : Value) (n : Nat) (s : Nat → Int) (tv : Value) (t : Nat → Int) (tT : Nat) (w : World) (hs : Ints w sv n s) (ht : Ints w tv n t) (h1 : spB p n s = true) (h2 : spB p n t = true) (r1 : regB s n = true) (r2 : regB t n = true) (hq : ispB p n s p n t = true) (hok : IsoOk p n s t) (hTT : p ^ n = (tT : Int)) (hm : tT ≤ 5000) :
    Calls Try.prog 51 #[dbl p sv, dbl p tv] w fun e w' => ResCT w w' e 0 n (fun _ => n) (fun k i => colsF p s t n n i k) := by
  have HS : Hid (∀ W, Below w.heap.size w W → Ints W sv n s) := fun W hb => hs.below hb
  have HT : Hid (∀ W, Below w.heap.size w W → Ints W tv n t) := fun W hb => ht.below hb
  obtain ⟨ao, c, b, o, rfl, q2, q3, q31, q32⟩ := hs.out
  obtain ⟨bo, d, b2, o2, rfl, q4, q5, qy⟩ := ht.out
  have HK := Lib.hid q32
  have HK0 := Lib.hid q31
  have BX := Lib.hid (box2_0 w p ao n c p bo n d)
  obtain ⟨e0, e1, e2, e3, e4, e5⟩ := BX.out
  have hS := spB_ok h1
  have hT := spB_ok h2
  have hpb := hS.bd
  have hn1 := hS.n1
  have hn6 := hS.n6
  have CK : Hid (∀ W b, Below w.heap.size w W → TwoSp W b p (.slice ao n c) p (.slice bo n d) → Calls Try.prog 111 #[.slice (some ⟨b, 0, none⟩) 2 2] W fun e w' => Makes W w' e (.int .i64 0)) := fun W b hb hw => by
    have h := iCkSpaces_c b p _ n s p _ n t W hw (HS.out W hb) (HT.out W hb)
    rw [h1, h2] at h
    exact h
  have R1 : Hid (∀ W, Below w.heap.size w W → Calls Try.prog 91 #[dbl p (.slice ao n c)] W fun e w' => Makes W w' e (.bool true)) := fun W hb => r1 ▸ iReg_c p _ n s W (HS.out W hb)
  have R2 : Hid (∀ W, Below w.heap.size w W → Calls Try.prog 91 #[dbl p (.slice bo n d)] W fun e w' => Makes W w' e (.bool true)) := fun W hb => r2 ▸ iReg_c p _ n t W (HT.out W hb)
  have I1 : Hid (∀ W, Below w.heap.size w W → Calls Try.prog 112 #[dbl p (.slice ao n c), dbl p (.slice bo n d)] W fun e w' => Makes W w' e (.bool (ispB p n s p n t))) := fun W hb => iIsometric_c p _ n s p _ n t W ⟨HS.out W hb, hS⟩ ⟨HT.out W hb, hT⟩ r1 r2
  rw [hq] at I1
  have M1 : Hid (∀ W, Below w.heap.size w W → Calls Try.prog 78 #[dbl p (.slice ao n c)] W fun e w' => Makes W w' e (.bool (decide (5000 < (tT : Int))))) := fun W hb => hTT ▸ iMany_c p _ n s W ⟨HS.out W hb, hS⟩
  rw [decide_eq_false (show ¬ 5000 < (tT : Int) by omega)] at M1
  have FL := Lib.hid (fun k (hk : k < n) => fit_lt hok hTT hk)
  have HTT := Lib.hid hTT
  have HVT : Hid (SV w (.slice bo n d) p n t) := ⟨HT.out w (Below.refl _ _), hT⟩
  have hsz : ((w.alloc (.cells #[.int .i64 p, .slice ao n c] 26)).alloc (.cells #[.int .i64 p, .slice bo n d] 26)).heap.size = w.heap.size + 1 + 1 := by rw [alloc_size, alloc_size]
  have TW := Lib.hid (two0 ((w.alloc (.cells #[.int .i64 p, .slice ao n c] 26)).alloc (.cells #[.int .i64 p, .slice bo n d] 26)) (w.heap.size + 1 + 1) p (.slice ao n c) p (.slice bo n d) 26 hsz)
  have BA := Lib.hid (bxTwoKeep ((Below.refl _ _).alloc (Nat.le_refl _) (.cells #[.int .i64 p, .slice ao n c, .int .i64 p, .slice bo n d] 26)) BX.out)
  have hmf : ∀ (fn : Fn) (first cap : Array Value) (w : World), (Instr.makeFunc fn first cap).run Try.prog w = .ok (.func fn first cap) w := fun _ _ _ _ => rfl
  clear hs ht h1 h2 r1 r2 hq hTT hok hS hT qy q31 q32
  go_enter Try.func51, Try.ntmps51
  go_wp2_with fail
  go_at_call 111
  refine Calls.makes' (CK.out _ _ BA.out.2.2.2.2.2 TW.out) _ fun w1 hb1 => ?_
  have BX1 := Lib.hid (bxTwoKeep hb1 BA.out)
  obtain ⟨f10, f11, f12, f13, f14, f15⟩ := BX1.out
  clear e0 e1 e2 e3 e4 e5 hb1 BA TW
  go_wp2_with fail
  go_at_call 91
  refine Calls.makes' (R1.out _ f15) _ fun w2 hb2 => ?_
  have BX2 := Lib.hid (bxTwoKeep hb2 BX1.out)
  obtain ⟨f20, f21, f22, f23, f24, f25⟩ := BX2.out
  clear f10 f11 f12 f13 f14 f15 hb2
  go_wp2_with fail
  go_at_call 91
  refine Calls.makes' (R2.out _ f25) _ fun w3 hb3 => ?_
  have BX3 := Lib.hid (bxTwoKeep hb3 BX2.out)
  obtain ⟨f30, f31, f32, f33, f34, f35⟩ := BX3.out
  clear f20 f21 f22 f23 f24 f25 hb3
  go_wp2_with fail
  go_at_call 112
  refine Calls.makes' (I1.out _ f35) _ fun w4 hb4 => ?_
  have BX4 := Lib.hid (bxTwoKeep hb4 BX3.out)
  obtain ⟨f40, f41, f42, f43, f44, f45⟩ := BX4.out
  clear f30 f31 f32 f33 f34 f35 hb4
  go_wp2_with fail
  go_at_call 78
  refine Calls.makes' (M1.out _ f45) _ fun w5 hb5 => ?_
  have BX5 := Lib.hid (bxTwoKeep hb5 BX4.out)
  clear f40 f41 f42 f43 f44 f45 hb5
  have bxa := bxTwoKeep ((Below.refl _ _).alloc (Nat.le_refl _) (.cells #[] 24)) BX5.out
  have bxb := bxTwoKeep ((Below.refl _ _).alloc (Nat.le_refl _) (.cells #[.slice (some ⟨w5.heap.size, 0, none⟩) 0 0] 39)) bxa
  have hsA : (w5.alloc (.cells #[] 24)).heap.size = w5.heap.size + 1 := alloc_size _ _
  have hsB : ((w5.alloc (.cells #[] 24)).alloc (.cells #[.slice (some ⟨w5.heap.size, 0, none⟩) 0 0] 39)).heap.size = w5.heap.size + 1 + 1 := by rw [alloc_size, hsA]
  have hOb := Own.new (w5.alloc (.cells #[] 24)) 39 #[.slice (some ⟨w5.heap.size, 0, none⟩) 0 0] (fun _ => .slice (some ⟨w5.heap.size, 0, none⟩) 0 0) (by simp) (fun i hi => by
    obtain rfl : i = 0 := by simp at hi; omega
    rfl)
  have hOt : Own ((w5.alloc (.cells #[] 24)).alloc (.cells #[.slice (some ⟨w5.heap.size, 0, none⟩) 0 0] 39)) 24 w5.heap.size 0 0 (fun i => .slice (some ⟨0, 0, none⟩) n 0) := (Own.empty w5 24 _).alloc _
  have hcb := hOb.cell (i := 0) (by simp)
  have hfb := hOb.frozen 0
  rw [hsA] at hcb hfb
  have hl5 := BX5.out.2.2.2.2.1
  have hw5 := Lib.hid hl5
  have HL : Hid (IsoL w p s t bo n d (w.heap.size + 1) (w5.heap.size + 1) 0 ((w5.alloc (.cells #[] 24)).alloc (.cells #[.slice (some ⟨w5.heap.size, 0, none⟩) 0 0] 39))) :=
    ⟨bxb.2.2.2.2.2, bxb.2.2.1, bxb.2.2.2.1, hfb, ⟨by omega, by omega, by rw [hsB]; omega⟩, w5.heap.size, 0, hcb, fun _ => 0, fun _ => 0, hOt.congr fun i hi => absurd hi (Nat.not_lt_zero _), ⟨by omega, fun h => by rcases h with h | h <;> omega⟩, fun i hi => absurd hi (Nat.not_lt_zero _), fun i j hi => absurd hi (Nat.not_lt_zero _)⟩
  obtain ⟨f50, f51, f52, f53, f54, f55⟩ := BX5.out
  obtain ⟨k0, k1, k2, k3, k4, k5⟩ := bxb
  clear BX BX1 BX2 BX3 BX4 BX5 bxa hOb hOt R1 R2 I1 M1 CK HS HT hl5
  go_wp2
  go_loopg [38] n (fun gg iv wr => ∃ k : Nat, k ≤ n ∧ gg = n - k ∧ iv = .int .i64 k ∧ Hid (IsoL w p s t bo n d (w.heap.size + 1) (w5.heap.size + 1) k wr))
  case atStart => exact ⟨0, Nat.zero_le _, rfl, rfl, HL.out⟩
  case round =>
    obtain ⟨k, hk, rfl, rfl, hL⟩ := hrel
    obtain ⟨wo, rfl⟩ : ∃ wo, wo = wr := ⟨_, rfl⟩
    clear HL f50 f51 f52 f53 f54 f55 k0 k1 k2 k3 k4 k5 hcb hfb
    have y0 := hL.out.c0
    have y1 := hL.out.c1
    by_cases hlt : k < n
    · obtain rfl := HK0.out (by omega)
      have zs : wo.cell? ⟨b, o + k, none⟩ = some (.int .i64 (s k)) := by
        rw [hL.out.below.cell (p := ⟨b, o + k, none⟩) (lt_of_cell (HK.out k hlt))]; exact HK.out k hlt
      have i0 : (0 : Int) ≤ (k : Int) := by omega
      have i1 : (k : Int) < (n : Int) := by omega
      have FLk := Lib.hid (FL.out k hlt)
      have hsQ : (wo.alloc (.cells #[.int .i64 (s k)] 2)).heap.size = wo.heap.size + 1 := alloc_size _ _
      have hOb := Own.new wo 2 #[.int .i64 (s k)] (fun _ => .int .i64 (s k)) (by simp) (fun i hi => by
        obtain rfl : i = 0 := by simp at hi; omega
        rfl)
      have hcq := hOb.cell (i := 0) (by simp)
      have hbq : Below wo.heap.size wo (wo.alloc (.cells #[.int .i64 (s k)] 2)) := (Below.refl _ _).alloc (Nat.le_refl _) _
      have u0 := cellKp hbq y0
      have u1 := cellKp hbq y1
      obtain ⟨Wq, hWq⟩ : ∃ W, wo.alloc (.cells #[.int .i64 (s k)] 2) = W := ⟨_, rfl⟩
      have HWq := Lib.hid hWq
      rw [hWq] at hcq hbq hsQ u0 u1
      have HV := iVectorsIm_c p bo n d (.pointer (some ⟨w.heap.size + 1, 0, none⟩)) (.pointer (some ⟨wo.heap.size, 0, none⟩)) (.pointer (some ⟨w5.heap.size + 1, 0, none⟩)) tT Wq hpb hn6 HTT.out (fun tt gv W => ImJ w p s t bo n d k (w.heap.size + 1) (w5.heap.size + 1) wo.heap.size Wq.heap.size tt gv W) (fitB p t n (s k) k (colsF p s t n k))
        (fun gv W hb h1 h2 h3 => hL.out.imJ (hbq.trans (hb.mono hbq.size)) (cellKp hb hcq) h3 (by omega) h1 h2)
        (fun tt gv W W' h hc _ => h.chgV hc)
        (fun tt gv W h => h.cx)
        (fun tt gv W htt hno _ hJ hO => by
          obtain ⟨l1, l2, l3⟩ := FLk.out
          have hle : tt ≤ fitN p t n (s k) k (colsF p s t n k) := by
            rcases Nat.lt_or_ge (fitN p t n (s k) k (colsF p s t n k)) tt with h | h
            · rw [hno _ h] at l2; exact absurd l2 (by decide)
            · exact h
          exact iImCl_c w p s t bo n d k (w.heap.size + 1) (w5.heap.size + 1) wo.heap.size Wq.heap.size tt gv W HVT.out (by omega) hJ hO hle ⟨fun h => l3 _ h, fun h => by rw [h]; exact l2⟩)
      have HVS := Lib.hid HV
      clear HV hOb hcq hbq hsQ
      go_wp2_with fail
      go_at_call 79
      try rw [HWq.out]
      refine HVS.out.mono ?_
      rintro e w9 ⟨gv, ⟨rfl, hno, hJ⟩ | ⟨tt, htt, rfl, h1, h2, hJ⟩⟩
      · exfalso
        obtain ⟨l1, l2, l3⟩ := FLk.out
        rw [hno _ l1] at l2
        exact absurd l2 (by decide)
      · have hf : fitN p t n (s k) k (colsF p s t n k) = tt := by
          obtain ⟨l1, l2, l3⟩ := FLk.out
          rcases Nat.lt_trichotomy (fitN p t n (s k) k (colsF p s t n k)) tt with h | h | h
          · rw [h2 _ h] at l2; exact absurd l2 (by decide)
          · exact h
          · rw [l3 _ h] at h1; exact absurd h1 (by decide)
        have HN := Lib.hid (IsoL.next hJ hf)
        clear hJ hf h1 h2 HVS y0 y1 u0 u1 zs hWq
        go_wp2
        go_roundg (n - (k + 1))
        case measure => omega
        case rel => exact ⟨k + 1, by omega, rfl, by go_num, HN.out⟩
    · obtain rfl : n = k := by omega
      obtain ⟨g', c', h1, h2⟩ := hL.out.tab
      have HTU := Lib.hid (iTranspose_c (.slice (some ⟨g', 0, none⟩) n c') n n (fun _ => n) (colsF p s t n n) _ h2.otab.tab (by omega) (by omega) (by omega) rfl (fun i hi => Nat.le_refl _))
      have e5 := hL.out.below
      clear h2
      go_wp2_with fail
      go_at_call 116
      refine HTU.out.mono ?_
      rintro e w9 ⟨g9, c9, rfl, hb9, hO9⟩
      have hb := e5.trans (hb9.mono e5.size)
      have hsz := e5.size
      go_wp2
      go_ret2
      exact ⟨hb, Or.inl ⟨rfl, g9, c9, rfl, hO9.mono hsz⟩⟩

end Go.Proofs.Ytnkflgigbielgaa

/-
  IsometryOf by both programs, with all codes. No condition beside sizes.
-/
set_option linter.unusedVariables false
set_option linter.unusedSimpArgs false
namespace Go.Proofs.Ytnkflgigbielgaa
open Go.RowKit

set_option maxRecDepth 100000 in
set_option maxHeartbeats 4000000 in
theorem sIsometryOf_c (p : Int) (sv : Value) (n : Nat) (s : Nat → Int) (p2 : Int) (tv : Value) (n2 : Nat) (t : Nat → Int) (w : World) (hs : Ints w sv n s) (ht : Ints w tv n2 t) :
    Calls Try.prog 50 #[dbl p sv, dbl p2 tv] w fun e w' => ResCT w w' e (isoK p n s p2 n2 t) n (fun _ => n) (fun k i => colsF p s t n n i k) := by
  have HS : Hid (∀ W, Below w.heap.size w W → Ints W sv n s) := fun W hb => hs.below hb
  have HT : Hid (∀ W, Below w.heap.size w W → Ints W tv n2 t) := fun W hb => ht.below hb
  obtain ⟨ao, c, b, o, rfl, q2, q3, qx⟩ := hs.out
  obtain ⟨bo, d, b2, o2, rfl, q4, q5, qy⟩ := ht.out
  have BX := Lib.hid (box2_0 w p ao n c p2 bo n2 d)
  obtain ⟨e0, e1, e2, e3, e4, e5⟩ := BX.out
  clear hs ht qx qy
  cases h1 : spB p n s
  · have hk : isoK p n s p2 n2 t = 1 := by unfold isoK; rw [h1]; rfl
    rw [hk]
    have C1 : Hid (∀ W, Below w.heap.size w W → Calls Try.prog 65 #[dbl p (.slice ao n c)] W fun e w' => Makes W w' e (.bool false)) := fun W hb => h1 ▸ sIsSp_c p _ n s W (HS.out W hb)
    clear h1 hk
    go_enter Try.func50, Try.ntmps50
    go_wp2_with fail
    refine Calls.makes' (C1.out _ e5) _ fun w1 hb1 => ?_
    have b9 := e5.trans (hb1.mono e5.size)
    go_wp2
    go_ret2
    exact ⟨b9, Or.inr ⟨by decide, rfl⟩⟩
  cases h2 : spB p2 n2 t
  · have hk : isoK p n s p2 n2 t = 1 := by unfold isoK; rw [h1, h2]; rfl
    rw [hk]
    have C1 : Hid (∀ W, Below w.heap.size w W → Calls Try.prog 65 #[dbl p (.slice ao n c)] W fun e w' => Makes W w' e (.bool true)) := fun W hb => h1 ▸ sIsSp_c p _ n s W (HS.out W hb)
    have C2 : Hid (∀ W, Below w.heap.size w W → Calls Try.prog 65 #[dbl p2 (.slice bo n2 d)] W fun e w' => Makes W w' e (.bool false)) := fun W hb => h2 ▸ sIsSp_c p2 _ n2 t W (HT.out W hb)
    clear h1 h2 hk
    go_enter Try.func50, Try.ntmps50
    go_wp2_with fail
    refine Calls.makes' (C1.out _ e5) _ fun w1 hb1 => ?_
    obtain ⟨f0, f1, f2, f3, f4, f5⟩ := bxTwoKeep hb1 BX.out
    go_wp2_with fail
    go_at_call 65
    refine Calls.makes' (C2.out _ f5) _ fun w2 hb2 => ?_
    have b9 := f5.trans (hb2.mono f5.size)
    go_wp2
    go_ret2
    exact ⟨b9, Or.inr ⟨by decide, rfl⟩⟩
  have hS := spB_ok h1
  have hT := spB_ok h2
  have C1 : Hid (∀ W, Below w.heap.size w W → Calls Try.prog 65 #[dbl p (.slice ao n c)] W fun e w' => Makes W w' e (.bool true)) := fun W hb => h1 ▸ sIsSp_c p _ n s W (HS.out W hb)
  have C2 : Hid (∀ W, Below w.heap.size w W → Calls Try.prog 65 #[dbl p2 (.slice bo n2 d)] W fun e w' => Makes W w' e (.bool true)) := fun W hb => h2 ▸ sIsSp_c p2 _ n2 t W (HT.out W hb)
  have D1 : Hid (∀ W, Below w.heap.size w W → Calls Try.prog 95 #[dbl p (.slice ao n c)] W fun e w' => Makes W w' e (.int .i64 (dF p s n))) := fun W hb => sDisc_c p _ n s W ⟨HS.out W hb, hS⟩
  have D2 : Hid (∀ W, Below w.heap.size w W → Calls Try.prog 95 #[dbl p2 (.slice bo n2 d)] W fun e w' => Makes W w' e (.int .i64 (dF p2 t n2))) := fun W hb => sDisc_c p2 _ n2 t W ⟨HT.out W hb, hT⟩
  have hd1 := dF_reg hS
  have hd2 := dF_reg hT
  obtain ⟨x1, hx1⟩ : ∃ x, dF p s n = x := ⟨_, rfl⟩
  obtain ⟨x2, hx2⟩ : ∃ x, dF p2 t n2 = x := ⟨_, rfl⟩
  rw [hx1] at hd1 D1
  rw [hx2] at hd2 D2
  cases r1 : regB s n
  · have hk : isoK p n s p2 n2 t = 5 := by unfold isoK; rw [h1, h2, r1]; rfl
    rw [r1] at hd1
    rw [hk]
    have hd1' : (x1 == 0) = true := hd1
    clear h1 h2 hk hS hT hx1 hx2 r1 hd1 hd2
    go_enter Try.func50, Try.ntmps50
    go_wp2_with fail
    refine Calls.makes' (C1.out _ e5) _ fun w1 hb1 => ?_
    have BX1 := Lib.hid (bxTwoKeep hb1 BX.out)
    obtain ⟨f0, f1, f2, f3, f4, f5⟩ := BX1.out
    clear e0 e1 e2 e3 e4 e5
    go_wp2_with fail
    go_at_call 65
    refine Calls.makes' (C2.out _ f5) _ fun w2 hb2 => ?_
    obtain ⟨g0, g1, g2, g3, g4, g5⟩ := bxTwoKeep hb2 BX1.out
    clear f0 f1 f2 f3 f4 f5
    go_wp2_with fail
    go_at_call 95
    refine Calls.makes' (D1.out _ g5) _ fun w3 hb3 => ?_
    have b9 := g5.trans (hb3.mono g5.size)
    go_wp2
    go_ret2
    exact ⟨b9, Or.inr ⟨by decide, rfl⟩⟩
  cases r2 : regB t n2
  · have hk : isoK p n s p2 n2 t = 5 := by unfold isoK; rw [h1, h2, r1, r2]; rfl
    rw [r1] at hd1
    rw [r2] at hd2
    rw [hk]
    have hd1' : (x1 == 0) = false := hd1
    have hd2' : (x2 == 0) = true := hd2
    clear h1 h2 hk hS hT hx1 hx2 r1 r2 hd1 hd2
    go_enter Try.func50, Try.ntmps50
    go_wp2_with fail
    refine Calls.makes' (C1.out _ e5) _ fun w1 hb1 => ?_
    have BX1 := Lib.hid (bxTwoKeep hb1 BX.out)
    obtain ⟨f10, f11, f12, f13, f14, f15⟩ := BX1.out
    clear e0 e1 e2 e3 e4 e5 hb1
    go_wp2_with fail
    go_at_call 65
    refine Calls.makes' (C2.out _ f15) _ fun w2 hb2 => ?_
    have BX2 := Lib.hid (bxTwoKeep hb2 BX1.out)
    obtain ⟨f20, f21, f22, f23, f24, f25⟩ := BX2.out
    clear f10 f11 f12 f13 f14 f15 hb2
    go_wp2_with fail
    go_at_call 95
    refine Calls.makes' (D1.out _ f25) _ fun w3 hb3 => ?_
    have BX3 := Lib.hid (bxTwoKeep hb3 BX2.out)
    obtain ⟨f30, f31, f32, f33, f34, f35⟩ := BX3.out
    clear f20 f21 f22 f23 f24 f25 hb3
    go_wp2_with fail
    go_at_call 95
    refine Calls.makes' (D2.out _ f35) _ fun w4 hb4 => ?_
    have BX4 := Lib.hid (bxTwoKeep hb4 BX3.out)
    obtain ⟨f40, f41, f42, f43, f44, f45⟩ := BX4.out
    clear f30 f31 f32 f33 f34 f35 hb4
    have b9 := f45
    go_wp2
    go_ret2
    exact ⟨b9, Or.inr ⟨by decide, rfl⟩⟩
  have I1 : Hid (∀ W, Below w.heap.size w W → Calls Try.prog 109 #[dbl p (.slice ao n c), dbl p2 (.slice bo n2 d)] W fun e w' => Makes W w' e (.bool (ispB p n s p2 n2 t))) := fun W hb => sIsometric_c p _ n s p2 _ n2 t W ⟨HS.out W hb, hS⟩ ⟨HT.out W hb, hT⟩ r1 r2
  cases hq : ispB p n s p2 n2 t
  · have hk : isoK p n s p2 n2 t = 4 := by
      unfold ispB at hq
      unfold isoK; rw [h1, h2, r1, r2, hq]; rfl
    rw [r1] at hd1
    rw [r2] at hd2
    rw [hk]
    rw [hq] at I1
    have hd1' : (x1 == 0) = false := hd1
    have hd2' : (x2 == 0) = false := hd2
    clear h1 h2 hk hS hT hx1 hx2 r1 r2 hd1 hd2 hq
    go_enter Try.func50, Try.ntmps50
    go_wp2_with fail
    refine Calls.makes' (C1.out _ e5) _ fun w1 hb1 => ?_
    have BX1 := Lib.hid (bxTwoKeep hb1 BX.out)
    obtain ⟨f10, f11, f12, f13, f14, f15⟩ := BX1.out
    clear e0 e1 e2 e3 e4 e5 hb1
    go_wp2_with fail
    go_at_call 65
    refine Calls.makes' (C2.out _ f15) _ fun w2 hb2 => ?_
    have BX2 := Lib.hid (bxTwoKeep hb2 BX1.out)
    obtain ⟨f20, f21, f22, f23, f24, f25⟩ := BX2.out
    clear f10 f11 f12 f13 f14 f15 hb2
    go_wp2_with fail
    go_at_call 95
    refine Calls.makes' (D1.out _ f25) _ fun w3 hb3 => ?_
    have BX3 := Lib.hid (bxTwoKeep hb3 BX2.out)
    obtain ⟨f30, f31, f32, f33, f34, f35⟩ := BX3.out
    clear f20 f21 f22 f23 f24 f25 hb3
    go_wp2_with fail
    go_at_call 95
    refine Calls.makes' (D2.out _ f35) _ fun w4 hb4 => ?_
    have BX4 := Lib.hid (bxTwoKeep hb4 BX3.out)
    obtain ⟨f40, f41, f42, f43, f44, f45⟩ := BX4.out
    clear f30 f31 f32 f33 f34 f35 hb4
    go_wp2_with fail
    go_at_call 109
    refine Calls.makes' (I1.out _ f45) _ fun w5 hb5 => ?_
    have BX5 := Lib.hid (bxTwoKeep hb5 BX4.out)
    obtain ⟨f50, f51, f52, f53, f54, f55⟩ := BX5.out
    clear f40 f41 f42 f43 f44 f45 hb5
    have b9 := f55
    go_wp2
    go_ret2
    exact ⟨b9, Or.inr ⟨by decide, rfl⟩⟩
  have hk : isoK p n s p2 n2 t = if 5000 < p ^ n then 3 else 0 := by
    unfold ispB at hq
    unfold isoK; rw [h1, h2, r1, r2, hq]; rfl
  have hpb := hS.bd
  have hpn := pow_sm hpb.1 hpb.2 hS.n6
  obtain ⟨tT, hTT⟩ := Int.eq_ofNat_of_zero_le (show 0 ≤ p ^ n by omega)
  have M1 : Hid (∀ W, Below w.heap.size w W → Calls Try.prog 83 #[dbl p (.slice ao n c)] W fun e w' => Makes W w' e (.bool (decide (5000 < (tT : Int))))) := fun W hb => hTT ▸ sMany_c p _ n s W ⟨HS.out W hb, hS⟩
  rw [hq] at I1
  rw [hk]
  rw [r1] at hd1
  rw [r2] at hd2
  have hd1' : (x1 == 0) = false := hd1
  have hd2' : (x2 == 0) = false := hd2
  by_cases hm : 5000 < tT
  · rw [if_pos (by omega)]
    rw [decide_eq_true (show 5000 < (tT : Int) by omega)] at M1
    clear h1 h2 hk hS hT hx1 hx2 r1 r2 hd1 hd2 hq hpn hTT
    go_enter Try.func50, Try.ntmps50
    go_wp2_with fail
    refine Calls.makes' (C1.out _ e5) _ fun w1 hb1 => ?_
    have BX1 := Lib.hid (bxTwoKeep hb1 BX.out)
    obtain ⟨f10, f11, f12, f13, f14, f15⟩ := BX1.out
    clear e0 e1 e2 e3 e4 e5 hb1
    go_wp2_with fail
    go_at_call 65
    refine Calls.makes' (C2.out _ f15) _ fun w2 hb2 => ?_
    have BX2 := Lib.hid (bxTwoKeep hb2 BX1.out)
    obtain ⟨f20, f21, f22, f23, f24, f25⟩ := BX2.out
    clear f10 f11 f12 f13 f14 f15 hb2
    go_wp2_with fail
    go_at_call 95
    refine Calls.makes' (D1.out _ f25) _ fun w3 hb3 => ?_
    have BX3 := Lib.hid (bxTwoKeep hb3 BX2.out)
    obtain ⟨f30, f31, f32, f33, f34, f35⟩ := BX3.out
    clear f20 f21 f22 f23 f24 f25 hb3
    go_wp2_with fail
    go_at_call 95
    refine Calls.makes' (D2.out _ f35) _ fun w4 hb4 => ?_
    have BX4 := Lib.hid (bxTwoKeep hb4 BX3.out)
    obtain ⟨f40, f41, f42, f43, f44, f45⟩ := BX4.out
    clear f30 f31 f32 f33 f34 f35 hb4
    go_wp2_with fail
    go_at_call 109
    refine Calls.makes' (I1.out _ f45) _ fun w5 hb5 => ?_
    have BX5 := Lib.hid (bxTwoKeep hb5 BX4.out)
    obtain ⟨f50, f51, f52, f53, f54, f55⟩ := BX5.out
    clear f40 f41 f42 f43 f44 f45 hb5
    go_wp2_with fail
    go_at_call 83
    refine Calls.makes' (M1.out _ f55) _ fun w6 hb6 => ?_
    have BX6 := Lib.hid (bxTwoKeep hb6 BX5.out)
    obtain ⟨f60, f61, f62, f63, f64, f65⟩ := BX6.out
    clear f50 f51 f52 f53 f54 f55 hb6
    have b9 := f65
    go_wp2
    go_ret2
    exact ⟨b9, Or.inr ⟨by decide, rfl⟩⟩
  rw [if_neg (by omega)]
  obtain ⟨rfl, rfl, hok, hle⟩ := isoK_ok (show isoK p n s p2 n2 t = 0 by rw [hk, if_neg (by omega)])
  exact sIsometryOk_c p _ n s _ t tT w (HS.out w (Below.refl _ _)) (HT.out w (Below.refl _ _)) h1 h2 r1 r2 hq hok hTT (by omega)

set_option maxRecDepth 100000 in
set_option maxHeartbeats 8000000 in
theorem iIsometryOf_c (p : Int) (sv : Value) (n : Nat) (s : Nat → Int) (p2 : Int) (tv : Value) (n2 : Nat) (t : Nat → Int) (w : World) (hs : Ints w sv n s) (ht : Ints w tv n2 t) :
    Calls Try.prog 51 #[dbl p sv, dbl p2 tv] w fun e w' => ResCT w w' e (isoK p n s p2 n2 t) n (fun _ => n) (fun k i => colsF p s t n n i k) := by
  have HS : Hid (∀ W, Below w.heap.size w W → Ints W sv n s) := fun W hb => hs.below hb
  have HT : Hid (∀ W, Below w.heap.size w W → Ints W tv n2 t) := fun W hb => ht.below hb
  obtain ⟨ao, c, b, o, rfl, q2, q3, qx⟩ := hs.out
  obtain ⟨bo, d, b2, o2, rfl, q4, q5, qy⟩ := ht.out
  have BX := Lib.hid (box2_0 w p ao n c p2 bo n2 d)
  obtain ⟨e0, e1, e2, e3, e4, e5⟩ := BX.out
  have hsz : ((w.alloc (.cells #[.int .i64 p, .slice ao n c] 26)).alloc (.cells #[.int .i64 p2, .slice bo n2 d] 26)).heap.size = w.heap.size + 1 + 1 := by rw [alloc_size, alloc_size]
  have TW := Lib.hid (two0 ((w.alloc (.cells #[.int .i64 p, .slice ao n c] 26)).alloc (.cells #[.int .i64 p2, .slice bo n2 d] 26)) (w.heap.size + 1 + 1) p (.slice ao n c) p2 (.slice bo n2 d) 26 hsz)
  have BA := Lib.hid (bxTwoKeep ((Below.refl _ _).alloc (Nat.le_refl _) (.cells #[.int .i64 p, .slice ao n c, .int .i64 p2, .slice bo n2 d] 26)) BX.out)
  have CK0 : ∀ W b, Below w.heap.size w W → TwoSp W b p (.slice ao n c) p2 (.slice bo n2 d) → Calls Try.prog 111 #[.slice (some ⟨b, 0, none⟩) 2 2] W fun e w' => Makes W w' e (.int .i64 (if spB p n s && spB p2 n2 t then 0 else 1)) := fun W b hb hw => iCkSpaces_c b p _ n s p2 _ n2 t W hw (HS.out W hb) (HT.out W hb)
  clear hs ht qx qy
  cases h12 : spB p n s && spB p2 n2 t
  · have hk : isoK p n s p2 n2 t = 1 := by unfold isoK; rw [h12]; rfl
    rw [hk]
    rw [h12, if_neg (by decide)] at CK0
    have CK := Lib.hid CK0
    clear CK0 h12 hk hsz
    go_enter Try.func51, Try.ntmps51
    go_wp2_with fail
    go_at_call 111
    refine Calls.makes' (CK.out _ _ BA.out.2.2.2.2.2 TW.out) _ fun w1 hb1 => ?_
    have BX1 := Lib.hid (bxTwoKeep hb1 BA.out)
    obtain ⟨f10, f11, f12, f13, f14, f15⟩ := BX1.out
    clear e0 e1 e2 e3 e4 e5 hb1 BA TW
    have b9 := f15
    go_wp2
    go_ret2
    exact ⟨b9, Or.inr ⟨by decide, rfl⟩⟩
  obtain ⟨h1, h2⟩ : spB p n s = true ∧ spB p2 n2 t = true := by simpa using h12
  have hS := spB_ok h1
  have hT := spB_ok h2
  rw [h12, if_pos rfl] at CK0
  have CK := Lib.hid CK0
  clear CK0 hsz
  have R1 : Hid (∀ W, Below w.heap.size w W → Calls Try.prog 91 #[dbl p (.slice ao n c)] W fun e w' => Makes W w' e (.bool (regB s n))) := fun W hb => iReg_c p _ n s W (HS.out W hb)
  have R2 : Hid (∀ W, Below w.heap.size w W → Calls Try.prog 91 #[dbl p2 (.slice bo n2 d)] W fun e w' => Makes W w' e (.bool (regB t n2))) := fun W hb => iReg_c p2 _ n2 t W (HT.out W hb)
  cases r1 : regB s n
  · have hk : isoK p n s p2 n2 t = 5 := by unfold isoK; rw [h12, r1]; rfl
    rw [hk]
    rw [r1] at R1
    clear h12 h1 h2 hk hS hT r1
    go_enter Try.func51, Try.ntmps51
    go_wp2_with fail
    go_at_call 111
    refine Calls.makes' (CK.out _ _ BA.out.2.2.2.2.2 TW.out) _ fun w1 hb1 => ?_
    have BX1 := Lib.hid (bxTwoKeep hb1 BA.out)
    obtain ⟨f10, f11, f12, f13, f14, f15⟩ := BX1.out
    clear e0 e1 e2 e3 e4 e5 hb1 BA TW
    go_wp2_with fail
    go_at_call 91
    refine Calls.makes' (R1.out _ f15) _ fun w2 hb2 => ?_
    have BX2 := Lib.hid (bxTwoKeep hb2 BX1.out)
    obtain ⟨f20, f21, f22, f23, f24, f25⟩ := BX2.out
    clear f10 f11 f12 f13 f14 f15 hb2
    have b9 := f25
    go_wp2
    go_ret2
    exact ⟨b9, Or.inr ⟨by decide, rfl⟩⟩
  cases r2 : regB t n2
  · have hk : isoK p n s p2 n2 t = 5 := by unfold isoK; rw [h12, r1, r2]; rfl
    rw [hk]
    rw [r1] at R1
    rw [r2] at R2
    clear h12 h1 h2 hk hS hT r1 r2
    go_enter Try.func51, Try.ntmps51
    go_wp2_with fail
    go_at_call 111
    refine Calls.makes' (CK.out _ _ BA.out.2.2.2.2.2 TW.out) _ fun w1 hb1 => ?_
    have BX1 := Lib.hid (bxTwoKeep hb1 BA.out)
    obtain ⟨f10, f11, f12, f13, f14, f15⟩ := BX1.out
    clear e0 e1 e2 e3 e4 e5 hb1 BA TW
    go_wp2_with fail
    go_at_call 91
    refine Calls.makes' (R1.out _ f15) _ fun w2 hb2 => ?_
    have BX2 := Lib.hid (bxTwoKeep hb2 BX1.out)
    obtain ⟨f20, f21, f22, f23, f24, f25⟩ := BX2.out
    clear f10 f11 f12 f13 f14 f15 hb2
    go_wp2_with fail
    go_at_call 91
    refine Calls.makes' (R2.out _ f25) _ fun w3 hb3 => ?_
    have BX3 := Lib.hid (bxTwoKeep hb3 BX2.out)
    obtain ⟨f30, f31, f32, f33, f34, f35⟩ := BX3.out
    clear f20 f21 f22 f23 f24 f25 hb3
    have b9 := f35
    go_wp2
    go_ret2
    exact ⟨b9, Or.inr ⟨by decide, rfl⟩⟩
  rw [r1] at R1
  rw [r2] at R2
  have I1 : Hid (∀ W, Below w.heap.size w W → Calls Try.prog 112 #[dbl p (.slice ao n c), dbl p2 (.slice bo n2 d)] W fun e w' => Makes W w' e (.bool (ispB p n s p2 n2 t))) := fun W hb => iIsometric_c p _ n s p2 _ n2 t W ⟨HS.out W hb, hS⟩ ⟨HT.out W hb, hT⟩ r1 r2
  cases hq : ispB p n s p2 n2 t
  · have hk : isoK p n s p2 n2 t = 4 := by
      unfold ispB at hq
      unfold isoK; rw [h12, r1, r2, hq]; rfl
    rw [hk]
    rw [hq] at I1
    clear h12 h1 h2 hk hS hT r1 r2 hq
    go_enter Try.func51, Try.ntmps51
    go_wp2_with fail
    go_at_call 111
    refine Calls.makes' (CK.out _ _ BA.out.2.2.2.2.2 TW.out) _ fun w1 hb1 => ?_
    have BX1 := Lib.hid (bxTwoKeep hb1 BA.out)
    obtain ⟨f10, f11, f12, f13, f14, f15⟩ := BX1.out
    clear e0 e1 e2 e3 e4 e5 hb1 BA TW
    go_wp2_with fail
    go_at_call 91
    refine Calls.makes' (R1.out _ f15) _ fun w2 hb2 => ?_
    have BX2 := Lib.hid (bxTwoKeep hb2 BX1.out)
    obtain ⟨f20, f21, f22, f23, f24, f25⟩ := BX2.out
    clear f10 f11 f12 f13 f14 f15 hb2
    go_wp2_with fail
    go_at_call 91
    refine Calls.makes' (R2.out _ f25) _ fun w3 hb3 => ?_
    have BX3 := Lib.hid (bxTwoKeep hb3 BX2.out)
    obtain ⟨f30, f31, f32, f33, f34, f35⟩ := BX3.out
    clear f20 f21 f22 f23 f24 f25 hb3
    go_wp2_with fail
    go_at_call 112
    refine Calls.makes' (I1.out _ f35) _ fun w4 hb4 => ?_
    have BX4 := Lib.hid (bxTwoKeep hb4 BX3.out)
    obtain ⟨f40, f41, f42, f43, f44, f45⟩ := BX4.out
    clear f30 f31 f32 f33 f34 f35 hb4
    have b9 := f45
    go_wp2
    go_ret2
    exact ⟨b9, Or.inr ⟨by decide, rfl⟩⟩
  rw [hq] at I1
  have hk : isoK p n s p2 n2 t = if 5000 < p ^ n then 3 else 0 := by
    unfold ispB at hq
    unfold isoK; rw [h12, r1, r2, hq]; rfl
  have hpb := hS.bd
  have hpn := pow_sm hpb.1 hpb.2 hS.n6
  obtain ⟨tT, hTT⟩ := Int.eq_ofNat_of_zero_le (show 0 ≤ p ^ n by omega)
  have M1 : Hid (∀ W, Below w.heap.size w W → Calls Try.prog 78 #[dbl p (.slice ao n c)] W fun e w' => Makes W w' e (.bool (decide (5000 < (tT : Int))))) := fun W hb => hTT ▸ iMany_c p _ n s W ⟨HS.out W hb, hS⟩
  rw [hk]
  by_cases hm : 5000 < tT
  · rw [if_pos (by omega)]
    rw [decide_eq_true (show 5000 < (tT : Int) by omega)] at M1
    clear h12 h1 h2 hk hS hT r1 r2 hq hpn hTT
    go_enter Try.func51, Try.ntmps51
    go_wp2_with fail
    go_at_call 111
    refine Calls.makes' (CK.out _ _ BA.out.2.2.2.2.2 TW.out) _ fun w1 hb1 => ?_
    have BX1 := Lib.hid (bxTwoKeep hb1 BA.out)
    obtain ⟨f10, f11, f12, f13, f14, f15⟩ := BX1.out
    clear e0 e1 e2 e3 e4 e5 hb1 BA TW
    go_wp2_with fail
    go_at_call 91
    refine Calls.makes' (R1.out _ f15) _ fun w2 hb2 => ?_
    have BX2 := Lib.hid (bxTwoKeep hb2 BX1.out)
    obtain ⟨f20, f21, f22, f23, f24, f25⟩ := BX2.out
    clear f10 f11 f12 f13 f14 f15 hb2
    go_wp2_with fail
    go_at_call 91
    refine Calls.makes' (R2.out _ f25) _ fun w3 hb3 => ?_
    have BX3 := Lib.hid (bxTwoKeep hb3 BX2.out)
    obtain ⟨f30, f31, f32, f33, f34, f35⟩ := BX3.out
    clear f20 f21 f22 f23 f24 f25 hb3
    go_wp2_with fail
    go_at_call 112
    refine Calls.makes' (I1.out _ f35) _ fun w4 hb4 => ?_
    have BX4 := Lib.hid (bxTwoKeep hb4 BX3.out)
    obtain ⟨f40, f41, f42, f43, f44, f45⟩ := BX4.out
    clear f30 f31 f32 f33 f34 f35 hb4
    go_wp2_with fail
    go_at_call 78
    refine Calls.makes' (M1.out _ f45) _ fun w5 hb5 => ?_
    have BX5 := Lib.hid (bxTwoKeep hb5 BX4.out)
    obtain ⟨f50, f51, f52, f53, f54, f55⟩ := BX5.out
    clear f40 f41 f42 f43 f44 f45 hb5
    have b9 := f55
    go_wp2
    go_ret2
    exact ⟨b9, Or.inr ⟨by decide, rfl⟩⟩
  rw [if_neg (by omega)]
  obtain ⟨rfl, rfl, hok, hle⟩ := isoK_ok (show isoK p n s p2 n2 t = 0 by rw [hk, if_neg (by omega)])
  exact iIsometryOk_c p _ n s _ t tT w (HS.out w (Below.refl _ _)) (HT.out w (Below.refl _ _)) h1 h2 r1 r2 hq hok hTT (by omega)

end Go.Proofs.Ytnkflgigbielgaa

/-
  The law on IsometryOf returns true. No condition.
-/
set_option linter.unusedVariables false
set_option linter.unusedSimpArgs false
namespace Go.Proofs.Ytnkflgigbielgaa
open Go.RowKit

set_option maxRecDepth 100000 in
theorem szSp2_c (p : Int) (sv : Value) (n : Nat) (s : Nat → Int) (l : Int) (w : World) (h : Ints w sv n s) (hl : 0 ≤ l ∧ l ≤ 1048576) :
    Calls Try.prog 42 #[dbl p sv, .int .i64 l] w fun e w' => Makes w w' e (.int .i64 (szP l n)) := by
  obtain ⟨ao, c, b, o, rfl, p2, p3, p4, p5⟩ := h.out
  clear h p5 p4
  have HQ : Hid (Calls Try.prog 103 #[.slice ao n c, .int .i64 l] (w.alloc (.cells #[.int .i64 p, .slice ao n c] 59)) fun e w' => e = .returned (.int .i64 (szP l n)) ∧ w.alloc (.cells #[.int .i64 p, .slice ao n c] 59) = w') := szInt64S_c ao n c l _ (by omega) hl.1 hl.2
  by_cases h0 : 0 ≤ szP l n
  · obtain ⟨r, hr⟩ : ∃ r, szP l n = r := ⟨_, rfl⟩
    rw [hr] at h0 HQ ⊢
    clear hr
    go_enter Try.func42, Try.ntmps42
    go_wp2_with (go_at_call 103; refine HQ.out.mono ?_; rintro e w' ⟨rfl, rfl⟩)
    go_ret
    exact ⟨rfl, (Below.refl _ _).alloc (Nat.le_refl _) _⟩
  · have h1 : szP l n = -1 := by
      unfold szP at h0 ⊢
      by_cases hc : (n : Int) ≤ l
      · rw [if_pos hc] at h0; omega
      · rw [if_neg hc]
    rw [h1] at HQ ⊢
    go_enter Try.func42, Try.ntmps42
    go_wp2_with (go_at_call 103; refine HQ.out.mono ?_; rintro e w' ⟨rfl, rfl⟩)
    go_ret
    exact ⟨rfl, (Below.refl _ _).alloc (Nat.le_refl _) _⟩
theorem box2_L (w : World) (p : Int) (ao : Option Addr) (n c : Nat) (p2 : Int) (bo : Option Addr) (m d : Nat) : Box2 w p ao n c p2 bo m d ((w.alloc (.cells #[.int .i64 p, .slice ao n c] 59)).alloc (.cells #[.int .i64 p2, .slice bo m d] 59)) := by
  obtain ⟨e0, e1, e2, e3⟩ := box0 w p ao n c 59
  obtain ⟨g0, g1, g2, g3⟩ := box0 (w.alloc (.cells #[.int .i64 p, .slice ao n c] 59)) p2 bo m d 59
  have hsz : (w.alloc (.cells #[.int .i64 p, .slice ao n c] 59)).heap.size = w.heap.size + 1 := alloc_size _ _
  rw [hsz] at g0 g1 g2
  exact ⟨cellKp g3 e0, cellKp g3 e1, g0, g1, g2, e3.trans (g3.mono e3.size)⟩
/-- six cells -/
theorem cell6Keep {w W W' : World} {a1 a2 a3 a4 a5 a6 : Nat} {o1 o2 o3 o4 o5 o6 : Nat} {v1 v2 v3 v4 v5 v6 : Value} (hb : Below W.heap.size W W')
    (h : W.cell? ⟨a1, o1, none⟩ = some v1 ∧ W.cell? ⟨a2, o2, none⟩ = some v2 ∧ W.cell? ⟨a3, o3, none⟩ = some v3 ∧ W.cell? ⟨a4, o4, none⟩ = some v4 ∧ W.cell? ⟨a5, o5, none⟩ = some v5 ∧ W.cell? ⟨a6, o6, none⟩ = some v6 ∧ Below w.heap.size w W) :
    W'.cell? ⟨a1, o1, none⟩ = some v1 ∧ W'.cell? ⟨a2, o2, none⟩ = some v2 ∧ W'.cell? ⟨a3, o3, none⟩ = some v3 ∧ W'.cell? ⟨a4, o4, none⟩ = some v4 ∧ W'.cell? ⟨a5, o5, none⟩ = some v5 ∧ W'.cell? ⟨a6, o6, none⟩ = some v6 ∧ Below w.heap.size w W' :=
  ⟨cellKp hb h.1, cellKp hb h.2.1, cellKp hb h.2.2.1, cellKp hb h.2.2.2.1, cellKp hb h.2.2.2.2.1, cellKp hb h.2.2.2.2.2.1, h.2.2.2.2.2.2.trans (hb.mono h.2.2.2.2.2.2.size)⟩
theorem cell6Below {w W : World} {a1 a2 a3 a4 a5 a6 : Nat} {o1 o2 o3 o4 o5 o6 : Nat} {v1 v2 v3 v4 v5 v6 : Value}
    (h : W.cell? ⟨a1, o1, none⟩ = some v1 ∧ W.cell? ⟨a2, o2, none⟩ = some v2 ∧ W.cell? ⟨a3, o3, none⟩ = some v3 ∧ W.cell? ⟨a4, o4, none⟩ = some v4 ∧ W.cell? ⟨a5, o5, none⟩ = some v5 ∧ W.cell? ⟨a6, o6, none⟩ = some v6 ∧ Below w.heap.size w W) : Below w.heap.size w W := h.2.2.2.2.2.2

theorem IsometryOf_o (ps : Int) (ns : Nat) (ss : Nat → Int) (pt : Int) (nt : Nat) (st : Nat → Int) :
    ∃ (cc : Int) (M : Nat) (LR : Nat → Nat) (R : Nat → Nat → Int), M ≤ 1048576 ∧ sumL LR M ≤ 1048576 ∧
    (∀ (W : World) (sv tv : Value), Ints W sv ns ss → Ints W tv nt st → Calls Try.prog 50 #[dbl ps sv, dbl pt tv] W fun e w' => ResT W w' e cc M LR R) ∧
    (∀ (W : World) (sv tv : Value), Ints W sv ns ss → Ints W tv nt st → Calls Try.prog 51 #[dbl ps sv, dbl pt tv] W fun e w' => ResT W w' e cc M LR R) := by
  refine ⟨isoK ps ns ss pt nt st, if isoK ps ns ss pt nt st = 0 then ns else 0, fun _ => ns, fun k i => colsF ps ss st ns ns i k, ?_, ?_, fun W sv tv h1 h2 => (sIsometryOf_c ps sv ns ss pt tv nt st W h1 h2).mono fun e w' h => h.toT, fun W sv tv h1 h2 => (iIsometryOf_c ps sv ns ss pt tv nt st W h1 h2).mono fun e w' h => h.toT⟩
  · split
    · rename_i h
      obtain ⟨rfl, rfl, hok, _⟩ := isoK_ok h
      have := hok.ss.n6
      omega
    · omega
  · split
    · rename_i h
      obtain ⟨rfl, rfl, hok, _⟩ := isoK_ok h
      have := hok.ss.n6
      rw [sumL_const]
      have := Nat.mul_le_mul hok.ss.n6 hok.ss.n6
      omega
    · exact Nat.zero_le _

set_option maxRecDepth 100000 in
set_option maxHeartbeats 8000000 in
theorem lawIsometryOf_c (ps : Int) (sv : Value) (ns : Nat) (ss : Nat → Int) (pt : Int) (tv : Value) (nt : Nat) (st : Nat → Int) (w : World) (hs : Ints w sv ns ss) (ht : Ints w tv nt st) :
    Calls Try.prog 8 #[dbl ps sv, dbl pt tv] w fun e w' => Law w w' e := by
  have im : Hid (∀ W, Below w.heap.size w W → Ints W sv ns ss) := fun W hb => hs.below hb
  have it : Hid (∀ W, Below w.heap.size w W → Ints W tv nt st) := fun W hb => ht.below hb
  obtain ⟨am, cs, _, _, rfl, ps2, ps3, _⟩ := hs.out
  obtain ⟨ak, ct, _, _, rfl, pt2, pt3, _⟩ := ht.out
  have BX := Lib.hid (box2_L w ps am ns cs pt ak nt ct)
  obtain ⟨e0, e1, e2, e3, e4, e5⟩ := BX.out
  have E5 := Lib.hid e5
  clear hs ht
  obtain ⟨cc, M, LR, R, hM, hSum, CS0, CI0⟩ := IsometryOf_o ps ns ss pt nt st
  have CS := Lib.hid CS0
  have CI := Lib.hid CI0
  clear CS0 CI0
  by_cases hs : ns ≤ 1048576
  rotate_left
  · have h0 := szP_big hs
    go_enter Try.func8, Try.ntmps8
    go_wp2_with fail
    go_at_call 42
    refine Calls.makes' (szSp_c _ _ _ _ _ (im.out _ E5.out)) _ fun w1 hb1 => ?_
    rw [h0]
    go_wp2
    go_ret
    exact ⟨rfl, E5.out.trans (hb1.mono E5.out.size)⟩
  have h0 := szP_ok hs
  have hr0 := szP_range hs
  obtain ⟨left, hleft⟩ : ∃ left, szP 1048576 ns = left := ⟨_, rfl⟩
  rw [hleft] at h0 hr0
  have HLeft := Lib.hid hleft
  clear hleft
  obtain ⟨l2, hl2⟩ : ∃ z, szP left nt = z := ⟨_, rfl⟩
  have SZ2 : Hid (∀ W, Below w.heap.size w W → Calls Try.prog 42 #[dbl pt (.slice ak nt ct), .int .i64 left] W fun e w' => Makes W w' e (.int .i64 l2)) := fun W hb => hl2 ▸ szSp2_c pt _ nt st left W (it.out W hb) hr0
  by_cases ht : 0 ≤ l2
  rotate_left
  · have ht' : l2 < 0 := by omega
    clear hl2
    go_enter Try.func8, Try.ntmps8
    go_wp2_with fail
    go_at_call 42
    refine Calls.makes' (szSp_c _ _ _ _ _ (im.out _ E5.out)) _ fun w1 hb1 => ?_
    rw [HLeft.out]
    obtain ⟨f0, f1, f2, f3, f4, bb⟩ := bxTwoKeep hb1 BX.out
    go_wp2_with fail
    go_at_call 42
    refine Calls.makes' (SZ2.out _ bb) _ fun w2 hb2 => ?_
    go_wp2
    go_ret
    exact ⟨rfl, bb.trans (hb2.mono bb.size)⟩
  have hnt : nt ≤ 1048576 := szP_room hr0.2 (by rw [hl2]; exact ht)
  clear hl2
  go_enter Try.func8, Try.ntmps8
  go_wp2_with fail
  go_at_call 42
  refine Calls.makes' (szSp_c _ _ _ _ _ (im.out _ E5.out)) _ fun w1 hb1 => ?_
  rw [HLeft.out]
  obtain ⟨f0, f1, f2, f3, f4, bb⟩ := bxTwoKeep hb1 BX.out
  go_wp2_with fail
  go_at_call 42
  refine Calls.makes' (SZ2.out _ bb) _ fun w2 hb2 => ?_
  clear e0 e1 e2 e3 e4 e5
  have BX2 := Lib.hid (bxTwoKeep hb2 (show Box2 w ps am ns cs pt ak nt ct w1 from ⟨f0, f1, f2, f3, f4, bb⟩))
  clear f0 f1 f2 f3 f4 bb hb1 hb2 BX SZ2 HLeft
  obtain ⟨f0, f1, f2, f3, f4, bb⟩ := BX2.out
  clear BX2 f4
  have hu := Lib.hid (Nat.zero_le w2.heap.size)
  go_wp2
  have js := im
  have jt := it
  go_region_held3 (fun W => W.cell? ⟨w.heap.size, 0, none⟩ = some (.int .i64 ps) ∧ W.cell? ⟨w.heap.size, 1, none⟩ = some (.slice am ns cs) ∧ W.cell? ⟨w.heap.size + 1, 0, none⟩ = some (.int .i64 pt) ∧ W.cell? ⟨w.heap.size + 1, 1, none⟩ = some (.slice ak nt ct) ∧ Below w.heap.size w W)
    ((first | assumption | exact cell4Keep (drewB _) ⟨f0, f1, f2, f3, bb⟩ | exact cell4Keep (by assumption) (by assumption)))
    ((first
      | (go_at_call 45; refine (toSp_o _ _ _ _ _ (js.out _ (cell4Below (by assumption))) hs).mono ?_; rintro e wsa ⟨asa, csa, rfl, hba, hOa⟩; clear js)
      | (go_at_call 45; refine (toSp_o _ _ _ _ _ (jt.out _ (cell4Below (by assumption))) hnt).mono ?_; rintro e wsb ⟨asb, csb, rfl, hbb, hOb⟩; clear jt)
      | (go_at_call 50; refine (CS.out _ _ _ (hOa.kept hbb).ints hOb.ints).mono ?_; rintro e wsc ⟨asc, csc, rfl, hbc, noW⟩)))
  rename_i hHeld
  have f0 := cellKp (drewB _) f0
  have f1 := cellKp (drewB _) f1
  have f2 := cellKp (drewB _) f2
  have f3 := cellKp (drewB _) f3
  have bb := bb.trans ((drewB _).mono bb.size)
  have f0 := cellKp hba f0
  have f1 := cellKp hba f1
  have f2 := cellKp hba f2
  have f3 := cellKp hba f3
  have bb := bb.trans (hba.mono bb.size)
  have f0 := cellKp hbb f0
  have f1 := cellKp hbb f1
  have f2 := cellKp hbb f2
  have f3 := cellKp hbb f3
  have bb := bb.trans (hbb.mono bb.size)
  have s_oW := Lib.hid hbc.size
  have g_oW := Lib.hid (Nat.succ_le_of_lt (lt_of_cell f2))
  have f0 := cellKp hbc f0
  have f1 := cellKp hbc f1
  have f2 := cellKp hbc f2
  have f3 := cellKp hbc f3
  have bb := bb.trans (hbc.mono bb.size)
  have oW := noW
  clear noW hba hbb hbc hOa hOb hHeld
  have hu_oW := Lib.hid (Nat.le_refl wsc.heap.size)
  clear hu
  have hu := hu_oW
  clear hu_oW
  go_wp2_with fail
  go_at_call 45
  refine (toSp_o _ _ _ _ _ (im.out _ bb) hs).mono ?_
  rintro e w3 ⟨a3, c3, rfl, hb3, nxs⟩
  have d_xs := hu
  have s_xs := Lib.hid hb3.size
  have g_xs := Lib.hid (Nat.succ_le_of_lt (lt_of_cell f2))
  have oW := oW.kept hb3
  have f0 := cellKp hb3 f0
  have f1 := cellKp hb3 f1
  have f2 := cellKp hb3 f2
  have f3 := cellKp hb3 f3
  have bb := bb.trans (hb3.mono bb.size)
  have xs := nxs
  clear nxs hb3
  clear hu
  have ha7 : Below w3.heap.size w3 (w3.alloc (.cells #[.int .i64 ps, .slice a3 ns c3] 26)) := (Below.refl _ _).alloc (Nat.le_refl _) _
  have D7 := box0 w3 ps a3 ns c3 26
  have lw7 := lt_of_cell f2
  have oW := oW.kept ha7
  have xs := xs.kept ha7
  have f0 := cellKp ha7 f0
  have f1 := cellKp ha7 f1
  have f2 := cellKp ha7 f2
  have f3 := cellKp ha7 f3
  have bb := bb.trans (ha7.mono bb.size)
  have d0 := D7.1
  have d1 := D7.2.1
  clear ha7 D7
  go_wp2_with fail
  go_at_call 45
  refine (toSp_o _ _ _ _ _ (it.out _ bb) hnt).mono ?_
  rintro e w4 ⟨a4, c4, rfl, hb4, nxt⟩
  have nxt := nxt.low (Nat.le_of_eq (alloc_size _ _).symm)
  have s_xt : Hid (w3.heap.size + 1 ≤ w4.heap.size) := Lib.hid (Nat.le_trans (Nat.le_of_eq (alloc_size _ _).symm) hb4.size)
  have g_xt : Hid (w.heap.size + 1 + 1 ≤ w3.heap.size + 1) := Lib.hid (Nat.le_succ_of_le (Nat.succ_le_of_lt lw7))
  clear lw7
  have d_xt : Hid (w3.heap.size + 1 ≤ w3.heap.size + 1) := Lib.hid (Nat.le_refl _)
  have oW := oW.kept hb4
  have xs := xs.kept hb4
  have f0 := cellKp hb4 f0
  have f1 := cellKp hb4 f1
  have f2 := cellKp hb4 f2
  have f3 := cellKp hb4 f3
  have d0 := cellKp hb4 d0
  have d1 := cellKp hb4 d1
  have bb := bb.trans (hb4.mono bb.size)
  have xt := nxt
  clear nxt hb4
  have ha7 : Below w4.heap.size w4 (w4.alloc (.cells #[.int .i64 pt, .slice a4 nt c4] 26)) := (Below.refl _ _).alloc (Nat.le_refl _) _
  have D7 := box0 w4 pt a4 nt c4 26
  have lw7 := lt_of_cell f2
  have oW := oW.kept ha7
  have xs := xs.kept ha7
  have xt := xt.kept ha7
  have f0 := cellKp ha7 f0
  have f1 := cellKp ha7 f1
  have f2 := cellKp ha7 f2
  have f3 := cellKp ha7 f3
  have d0 := cellKp ha7 d0
  have d1 := cellKp ha7 d1
  have bb := bb.trans (ha7.mono bb.size)
  have d2 := D7.1
  have d3 := D7.2.1
  clear ha7 D7
  go_wp2_with fail
  go_at_call 51
  refine (CI.out _ _ _ xs.ints xt.ints).mono ?_
  rintro e w5 ⟨a5, c5, rfl, hb5, noG⟩
  have noG := noG.low (Nat.le_of_eq (alloc_size _ _).symm)
  have s_oG : Hid (w4.heap.size + 1 ≤ w5.heap.size) := Lib.hid (Nat.le_trans (Nat.le_of_eq (alloc_size _ _).symm) hb5.size)
  have g_oG : Hid (w.heap.size + 1 + 1 ≤ w4.heap.size + 1) := Lib.hid (Nat.le_succ_of_le (Nat.succ_le_of_lt lw7))
  clear lw7
  have d_oG : Hid (w4.heap.size + 1 ≤ w4.heap.size + 1) := Lib.hid (Nat.le_refl _)
  have oW := oW.kept hb5
  have xs := xs.kept hb5
  have xt := xt.kept hb5
  have f0 := cellKp hb5 f0
  have f1 := cellKp hb5 f1
  have f2 := cellKp hb5 f2
  have f3 := cellKp hb5 f3
  have d0 := cellKp hb5 d0
  have d1 := cellKp hb5 d1
  have d2 := cellKp hb5 d2
  have d3 := cellKp hb5 d3
  have bb := bb.trans (hb5.mono bb.size)
  have oG := noG
  clear noG hb5
  go_wp2_with fail
  refine Calls.reads' (wr := w) (eqInt64SS_c _ _ _ _ _ _ _ _ _ oG.tab oW.tab) _ fun q1 => ?_
  rw [eqTB_refl]
  have oW := oW.kept (below_drewN _ q1)
  have xs := xs.kept (below_drewN _ q1)
  have xt := xt.kept (below_drewN _ q1)
  have oG := oG.kept (below_drewN _ q1)
  have f0 := cellKp (below_drewN _ q1) f0
  have f1 := cellKp (below_drewN _ q1) f1
  have f2 := cellKp (below_drewN _ q1) f2
  have f3 := cellKp (below_drewN _ q1) f3
  have d0 := cellKp (below_drewN _ q1) d0
  have d1 := cellKp (below_drewN _ q1) d1
  have d2 := cellKp (below_drewN _ q1) d2
  have d3 := cellKp (below_drewN _ q1) d3
  have bb := bb.trans ((below_drewN _ q1).mono bb.size)
  go_wp2
  go_region_held3 (fun W => W.cell? ⟨w.heap.size, 0, none⟩ = some (.int .i64 ps) ∧ W.cell? ⟨w.heap.size, 1, none⟩ = some (.slice am ns cs) ∧ W.cell? ⟨w3.heap.size, 0, none⟩ = some (.int .i64 ps) ∧ W.cell? ⟨w3.heap.size, 1, none⟩ = some (.slice a3 ns c3) ∧ Below w.heap.size w W)
    ((first | assumption | exact cell4Keep (drewB _) ⟨f0, f1, d0, d1, bb⟩ | exact cell4Keep (by assumption) (by assumption)))
    ((first
      | (go_at_call 45; refine (toSp_o _ _ _ _ _ (im.out _ (cell4Below (by assumption))) hs).mono ?_; rintro e wsc ⟨asc', csc', rfl, hbc, hOc⟩)
      | (go_at_call 48; refine Calls.makes' (eqSp_c _ _ _ _ _ _ ((xs.kept (drewB _)).kept hbc).ints hOc.ints) _ fun wsd hbd => ?_)))
  rename_i hHeld
  have oW := oW.kept (drewB _)
  have xs := xs.kept (drewB _)
  have xt := xt.kept (drewB _)
  have oG := oG.kept (drewB _)
  have f0 := cellKp (drewB _) f0
  have f1 := cellKp (drewB _) f1
  have f2 := cellKp (drewB _) f2
  have f3 := cellKp (drewB _) f3
  have d0 := cellKp (drewB _) d0
  have d1 := cellKp (drewB _) d1
  have d2 := cellKp (drewB _) d2
  have d3 := cellKp (drewB _) d3
  have bb := bb.trans ((drewB _).mono bb.size)
  have oW := oW.kept hbc
  have xs := xs.kept hbc
  have xt := xt.kept hbc
  have oG := oG.kept hbc
  have f0 := cellKp hbc f0
  have f1 := cellKp hbc f1
  have f2 := cellKp hbc f2
  have f3 := cellKp hbc f3
  have d0 := cellKp hbc d0
  have d1 := cellKp hbc d1
  have d2 := cellKp hbc d2
  have d3 := cellKp hbc d3
  have bb := bb.trans (hbc.mono bb.size)
  have oW := oW.kept hbd
  have xs := xs.kept hbd
  have xt := xt.kept hbd
  have oG := oG.kept hbd
  have f0 := cellKp hbd f0
  have f1 := cellKp hbd f1
  have f2 := cellKp hbd f2
  have f3 := cellKp hbd f3
  have d0 := cellKp hbd d0
  have d1 := cellKp hbd d1
  have d2 := cellKp hbd d2
  have d3 := cellKp hbd d3
  have bb := bb.trans (hbd.mono bb.size)
  clear hbc hbd hOc hHeld
  go_wp2
  go_region_held3 (fun W => W.cell? ⟨w.heap.size + 1, 0, none⟩ = some (.int .i64 pt) ∧ W.cell? ⟨w.heap.size + 1, 1, none⟩ = some (.slice ak nt ct) ∧ W.cell? ⟨w4.heap.size, 0, none⟩ = some (.int .i64 pt) ∧ W.cell? ⟨w4.heap.size, 1, none⟩ = some (.slice a4 nt c4) ∧ Below w.heap.size w W)
    ((first | assumption | exact cell4Keep (drewB _) ⟨f2, f3, d2, d3, bb⟩ | exact cell4Keep (by assumption) (by assumption)))
    ((first
      | (go_at_call 45; refine (toSp_o _ _ _ _ _ (it.out _ (cell4Below (by assumption))) hnt).mono ?_; rintro e wtc ⟨atc', ctc', rfl, hbc, hOc⟩)
      | (go_at_call 48; refine Calls.makes' (eqSp_c _ _ _ _ _ _ ((xt.kept (drewB _)).kept hbc).ints hOc.ints) _ fun wtd hbd => ?_)))
  rename_i hHeld
  have oW := oW.kept (drewB _)
  have xs := xs.kept (drewB _)
  have xt := xt.kept (drewB _)
  have oG := oG.kept (drewB _)
  have f0 := cellKp (drewB _) f0
  have f1 := cellKp (drewB _) f1
  have f2 := cellKp (drewB _) f2
  have f3 := cellKp (drewB _) f3
  have d0 := cellKp (drewB _) d0
  have d1 := cellKp (drewB _) d1
  have d2 := cellKp (drewB _) d2
  have d3 := cellKp (drewB _) d3
  have bb := bb.trans ((drewB _).mono bb.size)
  have oW := oW.kept hbc
  have xs := xs.kept hbc
  have xt := xt.kept hbc
  have oG := oG.kept hbc
  have f0 := cellKp hbc f0
  have f1 := cellKp hbc f1
  have f2 := cellKp hbc f2
  have f3 := cellKp hbc f3
  have d0 := cellKp hbc d0
  have d1 := cellKp hbc d1
  have d2 := cellKp hbc d2
  have d3 := cellKp hbc d3
  have bb := bb.trans (hbc.mono bb.size)
  have oW := oW.kept hbd
  have xs := xs.kept hbd
  have xt := xt.kept hbd
  have oG := oG.kept hbd
  have f0 := cellKp hbd f0
  have f1 := cellKp hbd f1
  have f2 := cellKp hbd f2
  have f3 := cellKp hbd f3
  have d0 := cellKp hbd d0
  have d1 := cellKp hbd d1
  have d2 := cellKp hbd d2
  have d3 := cellKp hbd d3
  have bb := bb.trans (hbd.mono bb.size)
  clear hbc hbd hOc hHeld
  go_wp2_with fail
  go_at_call 52
  refine (markSp_o _ _ _ _ _ _ _ _ _ xs (by omega) (by omega) (by omega)).mono ?_
  rintro e m6 ⟨rfl, hc⟩
  clear d0 d1
  have oW := oW.chg hc (by have z0 := s_oW.out; have v0 := g_oW.out; have z1 := s_xs.out; have v1 := g_xs.out; have z2 := s_xt.out; have v2 := g_xt.out; have z3 := s_oG.out; have v3 := g_oG.out; have y0 := d_xs.out; have y1 := d_xt.out; have y2 := d_oG.out; omega)
  have xt := xt.chg hc (by have z0 := s_oW.out; have v0 := g_oW.out; have z1 := s_xs.out; have v1 := g_xs.out; have z2 := s_xt.out; have v2 := g_xt.out; have z3 := s_oG.out; have v3 := g_oG.out; have y0 := d_xs.out; have y1 := d_xt.out; have y2 := d_oG.out; omega)
  have oG := oG.chg hc (by have z0 := s_oW.out; have v0 := g_oW.out; have z1 := s_xs.out; have v1 := g_xs.out; have z2 := s_xt.out; have v2 := g_xt.out; have z3 := s_oG.out; have v3 := g_oG.out; have y0 := d_xs.out; have y1 := d_xt.out; have y2 := d_oG.out; omega)
  have f0 := hc.cellI (by have z0 := s_oW.out; have v0 := g_oW.out; have z1 := s_xs.out; have v1 := g_xs.out; have z2 := s_xt.out; have v2 := g_xt.out; have z3 := s_oG.out; have v3 := g_oG.out; have y0 := d_xs.out; have y1 := d_xt.out; have y2 := d_oG.out; omega) f0
  have f1 := hc.cellI (by have z0 := s_oW.out; have v0 := g_oW.out; have z1 := s_xs.out; have v1 := g_xs.out; have z2 := s_xt.out; have v2 := g_xt.out; have z3 := s_oG.out; have v3 := g_oG.out; have y0 := d_xs.out; have y1 := d_xt.out; have y2 := d_oG.out; omega) f1
  have f2 := hc.cellI (by have z0 := s_oW.out; have v0 := g_oW.out; have z1 := s_xs.out; have v1 := g_xs.out; have z2 := s_xt.out; have v2 := g_xt.out; have z3 := s_oG.out; have v3 := g_oG.out; have y0 := d_xs.out; have y1 := d_xt.out; have y2 := d_oG.out; omega) f2
  have f3 := hc.cellI (by have z0 := s_oW.out; have v0 := g_oW.out; have z1 := s_xs.out; have v1 := g_xs.out; have z2 := s_xt.out; have v2 := g_xt.out; have z3 := s_oG.out; have v3 := g_oG.out; have y0 := d_xs.out; have y1 := d_xt.out; have y2 := d_oG.out; omega) f3
  have d2 := hc.cellI (by have z0 := s_oW.out; have v0 := g_oW.out; have z1 := s_xs.out; have v1 := g_xs.out; have z2 := s_xt.out; have v2 := g_xt.out; have z3 := s_oG.out; have v3 := g_oG.out; have y0 := d_xs.out; have y1 := d_xt.out; have y2 := d_oG.out; omega) d2
  have d3 := hc.cellI (by have z0 := s_oW.out; have v0 := g_oW.out; have z1 := s_xs.out; have v1 := g_xs.out; have z2 := s_xt.out; have v2 := g_xt.out; have z3 := s_oG.out; have v3 := g_oG.out; have y0 := d_xs.out; have y1 := d_xt.out; have y2 := d_oG.out; omega) d3
  have bb := bb.trans (hc.belowI bb.size (by have z0 := s_oW.out; have v0 := g_oW.out; have z1 := s_xs.out; have v1 := g_xs.out; have z2 := s_xt.out; have v2 := g_xt.out; have z3 := s_oG.out; have v3 := g_oG.out; have y0 := d_xs.out; have y1 := d_xt.out; have y2 := d_oG.out; omega))
  clear hc
  clear xs
  go_wp2_with fail
  go_at_call 52
  refine (markSp_o _ _ _ _ _ _ _ _ _ xt (by omega) (by omega) (by omega)).mono ?_
  rintro e m7 ⟨rfl, hc⟩
  clear d2 d3
  have oW := oW.chg hc (by have z0 := s_oW.out; have v0 := g_oW.out; have z1 := s_xs.out; have v1 := g_xs.out; have z2 := s_xt.out; have v2 := g_xt.out; have z3 := s_oG.out; have v3 := g_oG.out; have y0 := d_xs.out; have y1 := d_xt.out; have y2 := d_oG.out; omega)
  have oG := oG.chg hc (by have z0 := s_oW.out; have v0 := g_oW.out; have z1 := s_xs.out; have v1 := g_xs.out; have z2 := s_xt.out; have v2 := g_xt.out; have z3 := s_oG.out; have v3 := g_oG.out; have y0 := d_xs.out; have y1 := d_xt.out; have y2 := d_oG.out; omega)
  have f0 := hc.cellI (by have z0 := s_oW.out; have v0 := g_oW.out; have z1 := s_xs.out; have v1 := g_xs.out; have z2 := s_xt.out; have v2 := g_xt.out; have z3 := s_oG.out; have v3 := g_oG.out; have y0 := d_xs.out; have y1 := d_xt.out; have y2 := d_oG.out; omega) f0
  have f1 := hc.cellI (by have z0 := s_oW.out; have v0 := g_oW.out; have z1 := s_xs.out; have v1 := g_xs.out; have z2 := s_xt.out; have v2 := g_xt.out; have z3 := s_oG.out; have v3 := g_oG.out; have y0 := d_xs.out; have y1 := d_xt.out; have y2 := d_oG.out; omega) f1
  have f2 := hc.cellI (by have z0 := s_oW.out; have v0 := g_oW.out; have z1 := s_xs.out; have v1 := g_xs.out; have z2 := s_xt.out; have v2 := g_xt.out; have z3 := s_oG.out; have v3 := g_oG.out; have y0 := d_xs.out; have y1 := d_xt.out; have y2 := d_oG.out; omega) f2
  have f3 := hc.cellI (by have z0 := s_oW.out; have v0 := g_oW.out; have z1 := s_xs.out; have v1 := g_xs.out; have z2 := s_xt.out; have v2 := g_xt.out; have z3 := s_oG.out; have v3 := g_oG.out; have y0 := d_xs.out; have y1 := d_xt.out; have y2 := d_oG.out; omega) f3
  have bb := bb.trans (hc.belowI bb.size (by have z0 := s_oW.out; have v0 := g_oW.out; have z1 := s_xs.out; have v1 := g_xs.out; have z2 := s_xt.out; have v2 := g_xt.out; have z3 := s_oG.out; have v3 := g_oG.out; have y0 := d_xs.out; have y1 := d_xt.out; have y2 := d_oG.out; omega))
  clear hc
  clear xt
  go_wp2_with fail
  refine Calls.reads' (wr := w) (eqInt64SS_c _ _ _ _ _ _ _ _ _ oG.tab oW.tab) _ fun q2 => ?_
  rw [eqTB_refl]
  have oW := oW.kept (below_drewN _ q2)
  have oG := oG.kept (below_drewN _ q2)
  have f0 := cellKp (below_drewN _ q2) f0
  have f1 := cellKp (below_drewN _ q2) f1
  have f2 := cellKp (below_drewN _ q2) f2
  have f3 := cellKp (below_drewN _ q2) f3
  have bb := bb.trans ((below_drewN _ q2).mono bb.size)
  go_wp2_with fail
  refine (markT_o _ _ _ _ _ _ _ _ _ oG (by omega) (by omega) (by omega) (by omega)).mono ?_
  rintro e m8 ⟨rfl, hc, noG⟩
  have oW := oW.chg hc (by have z0 := s_oW.out; have v0 := g_oW.out; have z1 := s_xs.out; have v1 := g_xs.out; have z2 := s_xt.out; have v2 := g_xt.out; have z3 := s_oG.out; have v3 := g_oG.out; have y0 := d_xs.out; have y1 := d_xt.out; have y2 := d_oG.out; omega)
  have f0 := hc.cellI (by have z0 := s_oW.out; have v0 := g_oW.out; have z1 := s_xs.out; have v1 := g_xs.out; have z2 := s_xt.out; have v2 := g_xt.out; have z3 := s_oG.out; have v3 := g_oG.out; have y0 := d_xs.out; have y1 := d_xt.out; have y2 := d_oG.out; omega) f0
  have f1 := hc.cellI (by have z0 := s_oW.out; have v0 := g_oW.out; have z1 := s_xs.out; have v1 := g_xs.out; have z2 := s_xt.out; have v2 := g_xt.out; have z3 := s_oG.out; have v3 := g_oG.out; have y0 := d_xs.out; have y1 := d_xt.out; have y2 := d_oG.out; omega) f1
  have f2 := hc.cellI (by have z0 := s_oW.out; have v0 := g_oW.out; have z1 := s_xs.out; have v1 := g_xs.out; have z2 := s_xt.out; have v2 := g_xt.out; have z3 := s_oG.out; have v3 := g_oG.out; have y0 := d_xs.out; have y1 := d_xt.out; have y2 := d_oG.out; omega) f2
  have f3 := hc.cellI (by have z0 := s_oW.out; have v0 := g_oW.out; have z1 := s_xs.out; have v1 := g_xs.out; have z2 := s_xt.out; have v2 := g_xt.out; have z3 := s_oG.out; have v3 := g_oG.out; have y0 := d_xs.out; have y1 := d_xt.out; have y2 := d_oG.out; omega) f3
  have bb := bb.trans (hc.belowI bb.size (by have z0 := s_oW.out; have v0 := g_oW.out; have z1 := s_xs.out; have v1 := g_xs.out; have z2 := s_xt.out; have v2 := g_xt.out; have z3 := s_oG.out; have v3 := g_oG.out; have y0 := d_xs.out; have y1 := d_xt.out; have y2 := d_oG.out; omega))
  clear hc
  have oG := noG
  clear noG
  go_wp2_with fail
  refine (heldT_c _ _ _ _ _ _ oG.tab (by omega) (by omega) (by omega) (by omega) (fun i j _ => rfl)).mono ?_
  rintro e w' ⟨rfl, rfl⟩
  go_wp2
  have js := im
  have jt := it
  go_region_held3 (fun W => W.cell? ⟨w.heap.size, 0, none⟩ = some (.int .i64 ps) ∧ W.cell? ⟨w.heap.size, 1, none⟩ = some (.slice am ns cs) ∧ W.cell? ⟨w.heap.size + 1, 0, none⟩ = some (.int .i64 pt) ∧ W.cell? ⟨w.heap.size + 1, 1, none⟩ = some (.slice ak nt ct) ∧ Below w.heap.size w W)
    ((first | assumption | exact cell4Keep (drewB _) ⟨f0, f1, f2, f3, bb⟩ | exact cell4Keep (by assumption) (by assumption)))
    ((first
      | (go_at_call 45; refine (toSp_o _ _ _ _ _ (js.out _ (cell4Below (by assumption))) hs).mono ?_; rintro e wha ⟨aha, cha, rfl, hba, hOa⟩; clear js)
      | (go_at_call 45; refine (toSp_o _ _ _ _ _ (jt.out _ (cell4Below (by assumption))) hnt).mono ?_; rintro e whb ⟨ahb, chb, rfl, hbb, hOb⟩; clear jt)
      | (go_at_call 51; refine (CI.out _ _ _ (hOa.kept hbb).ints hOb.ints).mono ?_; rintro e whc ⟨ahc, chc, rfl, hbc, noH⟩)))
  rename_i hHeld
  have oW := oW.kept (drewB _)
  have oG := oG.kept (drewB _)
  have f0 := cellKp (drewB _) f0
  have f1 := cellKp (drewB _) f1
  have f2 := cellKp (drewB _) f2
  have f3 := cellKp (drewB _) f3
  have bb := bb.trans ((drewB _).mono bb.size)
  have oW := oW.kept hba
  have oG := oG.kept hba
  have f0 := cellKp hba f0
  have f1 := cellKp hba f1
  have f2 := cellKp hba f2
  have f3 := cellKp hba f3
  have bb := bb.trans (hba.mono bb.size)
  have oW := oW.kept hbb
  have oG := oG.kept hbb
  have f0 := cellKp hbb f0
  have f1 := cellKp hbb f1
  have f2 := cellKp hbb f2
  have f3 := cellKp hbb f3
  have bb := bb.trans (hbb.mono bb.size)
  have s_oH := Lib.hid hbc.size
  have g_oH := Lib.hid (Nat.succ_le_of_lt (lt_of_cell f2))
  have oW := oW.kept hbc
  have oG := oG.kept hbc
  have f0 := cellKp hbc f0
  have f1 := cellKp hbc f1
  have f2 := cellKp hbc f2
  have f3 := cellKp hbc f3
  have bb := bb.trans (hbc.mono bb.size)
  have oH := noH
  clear noH hba hbb hbc hOa hOb hHeld
  have hu_oH := Lib.hid (Nat.le_refl whc.heap.size)
  go_wp2_with fail
  refine Calls.reads' (wr := w) (eqInt64SS_c _ _ _ _ _ _ _ _ _ oH.tab oW.tab) _ fun q3 => ?_
  rw [eqTB_refl]
  have oW := oW.kept (below_drewN _ q3)
  have oG := oG.kept (below_drewN _ q3)
  have oH := oH.kept (below_drewN _ q3)
  have f0 := cellKp (below_drewN _ q3) f0
  have f1 := cellKp (below_drewN _ q3) f1
  have f2 := cellKp (below_drewN _ q3) f2
  have f3 := cellKp (below_drewN _ q3) f3
  have bb := bb.trans ((below_drewN _ q3).mono bb.size)
  go_wp2_with fail
  refine (heldT_c _ _ _ _ _ _ oG.tab (by omega) (by omega) (by omega) (by omega) (fun i j _ => rfl)).mono ?_
  rintro e w' ⟨rfl, rfl⟩
  go_wp2
  go_ret
  exact ⟨rfl, bb⟩

end Go.Proofs.Ytnkflgigbielgaa
