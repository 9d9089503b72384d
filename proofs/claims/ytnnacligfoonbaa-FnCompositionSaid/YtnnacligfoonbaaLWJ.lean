/-
  Associators, commutators, Moufang gaps and cross products as the laws call them: with elements, the code 0. No condition beside sizes.
-/
import Derived.Test.YtnnacligfoonbaaLW2
import Derived.Test.YtnnacligfoonbaaQDJ
import Derived.Test.YtnnacligfoonbaaD22
import Derived.Test.YtnnacligfoonbaaDJB
import Derived.Test.YtnnacligfoonbaaD25
import Derived.Test.YtnnacligfoonbaaLC3
set_option linter.unusedVariables false
set_option linter.unusedSimpArgs false
namespace Go.Proofs.Ytnnacligfoonbaa
open Go.RowKit

theorem pick3_same {α : Type} (a : α) : pick3 a a a = fun _ => a := by
  funext i; unfold pick3; split
  · rfl
  · split <;> rfl
theorem code3_ok {p : Int} {n : Nat} {s X Y Z : Nat → Int} (m : Nat) (hok : dblB p n s = true) (hX : InP p (2 ^ n) X) (hY : InP p (2 ^ n) Y) (hZ : InP p (2 ^ n) Z) : codeE (dblB p n s) p n m (pick3 (2 ^ n) (2 ^ n) (2 ^ n)) (pick3 X Y Z) = 0 := by
  rw [pick3_same]
  refine codeE_ok hok fun i hi => ?_
  unfold pick3; split
  · exact hX
  · split
    · exact hY
    · exact hZ

theorem vAsc_c (p : Int) (sv : Value) (n : Nat) (s : Nat → Int) (xv yv zv : Value) (X Y Z : Nat → Int) (w : World) (hok : dblB p n s = true) (h : Ints w sv n s) (hx : El w xv p n X) (hy : El w yv p n Y) (hz : El w zv p n Z) :
    Calls Try.prog 55 #[dbl p sv, xv, yv, zv] w fun e w' => ResE w w' e p n (asF p s n X Y Z) :=
  (iAssociatorOf_c p sv n s xv (2 ^ n) X yv (2 ^ n) Y zv (2 ^ n) Z w h hx.ints hy.ints hz.ints).mono fun e w' hr => hr.toE (code3_ok 3 hok hx.inp hy.inp hz.inp) (asF_in (by have := primeB_bd (dblB_ok hok).prime; omega) s n X Y Z _)

theorem vCom_c (p : Int) (sv : Value) (n : Nat) (s : Nat → Int) (xv yv : Value) (X Y : Nat → Int) (w : World) (hok : dblB p n s = true) (h : Ints w sv n s) (hx : El w xv p n X) (hy : El w yv p n Y) :
    Calls Try.prog 57 #[dbl p sv, xv, yv] w fun e w' => ResE w w' e p n (coF p s n X Y) :=
  (iCommutatorOf_c p sv n s xv (2 ^ n) X yv (2 ^ n) Y w h hx.ints hy.ints).mono fun e w' hr => hr.toE (code3_ok 2 hok hx.inp hy.inp hy.inp) (in_mod (by have := primeB_bd (dblB_ok hok).prime; omega) _ _)

/-- the cross product of two pure elements -/
def crF (p : Int) (s : Nat → Int) (n : Nat) (X Y : Nat → Int) (i : Nat) : Int := (coF p s n X Y i * invM p 2) % p
theorem vCross_c (p : Int) (sv : Value) (n : Nat) (s : Nat → Int) (xv yv : Value) (X Y : Nat → Int) (w : World) (hok : dblB p n s = true) (h : Ints w sv n s) (hx : El w xv p n X) (hy : El w yv p n Y) (h0 : X 0 = 0) (h1 : Y 0 = 0) :
    Calls Try.prog 58 #[dbl p sv, xv, yv] w fun e w' => ResE w w' e p n (crF p s n X Y) :=
  (iCrossOf_c p sv n s xv (2 ^ n) X yv (2 ^ n) Y w h hx.ints hy.ints).mono fun e w' hr => hr.toE (by rw [code3_ok 2 hok hx.inp hy.inp hy.inp, h0, h1]; rfl) (in_mod (by have := primeB_bd (dblB_ok hok).prime; omega) _ _)

theorem dgF_zero (p : Int) (s : Nat → Int) : ∀ n, dgF p s n 0 = 1
  | 0 => rfl
  | n + 1 => by
    unfold dgF
    rw [if_pos (Nat.pow_pos (by decide))]
    exact dgF_zero p s n
/-- a cross product is the product less its first place -/
theorem cross_eq {p : Int} (hp : primeB p = true) {s : Nat → Int} {n : Nat} {X Y : Nat → Int} (h0 : X 0 = 0) (h1 : Y 0 = 0) : CgV p (2 ^ n) (crF p s n X Y) fun i => if i = 0 then 0 else mulF p s n X Y i := by
  have hb := primeB_bd hp
  have hnX : ∀ {A : Nat → Int}, A 0 = 0 → CgV p (2 ^ n) (conjF p A) (negL A) := fun {A} hA j hj => by
    unfold conjF negL
    by_cases e : j = 0
    · subst e; rw [if_pos rfl, hA]; exact Cg.rfl' _ _
    · rw [if_neg e]; exact (Cg.mod p _).trans (Cg.of_eq (by omega))
  have hc : CgV p (2 ^ n) (conjF p (mulF p s n X Y)) (mulF p s n Y X) := by
    refine (conj_mul n X Y).trans ((mul_cg n (hnX h1) (hnX h0)).trans ((mul_negL n _ _).trans ((negL_cg (mul_negR n _ _)).trans fun j hj => Cg.of_eq ?_)))
    simp only [negL]; omega
  obtain ⟨v1, v2, v3⟩ := invM_spec hp (a := 2) (by omega) (by omega)
  obtain ⟨V, hV⟩ : ∃ V, invM p 2 = V := ⟨_, rfl⟩
  rw [hV] at v3
  have hV1 : Cg p (2 * V) 1 := by show _ % p = 1 % p; rw [v3, Int.emod_eq_of_lt (by omega) (by omega)]
  intro j hj
  unfold crF coF
  rw [hV]
  refine (Cg.mod p _).trans (((Cg.mod p _).trans ((Cg.rfl' p _).add ((Cg.rfl' p (-1)).mul (hc j hj).symm))).mul (Cg.rfl' p V) |>.trans ?_)
  unfold conjF
  by_cases e : j = 0
  · subst e
    rw [if_pos rfl]
    exact Cg.of_eq (by simp; grind)
  · rw [if_neg e]
    show Cg p _ (if j = 0 then 0 else mulF p s n X Y j)
    rw [if_neg e]
    refine (((Cg.rfl' p _).add ((Cg.rfl' p (-1)).mul (Cg.mod p _))).mul (Cg.rfl' p V)).trans ?_
    refine (Cg.of_eq (show (mulF p s n X Y j + -1 * -(mulF p s n X Y j)) * V = mulF p s n X Y j * (2 * V) by grind)).trans (((Cg.rfl' p _).mul hV1).trans (Cg.of_eq (Int.mul_one _)))
/-- the norm of a cross product -/
theorem cross_norm {p : Int} (hp : primeB p = true) {s : Nat → Int} {n : Nat} (hn : n ≤ 3) {X Y : Nat → Int} (h0 : X 0 = 0) (h1 : Y 0 = 0) : Cg p (normF p s n (crF p s n X Y) + mulF p s n X Y 0 * mulF p s n X Y 0) (normF p s n X * normF p s n Y) := by
  refine Cg.trans ?_ (norm_mul (s := s) hp hn X Y)
  have hc := cross_eq (s := s) (n := n) hp h0 h1
  rw [← norm_sum, ← norm_sum, nsF_eq, nsF_eq]
  obtain ⟨Z, hZ⟩ : ∃ Z, mulF p s n X Y = Z := ⟨_, rfl⟩
  obtain ⟨C, hC⟩ : ∃ C, crF p s n X Y = C := ⟨_, rfl⟩
  rw [hZ] at hc ⊢
  rw [hC] at hc ⊢
  have h2 := sumF_mod (p := p) (n := 2 ^ n) (f := fun i => dgF p s n i * Z i * Z i) (g := fun i => dgF p s n i * C i * C i + if i = 0 then Z 0 * Z 0 else 0) fun i hi => by
    have h3 : Cg p (C i) (if i = 0 then 0 else Z i) := hc i hi
    by_cases e : i = 0
    · subst e
      rw [if_pos rfl] at h3 ⊢
      rw [dgF_zero]
      have h4 : Cg p (1 * C 0 * C 0) 0 := ((Cg.of_eq (show 1 * C 0 * C 0 = C 0 * C 0 by grind)).trans (h3.mul h3)).trans (Cg.of_eq (by simp))
      exact (Cg.symm ((h4.add (Cg.rfl' p (Z 0 * Z 0))).trans (Cg.of_eq (by grind))))
    · rw [if_neg e] at h3 ⊢
      have h4 : Cg p (dgF p s n i * C i * C i) (dgF p s n i * Z i * Z i) := ((Cg.rfl' p _).mul h3).mul h3
      exact Cg.symm ((Cg.of_eq (Int.add_zero _)).trans h4)
  have h5 : sumF (fun i => if i = 0 then Z 0 * Z 0 else 0) (2 ^ n) = Z 0 * Z 0 := sumF_one (fun _ => Z 0 * Z 0) 0 (Nat.pow_pos (by decide))
  rw [sumF_plus, h5] at h2
  exact ((Cg.mod p _).add (Cg.rfl' p _)).trans (Cg.symm ((Cg.mod p _).trans h2))

end Go.Proofs.Ytnnacligfoonbaa

/-
  What the law on compositions compares, in plain form. No condition beside sizes.
-/
set_option linter.unusedVariables false
set_option linter.unusedSimpArgs false
namespace Go.Proofs.Ytnnacligfoonbaa
open Go.RowKit

/-- an element without its first place -/
def purF (X : Nat → Int) (i : Nat) : Int := if i = 0 then 0 else X i
theorem purF_in {p : Int} (hp : 0 < p) {X : Nat → Int} {n : Nat} (h : InP p n X) : InP p n (purF X) := fun i hi => by
  unfold purF
  split
  · omega
  · exact h i hi
/-- what holds for at most four steps -/
structure CL4 (p : Int) (n : Nat) (s X Y Z : Nat → Int) : Prop where
  cyc : cycV p n s X Y Z = cycV p n s Y Z X
  com : eqB (2 ^ n) (2 ^ n) (coF p s n X Y) (fun i => (mulF p s n X Y i + (-1 * mulF p s n Y X i) % p) % p) = true
/-- what holds for at most three steps -/
structure CL3 (p : Int) (n : Nat) (s X Y Z : Nat → Int) : Prop where
  mou : zeroB (2 ^ n) (fun i => (mulF p s n (mulF p s n X (mulF p s n Y Z)) X i + -1 * mulF p s n (mulF p s n X Y) (mulF p s n Z X) i) % p) = true
  comp : gapV p n s X Y = 0
  alt : zeroB (2 ^ n) (fun i => (asF p s n X Y Z i + asF p s n Y X Z i) % p) = true
  turn : eqB (2 ^ n) (2 ^ n) (asF p s n X Y Z) (asF p s n Y Z X) = true
  cross : (normF p s n (crF p s n (purF X) (purF Y)) + mulF p s n (purF X) (purF Y) 0 * mulF p s n (purF X) (purF Y) 0) % p = (normF p s n (purF X) * normF p s n (purF Y)) % p
theorem cl4_of {p : Int} (hp : primeB p = true) {n : Nat} (hn : n ≤ 4) (s X Y Z : Nat → Int) : CL4 p n s X Y Z := by
  have hb := primeB_bd hp
  refine ⟨?_, ?_⟩
  · exact (Cg.rfl' p 2).mul (cyc_turn (s := s) hn X Y Z)
  · refine eqB_all fun i hi => ?_
    show (mulF p s n X Y i + -1 * mulF p s n Y X i) % p = (mulF p s n X Y i + (-1 * mulF p s n Y X i) % p) % p
    exact (Cg.rfl' p _).add (Cg.mod' p _)
theorem cl3_of {p : Int} (hp : primeB p = true) {n : Nat} (hn : n ≤ 3) (s X Y Z : Nat → Int) : CL3 p n s X Y Z := by
  have hb := primeB_bd hp
  refine ⟨?_, ?_, ?_, ?_, ?_⟩
  · refine decide_eq_true fun i hi => Cg.zero ?_
    exact ((moufang hp hn X Y Z i hi).add (Cg.rfl' p _)).trans (Cg.of_eq (by omega))
  · refine Cg.zero ?_
    have h := norm_mul hp (s := s) hn X Y
    exact (Cg.of_eq (show _ = normF p s n (mulF p s n X Y) + -(normF p s n X * normF p s n Y) by omega)).trans ((h.add (Cg.rfl' p _)).trans (Cg.of_eq (by omega)))
  · refine decide_eq_true fun i hi => Cg.zero ?_
    have h := as_alt (p := p) (s := s) hn X Y Z i hi
    exact (Cg.of_eq (show _ = lin (asF p s n X Y Z) 1 (asF p s n Y X Z) i by unfold lin; omega)).trans h
  · exact eqB_all fun i hi => (as_turn hn X Y Z i hi).eq (asF_in (by omega) s n X Y Z (2 ^ n) i hi) (asF_in (by omega) s n Y Z X (2 ^ n) i hi)
  · exact cross_norm hp hn rfl rfl

end Go.Proofs.Ytnnacligfoonbaa
