/-
  The numbers of elements of all norms add up to that of all elements; the least roots of a norm have it. Plain.
-/
import Derived.Test.YtnnacligfoonbaaQL
import Derived.Test.YtnnacligfoonbaaQJ
set_option linter.unusedVariables false
set_option linter.unusedSimpArgs false
namespace Go.Proofs.Ytnnacligfoonbaa

theorem sumF_at_mod {P : Nat} (hP : 0 < P) (x v : Int) : sumF (fun k => if x % P = (k : Int) then v else 0) P = v := by
  have h1 := mod_bd x P (by omega)
  have h2 := sumF_one (fun _ => v) (x % P).toNat (n := P) (by omega)
  refine Eq.trans (sumF_congr fun i hi => ?_) h2
  · by_cases e : x % P = (i : Int)
    · rw [if_pos e, if_pos (by omega)]
    · rw [if_neg e, if_neg (by omega)]

theorem backK_sum {P : Nat} (hP : 0 < P) (c : Nat → Int) : ∀ (m lo : Nat), sumF (fun k => backK P c lo m k) P = (P : Int) ^ m
  | 0, lo => by
    have h := sumF_one (fun _ => 1) 0 hP
    simpa [backK] using h
  | m + 1, lo => by
    have ih := backK_sum hP c m (lo + 1)
    show sumF (fun k => sumF (fun n => sumF (fun a => if ((n : Int) + c lo * a * a) % P = (k : Int) then backK P c (lo + 1) m n else 0) P) P) P = _
    rw [sumF_swap]
    rw [sumF_congr (g := fun n => P * backK P c (lo + 1) m n) fun n hn => ?_]
    · rw [← sumF_mul, ih, Int.pow_succ, Int.mul_comm]
    · rw [sumF_swap, sumF_congr (g := fun _ => backK P c (lo + 1) m n) fun a ha => sumF_at_mod hP _ _, sumF_constI]

theorem least_inv {P : Nat} (hP : 0 < P) (c : Nat → Int) {N K : Nat} (hK : K < P) (h : 0 < backK P c 0 N K) : ∀ i, i ≤ N → 0 < backK P c i (N - i) (kS P c N K i)
  | 0, _ => h
  | i + 1, hi => by
    have ih := least_inv hP c hK h i (by omega)
    obtain ⟨a, ha, hok⟩ := okK_some hP (show i < N by omega) (kS_lt hP c hK i) ih
    have hlt : fst (okK P c N i (kS P c N K i)) P < P := (fst_more ⟨a, ha, hok⟩ 0).1
    exact of_decide_eq_true (fst_is _ _ hlt)
theorem least_lt {P : Nat} (hP : 0 < P) (c : Nat → Int) {N K : Nat} (hK : K < P) (h : 0 < backK P c 0 N K) (i : Nat) (hi : i < N) : xS P c N K i < P := by
  obtain ⟨a, ha, hok⟩ := okK_some hP hi (kS_lt hP c hK i) (least_inv hP c hK h i (by omega))
  exact (fst_more ⟨a, ha, hok⟩ 0).1
theorem least_rest {P : Nat} (hP : 0 < P) (c : Nat → Int) {N K : Nat} (hK : K < P) : ∀ i, ((kS P c N K i : Nat) : Int) = ((K : Int) - sumF (fun j => c j * xS P c N K j * xS P c N K j) i) % P
  | 0 => by simp [kS, sumF]; exact (Int.emod_eq_of_lt (by omega) (by omega)).symm
  | i + 1 => by
    have ih := least_rest hP c (N := N) hK i
    show ((restK P (c i) (kS P c N K i) (xS P c N K i) : Nat) : Int) = _
    rw [← restK_eq hP, ih, sumF, Int.sub_eq_add_neg, mod_add_mod]
    congr 1
    omega
theorem least_sum {P : Nat} (hP : 0 < P) (c : Nat → Int) {N K : Nat} (hK : K < P) (h : 0 < backK P c 0 N K) : sumF (fun j => c j * xS P c N K j * xS P c N K j) N % P = K := by
  have h1 := least_inv hP c hK h N (Nat.le_refl _)
  have h2 := least_rest hP c hK N (N := N)
  rw [Nat.sub_self] at h1
  have h3 : kS P c N K N = 0 := by
    unfold backK at h1
    split at h1
    · assumption
    · omega
  rw [h3] at h2
  obtain ⟨q, hq⟩ := Int.dvd_of_emod_eq_zero h2.symm
  have h5 : sumF (fun j => c j * xS P c N K j * xS P c N K j) N = K + P * (-q) := by rw [Int.mul_neg]; omega
  rw [h5, Int.add_mul_emod_self_left]
  exact Int.emod_eq_of_lt (by omega) (by omega)

end Go.Proofs.Ytnnacligfoonbaa
