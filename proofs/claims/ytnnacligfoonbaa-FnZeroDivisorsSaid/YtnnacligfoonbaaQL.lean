/-
  The least element with a norm, root by root. No program is in sight. No condition.
-/
import Derived.Test.YtnnacligfoonbaaQK
import Derived.Test.YtnnacligfoonbaaQ13
set_option linter.unusedVariables false
set_option linter.unusedSimpArgs false
namespace Go.Proofs.Ytnnacligfoonbaa

def restK (P : Nat) (c : Int) (k a : Nat) : Nat := (((k : Int) - c * a * a) % P).toNat
theorem restK_lt {P : Nat} (hP : 0 < P) (c : Int) (k a : Nat) : restK P c k a < P := by have := mod_bd ((k : Int) - c * a * a) P (by omega); unfold restK; omega
theorem restK_eq {P : Nat} (hP : 0 < P) (c : Int) (k a : Nat) : ((k : Int) - c * a * a) % P = (restK P c k a : Int) := by have := mod_bd ((k : Int) - c * a * a) P (by omega); unfold restK; omega
theorem sumF_pos {f : Nat → Int} : ∀ {n : Nat}, 0 < sumF f n → ∃ i, i < n ∧ 0 < f i
  | 0, h => by simp [sumF] at h
  | n + 1, h => by
    rw [sumF] at h
    by_cases h0 : 0 < f n
    · exact ⟨n, by omega, h0⟩
    · obtain ⟨i, hi, hp⟩ := sumF_pos (n := n) (f := f) (by omega)
      exact ⟨i, by omega, hp⟩
theorem sumF_le_one {f : Nat → Int} : ∀ {n i : Nat}, (∀ j, j < n → 0 ≤ f j) → i < n → f i ≤ sumF f n
  | 0, i, _, hi => absurd hi (Nat.not_lt_zero _)
  | n + 1, i, h, hi => by
    rw [sumF]
    have h1 := h n (by omega)
    by_cases e : i = n
    · subst e
      have := sumF_nonneg (f := f) (n := i) (fun j hj => h j (by omega))
      omega
    · have := sumF_le_one (n := n) (i := i) (fun j hj => h j (by omega)) (by omega)
      omega
/-- the root a fits at place i for the rest k -/
def okK (P : Nat) (c : Nat → Int) (N i k a : Nat) : Bool := decide (0 < backK P c (i + 1) (N - (i + 1)) (restK P (c i) k a))
theorem backK_step (P : Nat) (c : Nat → Int) {N i : Nat} (hi : i < N) : backK P c i (N - i) = stepK P (c i) (backK P c (i + 1) (N - (i + 1))) := by rw [show N - i = (N - (i + 1)) + 1 by omega]; rfl
theorem okK_some {P : Nat} (hP : 0 < P) {c : Nat → Int} {N i k : Nat} (hi : i < N) (hk : k < P) (h : 0 < backK P c i (N - i) k) : ∃ a, a < P ∧ okK P c N i k a = true := by
  rw [backK_step P c hi, stepK_gather hP _ _ hk] at h
  obtain ⟨a, ha, hp⟩ := sumF_pos h
  exact ⟨a, ha, decide_eq_true hp⟩
theorem okK_none {P : Nat} (hP : 0 < P) {c : Nat → Int} {N i k : Nat} (hi : i < N) (hk : k < P) (h : backK P c i (N - i) k ≤ 0) (a : Nat) (ha : a < P) : okK P c N i k a = false := by
  rw [backK_step P c hi, stepK_gather hP _ _ hk] at h
  refine decide_eq_false fun hp => ?_
  have hn : ∀ j, j < P → 0 ≤ backK P c (i + 1) (N - (i + 1)) (restK P (c i) k j) := fun j hj => (backK_bd hP c _ _ _ (restK_lt hP _ _ _)).1
  have := sumF_le_one (f := fun a => backK P c (i + 1) (N - (i + 1)) (restK P (c i) k a)) hn ha
  have h' : sumF (fun a => backK P c (i + 1) (N - (i + 1)) (restK P (c i) k a)) P ≤ 0 := h
  omega
/-- the rests -/
def kS (P : Nat) (c : Nat → Int) (N K : Nat) : Nat → Nat
  | 0 => K
  | i + 1 => restK P (c i) (kS P c N K i) (fst (okK P c N i (kS P c N K i)) P)
/-- the roots -/
def xS (P : Nat) (c : Nat → Int) (N K i : Nat) : Nat := fst (okK P c N i (kS P c N K i)) P
theorem kS_lt {P : Nat} (hP : 0 < P) (c : Nat → Int) {N K : Nat} (hK : K < P) : ∀ i, kS P c N K i < P
  | 0 => hK
  | i + 1 => restK_lt hP _ _ _
theorem xS_at {P : Nat} {c : Nat → Int} {N K i a : Nat} (ha : a < P) (h : ∀ j, j < a → okK P c N i (kS P c N K i) j = false) (e : okK P c N i (kS P c N K i) a = true) : xS P c N K i = a ∧ kS P c N K (i + 1) = restK P (c i) (kS P c N K i) a ∧ 0 < backK P c (i + 1) (N - (i + 1)) (kS P c N K (i + 1)) := by
  have h1 : fst (okK P c N i (kS P c N K i)) P = a := fst_at ha h e
  have h2 : kS P c N K (i + 1) = restK P (c i) (kS P c N K i) a := by rw [kS, h1]
  exact ⟨h1, h2, by rw [h2]; exact of_decide_eq_true e⟩

end Go.Proofs.Ytnnacligfoonbaa
