/-
  What the program's functions on loops compute: the code of a table and elements; triples. No condition beside sizes.
-/
import Derived.Test.YtdehfpnlehbdjaaI14
set_option linter.unusedVariables false
set_option linter.unusedSimpArgs false
namespace Go.Proofs.Ytdehfpnlehbdjaa
open Go.RowKit

/-- The code of a loop and elements. -/
def codeL (ok : Bool) (G n : Nat) (X : Nat → Int) : Int := if ok then (if anyB (fun i => !inB (X i) 0 ((G : Int) - 1)) n then 2 else 0) else 1
theorem codeL_nil (ok : Bool) (G : Nat) (X : Nat → Int) : codeL ok G 0 X = if ok then 0 else 1 := by
  unfold codeL; rw [anyB_none fun j hj => absurd hj (Nat.not_lt_zero _)]; rfl
theorem codeL_one (ok : Bool) (G : Nat) (X : Nat → Int) : codeL ok G 1 X = codeV ok G (X 0) := by
  unfold codeL codeV
  cases h : inB (X 0) 0 ((G : Int) - 1)
  · rw [anyB_at (k := 0) (by omega) (by simp [h])]; simp
  · rw [anyB_none fun j hj => by obtain rfl : j = 0 := by omega
                                 simp [h]]; simp

/-- the empty list -/
theorem Ints.nil (w : World) (X : Nat → Int) : Ints w (.slice none 0 0) 0 X := ⟨none, 0, 0, 0, rfl, Nat.le_refl _, Nat.zero_le _, fun h => absurd h (Nat.not_lt_zero _), fun i hi => absurd hi (Nat.not_lt_zero _)⟩
theorem Ints.one (w : World) (x : Int) (t : TypeId) : Ints (w.alloc (.cells #[.int .i64 x] t)) (.slice (some ⟨w.heap.size, 0, none⟩) 1 1) 1 (fun _ => x) :=
  ⟨_, 1, w.heap.size, 0, rfl, Nat.le_refl _, by omega, fun _ => rfl, fun i hi => by obtain rfl : i = 0 := by omega
                                                                                    simp⟩

set_option maxHeartbeats 400000 in
theorem iIndex_c (v : Value) (n : Nat) (X : Nat → Int) (x : Int) (w : World) (h : Ints w v n X) :
    Calls Try.prog 96 #[v, .int .i64 x] w fun e w' => e = .returned (.int .i64 (idx X x n)) ∧ w = w' := by
  obtain ⟨ao, c, b, o, rfl, p2, p3, p4, p5⟩ := h.out
  clear h
  go_enter Try.func96, Try.ntmps96
  go_wp2
  go_loopg [8] n (fun g i wr => w = wr ∧ ∃ k : Nat, k ≤ n ∧ g = n - k ∧ i = .int .i64 k ∧ ∀ j, j < k → X j ≠ x)
  case atStart => exact ⟨rfl, 0, Nat.zero_le _, rfl, rfl, fun j hj => absurd hj (Nat.not_lt_zero _)⟩
  case round =>
    obtain ⟨rfl, k, hk, rfl, rfl, hall⟩ := hrel
    have H := Lib.hid hall; clear hall
    by_cases hlt : k < n
    · obtain rfl := p4 (by omega)
      by_cases hx : X k = x
      · have ht : (x == X k) = true := by simpa using hx.symm
        have HX := Lib.hid hx; clear hx
        go_wp2
        go_ret
        exact ⟨ret_i64 (idx_at hlt H.out HX.out).symm, rfl⟩
      · have ht : (x == X k) = false := by rw [beq_eq_false_iff_ne]; exact fun e => hx e.symm
        go_wp2
        go_roundg (n - (k + 1))
        case measure => omega
        case rel => exact ⟨rfl, k + 1, by omega, rfl, by go_num, fun j hj => by
          by_cases e : j = k
          · subst e; exact hx
          · exact H.out j (by omega)⟩
    · obtain rfl : k = n := by omega
      go_wp2
      go_ret
      exact ⟨ret_i64 (idx_none H.out).symm, rfl⟩

end Go.Proofs.Ytdehfpnlehbdjaa
