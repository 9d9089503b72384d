/-
  What the reference's functions on loops compute: tests, order, inverse, nucleus. No condition beside sizes.
-/
import Derived.Test.YtdehfpnlehbdjaaT14
set_option linter.unusedVariables false
set_option linter.unusedSimpArgs false
namespace Go.Proofs.Ytdehfpnlehbdjaa
open Go.RowKit

/-- The code of a loop and an element. -/
def codeV (ok : Bool) (G : Nat) (x : Int) : Int := if ok then (if inB x 0 ((G : Int) - 1) then 0 else 2) else 1

set_option maxHeartbeats 400000 in
theorem sIndex_c (v : Value) (n : Nat) (X : Nat → Int) (x : Int) (w : World) (h : Ints w v n X) :
    Calls Try.prog 97 #[v, .int .i64 x] w fun e w' => e = .returned (.int .i64 (idx X x n)) ∧ w = w' := by
  obtain ⟨ao, c, b, o, rfl, p2, p3, p4, p5⟩ := h.out
  clear h
  go_enter Try.func97, Try.ntmps97
  go_wp2
  go_loopg [5] n (fun g i wr => w = wr ∧ ∃ k : Nat, k ≤ n ∧ g = n - k ∧ i = .int .i64 k ∧ ∀ j, j < k → X j ≠ x)
  case atStart => exact ⟨rfl, 0, Nat.zero_le _, rfl, rfl, fun j hj => absurd hj (Nat.not_lt_zero _)⟩
  case round =>
    obtain ⟨rfl, k, hk, rfl, rfl, hall⟩ := hrel
    have H := Lib.hid hall; clear hall
    by_cases hlt : k < n
    · obtain rfl := p4 (by omega)
      by_cases hx : X k = x
      · have ht : (X k == x) = true := by simpa using hx
        have HX := Lib.hid hx; clear hx
        go_wp2
        go_ret
        exact ⟨ret_i64 (idx_at hlt H.out HX.out).symm, rfl⟩
      · have ht : (X k == x) = false := by simpa using hx
        go_wp2
        go_roundg (n - (k + 1))
        case measure => omega
        case rel => exact ⟨rfl, k + 1, by omega, rfl, by go_num, fun j hj => by
          by_cases e : j = k
          · subst e; exact hx
          · exact H.out j (by omega)⟩
    · obtain rfl : k = n := by omega
      go_wp2
      go_ret
      exact ⟨ret_i64 (idx_none H.out).symm, rfl⟩

/-- a number and a code: the code where it is not 0 -/
def rC (code : Int) (x : Int) : Value := if code = 0 then .tuple #[.int .i64 x, .int .i64 0] else .tuple #[.int .i64 0, .int .i64 code]

theorem LT.row {w : World} {v : Value} {G : Nat} {N : Nat → Nat → Nat} (h : LT w v G N) {x : Nat} (hx : x < G) : ∃ (c b o : Nat) (u : Value), v = .slice (some ⟨b, o, none⟩) G c ∧ w.cell? ⟨b, o + x, none⟩ = some u ∧ Ints w u G (fun j => N x j) := by
  obtain ⟨c, b, o, C, RB, RO, p1, p2, p3, p4, p5, p6, p7⟩ := h.out
  exact ⟨c, b, o, _, p1, p4 x hx, ⟨_, C x, RB x, RO x, rfl, (p5 x hx).1, (p5 x hx).2, fun _ => rfl, fun j hj => p6 x j hx hj⟩⟩

theorem codeV_ok {ok : Bool} {G : Nat} {x : Int} (h : codeV ok G x = 0) : ok = true ∧ 0 ≤ x ∧ x < G := by
  unfold codeV at h
  cases ok
  · simp at h
  · cases hx : inB x 0 ((G : Int) - 1)
    · simp [hx] at h
    · unfold inB at hx; have := of_decide_eq_true hx; exact ⟨rfl, by omega, by omega⟩

end Go.Proofs.Ytdehfpnlehbdjaa
