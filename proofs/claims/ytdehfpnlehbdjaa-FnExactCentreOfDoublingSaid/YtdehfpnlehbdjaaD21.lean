/-
  AssociatorOf, in both programs. No condition beside sizes.
-/
import Derived.Test.YtdehfpnlehbdjaaD20
set_option linter.unusedVariables false
set_option linter.unusedSimpArgs false
namespace Go.Proofs.Ytdehfpnlehbdjaa
open Go.RowKit

/-- A result that is an element, or nil and a code. -/
structure ResC (w w' : World) (e : Ending) (cc : Int) (n : Nat) (X : Nat → Int) : Prop where
  bel : Below w.heap.size w w'
  out : (cc = 0 ∧ ∃ g c, e = .returned (.tuple #[.slice (some ⟨g, 0, none⟩) (2 ^ n) c, .int .i64 0]) ∧ w.heap.size ≤ g ∧ Own w' 2 g c (2 ^ n) (fun i => .int .i64 (X i))) ∨
    (cc ≠ 0 ∧ e = .returned (.tuple #[.slice none 0 0, .int .i64 cc]))

set_option maxRecDepth 100000 in
set_option maxHeartbeats 400000 in
theorem markD_c (p : Int) (g cap n : Nat) (V : Nat → Value) (k : Int) (w : World) (h : Own w 2 g cap n V) (h0 : 0 ≤ k) (hk : k ≤ 1099511627776) (hn : n ≤ 1099511627776) :
    Calls Try.prog 18 #[dbl p (.slice (some ⟨g, 0, none⟩) n cap), .int .i64 k] w fun e w' => e = .returned (.int .i64 (k + n)) ∧ Chg w w' (· = g) := by
  have ho := h.alloc (.cells #[.int .i64 p, .slice (some ⟨g, 0, none⟩) n cap] 30)
  have hc : Chg w (w.alloc (.cells #[.int .i64 p, .slice (some ⟨g, 0, none⟩) n cap] 30)) (· = g) := Chg.of_below ((Below.refl _ _).alloc (Nat.le_refl _) _) _
  go_enter Try.func18, Try.ntmps18
  go_wp2_with fail
  go_at_call 27
  refine (markInt64S_c _ _ _ _ _ _ ho h0 hk hn).mono ?_
  rintro e w1 ⟨rfl, hc1, _⟩
  go_wp2
  go_ret
  exact ⟨rfl, hc.trans hc1⟩

end Go.Proofs.Ytdehfpnlehbdjaa
