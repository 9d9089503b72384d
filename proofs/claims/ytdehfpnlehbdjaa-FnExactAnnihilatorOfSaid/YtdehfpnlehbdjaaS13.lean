/-
  What the reference's functions on loops compute. No condition beside sizes.
-/
import Derived.Test.YtdehfpnlehbdjaaLM
import Derived.Test.YtdehfpnlehbdjaaQ13
import Derived.Deep.DeepCutAuto
import Derived.Deep.OwnRows
import Derived.BigRegion
set_option linter.unusedVariables false
set_option linter.unusedSimpArgs false
namespace Go.Proofs.Ytdehfpnlehbdjaa
open Go.RowKit

theorem sIn_c (n low high : Int) (w : World) : Calls Try.prog 77 #[.int .i64 n, .int .i64 low, .int .i64 high] w fun e w' => e = .returned (.bool (inB n low high)) ∧ w = w' := by
  by_cases h : low ≤ n
  · by_cases h2 : n ≤ high
    · go_enter Try.func77, Try.ntmps77
      go_wp2
      go_ret
      exact ⟨ret_bool (by simp [inB, h, h2]), rfl⟩
    · go_enter Try.func77, Try.ntmps77
      go_wp2
      go_ret
      exact ⟨ret_bool (by simp [inB, h2]), rfl⟩
  · go_enter Try.func77, Try.ntmps77
    go_wp2
    go_ret
    exact ⟨ret_bool (by unfold inB; exact (decide_eq_false (by omega)).symm), rfl⟩

/-- A call that makes memory and turns none. -/
structure Makes (w w' : World) (e : Ending) (v : Value) : Prop where
  out : e = .returned v ∧ Below w.heap.size w w'

end Go.Proofs.Ytdehfpnlehbdjaa
