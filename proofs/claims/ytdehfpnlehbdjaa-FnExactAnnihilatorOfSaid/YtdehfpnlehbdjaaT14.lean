/-
  What the reference's functions on loops compute: triples, order, inverse, nucleus. No condition beside sizes.
-/
import Derived.Test.YtdehfpnlehbdjaaT13
set_option linter.unusedVariables false
set_option linter.unusedSimpArgs false
namespace Go.Proofs.Ytdehfpnlehbdjaa
open Go.RowKit

theorem Calls.reads' {P : Program} {f : FuncId} {args : Array Value} {w wr : World} {v : Value} (h : Calls P f args w fun e w' => Reads w w' e v) (R : Ending → World → Prop) (hR : ∀ q, R (.returned v) (w.drewN q)) : Calls P f args w R :=
  h.mono fun e w' h => by obtain ⟨rfl, q, rfl⟩ := h.out; exact hR q

/-- a number and a code -/
def rI (ok : Bool) (x : Int) : Value := if ok then .tuple #[.int .i64 x, .int .i64 0] else .tuple #[.int .i64 0, .int .i64 1]
/-- a bool and a code -/
def rB (ok : Bool) (x : Bool) : Value := if ok then .tuple #[.bool x, .int .i64 0] else .tuple #[.bool false, .int .i64 1]

theorem ret_v {a b : Value} (h : a = b) : Ending.returned a = .returned b := by rw [h]

theorem Calls.makes' {P : Program} {f : FuncId} {args : Array Value} {w : World} {v : Value} (h : Calls P f args w fun e w' => Makes w w' e v) (R : Ending → World → Prop) (hR : ∀ w', Below w.heap.size w w' → R (.returned v) w') : Calls P f args w R :=
  h.mono fun e w' h => by obtain ⟨rfl, hb⟩ := h.out; exact hR w' hb

theorem Reads.below {w w' : World} {q : Nat} (h : Below w.heap.size w w') : Below w.heap.size w (w'.drewN q) := ⟨h.os, h.tape, h.output, h.size, h.block⟩

end Go.Proofs.Ytdehfpnlehbdjaa
