/-
  Roots of the field's numbers, and which doublings divide, in both programs; the laws' own functions on doublings. No condition beside sizes.
-/
import Derived.Test.YtejbigdebjcomaaDoorDJ
import Derived.Handy
set_option linter.unusedVariables false
set_option linter.unusedSimpArgs false
set_option maxRecDepth 100000
namespace Go.Proofs.YtejbigdebjcomaaDoor
open Go.RowKit


/-- x is a root of a -/
def rootB (P : Nat) (a : Int) (x : Nat) : Bool := ((x : Int) * (x : Int)) % (P : Int) == a

def hasRoot (P : Nat) (a : Int) : Bool := decide (fst (rootB P a) P < P)


/-- a doubling at a world: its steps, and what the test says of it -/
structure DV (w : World) (sv : Value) (p : Int) (n : Nat) (s : Nat → Int) : Prop where
  ints : Ints w sv n s
  p1 : 1 ≤ p
  p2 : p ≤ 1000
  le : n ≤ 4
  sm : Sm n s

theorem DV.below {w w' : World} {sv : Value} {p : Int} {n : Nat} {s : Nat → Int} (h : DV w sv p n s) (hb : Below w.heap.size w w') : DV w' sv p n s := ⟨h.ints.below hb, h.p1, h.p2, h.le, h.sm⟩

theorem dv_of {w : World} {sv : Value} {p : Int} {n : Nat} {s : Nat → Int} (h : Ints w sv n s) (hd : dblB p n s = true) : DV w sv p n s := by
  obtain ⟨h1, h2, h3⟩ := dblB_ok hd
  have := primeB_bd h1
  exact ⟨h, by omega, by omega, h2, fun i hi => by have := h3 i hi; omega⟩


def divB (p : Int) (n : Nat) (s : Nat → Int) : Bool := if n = 0 then true else if n = 1 then !hasRoot p.toNat (s 0) else false

theorem rootLt (P : Nat) (a : Int) : decide (idxB (rootB P a) P < 0) = !hasRoot P a := by
  unfold hasRoot idxB
  by_cases h : fst (rootB P a) P < P
  · rw [if_pos h, decide_eq_true h, decide_eq_false (by omega)]; rfl
  · rw [if_neg h, decide_eq_false h]; rfl


theorem boxKeepC {w W W' : World} {p : Int} {ao : Option Addr} {n c : Nat} {a : Addr} {v : Value} (ha : a.block < w.heap.size) (hb : Below W.heap.size W W') (h : BoxD w p ao n c W ∧ W.cell? a = some v) : BoxD w p ao n c W' ∧ W'.cell? a = some v :=
  ⟨boxKeep hb h.1, by rw [hb.cell (p := a) (by have := h.1.2.2.2.size; omega)]; exact h.2⟩

theorem boxBelowC {w W : World} {p : Int} {ao : Option Addr} {n c : Nat} {a : Addr} {v : Value} (h : BoxD w p ao n c W ∧ W.cell? a = some v) : Below w.heap.size w W := h.1.2.2.2

theorem boxStartC {w W : World} {p : Int} {ao : Option Addr} {n c : Nat} {a : Addr} {v : Value} (ha : a.block < w.heap.size) (h : BoxD w p ao n c W) (hc : w.cell? a = some v) : BoxD w p ao n c W ∧ W.cell? a = some v :=
  ⟨h, by rw [h.2.2.2.cell (p := a) ha]; exact hc⟩

/-! ### the laws' own functions -/


/-- A copy of a doubling: new memory. -/
structure CopyD (w w' : World) (e : Ending) (p : Int) (n : Nat) (X : Nat → Int) : Prop where
  out : ∃ g c, e = .returned (dbl p (.slice (some ⟨g, 0, none⟩) n c)) ∧ w.heap.size ≤ g ∧ Below w.heap.size w w' ∧ Own w' 2 g c n (fun i => .int .i64 (X i))

end Go.Proofs.YtejbigdebjcomaaDoor
