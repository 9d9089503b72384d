/-
  Roots of the field's numbers, and which doublings divide, in both programs; the laws' own functions on doublings. No condition beside sizes.
-/
import Derived.Test.YtnkflgigbielgaaDJ
import Derived.Handy
set_option linter.unusedVariables false
set_option linter.unusedSimpArgs false
namespace Go.Proofs.Ytnkflgigbielgaa
open Go.RowKit

/-- x is a root of a -/
def rootB (P : Nat) (a : Int) (x : Nat) : Bool := ((x : Int) * (x : Int)) % (P : Int) == a
def hasRoot (P : Nat) (a : Int) : Bool := decide (fst (rootB P a) P < P)

set_option maxHeartbeats 1000000 in
theorem iRoot_c (P : Nat) (a : Int) (w : World) (h1 : 1 ≤ P) (h2 : P ≤ 1000) :
    Calls Try.prog 135 #[.int .i64 P, .int .i64 a] w fun e w' => (∃ r : Int, e = .returned (.tuple #[.int .i64 r, .bool (hasRoot P a)])) ∧ w = w' := by
  go_enter Try.func135, Try.ntmps135
  go_wp2
  go_loopg [8] P (fun g i wr => w = wr ∧ ∃ k : Nat, k ≤ P ∧ g = P - k ∧ i = .int .i64 k ∧ ∀ j, j < k → rootB P a j = false)
  case atStart => exact ⟨rfl, 0, Nat.zero_le _, rfl, rfl, fun j hj => absurd hj (Nat.not_lt_zero _)⟩
  case round =>
    obtain ⟨rfl, k, hk, rfl, rfl, hl⟩ := hrel
    have HL := Lib.hid hl; clear hl
    by_cases hlt : k < P
    · have hm := mul_bd (a := k) (b := k) (by omega) (by omega)
      have HQ : Hid (rootB P a k = (((k : Int) * (k : Int)) % (P : Int) == a)) := rfl
      cases hq : (((k : Int) * (k : Int)) % (P : Int) == a)
      · go_wp2_with (go_at_call 86; refine (iNum_c _ _ _ (by omega) (by omega) (by omega) (by omega)).mono ?_; rintro e w' ⟨rfl, rfl⟩)
        go_roundg (P - (k + 1))
        case measure => omega
        case rel => exact ⟨rfl, k + 1, by omega, rfl, by go_num, fun j hj => by
          by_cases e : j = k
          · subst e; rw [HQ.out, hq]
          · exact HL.out j (by omega)⟩
      · go_wp2_with (go_at_call 86; refine (iNum_c _ _ _ (by omega) (by omega) (by omega) (by omega)).mono ?_; rintro e w' ⟨rfl, rfl⟩)
        go_ret2
        have e : fst (rootB P a) P = k := fst_at hlt HL.out (HQ.out.trans hq)
        exact ⟨⟨(k : Int), by unfold hasRoot; rw [e, decide_eq_true hlt]; rfl⟩, rfl⟩
    · obtain rfl : k = P := by omega
      go_wp2
      go_ret2
      have e : fst (rootB k a) k = k := fst_none HL.out
      exact ⟨⟨0, by unfold hasRoot; rw [e, decide_eq_false (Nat.lt_irrefl _)]; rfl⟩, rfl⟩

theorem iSquare_c (P : Nat) (a : Int) (w : World) (h1 : 1 ≤ P) (h2 : P ≤ 1000) :
    Calls Try.prog 93 #[.int .i64 P, .int .i64 a] w fun e w' => e = .returned (.bool (hasRoot P a)) ∧ w = w' := by
  go_enter Try.func93, Try.ntmps93
  go_wp2_with fail
  refine (iRoot_c _ _ _ h1 h2).mono ?_
  rintro e w' ⟨⟨r, rfl⟩, rfl⟩
  go_wp2
  go_ret
  exact ⟨rfl, rfl⟩

set_option maxHeartbeats 1000000 in
theorem sRoot_c (P : Nat) (a : Int) (w : World) (h1 : 1 ≤ P) (h2 : P ≤ 1000) :
    Calls Try.prog 136 #[.int .i64 P, .int .i64 a] w fun e w' => e = .returned (.int .i64 (idxB (rootB P a) P)) ∧ w = w' := by
  have hP : (P : Int) ≠ 0 := by omega
  go_enter Try.func136, Try.ntmps136
  go_wp2
  go_loopg [5] P (fun g i wr => w = wr ∧ ∃ k : Nat, k ≤ P ∧ g = P - k ∧ i = .int .i64 k ∧ ∀ j, j < k → rootB P a j = false)
  case atStart => exact ⟨rfl, 0, Nat.zero_le _, rfl, rfl, fun j hj => absurd hj (Nat.not_lt_zero _)⟩
  case round =>
    obtain ⟨rfl, k, hk, rfl, rfl, hl⟩ := hrel
    have HL := Lib.hid hl; clear hl
    by_cases hlt : k < P
    · have hm := mul_bd (a := k) (b := k) (by omega) (by omega)
      have HQ : Hid (rootB P a k = (((k : Int) * (k : Int)) % (P : Int) == a)) := rfl
      have ht : Int.tmod ((k : Int) * (k : Int)) (P : Int) = ((k : Int) * (k : Int)) % (P : Int) := Int.tmod_eq_emod_of_nonneg (Int.mul_nonneg (by omega) (by omega))
      cases hq : (((k : Int) * (k : Int)) % (P : Int) == a)
      · go_wp2
        go_roundg (P - (k + 1))
        case measure => omega
        case rel => exact ⟨rfl, k + 1, by omega, rfl, by go_num, fun j hj => by
          by_cases e : j = k
          · subst e; rw [HQ.out, hq]
          · exact HL.out j (by omega)⟩
      · go_wp2
        go_ret
        exact ⟨ret_i64 (idxB_at hlt HL.out (HQ.out.trans hq)).symm, rfl⟩
    · obtain rfl : k = P := by omega
      go_wp2
      go_ret
      exact ⟨ret_i64 (idxB_none HL.out).symm, rfl⟩

/-- a doubling at a world: its steps, and what the test says of it -/
structure DV (w : World) (sv : Value) (p : Int) (n : Nat) (s : Nat → Int) : Prop where
  ints : Ints w sv n s
  p1 : 1 ≤ p
  p2 : p ≤ 1000
  le : n ≤ 4
  sm : Sm n s
theorem DV.below {w w' : World} {sv : Value} {p : Int} {n : Nat} {s : Nat → Int} (h : DV w sv p n s) (hb : Below w.heap.size w w') : DV w' sv p n s := ⟨h.ints.below hb, h.p1, h.p2, h.le, h.sm⟩
theorem dv_of {w : World} {sv : Value} {p : Int} {n : Nat} {s : Nat → Int} (h : Ints w sv n s) (hd : dblB p n s = true) : DV w sv p n s := by
  obtain ⟨h1, h2, h3⟩ := dblB_ok hd
  have := primeB_bd h1
  exact ⟨h, by omega, by omega, h2, fun i hi => by have := h3 i hi; omega⟩

def divB (p : Int) (n : Nat) (s : Nat → Int) : Bool := if n = 0 then true else if n = 1 then !hasRoot p.toNat (s 0) else false
theorem rootLt (P : Nat) (a : Int) : decide (idxB (rootB P a) P < 0) = !hasRoot P a := by
  unfold hasRoot idxB
  by_cases h : fst (rootB P a) P < P
  · rw [if_pos h, decide_eq_true h, decide_eq_false (by omega)]; rfl
  · rw [if_neg h, decide_eq_false h]; rfl

theorem boxKeepC {w W W' : World} {p : Int} {ao : Option Addr} {n c : Nat} {a : Addr} {v : Value} (ha : a.block < w.heap.size) (hb : Below W.heap.size W W') (h : BoxD w p ao n c W ∧ W.cell? a = some v) : BoxD w p ao n c W' ∧ W'.cell? a = some v :=
  ⟨boxKeep hb h.1, by rw [hb.cell (p := a) (by have := h.1.2.2.2.size; omega)]; exact h.2⟩
theorem boxBelowC {w W : World} {p : Int} {ao : Option Addr} {n c : Nat} {a : Addr} {v : Value} (h : BoxD w p ao n c W ∧ W.cell? a = some v) : Below w.heap.size w W := h.1.2.2.2
theorem boxStartC {w W : World} {p : Int} {ao : Option Addr} {n c : Nat} {a : Addr} {v : Value} (ha : a.block < w.heap.size) (h : BoxD w p ao n c W) (hc : w.cell? a = some v) : BoxD w p ao n c W ∧ W.cell? a = some v :=
  ⟨h, by rw [h.2.2.2.cell (p := a) ha]; exact hc⟩

/-! ### the laws' own functions -/

/-- A copy of a doubling: new memory. -/
structure CopyD (w w' : World) (e : Ending) (p : Int) (n : Nat) (X : Nat → Int) : Prop where
  out : ∃ g c, e = .returned (dbl p (.slice (some ⟨g, 0, none⟩) n c)) ∧ w.heap.size ≤ g ∧ Below w.heap.size w w' ∧ Own w' 2 g c n (fun i => .int .i64 (X i))

end Go.Proofs.Ytnkflgigbielgaa
