/-
  Grades of a multivector by the reference: parts, signs, the list of grades. No condition beside sizes.
-/
import Derived.Test.YtmedmkjlhcoepaaMG1
import Derived.Test.YtmedmkjlhcoepaaMV1
import Derived.Test.YtmedmkjlhcoepaaD40
set_option linter.unusedVariables false
set_option linter.unusedSimpArgs false
namespace Go.Proofs.Ytmedmkjlhcoepaa
open Go.RowKit

/-- the part of grade k -/
def partF (k : Nat) (X : Nat → Int) (i : Nat) : Int := if pc i = k then X i else 0

set_option maxRecDepth 100000 in
set_option maxHeartbeats 1000000 in
theorem sPart_c (v : Value) (N : Nat) (X : Nat → Int) (k : Nat) (w : World) (h : Ints w v N X) (hN : N ≤ 64) :
    Calls Try.prog 81 #[v, .int .i64 k] w fun e w' => CopyI w w' e N (partF k X) := by
  obtain ⟨ao, c, b, o, rfl, p2, p3, p4, p5⟩ := h.out
  have P5 := Lib.hid p5
  clear h p5
  go_enter Try.func81, Try.ntmps81
  go_wp2_with (at_make; refine wpList_mkA _ rfl _ _ _ _ elI rfl rfl .i64 .i64 N rfl rfl (by omega) (by omega) ?_; intro W1 hB1 hS1 hO1)
  have HB1 := Lib.hid hB1
  have HO1 := Lib.hid hO1
  have HS1 := Lib.hid hS1
  clear hB1 hO1 hS1
  go_loopg [6] N (fun g i wr => ∃ j : Nat, j ≤ N ∧ g = N - j ∧ i = .int .i64 j ∧ Hid (Below w.heap.size w wr) ∧ Hid (Own wr 2 w.heap.size N N (fun i => .int .i64 (if i < j then partF k X i else 0))))
  case atStart => exact ⟨0, Nat.zero_le _, rfl, rfl, HB1.out, HO1.out.congr fun i hi => by simp⟩
  case round =>
    obtain ⟨j, hj, rfl, rfl, hb, hO⟩ := hrel
    by_cases hlt : j < N
    · obtain rfl := p4 (by omega)
      have HG := Lib.hid (sGrade_c j (by omega) wr)
      obtain ⟨z, hz⟩ : ∃ z, pc j = z := ⟨_, rfl⟩
      rw [hz] at HG
      have hu := hO.out.cell hlt
      have hf := hO.out.frozen j
      have e1 : wr.cell? ⟨b, o + j, none⟩ = some (.int .i64 (X j)) := by
        rw [hb.out.cell (p := ⟨b, o + j, none⟩) (lt_of_cell (P5.out j hlt))]; exact P5.out j hlt
      have HZ := Lib.hid hz
      clear hz
      by_cases hzk : z = k
      · subst hzk
        have HS : Hid (Own (wr.setCell ⟨w.heap.size, j, none⟩ (.int .i64 (X j))) 2 w.heap.size N N (fun i => .int .i64 (if i < j + 1 then partF z X i else 0))) := (hO.out.set j (.int .i64 (X j))).congr fun i hi => by
          by_cases e : i = j
          · subst e; have h1 : pc i = z := HZ.out; simp [partF, h1]
          · by_cases e2 : i < j
            · simp [e, e2, show i < j + 1 by omega]
            · simp [e, e2, show ¬ i < j + 1 by omega]
        have HB : Hid (Below w.heap.size w (wr.setCell ⟨w.heap.size, j, none⟩ (.int .i64 (X j)))) := hb.out.setCell (Nat.le_refl _) _
        go_wp2_with (go_at_call 132; refine HG.out.mono ?_; rintro e w' ⟨rfl, rfl⟩)
        go_roundg (N - (j + 1))
        case measure => omega
        case rel => exact ⟨j + 1, by omega, rfl, by go_num, HB, HS⟩
      · have hne : ((z : Int) == (k : Int)) = false := by rw [beq_eq_false_iff_ne]; omega
        have HS : Hid (Own wr 2 w.heap.size N N (fun i => .int .i64 (if i < j + 1 then partF k X i else 0))) := hO.out.congr fun i hi => by
          by_cases e : i = j
          · subst e; have h1 : pc i = z := HZ.out; simp [partF, h1, hzk]
          · by_cases e2 : i < j
            · simp [e2, show i < j + 1 by omega]
            · simp [e2, show ¬ i < j + 1 by omega]
        go_wp2_with (go_at_call 132; refine HG.out.mono ?_; rintro e w' ⟨rfl, rfl⟩)
        go_roundg (N - (j + 1))
        case measure => omega
        case rel => exact ⟨j + 1, by omega, rfl, by go_num, hb, HS⟩
    · obtain rfl : j = N := by omega
      go_wp2
      go_ret
      exact ⟨w.heap.size, _, rfl, Nat.le_refl _, hb.out, hO.out.congr fun i hi => by simp [hi]⟩

end Go.Proofs.Ytmedmkjlhcoepaa
