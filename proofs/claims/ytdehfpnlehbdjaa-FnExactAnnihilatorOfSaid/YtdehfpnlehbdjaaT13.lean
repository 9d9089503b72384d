/-
  A loop's table in memory; what the reference's functions compute of it. No condition beside sizes.
-/
import Derived.Test.YtdehfpnlehbdjaaS13
set_option linter.unusedVariables false
set_option linter.unusedSimpArgs false
namespace Go.Proofs.Ytdehfpnlehbdjaa
open Go.RowKit

structure LT (w : World) (v : Value) (G : Nat) (N : Nat → Nat → Nat) : Prop where
  out : ∃ (c b o : Nat) (C RB RO : Nat → Nat), v = .slice (some ⟨b, o, none⟩) G c ∧ G ≤ c ∧ c ≤ 9223372036854775807 ∧ (∀ i, i < G → w.cell? ⟨b, o + i, none⟩ = some (.slice (some ⟨RB i, RO i, none⟩) G (C i))) ∧ (∀ i, i < G → G ≤ C i ∧ C i ≤ 9223372036854775807) ∧
    (∀ i j, i < G → j < G → w.cell? ⟨RB i, RO i + j, none⟩ = some (.int .i64 (N i j))) ∧ 1 ≤ G ∧ G ≤ 128 ∧ ∀ i j, N i j < G

theorem Tab.lt {w : World} {v : Value} {G : Nat} {L : Nat → Nat} {T : Nat → Nat → Int} (h : Tab w v G L T) (hl : LoopOk G L T) : LT w v G (NT G T) := by
  obtain ⟨ao, c, b, o, A, C, RB, RO, rfl, p2, p3, p4, p5, p6, p7, p8⟩ := h.out
  have h1 := hl.pos
  obtain rfl := p4 (by omega)
  refine ⟨c, b, o, C, RB, RO, rfl, p2, p3, fun i hi => ?_, fun i hi => ?_, fun i j hi hj => ?_, h1, hl.max, fun i j => NT_lt h1 T i j⟩
  · rw [p5 i hi, hl.len i hi, p7 i hi (by rw [hl.len i hi]; omega)]
  · have := p6 i hi; rw [hl.len i hi] at this; exact this
  · rw [p8 i j hi (by rw [hl.len i hi]; exact hj), hl.nt hi hj]

theorem LT.drewN {w : World} {v : Value} {G : Nat} {N : Nat → Nat → Nat} (h : LT w v G N) (q : Nat) : LT (w.drewN q) v G N := by
  obtain ⟨c, b, o, C, RB, RO, p1, p2, p3, p4, p5, p6, p7⟩ := h.out
  exact ⟨c, b, o, C, RB, RO, p1, p2, p3, fun i hi => by simpa using p4 i hi, p5, fun i j hi hj => by simpa using p6 i j hi hj, p7⟩
theorem LT.below {w w' : World} {v : Value} {G : Nat} {N : Nat → Nat → Nat} (h : LT w v G N) (hb : Below w.heap.size w w') : LT w' v G N := by
  obtain ⟨c, b, o, C, RB, RO, p1, p2, p3, p4, p5, p6, p7⟩ := h.out
  exact ⟨c, b, o, C, RB, RO, p1, p2, p3, fun i hi => by rw [hb.cell (p := ⟨b, o + i, none⟩) (lt_of_cell (p4 i hi))]; exact p4 i hi, p5, fun i j hi hj => by rw [hb.cell (p := ⟨RB i, RO i + j, none⟩) (lt_of_cell (p6 i j hi hj))]; exact p6 i j hi hj, p7⟩
theorem LT.pos {w : World} {v : Value} {G : Nat} {N : Nat → Nat → Nat} (h : LT w v G N) : 1 ≤ G ∧ G ≤ 128 ∧ ∀ i j, N i j < G := by
  obtain ⟨c, b, o, C, RB, RO, p1, p2, p3, p4, p5, p6, p7⟩ := h.out
  exact p7

end Go.Proofs.Ytdehfpnlehbdjaa
