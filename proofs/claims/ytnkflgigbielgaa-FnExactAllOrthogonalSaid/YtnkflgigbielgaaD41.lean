/-
  The counts of the program: a table filled from its last row. No condition beside sizes.
-/
import Derived.Test.YtnkflgigbielgaaD40
import Derived.Test.YtnkflgigbielgaaKJ
set_option linter.unusedVariables false
set_option linter.unusedSimpArgs false
namespace Go.Proofs.Ytnkflgigbielgaa
open Go.RowKit

/-- a table whose rows from i on are there, the others nil -/
structure PTR (w : World) (B g N P i : Nat) (R : Nat → Nat) (T : Nat → Nat → Int) : Prop where
  tab : Own w 24 g (N + 1) (N + 1) (fun j => if j < i then .slice none 0 0 else .slice (some ⟨R j, 0, none⟩) P P)
  base : B ≤ g
  row : ∀ j, i ≤ j → j < N + 1 → Own w 2 (R j) P P (fun k => .int .i64 (T j k)) ∧ B ≤ R j ∧ R j ≠ g
  ne : ∀ j j', i ≤ j' → j' < j → j < N + 1 → R j ≠ R j'

theorem PTR.put {w0 w : World} {B g N P i r : Nat} {R : Nat → Nat} {T : Nat → Nat → Int} {Z : Nat → Int} (h : PTR w0 B g N P (i + 1) R T) (hi : i < N + 1) (hb : Below w0.heap.size w0 w) (hr : Own w 2 r P P (fun k => .int .i64 (Z k))) (hrl : w0.heap.size ≤ r) (hB : B ≤ w0.heap.size) :
    PTR (w.setCell ⟨g, i, none⟩ (.slice (some ⟨r, 0, none⟩) P P)) B g N P i (fun j => if j = i then r else R j) (fun j => if j = i then Z else T j) := by
  have hgl := h.tab.lt
  refine ⟨((h.tab.kept hb).set i _).congr fun j hj => ?_, h.base, fun j hj1 hj2 => ?_, fun j j' h1 h2 h3 => ?_⟩
  · by_cases e : j = i
    · subst e; simp
    · simp only [if_neg e]
      by_cases e2 : j < i
      · rw [if_pos (by omega), if_pos e2]
      · rw [if_neg (by omega), if_neg e2]
  · by_cases e : j = i
    · subst e
      simp only [if_true]
      exact ⟨hr.setOther (show r ≠ g by omega) _, by omega, by omega⟩
    · obtain ⟨q1, q2, q3⟩ := h.row j (by omega) hj2
      simp only [if_neg e]
      exact ⟨(q1.kept hb).setOther q3 _, q2, q3⟩
  · by_cases e' : j' = i
    · subst e'
      have q := (h.row j (by omega) h3).1.lt
      simp only [if_true, if_neg (show j ≠ j' by omega)]; omega
    · simp only [if_neg e', if_neg (show j ≠ i by omega)]; exact h.ne j j' (by omega) h2 h3

theorem PTR.fill {w w' : World} {B g N P i : Nat} {R : Nat → Nat} {T : Nat → Nat → Int} {Z : Nat → Int} (h : PTR w B g N P i R T) (hi : i < N + 1) (hc : Chg w w' (· = R i)) (hr : Own w' 2 (R i) P P (fun k => .int .i64 (Z k))) :
    PTR w' B g N P i R (fun j => if j = i then Z else T j) := by
  refine ⟨hc.own h.tab (fun e => (h.row i (Nat.le_refl _) hi).2.2 e.symm), h.base, fun j hj1 hj2 => ?_, h.ne⟩
  by_cases e : j = i
  · subst e; simp only [if_true]
    exact ⟨hr, (h.row j hj1 hj2).2⟩
  · obtain ⟨q1, q2⟩ := h.row j hj1 hj2
    simp only [if_neg e]
    exact ⟨hc.own q1 (fun e2 => h.ne j i (Nat.le_refl _) (by omega) hj2 e2), q2⟩
theorem PTR.congr {w : World} {B g N P i : Nat} {R : Nat → Nat} {T T' : Nat → Nat → Int} (h : PTR w B g N P i R T) (hT : ∀ j, i ≤ j → j < N + 1 → ∀ k, k < P → T j k = T' j k) : PTR w B g N P i R T' :=
  ⟨h.tab, h.base, fun j h1 h2 => ⟨(h.row j h1 h2).1.congr fun k hk => by rw [hT j h1 h2 k hk], (h.row j h1 h2).2⟩, h.ne⟩
theorem PTR.otab {w : World} {B g N P : Nat} {R : Nat → Nat} {T : Nat → Nat → Int} (h : PTR w B g N P 0 R T) : OTab w B g (N + 1) (N + 1) (fun _ => P) T :=
  ⟨R, fun _ => P, h.tab.congr fun j _ => by simp, h.base, fun j hj => h.row j (Nat.zero_le _) hj, fun j j' hj hlt => h.ne j j' (Nat.zero_le _) hlt hj⟩
theorem boxChg {w W W' : World} {p : Int} {ao : Option Addr} {n c r : Nat} (hc : Chg W W' (· = r)) (hr : w.heap.size < r) (hb : BoxD w p ao n c W) : BoxD w p ao n c W' := by
  have hne : ¬ (w.heap.size = r) := by omega
  have e : ∀ o, W'.cell? ⟨w.heap.size, o, none⟩ = W.cell? ⟨w.heap.size, o, none⟩ := fun o => World.cell?_of_block (hc.block _ hb.2.2.1 hne)
  exact ⟨by rw [e]; exact hb.1, by rw [e]; exact hb.2.1, by have := hc.size; have := hb.2.2.1; omega, hb.2.2.2.trans (hc.below hb.2.2.2.size (fun k hk => by have hk : k = r := hk; omega))⟩
theorem Chg.cellN {W W' : World} {r b o : Nat} {v : Value} (hc : Chg W W' (· = r)) (hn : b ≠ r) (h : W.cell? ⟨b, o, none⟩ = some v) : W'.cell? ⟨b, o, none⟩ = some v := by
  rw [World.cell?_of_block (w := W) (hc.block b (lt_of_cell h) hn)]; exact h

end Go.Proofs.Ytnkflgigbielgaa
