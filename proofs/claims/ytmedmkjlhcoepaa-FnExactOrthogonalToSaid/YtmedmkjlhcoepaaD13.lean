/-
  The product of a doubling, in both programs. No condition beside sizes.
-/
import Derived.Test.YtmedmkjlhcoepaaD12
set_option linter.unusedVariables false
set_option linter.unusedSimpArgs false
namespace Go.Proofs.Ytmedmkjlhcoepaa
open Go.RowKit

theorem heldD {w W W' : World} {a : Addr} {v : Value} (ha : a.block < w.heap.size) (hb : Below W.heap.size W W') (h : W.cell? a = some v ∧ Below w.heap.size w W) : W'.cell? a = some v ∧ Below w.heap.size w W' :=
  ⟨by rw [hb.cell (p := a) (by have := h.2.size; omega)]; exact h.1, h.2.trans (hb.mono h.2.size)⟩
theorem heldD0 {w : World} {a : Addr} {v : Value} (h : w.cell? a = some v) : w.drew.cell? a = some v ∧ Below w.heap.size w w.drew := ⟨by simpa using h, ⟨rfl, rfl, rfl, Nat.le_refl _, fun _ _ => rfl⟩⟩

theorem mulF_succ (p : Int) (s : Nat → Int) (k : Nat) (X Y : Nat → Int) (i : Nat) : mulF p s (k + 1) X Y i =
    if i < 2 ^ k then (mulF p s k X Y i + s k * mulF p s k (conjF p fun j => Y (2 ^ k + j)) (fun j => X (2 ^ k + j)) i) % p
    else (mulF p s k (fun j => Y (2 ^ k + j)) X (i - 2 ^ k) + mulF p s k (fun j => X (2 ^ k + j)) (conjF p Y) (i - 2 ^ k)) % p := rfl
theorem Own.cells0 {w : World} {e : TypeId} {g cap n : Nat} {V : Nat → Value} (h : Own w e g cap n V) : ∀ j, j < n → w.cell? ⟨g, 0 + j, none⟩ = some (V j) := fun j hj => by rw [Nat.zero_add]; exact h.cell hj
theorem ints_cut {w : World} {b o n m c l : Nat} {X : Nat → Int} (hl : l ≤ n) (hn : n ≤ c) (hc : c ≤ 9223372036854775807) (h : ∀ i, i < n → w.cell? ⟨b, o + i, none⟩ = some (.int .i64 (X i))) : Ints w (.slice (some ⟨b, o, none⟩) l c) l X :=
  ⟨_, c, b, o, rfl, by omega, hc, fun _ => rfl, fun i hi => h i (by omega)⟩
theorem ints_tail {w : World} {b o n c l : Nat} {X : Nat → Int} (hl : l ≤ n) (hn : n ≤ c) (hc : c ≤ 9223372036854775807) (h : ∀ i, i < n → w.cell? ⟨b, o + i, none⟩ = some (.int .i64 (X i))) : Ints w (.slice (some ⟨b, o + l, none⟩) (n - l) (c - l)) (n - l) (fun i => X (l + i)) :=
  ⟨_, c - l, b, o + l, rfl, by omega, by omega, fun _ => rfl, fun i hi => by rw [Nat.add_assoc]; exact h (l + i) (by omega)⟩

theorem InP.conj {p : Int} (hp : 0 < p) {n : Nat} {X : Nat → Int} (h : InP p n X) : InP p n (conjF p X) := conjF_in hp h

theorem sum_bd {p a b k : Int} (hp : 1 ≤ p) : 0 ≤ (a + k * b) % p ∧ (a + k * b) % p < p := mod_bd _ _ (by omega)

end Go.Proofs.Ytmedmkjlhcoepaa
