/-
  The diagonal of the norm, and the counts of the reference. No condition beside sizes.
-/
import Derived.Test.YtnkflgigbielgaaD30
import Derived.Test.YtnkflgigbielgaaQK
set_option linter.unusedVariables false
set_option linter.unusedSimpArgs false
namespace Go.Proofs.Ytnkflgigbielgaa
open Go.RowKit

theorem wpList_mkA {P : Program} (w : World) {ops : Array Oper} {rest : List Oper} {o : Oper} {a : Act} {Q : Exit → Act → World → Prop} (hgd : o.guard = none) (l c : Operand) (t e : TypeId) {z : Value} {bytes : Nat} (el : Elem P t e z bytes) (hz1 : z.cells = #[z])
    (ho : o.op = Op.makeSlice t l c) (kl kc : IntKind) (n : Nat) (hl : a.eval l = .int kl (n : Int)) (hc : a.eval c = .int kc (n : Int)) (hbytes : bytes * n ≤ 281474976710656) (h63 : n ≤ 9223372036854775807)
    (h : ∀ w', Below w.heap.size w w' → w'.heap.size = w.heap.size + 1 → Own w' e w.heap.size n n (fun _ => z) → wpList P ops Q rest (a.put o.dst (.slice (some ⟨w.heap.size, 0, none⟩) n n)) w') :
    wpList P ops Q (o :: rest) a w :=
  wpList_mk w hgd l c t e el hz1 ho kl kc n hl hc hbytes h63 (fun hO => h _ ((Below.refl _ _).alloc (Nat.le_refl _) _) (by simp) hO)

theorem norm_dlt {p : Int} {s : Nat → Int} {n i : Nat} (hp : 2 ≤ p) (hi : i < 2 ^ n) : normF p s n (dlt i) = dgF p s n i := by
  rw [← norm_sum, nsF_eq, sumF_congr (g := fun j => if j = i then dgF p s n j else 0), sumF_one _ i hi]
  · have := dgF_in (p := p) (by omega) s n i
    exact Int.emod_eq_of_lt this.1 this.2
  · intro j hj
    unfold dlt
    by_cases e : j = i
    · rw [if_pos e, if_pos e]; omega
    · rw [if_neg e, if_neg e]; omega

end Go.Proofs.Ytnkflgigbielgaa
