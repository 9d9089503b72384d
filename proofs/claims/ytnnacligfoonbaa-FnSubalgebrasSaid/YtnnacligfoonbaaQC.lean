/-
  The kernel of reduced rows, whichever way it is reduced. No program is in sight. No condition.
-/
import Derived.Test.YtnnacligfoonbaaQJ
set_option linter.unusedVariables false
set_option linter.unusedSimpArgs false
namespace Go.Proofs.Ytnnacligfoonbaa

/-- the kernel of reduced rows, its lists put in one by one -/
def kerA (p : Int) (n : Nat) (Q : (Nat → Nat → Int) × Nat) : (Nat → Nat → Int) × Nat :=
  putA p n (kerT p n Q.2 Q.1 (fun r => ldd n (Q.1 r))) (cnt (frB (fun r => ldd n (Q.1 r)) Q.2) n)
theorem ldd_congr {n : Nat} {X Y : Nat → Int} (h : ∀ j, j < n → X j = Y j) : ldd n X = ldd n Y := fst_congr fun j hj => by show (X j != 0) = (Y j != 0); rw [h j hj]
theorem RowsEq.span {p : Int} {n G : Nat} {T T' : Nat → Nat → Int} (h : ∀ r j, r < G → j < n → T r j = T' r j) : (∀ u, RowS G T u → Spn p n (RowS G T') u) ∧ ∀ u, RowS G T' u → Spn p n (RowS G T) u :=
  ⟨fun u ⟨r, hr, e⟩ => by subst e; exact (Spn.row hr).congr fun j hj => Cg.of_eq (h r j hr hj), fun u ⟨r, hr, e⟩ => by subst e; exact (Spn.row hr).congr fun j hj => Cg.of_eq (h r j hr hj).symm⟩
/-- the kernels of rows that make the same are the same -/
theorem ker_same {p : Int} (hp : primeB p = true) {n : Nat} {S : (Nat → Int) → Prop} {Q Q' : (Nat → Nat → Int) × Nat} (h : RedOf p n S Q) (h' : RedOf p n S Q') : (kerS p n Q).2 = (kerA p n Q').2 ∧ ∀ r j, r < (kerS p n Q).2 → j < n → (kerS p n Q).1 r j = (kerA p n Q').1 r j := by
  have hp2 : 2 ≤ p := by have := primeB_bd hp; omega
  obtain ⟨hd, hT⟩ := h.same hp2 h'
  obtain ⟨T, d⟩ := Q
  obtain ⟨T', d'⟩ := Q'
  have hd : d = d' := hd
  subst hd
  have hT : ∀ r j, r < d → j < n → T r j = T' r j := hT
  have hc : ∀ r, r < d → ldd n (T r) = ldd n (T' r) := fun r hr => ldd_congr fun j hj => hT r j hr hj
  have hf : frB (fun r => ldd n (T r)) d = frB (fun r => ldd n (T' r)) d := funext fun j => frB_congr hc j
  have hK : ∀ i j, i < cnt (frB (fun r => ldd n (T r)) d) n → j < n → kerT p n d T (fun r => ldd n (T r)) i j = kerT p n d T' (fun r => ldd n (T' r)) i j := fun i j hi hj => by
    unfold kerT
    rw [← hf]
    exact kvF_congr hc hT (sel_lt hi).1 j
  have h1 := bSt_of hp (kerT_in (p := p) hp2 n d T (fun r => ldd n (T r)) (cnt (frB (fun r => ldd n (T r)) d) n))
  have h2 := putA_of hp (kerT_in (p := p) hp2 n d T' (fun r => ldd n (T' r)) (cnt (frB (fun r => ldd n (T r)) d) n))
  have hs := RowsEq.span (p := p) hK
  have h3 := h1.same hp2 (h2.turn hs.2 hs.1)
  unfold kerS kerA
  show (bSt p _ _ n).2 = (putA p n _ (cnt (frB (fun r => ldd n (T' r)) d) n)).2 ∧ _
  rw [← hf]
  exact h3

/-- a table that is reduced in one go, or put in one by one -/
theorem bSt_putA {p : Int} (hp : primeB p = true) {n G : Nat} {T : Nat → Nat → Int} (h : RowsIn p G n T) : RedOf p n (RowS G T) (bSt p G T n) ∧ RedOf p n (RowS G T) (putA p n T G) := ⟨bSt_of hp h, putA_of hp h⟩

end Go.Proofs.Ytnnacligfoonbaa
