/-
  IsAssociativeOn in both programs. No condition.
-/
import Derived.Test.YtnnacligfoonbaaRJ
import Derived.Test.YtnnacligfoonbaaQAJ
import Derived.Test.YtnnacligfoonbaaD21
import Derived.Test.YtnnacligfoonbaaD31
set_option linter.unusedVariables false
set_option linter.unusedSimpArgs false
namespace Go.Proofs.Ytnnacligfoonbaa
open Go.RowKit

/-- is a list of n numbers nought? -/
def zB (n : Nat) (X : Nat → Int) : Bool := decide (ldd n X = n)
theorem zB_iff {p : Int} {n : Nat} {X : Nat → Int} (h : InP p n X) : zB n X = true ↔ CgV p n X fun _ => 0 := by
  unfold zB
  rw [decide_eq_true_eq]
  constructor
  · exact fun e j hj => Cg.of_eq (ldd_before (by rw [e]; exact hj))
  · intro h2
    have hl := ldd_le n X
    by_cases e : ldd n X = n
    · exact e
    · have hlt : ldd n X < n := by omega
      exact absurd ((h2 _ hlt).eq0 (h _ hlt)) (ldd_is hlt)
/-- are all associators of rows nought? -/
def asB (p : Int) (s : Nat → Int) (n m : Nat) (T : Nat → Nat → Int) : Bool := all3 m fun x y z => zB (2 ^ n) (asF p s n (T x) (T y) (T z))
theorem asB_iff {p : Int} (hp : 0 < p) {s : Nat → Int} {n m : Nat} {T : Nat → Nat → Int} : asB p s n m T = true ↔ ∀ u v w, RowS m T u → RowS m T v → RowS m T w → CgV p (2 ^ n) (asF p s n u v w) fun _ => 0 := by
  constructor
  · rintro h u v w ⟨x, hx, rfl⟩ ⟨y, hy, rfl⟩ ⟨z, hz, rfl⟩
    have h2 := (cnt3_full m fun x y z => zB (2 ^ n) (asF p s n (T x) (T y) (T z))).1 (of_decide_eq_true h) x y z hx hy hz
    exact (zB_iff (asF_in hp s n _ _ _ _)).1 h2
  · exact fun h => all3_true fun x y z hx hy hz => (zB_iff (asF_in hp s n _ _ _ _)).2 (h _ _ _ ⟨x, hx, rfl⟩ ⟨y, hy, rfl⟩ ⟨z, hz, rfl⟩)
/-- the reduced basis tells the same -/
theorem asB_basis {p : Int} (hp : primeB p = true) {s : Nat → Int} {n m : Nat} {T : Nat → Nat → Int} (h : RowsIn p m (2 ^ n) T) : asB p s n (bSt p m T (2 ^ n)).2 (bSt p m T (2 ^ n)).1 = asB p s n m T := by
  have hp0 : 0 < p := by have := primeB_bd hp; omega
  have hb := bSt_of hp h
  have h1 := asB_iff (p := p) hp0 (s := s) (n := n) (m := m) (T := T)
  have h2 := asB_iff (p := p) hp0 (s := s) (n := n) (m := (bSt p m T (2 ^ n)).2) (T := (bSt p m T (2 ^ n)).1)
  have key : asB p s n (bSt p m T (2 ^ n)).2 (bSt p m T (2 ^ n)).1 = true ↔ asB p s n m T = true := by
    rw [h1, h2]
    constructor
    · exact fun h u v w hu hv hw => as_span h (hb.of u hu) (hb.of v hv) (hb.of w hw)
    · rintro h u v w ⟨x, hx, rfl⟩ ⟨y, hy, rfl⟩ ⟨z, hz, rfl⟩
      exact as_span h (hb.to x hx) (hb.to y hy) (hb.to z hz)
  cases e1 : asB p s n (bSt p m T (2 ^ n)).2 (bSt p m T (2 ^ n)).1 <;> cases e2 : asB p s n m T <;> simp_all

set_option maxRecDepth 100000 in
theorem iZero_c (v : Value) (n : Nat) (X : Nat → Int) (w : World) (h : Ints w v n X) (hn : n ≤ 1048576) :
    Calls Try.prog 122 #[v] w fun e w' => e = .returned (.bool (zB n X)) ∧ w = w' := by
  have HL := Lib.hid (iLead_c v n X w h hn)
  obtain ⟨ao, c, b, o, rfl, qq⟩ := h.out
  obtain ⟨q, hq⟩ : ∃ q, ldd n X = q := ⟨_, rfl⟩
  have hz : Hid (zB n X = decide ((q : Int) = (n : Int))) := by show decide (ldd n X = n) = _; rw [hq]; congr 1; exact propext (by omega)
  rw [hq] at HL
  rw [hz.out]
  clear h hq qq
  go_enter Try.func122, Try.ntmps122
  go_wp2_with fail
  refine HL.out.mono ?_
  rintro e w' ⟨rfl, rfl⟩
  go_wp2
  go_ret
  exact ⟨by first | rfl | (congr 2; simp; done) | simp, rfl⟩

end Go.Proofs.Ytnnacligfoonbaa
