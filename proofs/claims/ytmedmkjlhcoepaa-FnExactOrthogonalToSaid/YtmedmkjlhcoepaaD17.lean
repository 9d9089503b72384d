/-
  Doublings: the code of a list of elements, in both programs. No condition beside sizes.
-/
import Derived.Test.YtmedmkjlhcoepaaD16
set_option linter.unusedVariables false
set_option linter.unusedSimpArgs false
namespace Go.Proofs.Ytmedmkjlhcoepaa
open Go.RowKit

def elemB (p : Int) (n L : Nat) (X : Nat → Int) : Bool := decide (L = 2 ^ n) && inPB 0 p L X
theorem elemB_ne {p : Int} {n L : Nat} {X : Nat → Int} (h : L ≠ 2 ^ n) : elemB p n L X = false := by unfold elemB; rw [decide_eq_false h]; rfl
theorem elemB_eq {p : Int} {n L : Nat} {X : Nat → Int} (h : L = 2 ^ n) : elemB p n L X = inPB 0 p L X := by unfold elemB; rw [decide_eq_true h]; rfl
theorem elemB_out {p : Int} {n L : Nat} {X : Nat → Int} (h : inPB 0 p L X = false) : elemB p n L X = false := by unfold elemB; rw [h]; simp
theorem elemB_el {w : World} {v : Value} {p : Int} {n L : Nat} {X : Nat → Int} (h : Ints w v L X) (he : elemB p n L X = true) : L = 2 ^ n ∧ El w v p n X := by
  unfold elemB at he
  simp only [Bool.and_eq_true, decide_eq_true_eq] at he
  obtain ⟨rfl, h2⟩ := he
  exact ⟨rfl, h, inPB_ok h2⟩
/-- the code of m elements -/
def codeE (ok : Bool) (p : Int) (n m : Nat) (L : Nat → Nat) (T : Nat → Nat → Int) : Int := if ok then (if anyB (fun i => !elemB p n (L i) (T i)) m then 2 else 0) else 1

set_option maxHeartbeats 400000 in
/-- slices.IndexFunc over a table, the test a closure over one pointer, that makes memory and turns none. -/
theorem iIndexFuncRI_c (f : FuncId) (hcf : ∀ (a : Array Value) (W : World), (callFunc f a).run Try.prog W = .ok (.enter f a) W) (cp : Value) (v : Value) (G : Nat) (L : Nat → Nat) (T : Nat → Nat → Int) (p : Nat → Bool) (w : World) (h : Tab w v G L T)
    (hf : ∀ i, i < G → ∀ W u, Below w.heap.size w W → Ints W u (L i) (T i) → Calls Try.prog f #[u, cp] W fun e W' => Makes W W' e (.bool (p i))) :
    Calls Try.prog 150 #[v, .func (.func f) #[] #[cp]] w fun e w' => Makes w w' e (.int .i64 (idxB p G)) := by
  obtain ⟨ao, c, b, o, A, C, RB, RO, rfl, p2, p3, p4, p5, p6, p7, p8⟩ := h.out
  have hr := fun i hi => Tab.rowAt p6 p7 p8 (i := i) hi
  have Hr := Lib.hid hr
  have P5 := Lib.hid p5
  have HF := Lib.hid hf
  clear p5 p6 p7 p8 h hf hr
  go_enter Try.func150, Try.ntmps150
  go_wp2
  go_loopg [8] G (fun g i wr => ∃ k : Nat, k ≤ G ∧ g = G - k ∧ i = .int .i64 k ∧ Below w.heap.size w wr ∧ ∀ j, j < k → p j = false)
  case atStart => exact ⟨0, Nat.zero_le _, rfl, rfl, Below.refl _ _, fun j hj => absurd hj (Nat.not_lt_zero _)⟩
  case round =>
    obtain ⟨k, hk, rfl, rfl, hb, hall⟩ := hrel
    have HA := Lib.hid hall; clear hall
    by_cases hlt : k < G
    · obtain rfl := p4 (by omega)
      have e1 : wr.cell? ⟨b, o + k, none⟩ = some (.slice (A k) (L k) (C k)) := by rw [hb.cell (p := ⟨b, o + k, none⟩) (lt_of_cell (P5.out k hlt))]; exact P5.out k hlt
      have hbs := hb.size
      go_wp2_with fail
      refine Calls.makes' (HF.out k hlt _ _ hb ((Hr.out k hlt).below hb)) _ fun w1 hb1 => ?_
      cases hp : p k
      · go_wp2
        go_roundg (G - (k + 1))
        case measure => omega
        case rel => exact ⟨k + 1, by omega, rfl, by go_num, hb.trans (hb1.mono hbs), fun j hj => by
          by_cases e : j = k
          · subst e; exact hp
          · exact HA.out j (by omega)⟩
      · go_wp2
        go_ret
        exact ⟨ret_i64 (idxB_at hlt HA.out hp).symm, hb.trans (hb1.mono hbs)⟩
    · obtain rfl : k = G := by omega
      go_wp2
      go_ret
      exact ⟨ret_i64 (idxB_none HA.out).symm, hb⟩

theorem iContainsFuncRI_c (f : FuncId) (hcf : ∀ (a : Array Value) (W : World), (callFunc f a).run Try.prog W = .ok (.enter f a) W) (cp : Value) (v : Value) (G : Nat) (L : Nat → Nat) (T : Nat → Nat → Int) (p : Nat → Bool) (w : World) (h : Tab w v G L T)
    (hf : ∀ i, i < G → ∀ W u, Below w.heap.size w W → Ints W u (L i) (T i) → Calls Try.prog f #[u, cp] W fun e W' => Makes W W' e (.bool (p i))) :
    Calls Try.prog 123 #[v, .func (.func f) #[] #[cp]] w fun e w' => Makes w w' e (.bool (anyB p G)) := by
  have HF := Lib.hid hf
  clear hf
  go_enter Try.func123, Try.ntmps123
  go_wp2_with fail
  refine Calls.makes' (iIndexFuncRI_c f hcf _ _ _ _ _ p _ h HF.out) _ fun w1 hb1 => ?_
  go_wp2
  go_ret
  exact ⟨rfl, hb1⟩

end Go.Proofs.Ytmedmkjlhcoepaa
