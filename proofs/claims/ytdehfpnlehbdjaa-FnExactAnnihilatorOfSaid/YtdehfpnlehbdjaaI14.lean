/-
  What the program's functions on loops compute: the test of a table. No condition beside sizes.
-/
import Derived.Test.YtdehfpnlehbdjaaI13
set_option linter.unusedVariables false
set_option linter.unusedSimpArgs false
namespace Go.Proofs.Ytdehfpnlehbdjaa
open Go.RowKit

/-- the least k below n with p k, -1 if there is none -/
def idxB (p : Nat → Bool) (n : Nat) : Int := if fst p n < n then fst p n else -1
theorem idxB_at {p : Nat → Bool} {k n : Nat} (hk : k < n) (h : ∀ j, j < k → p j = false) (e : p k = true) : idxB p n = k := by
  unfold idxB; rw [fst_at hk h e, if_pos hk]
theorem idxB_none {p : Nat → Bool} {n : Nat} (h : ∀ j, j < n → p j = false) : idxB p n = -1 := by
  unfold idxB; rw [fst_none h, if_neg (Nat.lt_irrefl _)]

set_option maxHeartbeats 400000 in
/-- slices.IndexFunc over a table, the test a function that makes memory and turns none. -/
theorem iIndexFuncR_c (f : FuncId) (hcf : ∀ (a : Array Value) (W : World), (callFunc f a).run Try.prog W = .ok (.enter f a) W) (v : Value) (G : Nat) (L : Nat → Nat) (T : Nat → Nat → Int) (p : Nat → Bool) (w : World) (h : Tab w v G L T)
    (hf : ∀ i, i < G → ∀ W u, Below w.heap.size w W → Ints W u (L i) (T i) → Calls Try.prog f #[u] W fun e W' => Makes W W' e (.bool (p i))) :
    Calls Try.prog 90 #[v, .func (.func f) #[] #[]] w fun e w' => Makes w w' e (.int .i64 (idxB p G)) := by
  obtain ⟨ao, c, b, o, A, C, RB, RO, rfl, p2, p3, p4, p5, p6, p7, p8⟩ := h.out
  have hr := fun i hi => Tab.rowAt p6 p7 p8 (i := i) hi
  have Hr := Lib.hid hr
  have P5 := Lib.hid p5
  have HF := Lib.hid hf
  clear p5 p6 p7 p8 h hf hr
  go_enter Try.func90, Try.ntmps90
  go_wp2
  go_loopg [8] G (fun g i wr => ∃ k : Nat, k ≤ G ∧ g = G - k ∧ i = .int .i64 k ∧ Below w.heap.size w wr ∧ ∀ j, j < k → p j = false)
  case atStart => exact ⟨0, Nat.zero_le _, rfl, rfl, Below.refl _ _, fun j hj => absurd hj (Nat.not_lt_zero _)⟩
  case round =>
    obtain ⟨k, hk, rfl, rfl, hb, hall⟩ := hrel
    have HA := Lib.hid hall; clear hall
    by_cases hlt : k < G
    · obtain rfl := p4 (by omega)
      have e1 : wr.cell? ⟨b, o + k, none⟩ = some (.slice (A k) (L k) (C k)) := by rw [hb.cell (p := ⟨b, o + k, none⟩) (lt_of_cell (P5.out k hlt))]; exact P5.out k hlt
      have hbs := hb.size
      go_wp2_with fail
      refine Calls.makes' (HF.out k hlt _ _ hb ((Hr.out k hlt).below hb)) _ fun w1 hb1 => ?_
      cases hp : p k
      · go_wp2
        go_roundg (G - (k + 1))
        case measure => omega
        case rel => exact ⟨k + 1, by omega, rfl, by go_num, hb.trans (hb1.mono hbs), fun j hj => by
          by_cases e : j = k
          · subst e; exact hp
          · exact HA.out j (by omega)⟩
      · go_wp2
        go_ret
        exact ⟨ret_i64 (idxB_at hlt HA.out hp).symm, hb.trans (hb1.mono hbs)⟩
    · obtain rfl : k = G := by omega
      go_wp2
      go_ret
      exact ⟨ret_i64 (idxB_none HA.out).symm, hb⟩

def anyB (p : Nat → Bool) (n : Nat) : Bool := decide (0 ≤ idxB p n)
theorem anyB_at {p : Nat → Bool} {n k : Nat} (hk : k < n) (e : p k = true) : anyB p n = true := by
  have h := (fst_more ⟨k, hk, e⟩ 0).1
  unfold anyB idxB; rw [if_pos h]; exact decide_eq_true (by omega)
theorem anyB_none {p : Nat → Bool} {n : Nat} (h : ∀ j, j < n → p j = false) : anyB p n = false := by
  unfold anyB; rw [idxB_none h]; rfl

theorem iContainsFuncR_c (f : FuncId) (hcf : ∀ (a : Array Value) (W : World), (callFunc f a).run Try.prog W = .ok (.enter f a) W) (v : Value) (G : Nat) (L : Nat → Nat) (T : Nat → Nat → Int) (p : Nat → Bool) (w : World) (h : Tab w v G L T)
    (hf : ∀ i, i < G → ∀ W u, Below w.heap.size w W → Ints W u (L i) (T i) → Calls Try.prog f #[u] W fun e W' => Makes W W' e (.bool (p i))) :
    Calls Try.prog 62 #[v, .func (.func f) #[] #[]] w fun e w' => Makes w w' e (.bool (anyB p G)) := by
  have HF := Lib.hid hf
  clear hf
  go_enter Try.func62, Try.ntmps62
  go_wp2_with fail
  refine Calls.makes' (iIndexFuncR_c f hcf _ _ _ _ p _ h HF.out) _ fun w1 hb1 => ?_
  go_wp2
  go_ret
  exact ⟨rfl, hb1⟩

end Go.Proofs.Ytdehfpnlehbdjaa
