/-
  The law on IsLoop returns true. No condition.
-/
import Derived.Test.YtejjefjpjaeljaaI14
set_option linter.unusedVariables false
set_option linter.unusedSimpArgs false
namespace Go.Proofs.Ytejjefjpjaeljaa
open Go.RowKit

/-- What a law does: it returns true and turns nothing that was there. -/
structure Law (w w' : World) (e : Ending) : Prop where
  out : e = .returned (.bool true) ∧ Below w.heap.size w w'

theorem sIsLoop_c (v : Value) (G : Nat) (L : Nat → Nat) (T : Nat → Nat → Int) (w : World) (h : Tab w v G L T) :
    Calls Try.prog 13 #[v] w fun e w' => Makes w w' e (.bool (loopB G L T)) := by
  go_enter Try.func13, Try.ntmps13
  go_wp2_with fail
  refine Calls.makes' (sIs_c _ _ _ _ _ h) _ fun w1 hb1 => ?_
  go_wp2
  go_ret
  exact ⟨rfl, hb1⟩

theorem szP_big {tot : Nat} (h : ¬ tot ≤ 1048576) : szP 1048576 tot = -1 := by unfold szP; rw [if_neg (by omega)]
theorem szP_ok {tot : Nat} (h : tot ≤ 1048576) : 0 ≤ szP 1048576 tot := by unfold szP; rw [if_pos (by omega)]; omega

set_option maxHeartbeats 400000 in
theorem lawIsLoop_c (v : Value) (G : Nat) (L : Nat → Nat) (T : Nat → Nat → Int) (w : World) (h : Tab w v G L T) :
    Calls Try.prog 3 #[v] w fun e w' => Law w w' e := by
  by_cases hs : G + sumL L G ≤ 1048576
  · have hG : G ≤ 1048576 := by omega
    have hL : ∀ i, i < G → L i ≤ 1048576 := fun i hi => by have := sumL_row (L := L) hi; omega
    have HL := Lib.hid hL
    have h0 := szP_ok hs
    clear hL
    go_enter Try.func3, Try.ntmps3
    go_wp2_with fail
    refine (szInt64SS_c _ _ _ _ _ h).mono ?_
    rintro e w' ⟨rfl, rfl⟩
    go_wp2_with fail
    refine (toInt64SS_c _ _ _ _ _ h hG HL.out).mono ?_
    rintro e w1 ⟨g1, c1, rfl, hb1, hT1⟩
    go_wp2_with fail
    refine Calls.makes' (sIsLoop_c _ _ _ _ _ hT1.tab) _ fun w2 hb2 => ?_
    have b2 := hb1.trans (hb2.mono hb1.size)
    go_wp2_with fail
    refine (toInt64SS_c _ _ _ _ _ (h.below b2) hG HL.out).mono ?_
    rintro e w3 ⟨g3, c3, rfl, hb3, hT3⟩
    have b3 := b2.trans (hb3.mono b2.size)
    go_wp2_with fail
    refine Calls.makes' (iIsLoop_c _ _ _ _ _ hT3.tab) _ fun w4 hb4 => ?_
    have b4 := b3.trans (hb4.mono b3.size)
    have hT4 := hT3.kept hb4
    go_wp2_with fail
    refine (toInt64SS_c _ _ _ _ _ (h.below b4) hG HL.out).mono ?_
    rintro e w5 ⟨g5, c5, rfl, hb5, hT5⟩
    have b5 := b4.trans (hb5.mono b4.size)
    go_wp2_with fail
    refine Calls.reads' (wr := w) (eqInt64SS_c _ _ _ _ _ _ _ _ _ (hT4.kept hb5).tab hT5.tab) _ fun q => ?_
    rw [eqTB_refl]
    go_wp2
    go_ret
    exact ⟨rfl, Reads.below b5⟩
  · have h0 := szP_big hs
    go_enter Try.func3, Try.ntmps3
    go_wp2_with fail
    refine (szInt64SS_c _ _ _ _ _ h).mono ?_
    rintro e w' ⟨rfl, rfl⟩
    rw [h0]
    go_wp2
    go_ret
    exact ⟨rfl, Below.refl _ _⟩

end Go.Proofs.Ytejjefjpjaeljaa
