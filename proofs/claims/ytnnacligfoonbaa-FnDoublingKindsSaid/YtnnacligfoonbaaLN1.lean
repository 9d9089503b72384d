/-
  The law on nuclei and centres returns true. No condition.
-/
import Derived.Test.YtnnacligfoonbaaLD5
import Derived.Test.YtnnacligfoonbaaRN5
import Derived.Test.YtnnacligfoonbaaQNu
import Derived.Test.YtnnacligfoonbaaF11b
set_option linter.unusedVariables false
set_option linter.unusedSimpArgs false
namespace Go.Proofs.Ytnnacligfoonbaa
open Go.RowKit

theorem step_nz {P : Int} {n : Nat} {s : Nat → Int} (h : dblB P n s = true) : ∀ t, t < n → ¬ Cg P (s t) 0 := fun t ht => by
  have h1 := (dblB_ok h).step t ht
  exact nz_step (by have := primeB_bd (dblB_ok h).prime; omega) h1.1 h1.2

theorem nuclei_o (P : Int) (n : Nat) (s : Nat → Int) :
    ∃ (cc : Int) (M1 M2 : Nat) (L : Nat → Nat) (R1 R2 : Nat → Nat → Int), (((cc = 0 ∧ n ≤ 4) ∧ M1 = (if n ≤ 2 then 2 ^ n else 1) ∧ M2 = if n ≤ 1 then 2 ^ n else 1) ∨ ((cc ≠ 0) ∧ M1 = 0 ∧ M2 = 0)) ∧
    (∀ (W : World) (v : Value), Ints W v n s → Calls Try.prog 47 #[dbl P v] W fun e w' => ResT W w' e cc M1 L R1) ∧
    (∀ (W : World) (v : Value), Ints W v n s → Calls Try.prog 46 #[dbl P v] W fun e w' => ResT W w' e cc M1 L R1) ∧
    (∀ (W : World) (v : Value), Ints W v n s → Calls Try.prog 49 #[dbl P v] W fun e w' => ResT W w' e cc M2 L R2) ∧
    (∀ (W : World) (v : Value), Ints W v n s → Calls Try.prog 48 #[dbl P v] W fun e w' => ResT W w' e cc M2 L R2) := by
  refine ⟨_, _, _, _, _, _, ?_, fun W v h => (sNucleusOf_c P v n s W h).mono fun _ _ h => h.toT, fun W v h => (iNucleusOf_c P v n s W h).mono fun _ _ h => h.toT,
    fun W v h => (sCentreOf_c P v n s W h).mono fun _ _ h => h.toT, fun W v h => (iCentreOf_c P v n s W h).mono fun _ _ h => h.toT⟩
  cases hk : dblB P n s
  · exact Or.inr (by simp)
  · have hp := (dblB_ok hk).prime
    have hn := (dblB_ok hk).le
    refine Or.inl ⟨⟨by simp, hn⟩, ?_, ?_⟩
    · by_cases e : n ≤ 2
      · simp only [if_pos e, if_true]; exact nuc_none hp hn (Or.inl ⟨e, by omega⟩)
      · simp only [if_neg e, if_true]; exact nuc_one hp hn (step_nz hk) (Or.inl ⟨by omega, by omega⟩)
    · by_cases e : n ≤ 1
      · simp only [if_pos e, if_true]; exact nuc_none hp hn (Or.inr e)
      · simp only [if_neg e, if_true]; exact nuc_one hp hn (step_nz hk) (Or.inr ⟨by omega, by omega⟩)

theorem below_re {B a b : Nat} {w W : World} (h : Below B w (W.drewN a)) : Below B w (W.drewN b) := h.trans ⟨rfl, rfl, rfl, Nat.le_refl _, fun _ _ => rfl⟩

set_option maxRecDepth 100000 in
set_option maxHeartbeats 8000000 in
theorem lawNuclei_c (cv : Value) (n : Nat) (B : Nat → Int) (w : World) (hB : Byt w cv n B) :
    Calls Try.prog 6 #[cv] w fun e w' => Law w w' e := by
  by_cases hbig : 4096 < n
  · have hb := Lib.hid (big_c cv n B w hB)
    obtain ⟨ao, c0, _, _, rfl, _⟩ := hB.out
    clear hB
    go_enter Try.func6, Try.ntmps6
    go_wp2_with fail
    refine hb.out.mono ?_
    rintro e w1 ⟨rfl, rfl⟩
    rw [show decide (4096 < n) = true from decide_eq_true hbig]
    go_wp2
    go_ret
    exact ⟨rfl, Below.refl _ _⟩
  · have hb := Lib.hid (big_c cv n B w hB)
    have hD := Lib.hid (sDrawNucleusOf_c cv n B w hB)
    obtain ⟨ao, c0, _, _, rfl, _⟩ := hB.out
    clear hB
    go_enter Try.func6, Try.ntmps6
    go_wp2_with fail
    refine hb.out.mono ?_
    rintro e w1 ⟨rfl, rfl⟩
    rw [show decide (4096 < n) = false from decide_eq_false hbig]
    go_wp2_with fail
    refine hD.out.mono ?_
    rintro e w2 ⟨P, a, c, m, s, rfl, hb2, hs2⟩
    have hs2 := hs2.ints
    have hp2 := Lib.hid hb2
    obtain ⟨cc, M1, M2, L, R1, R2, hcs, k1, k2, k3, k4⟩ := nuclei_o P m s
    have hcs := Lib.hid hcs
    have K1 := Lib.hid k1
    have K2 := Lib.hid k2
    have K3 := Lib.hid k3
    have K4 := Lib.hid k4
    have id : Hid (∀ W, Below w2.heap.size w2 W → Ints W (.slice a m c) m s) := fun W hb => hs2.below hb
    obtain ⟨f0, f1, _, bb⟩ := box0 w2 P a m c 26
    have hl := hp2.out.size
    clear k1 k2 k3 k4 hs2 hb hD hb2
    go_wp2_with fail
    go_at_call 46
    refine (K2.out _ _ (id.out _ bb)).mono ?_
    rintro e w3 ⟨a3, c3, rfl, hb3, oN⟩
    have f0 := cellKp hb3 f0
    have f1 := cellKp hb3 f1
    have bb := bb.trans (hb3.mono bb.size)
    have hN := Lib.hid oN.tab
    clear oN hb3
    go_wp2_with fail
    go_at_call 47
    refine (K1.out _ _ (id.out _ bb)).mono ?_
    rintro e w4 ⟨a4, c4, rfl, hb4, oW⟩
    have f0 := cellKp hb4 f0
    have f1 := cellKp hb4 f1
    have bb := bb.trans (hb4.mono bb.size)
    have hN := Lib.hid (hN.out.below hb4)
    have hW := Lib.hid oW.tab
    clear oW hb4
    go_wp2_with fail
    go_at_call 21
    refine Calls.reads' (wr := w) (same9_c _ _ _ _ _ _ _ _ _ hN.out hW.out) _ fun q1 => ?_
    rw [eqTB_refl]
    have f0 := cellKp (below_drewN _ q1) f0
    have f1 := cellKp (below_drewN _ q1) f1
    have bb := bb.trans ((below_drewN _ q1).mono bb.size)
    clear hN hW
    go_wp2_with fail
    go_at_call 48
    refine (K4.out _ _ (id.out _ bb)).mono ?_
    rintro e w5 ⟨a5, c5, rfl, hb5, oN⟩
    have f0 := cellKp hb5 f0
    have f1 := cellKp hb5 f1
    have bb := bb.trans (hb5.mono bb.size)
    have hN := Lib.hid oN.tab
    clear oN hb5
    go_wp2_with fail
    go_at_call 49
    refine (K3.out _ _ (id.out _ bb)).mono ?_
    rintro e w6 ⟨a6, c6, rfl, hb6, oW⟩
    have f0 := cellKp hb6 f0
    have f1 := cellKp hb6 f1
    have bb := bb.trans (hb6.mono bb.size)
    have hN := Lib.hid (hN.out.below hb6)
    have hW := Lib.hid oW.tab
    clear oW hb6
    go_wp2_with fail
    go_at_call 21
    refine Calls.reads' (wr := w) (same9_c _ _ _ _ _ _ _ _ _ hN.out hW.out) _ fun q2 => ?_
    rw [eqTB_refl]
    have f0 := cellKp (below_drewN _ q2) f0
    have f1 := cellKp (below_drewN _ q2) f1
    have bb := bb.trans ((below_drewN _ q2).mono bb.size)
    have hfin := Lib.hid (hp2.out.trans (bb.mono hp2.out.size))
    clear hN hW id bb hp2 K1 K2 K3 K4
    rcases hcs.out with ⟨⟨rfl, hm⟩, rfl, rfl⟩ | ⟨hcc, rfl, rfl⟩
    · clear hcs
      have hm' : m = 0 ∨ m = 1 ∨ m = 2 ∨ m = 3 ∨ m = 4 := by omega
      rcases hm' with rfl | rfl | rfl | rfl | rfl <;>
      · simp only [show (0 : Nat) ≤ 2 by omega, show (1 : Nat) ≤ 2 by omega, show (0 : Nat) ≤ 1 by omega, show ¬ (3 : Nat) ≤ 2 by omega, show ¬ (4 : Nat) ≤ 2 by omega, show ¬ (2 : Nat) ≤ 1 by omega, show ¬ (3 : Nat) ≤ 1 by omega, show ¬ (4 : Nat) ≤ 1 by omega, Nat.le_refl, if_true, if_false, Nat.reducePow]
        go_wp2
        go_quiet (fail)
        go_wp2
        go_ret
        exact ⟨rfl, below_re hfin.out⟩
    · clear hcs
      have hcc' : (cc != 0) = true := by simpa using hcc
      clear hcc
      go_wp2
      go_ret
      exact ⟨rfl, hfin.out⟩

end Go.Proofs.Ytnnacligfoonbaa
