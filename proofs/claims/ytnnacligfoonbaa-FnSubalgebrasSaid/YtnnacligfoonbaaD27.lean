/-
  CrossOf, in both programs. No condition beside sizes.
-/
import Derived.Test.YtnnacligfoonbaaD26
set_option linter.unusedVariables false
set_option linter.unusedSimpArgs false
namespace Go.Proofs.Ytnnacligfoonbaa
open Go.RowKit

set_option maxRecDepth 100000 in
set_option maxHeartbeats 2000000 in
theorem iCrossOf_c (p : Int) (sv : Value) (n : Nat) (s : Nat → Int) (xv : Value) (nx : Nat) (X : Nat → Int) (yv : Value) (ny : Nat) (Y : Nat → Int) (w : World)
    (h : Ints w sv n s) (hx : Ints w xv nx X) (hy : Ints w yv ny Y) :
    Calls Try.prog 58 #[dbl p sv, xv, yv] w fun e w' => ResC w w' e ((thenC (codeE (dblB p n s) p n 2 (pick3 nx ny ny) (pick3 X Y Y)) (X 0 != 0 || Y 0 != 0) 5)) n (fun i => ((fun i => (mulF p s n X Y i + -1 * mulF p s n Y X i) % p) i * invM p 2) % p) := by
  have h' := h
  obtain ⟨ao, c, _, _, rfl, qh⟩ := h.out
  clear qh
  obtain ⟨xa, xc, _, _, rfl, qx⟩ := hx.out
  clear qx
  obtain ⟨ya, yc, _, _, rfl, qy⟩ := hy.out
  clear qy
  have BX := Lib.hid (box0 w p ao n c 26)
  have b0 := BX.out.2.2.2
  have BL : Hid (Below w.heap.size w ((w.alloc (.cells #[.int .i64 p, .slice ao n c] 26)).alloc (.cells #[.slice xa nx xc, .slice ya ny yc] 24))) := b0.alloc b0.size _
  have ht := list2 24 (hx.below b0) (hy.below b0)
  rw [show (w.alloc (.cells #[.int .i64 p, .slice ao n c] 26)).heap.size = w.heap.size + 1 by simp] at ht
  have HT := Lib.hid ht
  clear ht
  have bA : Below (w.alloc (.cells #[.int .i64 p, .slice ao n c] 26)).heap.size (w.alloc (.cells #[.int .i64 p, .slice ao n c] 26)) ((w.alloc (.cells #[.int .i64 p, .slice ao n c] 26)).alloc (.cells #[.slice xa nx xc, .slice ya ny yc] 24)) := (Below.refl _ _).alloc (Nat.le_refl _) _
  have BXA := Lib.hid (boxKeep bA BX.out)
  obtain ⟨e0, e1, e2, e3⟩ := BX.out
  obtain ⟨cc, hcc⟩ : ∃ cc, codeE (dblB p n s) p n 2 (pick3 nx ny ny) (pick3 X Y Y) = cc := ⟨_, rfl⟩
  by_cases h0 : cc = 0
  · obtain ⟨hok, hel⟩ := codeE_zero (hcc.trans h0)
    have hv := dv_of h' hok
    obtain ⟨l0, x0⟩ := elemB_el hx (hel 0 (by omega))
    obtain ⟨l1, y0⟩ := elemB_el hy (hel 1 (by omega))
    have HV : Hid (∀ W, Below w.heap.size w W → DV W (.slice ao n c) p n s) := fun W hb => hv.below hb
    have HX : Hid (∀ W, Below w.heap.size w W → El W (.slice xa nx xc) p n X) := fun W hb => x0.below hb
    have HY : Hid (∀ W, Below w.heap.size w W → El W (.slice ya ny yc) p n Y) := fun W hb => y0.below hb
    have HOK := Lib.hid hok
    have HC := Lib.hid hcc
    have H' := Lib.hid h'
    obtain ⟨_, hp1, hp2, hn4, _⟩ := hv
    have hp16 := pow_le hn4
    have hpr := (dblB_ok hok).prime
    have hpb := primeB_bd hpr
    have hM0 : 0 < 2 ^ n := Nat.pos_of_ne_zero (by simp)
    have ex : ∃ b o, xa = some ⟨b, o, none⟩ ∧ 0 < nx ∧ w.cell? ⟨b, o, none⟩ = some (.int .i64 (X 0)) := by
      obtain ⟨ao', c', b', o', ev, p2, p3, p4, p5⟩ := x0.ints.out
      injection ev with e1 e2 e3
      exact ⟨b', o', by rw [e1]; exact p4 hM0, by omega, p5 0 hM0⟩
    obtain ⟨xb, xo, rfl, xn, xk⟩ := ex
    have xl := lt_of_cell xk
    have xi : (0 : Int) < (nx : Int) := by omega
    have ey : ∃ b o, ya = some ⟨b, o, none⟩ ∧ 0 < ny ∧ w.cell? ⟨b, o, none⟩ = some (.int .i64 (Y 0)) := by
      obtain ⟨ao', c', b', o', ev, p2, p3, p4, p5⟩ := y0.ints.out
      injection ev with e1 e2 e3
      exact ⟨b', o', by rw [e1]; exact p4 hM0, by omega, p5 0 hM0⟩
    obtain ⟨yb, yo, rfl, yn, yk⟩ := ey
    have yl := lt_of_cell yk
    have yi : (0 : Int) < (ny : Int) := by omega
    have HSM : Hid (Sm (2 ^ n) (fun i => (mulF p s n X Y i + -1 * mulF p s n Y X i) % p)) := InP.sm (fun i _ => mod_bd _ _ (by omega)) hp2
    have hinv := invM_spec (a := 2) hpr (by omega) (by omega)
    have hI1 := hinv.1
    have hI2 := hinv.2.1
    clear hinv
    clear h hx hy x0 y0 hel bA h' l0 l1 hok
    subst h0
    go_enter Try.func58, Try.ntmps58
    go_wp2_with fail
    go_at_call 83
    refine Calls.makes' (iCheckE_c p _ _ n 2 s _ _ _ (H'.out.below BL.out) HT.out) _ fun w1 hb1 => ?_
    rw [HC.out]
    obtain ⟨f0, f1, f2, f3⟩ := boxKeep hb1 BXA.out
    clear e0 e1 e2 e3
    have xk1 : w1.cell? ⟨xb, xo, none⟩ = some (.int .i64 (X 0)) := by rw [f3.cell (p := ⟨xb, xo, none⟩) xl]; exact xk
    have yk1 : w1.cell? ⟨yb, yo, none⟩ = some (.int .i64 (Y 0)) := by rw [f3.cell (p := ⟨yb, yo, none⟩) yl]; exact yk
    by_cases hX0 : X 0 = 0
    · by_cases hY0 : Y 0 = 0
      · have n1 : (X 0 != 0) = false := by simp [hX0]
        have n2 : (Y 0 != 0) = false := by simp [hY0]
        clear hX0 hY0
        go_wp2
        go_region_held3 (fun W => W.cell? ⟨w.heap.size, 0, none⟩ = some (.int .i64 p) ∧ W.cell? ⟨w.heap.size, 1, none⟩ = some (.slice ao n c) ∧ w.heap.size < W.heap.size ∧ Below w.heap.size w W)
          ((first | assumption | exact boxDrew ⟨f0, f1, f2, f3⟩ | exact boxKeep (by assumption) (by assumption)))
          ((first
            | (go_at_call 101; refine (iScaled_c _ _ _ _ _ _ (hO2.kept hb5).ints (by omega) hp1 hp2 HSM.out (by omega)).mono ?_; rintro e vz ⟨gz, cz, rfl, hgz, hbz, hOz⟩)
            | (go_at_call 102; refine (iInv_c _ _ _ (by omega) hp2 (by omega)).mono ?_; rintro e w' ⟨rfl, rfl⟩)
            | (go_at_call 80; have hx := hO2; refine Calls.makes' (iField_c _ _ _) _ fun v5 hb5 => ?_)
            | (go_at_call 108; refine (iComm_c p _ _ _ n s X Y _ (HV.out _ (boxBelow (by assumption))) (HX.out _ (boxBelow (by assumption))) (HY.out _ (boxBelow (by assumption)))).mono ?_; rintro e v2 ⟨g2, c2, rfl, hg2, hb2, hO2, hE2⟩)
            | (go_at_call 80; refine Calls.makes' (iField_c _ _ _) _ fun v0 hb0 => ?_)))
        have b4 : Below w.heap.size w vz := boxBelow (by assumption)
        have t2 := hb2.size
        have t5 := hb5.size
        have t0 := hb0.size
        have t3 := f3.size
        go_wp2
        go_ret2
        have ec : (thenC (codeE (dblB p n s) p n 2 (pick3 nx ny ny) (pick3 X Y Y)) (X 0 != 0 || Y 0 != 0) 5) = 0 := by unfold thenC; rw [HC.out, if_pos rfl, n1, n2]; rfl
        refine ⟨b4, Or.inl ⟨ec, gz, cz, rfl, ?_, hOz.congr fun i _ => ?_⟩⟩
        · have hgz' := hgz
          first | omega | (simp at *; omega)
        · rfl
      · have n1 : (X 0 != 0) = false := by simp [hX0]
        have n2 : (Y 0 != 0) = true := by simp [hY0]
        clear hX0 hY0
        go_wp2
        go_ret2
        have ec : (thenC (codeE (dblB p n s) p n 2 (pick3 nx ny ny) (pick3 X Y Y)) (X 0 != 0 || Y 0 != 0) 5) = 5 := by unfold thenC; rw [HC.out, if_pos rfl, n1, n2]; rfl
        exact ⟨f3, Or.inr ⟨by rw [ec]; decide, by rw [ec]; rfl⟩⟩
    · have n1 : (X 0 != 0) = true := by simp [hX0]
      clear hX0
      go_wp2
      go_ret2
      have ec : (thenC (codeE (dblB p n s) p n 2 (pick3 nx ny ny) (pick3 X Y Y)) (X 0 != 0 || Y 0 != 0) 5) = 5 := by unfold thenC; rw [HC.out, if_pos rfl, n1]; rfl
      exact ⟨f3, Or.inr ⟨by rw [ec]; decide, by rw [ec]; rfl⟩⟩
  · have HC := Lib.hid hcc
    have H' := Lib.hid h'
    have hne : (cc != 0) = true := by rw [bne_iff_ne]; exact h0
    clear h hx hy bA h'
    go_enter Try.func58, Try.ntmps58
    go_wp2_with fail
    go_at_call 83
    refine Calls.makes' (iCheckE_c p _ _ n 2 s _ _ _ (H'.out.below BL.out) HT.out) _ fun w1 hb1 => ?_
    rw [HC.out]
    go_wp2
    go_ret2
    exact ⟨BL.out.trans (hb1.mono BL.out.size), Or.inr ⟨by unfold thenC; rw [HC.out, if_neg h0]; exact h0, by unfold thenC; rw [HC.out, if_neg h0]; rfl⟩⟩


end Go.Proofs.Ytnnacligfoonbaa
