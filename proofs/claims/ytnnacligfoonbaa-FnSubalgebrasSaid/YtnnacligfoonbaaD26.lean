/-
  DoubleInverse, in both programs. No condition beside sizes.
-/
import Derived.Test.YtnnacligfoonbaaD24
set_option linter.unusedVariables false
set_option linter.unusedSimpArgs false
namespace Go.Proofs.Ytnnacligfoonbaa
open Go.RowKit

/-- a code, then another -/
def thenC (c : Int) (b : Bool) (k : Int) : Int := if c = 0 then (if b then k else 0) else c
theorem thenC_zero {c k : Int} {b : Bool} (h : thenC c b k = 0) : c = 0 := by
  unfold thenC at h; split at h
  · assumption
  · exact h
theorem lenC_then {p : Int} {n m : Nat} {s : Nat → Int} {L : Nat → Nat} {T : Nat → Nat → Int} {b : Bool} {k : Int} : lenC (thenC (codeE (dblB p n s) p n m L T) b k) n ≤ 1048576 := by
  unfold lenC; split
  · rename_i h
    have := pow_le (dblB_ok (codeE_zero (thenC_zero h)).1).le
    omega
  · omega

set_option maxRecDepth 100000 in
set_option maxHeartbeats 2000000 in
theorem iDoubleInverse_c (p : Int) (sv : Value) (n : Nat) (s : Nat → Int) (xv : Value) (nx : Nat) (X : Nat → Int) (w : World)
    (h : Ints w sv n s) (hx : Ints w xv nx X) :
    Calls Try.prog 41 #[dbl p sv, xv] w fun e w' => ResC w w' e ((thenC (codeE (dblB p n s) p n 1 (fun _ => nx) (fun _ => X)) (normF p s n X == 0) 5)) n (fun i => (conjF p X i * invM p (normF p s n X)) % p) := by
  have h' := h
  obtain ⟨ao, c, _, _, rfl, qh⟩ := h.out
  clear qh
  obtain ⟨xa, xc, _, _, rfl, qx⟩ := hx.out
  clear qx
  have BX := Lib.hid (box0 w p ao n c 26)
  have b0 := BX.out.2.2.2
  have BL : Hid (Below w.heap.size w ((w.alloc (.cells #[.int .i64 p, .slice ao n c] 26)).alloc (.cells #[.slice xa nx xc] 24))) := b0.alloc b0.size _
  have ht := list1 24 (hx.below b0)
  rw [show (w.alloc (.cells #[.int .i64 p, .slice ao n c] 26)).heap.size = w.heap.size + 1 by simp] at ht
  have HT := Lib.hid ht
  clear ht
  have bA : Below (w.alloc (.cells #[.int .i64 p, .slice ao n c] 26)).heap.size (w.alloc (.cells #[.int .i64 p, .slice ao n c] 26)) ((w.alloc (.cells #[.int .i64 p, .slice ao n c] 26)).alloc (.cells #[.slice xa nx xc] 24)) := (Below.refl _ _).alloc (Nat.le_refl _) _
  have BXA := Lib.hid (boxKeep bA BX.out)
  obtain ⟨e0, e1, e2, e3⟩ := BX.out
  obtain ⟨cc, hcc⟩ : ∃ cc, codeE (dblB p n s) p n 1 (fun _ => nx) (fun _ => X) = cc := ⟨_, rfl⟩
  by_cases h0 : cc = 0
  · obtain ⟨hok, hel⟩ := codeE_zero (hcc.trans h0)
    have hv := dv_of h' hok
    obtain ⟨l0, x0⟩ := elemB_el hx (hel 0 (by omega))
    have HV : Hid (∀ W, Below w.heap.size w W → DV W (.slice ao n c) p n s) := fun W hb => hv.below hb
    have HX : Hid (∀ W, Below w.heap.size w W → El W (.slice xa nx xc) p n X) := fun W hb => x0.below hb
    have HOK := Lib.hid hok
    have HC := Lib.hid hcc
    have H' := Lib.hid h'
    obtain ⟨_, hp1, hp2, hn4, _⟩ := hv
    have hp16 := pow_le hn4
    have hpr := (dblB_ok hok).prime
    have hpb := primeB_bd hpr
    have hM0 : 0 < 2 ^ n := Nat.pos_of_ne_zero (by simp)
    have HSM : Hid (Sm (2 ^ n) (conjF p X)) := (conjF_in (by omega) x0.inp).sm hp2
    obtain ⟨a1, q1⟩ : ∃ a, normF p s n X = a := ⟨_, rfl⟩
    have hA1 : 0 ≤ a1 ∧ a1 < p := q1 ▸ normF_in (by omega) s n _
    have C1 : Hid (∀ W v, Below w.heap.size w W → El W v p n (X) → Calls Try.prog 84 #[dbl p (.slice ao n c), v] W fun e w' => Makes W w' e (.int .i64 a1)) := fun W v hb h => q1 ▸ iNorm_c p _ _ n s _ W (HV.out W hb) h
    have hQ := Lib.hid q1
    clear h hx x0 hel bA h' l0 hok
    subst h0
    go_enter Try.func41, Try.ntmps41
    go_wp2_with fail
    go_at_call 83
    refine Calls.makes' (iCheckE_c p _ _ n 1 s _ _ _ (H'.out.below BL.out) HT.out) _ fun w1 hb1 => ?_
    rw [HC.out]
    obtain ⟨f0, f1, f2, f3⟩ := boxKeep hb1 BXA.out
    clear e0 e1 e2 e3
    by_cases hz : a1 = 0
    · have hne0 : (a1 == 0) = true := by simp [hz]
      go_wp2_with fail
      go_at_call 84
      refine Calls.makes' (C1.out _ _ f3 (HX.out _ f3)) _ fun w2 hb2 => ?_
      have f : BoxD w p ao n c w2 := boxKeep hb2 ⟨f0, f1, f2, f3⟩
      clear f0 f1 f2 f3 hb2
      obtain ⟨f0, f1, f2, f3⟩ := f
      go_wp2
      go_ret2
      have ec : (thenC (codeE (dblB p n s) p n 1 (fun _ => nx) (fun _ => X)) (normF p s n X == 0) 5) = 5 := by unfold thenC; rw [HC.out, hQ.out, if_pos rfl]; simp [hz]
      exact ⟨f3, Or.inr ⟨by rw [ec]; decide, by rw [ec]; rfl⟩⟩
    · have hne0 : (a1 == 0) = false := by simp [hz]
      have hA0 : 0 < a1 := by omega
      have hinv := invM_spec hpr hA0 hA1.2
      obtain ⟨I, hI⟩ : ∃ I, invM p a1 = I := ⟨_, rfl⟩
      have hI1 := hinv.1
      have hI2 := hinv.2.1
      have HI := Lib.hid hI
      clear hinv hI
      go_wp2_with fail
      go_at_call 84
      refine Calls.makes' (C1.out _ _ f3 (HX.out _ f3)) _ fun w2 hb2 => ?_
      have f : BoxD w p ao n c w2 := boxKeep hb2 ⟨f0, f1, f2, f3⟩
      clear f0 f1 f2 f3 hb2
      obtain ⟨f0, f1, f2, f3⟩ := f
      go_wp2
      go_region_held3 (fun W => W.cell? ⟨w.heap.size, 0, none⟩ = some (.int .i64 p) ∧ W.cell? ⟨w.heap.size, 1, none⟩ = some (.slice ao n c) ∧ w.heap.size < W.heap.size ∧ Below w.heap.size w W)
        ((first | assumption | exact boxDrew ⟨f0, f1, f2, f3⟩ | exact boxKeep (by assumption) (by assumption)))
        ((first
          | (go_at_call 101; refine (iScaled_c _ _ _ _ _ _ ((hO2.kept hb5).kept hb6).ints (by omega) hp1 hp2 HSM.out (by omega)).mono ?_; rintro e vz ⟨gz, cz, rfl, hgz, hbz, hOz⟩)
          | (go_at_call 102; refine (iInv_c _ _ _ (by omega) hp2 hA1).mono ?_; rintro e w' ⟨rfl, rfl⟩)
          | (go_at_call 84; have hx := hb5; refine Calls.makes' (C1.out _ _ (boxBelow (by assumption)) (HX.out _ (boxBelow (by assumption)))) _ fun v6 hb6 => ?_)
          | (go_at_call 80; have hx := hO2; refine Calls.makes' (iField_c _ _ _) _ fun v5 hb5 => ?_)
          | (go_at_call 80; have hx := hb0; refine Calls.makes' (iField_c _ _ _) _ fun v9 hb9 => ?_)
          | (go_at_call 97; refine (iConj_c _ _ _ _ _ (HX.out _ (boxBelow (by assumption))).ints hM0 (by omega) hp1 hp2 ((HX.out _ (boxBelow (by assumption))).inp.sm hp2)).mono ?_; rintro e v2 ⟨g2, c2, rfl, hg2, hb2, hO2⟩)
          | (go_at_call 80; refine Calls.makes' (iField_c _ _ _) _ fun v0 hb0 => ?_)))
      have b4 : Below w.heap.size w vz := boxBelow (by assumption)
      have t2 := hb2.size
      have t5 := hb5.size
      have t6 := hb6.size
      have t0 := hb0.size
      have t9 := hb9.size
      have t3 := f3.size
      go_wp2
      go_ret2
      have ec : (thenC (codeE (dblB p n s) p n 1 (fun _ => nx) (fun _ => X)) (normF p s n X == 0) 5) = 0 := by unfold thenC; rw [HC.out, hQ.out, if_pos rfl]; simp [hz]
      refine ⟨b4, Or.inl ⟨ec, gz, cz, rfl, ?_, hOz.congr fun i _ => ?_⟩⟩
      · have hgz' := hgz
        first | omega | (simp at *; omega)
      · show _ = Value.int .i64 ((conjF p X i * invM p (normF p s n X)) % p)
        rw [hQ.out]
  · have HC := Lib.hid hcc
    have H' := Lib.hid h'
    have hne : (cc != 0) = true := by rw [bne_iff_ne]; exact h0
    clear h hx bA h'
    go_enter Try.func41, Try.ntmps41
    go_wp2_with fail
    go_at_call 83
    refine Calls.makes' (iCheckE_c p _ _ n 1 s _ _ _ (H'.out.below BL.out) HT.out) _ fun w1 hb1 => ?_
    rw [HC.out]
    go_wp2
    go_ret2
    exact ⟨BL.out.trans (hb1.mono BL.out.size), Or.inr ⟨by unfold thenC; rw [HC.out, if_neg h0]; exact h0, by unfold thenC; rw [HC.out, if_neg h0]; rfl⟩⟩


end Go.Proofs.Ytnnacligfoonbaa
