/-
  CompositionGap, in both programs. No condition beside sizes.
-/
import Derived.Test.YtnnacligfoonbaaD24
set_option linter.unusedVariables false
set_option linter.unusedSimpArgs false
namespace Go.Proofs.Ytnnacligfoonbaa
open Go.RowKit

/-- the gap of a composition -/
def gapV (p : Int) (n : Nat) (s X Y : Nat → Int) : Int := (normF p s n (mulF p s n X Y) - normF p s n X * normF p s n Y) % p

set_option maxRecDepth 100000 in
set_option maxHeartbeats 2000000 in
theorem iCompositionGap_c (p : Int) (sv : Value) (n : Nat) (s : Nat → Int) (xv : Value) (nx : Nat) (X : Nat → Int) (yv : Value) (ny : Nat) (Y : Nat → Int) (w : World)
    (h : Ints w sv n s) (hx : Ints w xv nx X) (hy : Ints w yv ny Y) :
    Calls Try.prog 53 #[dbl p sv, xv, yv] w fun e w' => Makes w w' e (rC (codeE (dblB p n s) p n 2 (pick3 nx ny ny) (pick3 X Y Y)) (gapV p n s X Y)) := by
  have h' := h
  obtain ⟨ao, c, _, _, rfl, qh⟩ := h.out
  clear qh
  obtain ⟨xa, xc, _, _, rfl, qx⟩ := hx.out
  clear qx
  obtain ⟨ya, yc, _, _, rfl, qy⟩ := hy.out
  clear qy
  have BX := Lib.hid (box0 w p ao n c 26)
  have b0 := BX.out.2.2.2
  have BL : Hid (Below w.heap.size w ((w.alloc (.cells #[.int .i64 p, .slice ao n c] 26)).alloc (.cells #[.slice xa nx xc, .slice ya ny yc] 24))) := b0.alloc b0.size _
  have ht := list2 24 (hx.below b0) (hy.below b0)
  rw [show (w.alloc (.cells #[.int .i64 p, .slice ao n c] 26)).heap.size = w.heap.size + 1 by simp] at ht
  have HT := Lib.hid ht
  clear ht
  have bA : Below (w.alloc (.cells #[.int .i64 p, .slice ao n c] 26)).heap.size (w.alloc (.cells #[.int .i64 p, .slice ao n c] 26)) ((w.alloc (.cells #[.int .i64 p, .slice ao n c] 26)).alloc (.cells #[.slice xa nx xc, .slice ya ny yc] 24)) := (Below.refl _ _).alloc (Nat.le_refl _) _
  have BXA := Lib.hid (boxKeep bA BX.out)
  obtain ⟨e0, e1, e2, e3⟩ := BX.out
  obtain ⟨cc, hcc⟩ : ∃ cc, codeE (dblB p n s) p n 2 (pick3 nx ny ny) (pick3 X Y Y) = cc := ⟨_, rfl⟩
  by_cases h0 : cc = 0
  · obtain ⟨hok, hel⟩ := codeE_zero (hcc.trans h0)
    have hv := dv_of h' hok
    obtain ⟨l0, x0⟩ := elemB_el hx (hel 0 (by omega))
    obtain ⟨l1, y0⟩ := elemB_el hy (hel 1 (by omega))
    have HV : Hid (∀ W, Below w.heap.size w W → DV W (.slice ao n c) p n s) := fun W hb => hv.below hb
    have HX : Hid (∀ W, Below w.heap.size w W → El W (.slice xa nx xc) p n X) := fun W hb => x0.below hb
    have HY : Hid (∀ W, Below w.heap.size w W → El W (.slice ya ny yc) p n Y) := fun W hb => y0.below hb
    have HOK := Lib.hid hok
    have HC := Lib.hid hcc
    have H' := Lib.hid h'
    obtain ⟨_, hp1, hp2, hn4, _⟩ := hv
    have hp16 := pow_le hn4
    have hpb := primeB_bd (dblB_ok hok).prime
    obtain ⟨a1, q1⟩ : ∃ a, normF p s n (mulF p s n X Y) = a := ⟨_, rfl⟩
    have hA1 : 0 ≤ a1 ∧ a1 < p := q1 ▸ normF_in (by omega) s n _
    have C1 : Hid (∀ W v, Below w.heap.size w W → El W v p n (mulF p s n X Y) → Calls Try.prog 84 #[dbl p (.slice ao n c), v] W fun e w' => Makes W w' e (.int .i64 a1)) := fun W v hb h => q1 ▸ iNorm_c p _ _ n s _ W (HV.out W hb) h
    obtain ⟨a2, q2⟩ : ∃ a, normF p s n (X) = a := ⟨_, rfl⟩
    have hA2 : 0 ≤ a2 ∧ a2 < p := q2 ▸ normF_in (by omega) s n _
    have C2 : Hid (∀ W v, Below w.heap.size w W → El W v p n (X) → Calls Try.prog 84 #[dbl p (.slice ao n c), v] W fun e w' => Makes W w' e (.int .i64 a2)) := fun W v hb h => q2 ▸ iNorm_c p _ _ n s _ W (HV.out W hb) h
    obtain ⟨a3, q3⟩ : ∃ a, normF p s n (Y) = a := ⟨_, rfl⟩
    have hA3 : 0 ≤ a3 ∧ a3 < p := q3 ▸ normF_in (by omega) s n _
    have C3 : Hid (∀ W v, Below w.heap.size w W → El W v p n (Y) → Calls Try.prog 84 #[dbl p (.slice ao n c), v] W fun e w' => Makes W w' e (.int .i64 a3)) := fun W v hb h => q3 ▸ iNorm_c p _ _ n s _ W (HV.out W hb) h
    have HCG : Hid (gapV p n s X Y = (a1 - a2 * a3) % p) := by unfold gapV; rw [q1, q2, q3]; exact rfl
    have hmm := mul_bd (a := a2) (b := a3) (by omega) (by omega)
    have hw1 : IntKind.i64.wrap (a2 * a3) = a2 * a3 := wrap_in _ (by omega)
    have hw2 : IntKind.i64.wrap (a1 - a2 * a3) = a1 - a2 * a3 := wrap_in _ (by omega)
    clear q1 q2 q3
    clear h hx hy x0 y0 hel bA h' l0 l1 hok
    subst h0
    go_enter Try.func53, Try.ntmps53
    go_wp2_with fail
    go_at_call 83
    refine Calls.makes' (iCheckE_c p _ _ n 2 s _ _ _ (H'.out.below BL.out) HT.out) _ fun w1 hb1 => ?_
    rw [HC.out]
    obtain ⟨f0, f1, f2, f3⟩ := boxKeep hb1 BXA.out
    clear e0 e1 e2 e3
    go_wp2
    go_region_held3 (fun W => W.cell? ⟨w.heap.size, 0, none⟩ = some (.int .i64 p) ∧ W.cell? ⟨w.heap.size, 1, none⟩ = some (.slice ao n c) ∧ w.heap.size < W.heap.size ∧ Below w.heap.size w W)
      ((first | assumption | exact boxDrew ⟨f0, f1, f2, f3⟩ | exact boxKeep (by assumption) (by assumption)))
      ((first
        | (go_at_call 81; refine (iNum_c _ _ _ hp1 hp2 (by omega) (by omega)).mono ?_; rintro e w' ⟨rfl, rfl⟩)
        | (go_at_call 84; have hx := hb3; refine Calls.makes' (C3.out _ _ (boxBelow (by assumption)) (HY.out _ (boxBelow (by assumption)))) _ fun v4 hb4 => ?_)
        | (go_at_call 84; have hx := hb2; refine Calls.makes' (C2.out _ _ (boxBelow (by assumption)) (HX.out _ (boxBelow (by assumption)))) _ fun v3 hb3 => ?_)
        | (go_at_call 84; have hx := hE1; refine Calls.makes' (C1.out _ _ (boxBelow (by assumption)) hE1) _ fun v2 hb2 => ?_)
        | (go_at_call 91; refine (iTimes_c p _ _ _ n s X Y _ (HV.out _ (boxBelow (by assumption))) (HX.out _ (boxBelow (by assumption))) (HY.out _ (boxBelow (by assumption)))).mono ?_; rintro e v1 ⟨g1, c1, rfl, hg1, hb1', hO1, hE1⟩)
        | (go_at_call 80; refine Calls.makes' (iField_c _ _ _) _ fun v0 hb0 => ?_)))
    have b4 : Below w.heap.size w v4 := boxBelow (by assumption)
    go_wp2
    go_ret2
    exact ⟨by rw [HC.out, HCG.out]; rfl, b4⟩
  · have HC := Lib.hid hcc
    have H' := Lib.hid h'
    have hne : (cc != 0) = true := by rw [bne_iff_ne]; exact h0
    clear h hx hy bA h'
    go_enter Try.func53, Try.ntmps53
    go_wp2_with fail
    go_at_call 83
    refine Calls.makes' (iCheckE_c p _ _ n 2 s _ _ _ (H'.out.below BL.out) HT.out) _ fun w1 hb1 => ?_
    rw [HC.out]
    go_wp2
    go_ret2
    exact ⟨by rw [HC.out]; unfold rC; rw [if_neg h0]; rfl, BL.out.trans (hb1.mono BL.out.size)⟩

set_option maxRecDepth 100000 in
set_option maxHeartbeats 2000000 in
theorem sCompositionGap_c (p : Int) (sv : Value) (n : Nat) (s : Nat → Int) (xv : Value) (nx : Nat) (X : Nat → Int) (yv : Value) (ny : Nat) (Y : Nat → Int) (w : World)
    (h : Ints w sv n s) (hx : Ints w xv nx X) (hy : Ints w yv ny Y) :
    Calls Try.prog 54 #[dbl p sv, xv, yv] w fun e w' => Makes w w' e (rC (codeE (dblB p n s) p n 2 (pick3 nx ny ny) (pick3 X Y Y)) (gapV p n s X Y)) := by
  have h' := h
  obtain ⟨ao, c, _, _, rfl, qh⟩ := h.out
  clear qh
  obtain ⟨xa, xc, _, _, rfl, qx⟩ := hx.out
  clear qx
  obtain ⟨ya, yc, _, _, rfl, qy⟩ := hy.out
  clear qy
  have BX := Lib.hid (box0 w p ao n c 26)
  have b0 := BX.out.2.2.2
  have BL : Hid (Below w.heap.size w ((w.alloc (.cells #[.int .i64 p, .slice ao n c] 26)).alloc (.cells #[.slice xa nx xc, .slice ya ny yc] 24))) := b0.alloc b0.size _
  have ht := list2 24 (hx.below b0) (hy.below b0)
  rw [show (w.alloc (.cells #[.int .i64 p, .slice ao n c] 26)).heap.size = w.heap.size + 1 by simp] at ht
  have HT := Lib.hid ht
  clear ht
  have bA : Below (w.alloc (.cells #[.int .i64 p, .slice ao n c] 26)).heap.size (w.alloc (.cells #[.int .i64 p, .slice ao n c] 26)) ((w.alloc (.cells #[.int .i64 p, .slice ao n c] 26)).alloc (.cells #[.slice xa nx xc, .slice ya ny yc] 24)) := (Below.refl _ _).alloc (Nat.le_refl _) _
  have BXA := Lib.hid (boxKeep bA BX.out)
  obtain ⟨e0, e1, e2, e3⟩ := BX.out
  obtain ⟨cc, hcc⟩ : ∃ cc, codeE (dblB p n s) p n 2 (pick3 nx ny ny) (pick3 X Y Y) = cc := ⟨_, rfl⟩
  by_cases h0 : cc = 0
  · obtain ⟨hok, hel⟩ := codeE_zero (hcc.trans h0)
    have hv := dv_of h' hok
    obtain ⟨l0, x0⟩ := elemB_el hx (hel 0 (by omega))
    obtain ⟨l1, y0⟩ := elemB_el hy (hel 1 (by omega))
    have HV : Hid (∀ W, Below w.heap.size w W → DV W (.slice ao n c) p n s) := fun W hb => hv.below hb
    have HX : Hid (∀ W, Below w.heap.size w W → El W (.slice xa nx xc) p n X) := fun W hb => x0.below hb
    have HY : Hid (∀ W, Below w.heap.size w W → El W (.slice ya ny yc) p n Y) := fun W hb => y0.below hb
    have HOK := Lib.hid hok
    have HC := Lib.hid hcc
    have H' := Lib.hid h'
    obtain ⟨_, hp1, hp2, hn4, _⟩ := hv
    have hp16 := pow_le hn4
    have hpb := primeB_bd (dblB_ok hok).prime
    obtain ⟨a1, q1⟩ : ∃ a, normF p s n (mulF p s n X Y) = a := ⟨_, rfl⟩
    have hA1 : 0 ≤ a1 ∧ a1 < p := q1 ▸ normF_in (by omega) s n _
    have C1 : Hid (∀ W v, Below w.heap.size w W → El W v p n (mulF p s n X Y) → Calls Try.prog 112 #[dbl p (.slice ao n c), v] W fun e w' => Makes W w' e (.int .i64 a1)) := fun W v hb h => q1 ▸ sNorm_c p _ _ n s _ W (HV.out W hb) h (by omega) (dblB_ok hok).step
    obtain ⟨a2, q2⟩ : ∃ a, normF p s n (X) = a := ⟨_, rfl⟩
    have hA2 : 0 ≤ a2 ∧ a2 < p := q2 ▸ normF_in (by omega) s n _
    have C2 : Hid (∀ W v, Below w.heap.size w W → El W v p n (X) → Calls Try.prog 112 #[dbl p (.slice ao n c), v] W fun e w' => Makes W w' e (.int .i64 a2)) := fun W v hb h => q2 ▸ sNorm_c p _ _ n s _ W (HV.out W hb) h (by omega) (dblB_ok hok).step
    obtain ⟨a3, q3⟩ : ∃ a, normF p s n (Y) = a := ⟨_, rfl⟩
    have hA3 : 0 ≤ a3 ∧ a3 < p := q3 ▸ normF_in (by omega) s n _
    have C3 : Hid (∀ W v, Below w.heap.size w W → El W v p n (Y) → Calls Try.prog 112 #[dbl p (.slice ao n c), v] W fun e w' => Makes W w' e (.int .i64 a3)) := fun W v hb h => q3 ▸ sNorm_c p _ _ n s _ W (HV.out W hb) h (by omega) (dblB_ok hok).step
    have HCG : Hid (gapV p n s X Y = (a1 - a2 * a3) % p) := by unfold gapV; rw [q1, q2, q3]; exact rfl
    have hmm := mul_bd (a := a2) (b := a3) (by omega) (by omega)
    have hw1 : IntKind.i64.wrap (a2 * a3) = a2 * a3 := wrap_in _ (by omega)
    have hw2 : IntKind.i64.wrap (a1 - a2 * a3) = a1 - a2 * a3 := wrap_in _ (by omega)
    clear q1 q2 q3
    clear h hx hy x0 y0 hel bA h' l0 l1 hok
    subst h0
    go_enter Try.func54, Try.ntmps54
    go_wp2_with fail
    go_at_call 92
    refine Calls.makes' (sCode_c p _ _ n 2 s _ _ _ (H'.out.below BL.out) HT.out) _ fun w1 hb1 => ?_
    rw [HC.out]
    obtain ⟨f0, f1, f2, f3⟩ := boxKeep hb1 BXA.out
    clear e0 e1 e2 e3
    go_wp2
    go_region_held3 (fun W => W.cell? ⟨w.heap.size, 0, none⟩ = some (.int .i64 p) ∧ W.cell? ⟨w.heap.size, 1, none⟩ = some (.slice ao n c) ∧ w.heap.size < W.heap.size ∧ Below w.heap.size w W)
      ((first | assumption | exact boxDrew ⟨f0, f1, f2, f3⟩ | exact boxKeep (by assumption) (by assumption)))
      ((first
        | (go_at_call 82; refine (sMod_c _ _ _ hp1 hp2 (by omega) (by omega)).mono ?_; rintro e w' ⟨rfl, rfl⟩)
        | (go_at_call 112; have hx := hb3; refine Calls.makes' (C3.out _ _ (boxBelow (by assumption)) (HY.out _ (boxBelow (by assumption)))) _ fun v4 hb4 => ?_)
        | (go_at_call 112; have hx := hb2; refine Calls.makes' (C2.out _ _ (boxBelow (by assumption)) (HX.out _ (boxBelow (by assumption)))) _ fun v3 hb3 => ?_)
        | (go_at_call 112; have hx := hE1; refine Calls.makes' (C1.out _ _ (boxBelow (by assumption)) hE1) _ fun v2 hb2 => ?_)
        | (go_at_call 93; refine (sTimes_c p _ _ _ n s X Y _ (HV.out _ (boxBelow (by assumption))) (HX.out _ (boxBelow (by assumption))) (HY.out _ (boxBelow (by assumption)))).mono ?_; rintro e v1 ⟨g1, c1, rfl, hg1, hb1', hO1, hE1⟩)))
    have b4 : Below w.heap.size w v4 := boxBelow (by assumption)
    go_wp2
    go_ret2
    exact ⟨by rw [HC.out, HCG.out]; rfl, b4⟩
  · have HC := Lib.hid hcc
    have H' := Lib.hid h'
    have hne : (cc != 0) = true := by rw [bne_iff_ne]; exact h0
    clear h hx hy bA h'
    go_enter Try.func54, Try.ntmps54
    go_wp2_with fail
    go_at_call 92
    refine Calls.makes' (sCode_c p _ _ n 2 s _ _ _ (H'.out.below BL.out) HT.out) _ fun w1 hb1 => ?_
    rw [HC.out]
    go_wp2
    go_ret2
    exact ⟨by rw [HC.out]; unfold rC; rw [if_neg h0]; rfl, BL.out.trans (hb1.mono BL.out.size)⟩


end Go.Proofs.Ytnnacligfoonbaa
