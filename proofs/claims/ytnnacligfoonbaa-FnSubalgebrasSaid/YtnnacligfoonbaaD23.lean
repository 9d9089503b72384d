/-
  MoufangGap, in both programs. No condition beside sizes.
-/
import Derived.Test.YtnnacligfoonbaaDX
set_option linter.unusedVariables false
set_option linter.unusedSimpArgs false
namespace Go.Proofs.Ytnnacligfoonbaa
open Go.RowKit

set_option maxRecDepth 100000 in
set_option maxHeartbeats 4000000 in
theorem iMoufangGap_c (p : Int) (sv : Value) (n : Nat) (s : Nat → Int) (xv : Value) (nx : Nat) (X : Nat → Int) (yv : Value) (ny : Nat) (Y : Nat → Int) (zv : Value) (nz : Nat) (Z : Nat → Int) (w : World)
    (h : Ints w sv n s) (hx : Ints w xv nx X) (hy : Ints w yv ny Y) (hz : Ints w zv nz Z) :
    Calls Try.prog 51 #[dbl p sv, xv, yv, zv] w fun e w' => ResC w w' e (codeE (dblB p n s) p n 3 (pick3 nx ny nz) (pick3 X Y Z)) n (fun i => (mulF p s n (mulF p s n X (mulF p s n Y Z)) X i + -1 * mulF p s n (mulF p s n X Y) (mulF p s n Z X) i) % p) := by
  have h' := h
  obtain ⟨ao, c, _, _, rfl, qh⟩ := h.out
  clear qh
  obtain ⟨xa, xc, _, _, rfl, qx⟩ := hx.out
  clear qx
  obtain ⟨ya, yc, _, _, rfl, qy⟩ := hy.out
  clear qy
  obtain ⟨za, zc, _, _, rfl, qz⟩ := hz.out
  clear qz
  have BX := Lib.hid (box0 w p ao n c 26)
  have b0 := BX.out.2.2.2
  have BL : Hid (Below w.heap.size w ((w.alloc (.cells #[.int .i64 p, .slice ao n c] 26)).alloc (.cells #[.slice xa nx xc, .slice ya ny yc, .slice za nz zc] 24))) := b0.alloc b0.size _
  have ht := list3 24 (hx.below b0) (hy.below b0) (hz.below b0)
  rw [show (w.alloc (.cells #[.int .i64 p, .slice ao n c] 26)).heap.size = w.heap.size + 1 by simp] at ht
  have HT := Lib.hid ht
  clear ht
  have bA : Below (w.alloc (.cells #[.int .i64 p, .slice ao n c] 26)).heap.size (w.alloc (.cells #[.int .i64 p, .slice ao n c] 26)) ((w.alloc (.cells #[.int .i64 p, .slice ao n c] 26)).alloc (.cells #[.slice xa nx xc, .slice ya ny yc, .slice za nz zc] 24)) := (Below.refl _ _).alloc (Nat.le_refl _) _
  have BXA := Lib.hid (boxKeep bA BX.out)
  obtain ⟨e0, e1, e2, e3⟩ := BX.out
  obtain ⟨cc, hcc⟩ : ∃ cc, codeE (dblB p n s) p n 3 (pick3 nx ny nz) (pick3 X Y Z) = cc := ⟨_, rfl⟩
  by_cases h0 : cc = 0
  · obtain ⟨hok, hel⟩ := codeE_zero (hcc.trans h0)
    have hv := dv_of h' hok
    obtain ⟨l0, x0⟩ := elemB_el hx (hel 0 (by omega))
    obtain ⟨l1, y0⟩ := elemB_el hy (hel 1 (by omega))
    obtain ⟨l2, z0⟩ := elemB_el hz (hel 2 (by omega))
    have HV : Hid (∀ W, Below w.heap.size w W → DV W (.slice ao n c) p n s) := fun W hb => hv.below hb
    have HX : Hid (∀ W, Below w.heap.size w W → El W (.slice xa nx xc) p n X) := fun W hb => x0.below hb
    have HY : Hid (∀ W, Below w.heap.size w W → El W (.slice ya ny yc) p n Y) := fun W hb => y0.below hb
    have HZ : Hid (∀ W, Below w.heap.size w W → El W (.slice za nz zc) p n Z) := fun W hb => z0.below hb
    have HOK := Lib.hid hok
    have HC := Lib.hid hcc
    have H' := Lib.hid h'
    obtain ⟨_, hp1, hp2, hn4, _⟩ := hv
    have hp16 := pow_le hn4
    clear h hx hy hz x0 y0 z0 hel bA h' l0 l1 l2 hok
    subst h0
    go_enter Try.func51, Try.ntmps51
    go_wp2_with fail
    go_at_call 83
    refine Calls.makes' (iCheckE_c p _ _ n 3 s _ _ _ (H'.out.below BL.out) HT.out) _ fun w1 hb1 => ?_
    rw [HC.out]
    obtain ⟨f0, f1, f2, f3⟩ := boxKeep hb1 BXA.out
    clear e0 e1 e2 e3
    have HF : Hid (InP p (2 ^ n) (fun i => (mulF p s n (mulF p s n X (mulF p s n Y Z)) X i + -1 * mulF p s n (mulF p s n X Y) (mulF p s n Z X) i) % p)) := fun i _ => mod_bd _ _ (by omega)
    go_wp2
    go_region_held3 (fun W => W.cell? ⟨w.heap.size, 0, none⟩ = some (.int .i64 p) ∧ W.cell? ⟨w.heap.size, 1, none⟩ = some (.slice ao n c) ∧ w.heap.size < W.heap.size ∧ Below w.heap.size w W)
      ((first | assumption | exact boxDrew ⟨f0, f1, f2, f3⟩ | exact boxKeep (by assumption) (by assumption)))
      ((first
        | (go_at_call 91; have hx := hE2; refine (iTimes_c p _ _ _ n s _ X _ (HV.out _ (boxBelow (by assumption))) hE2 (HX.out _ (boxBelow (by assumption)))).mono ?_; rintro e v3 ⟨g3, c3, rfl, hg3, hb3, hO3, hE3⟩)
        | (go_at_call 91; have hx := hE1; refine (iTimes_c p _ _ _ n s X _ _ (HV.out _ (boxBelow (by assumption))) (HX.out _ (boxBelow (by assumption))) hE1).mono ?_; rintro e v2 ⟨g2, c2, rfl, hg2, hb2, hO2, hE2⟩)
        | (go_at_call 91; refine (iTimes_c p _ _ _ n s Y Z _ (HV.out _ (boxBelow (by assumption))) (HY.out _ (boxBelow (by assumption))) (HZ.out _ (boxBelow (by assumption)))).mono ?_; rintro e v1 ⟨g1, c1, rfl, hg1, hb1, hO1, hE1⟩)))
    have bx3 : BoxD w p ao n c v3 := by assumption
    obtain ⟨k0, k1, k2, k3⟩ := bx3
    clear f0 f1 f2 f3 hE1 hE2 hO1 hO2
    have t3 : w.heap.size ≤ v3.heap.size := k3.size
    go_wp2
    go_region_held3 (fun W => W.cell? ⟨w.heap.size, 0, none⟩ = some (.int .i64 p) ∧ W.cell? ⟨w.heap.size, 1, none⟩ = some (.slice ao n c) ∧ w.heap.size < W.heap.size ∧ Below w.heap.size w W)
      ((first | assumption | exact boxDrew ⟨k0, k1, k2, k3⟩ | exact boxKeep (by assumption) (by assumption)))
      ((first
        | (go_at_call 110; have hx := hE7; refine (iPlus_c _ _ _ _ _ _ _ (-1) _ (((((hE3.below (drewB _)).below hb4).below hb5).below hb6).below hb7).ints hE7.ints (Nat.le_refl _) (by omega) hp1 hp2 (hE3.inp.sm hp2) (hE7.inp.sm hp2) (by omega)).mono ?_; rintro e vz ⟨gz, cz, rfl, hgz, hbz, hOz⟩)
        | (go_at_call 91; have hx := hE6; refine (iTimes_c p _ _ _ n s _ _ _ (HV.out _ (boxBelow (by assumption))) (hE5.below hb6) hE6).mono ?_; rintro e v7 ⟨g7, c7, rfl, hg7, hb7, hO7, hE7⟩)
        | (go_at_call 91; have hx := hE5; refine (iTimes_c p _ _ _ n s Z X _ (HV.out _ (boxBelow (by assumption))) (HZ.out _ (boxBelow (by assumption))) (HX.out _ (boxBelow (by assumption)))).mono ?_; rintro e v6 ⟨g6, c6, rfl, hg6, hb6, hO6, hE6⟩)
        | (go_at_call 91; refine (iTimes_c p _ _ _ n s X Y _ (HV.out _ (boxBelow (by assumption))) (HX.out _ (boxBelow (by assumption))) (HY.out _ (boxBelow (by assumption)))).mono ?_; rintro e v5 ⟨g5, c5, rfl, hg5, hb5, hO5, hE5⟩)
        | (go_at_call 80; refine Calls.makes' (iField_c _ _ _) _ fun v4 hb4 => ?_)))
    have b4 : Below w.heap.size w vz := boxBelow (by assumption)
    have t4 := hb4.size
    have t5 := hb5.size
    have t6 := hb6.size
    have t7 := hb7.size
    simp at t4
    go_wp2
    go_ret2
    exact ⟨b4, Or.inl ⟨HC.out, gz, cz, rfl, by omega, hOz⟩⟩
  · have HC := Lib.hid hcc
    have H' := Lib.hid h'
    have hne : (cc != 0) = true := by rw [bne_iff_ne]; exact h0
    clear h hx hy hz bA h'
    go_enter Try.func51, Try.ntmps51
    go_wp2_with fail
    go_at_call 83
    refine Calls.makes' (iCheckE_c p _ _ n 3 s _ _ _ (H'.out.below BL.out) HT.out) _ fun w1 hb1 => ?_
    rw [HC.out]
    go_wp2
    go_ret2
    exact ⟨BL.out.trans (hb1.mono BL.out.size), Or.inr ⟨by rw [HC.out]; exact h0, by rw [HC.out]; rfl⟩⟩

set_option maxRecDepth 100000 in
set_option maxHeartbeats 4000000 in
theorem sMoufangGap_c (p : Int) (sv : Value) (n : Nat) (s : Nat → Int) (xv : Value) (nx : Nat) (X : Nat → Int) (yv : Value) (ny : Nat) (Y : Nat → Int) (zv : Value) (nz : Nat) (Z : Nat → Int) (w : World)
    (h : Ints w sv n s) (hx : Ints w xv nx X) (hy : Ints w yv ny Y) (hz : Ints w zv nz Z) :
    Calls Try.prog 52 #[dbl p sv, xv, yv, zv] w fun e w' => ResC w w' e (codeE (dblB p n s) p n 3 (pick3 nx ny nz) (pick3 X Y Z)) n (fun i => (mulF p s n (mulF p s n X (mulF p s n Y Z)) X i + -1 * mulF p s n (mulF p s n X Y) (mulF p s n Z X) i) % p) := by
  have h' := h
  obtain ⟨ao, c, _, _, rfl, qh⟩ := h.out
  clear qh
  obtain ⟨xa, xc, _, _, rfl, qx⟩ := hx.out
  clear qx
  obtain ⟨ya, yc, _, _, rfl, qy⟩ := hy.out
  clear qy
  obtain ⟨za, zc, _, _, rfl, qz⟩ := hz.out
  clear qz
  have BX := Lib.hid (box0 w p ao n c 26)
  have b0 := BX.out.2.2.2
  have BL : Hid (Below w.heap.size w ((w.alloc (.cells #[.int .i64 p, .slice ao n c] 26)).alloc (.cells #[.slice xa nx xc, .slice ya ny yc, .slice za nz zc] 24))) := b0.alloc b0.size _
  have ht := list3 24 (hx.below b0) (hy.below b0) (hz.below b0)
  rw [show (w.alloc (.cells #[.int .i64 p, .slice ao n c] 26)).heap.size = w.heap.size + 1 by simp] at ht
  have HT := Lib.hid ht
  clear ht
  have bA : Below (w.alloc (.cells #[.int .i64 p, .slice ao n c] 26)).heap.size (w.alloc (.cells #[.int .i64 p, .slice ao n c] 26)) ((w.alloc (.cells #[.int .i64 p, .slice ao n c] 26)).alloc (.cells #[.slice xa nx xc, .slice ya ny yc, .slice za nz zc] 24)) := (Below.refl _ _).alloc (Nat.le_refl _) _
  have BXA := Lib.hid (boxKeep bA BX.out)
  obtain ⟨e0, e1, e2, e3⟩ := BX.out
  obtain ⟨cc, hcc⟩ : ∃ cc, codeE (dblB p n s) p n 3 (pick3 nx ny nz) (pick3 X Y Z) = cc := ⟨_, rfl⟩
  by_cases h0 : cc = 0
  · obtain ⟨hok, hel⟩ := codeE_zero (hcc.trans h0)
    have hv := dv_of h' hok
    obtain ⟨l0, x0⟩ := elemB_el hx (hel 0 (by omega))
    obtain ⟨l1, y0⟩ := elemB_el hy (hel 1 (by omega))
    obtain ⟨l2, z0⟩ := elemB_el hz (hel 2 (by omega))
    have HV : Hid (∀ W, Below w.heap.size w W → DV W (.slice ao n c) p n s) := fun W hb => hv.below hb
    have HX : Hid (∀ W, Below w.heap.size w W → El W (.slice xa nx xc) p n X) := fun W hb => x0.below hb
    have HY : Hid (∀ W, Below w.heap.size w W → El W (.slice ya ny yc) p n Y) := fun W hb => y0.below hb
    have HZ : Hid (∀ W, Below w.heap.size w W → El W (.slice za nz zc) p n Z) := fun W hb => z0.below hb
    have HOK := Lib.hid hok
    have HC := Lib.hid hcc
    have H' := Lib.hid h'
    obtain ⟨_, hp1, hp2, hn4, _⟩ := hv
    have hp16 := pow_le hn4
    clear h hx hy hz x0 y0 z0 hel bA h' l0 l1 l2 hok
    subst h0
    go_enter Try.func52, Try.ntmps52
    go_wp2_with fail
    go_at_call 92
    refine Calls.makes' (sCode_c p _ _ n 3 s _ _ _ (H'.out.below BL.out) HT.out) _ fun w1 hb1 => ?_
    rw [HC.out]
    obtain ⟨f0, f1, f2, f3⟩ := boxKeep hb1 BXA.out
    clear e0 e1 e2 e3
    have HF : Hid (InP p (2 ^ n) (fun i => (mulF p s n (mulF p s n X (mulF p s n Y Z)) X i + -1 * mulF p s n (mulF p s n X Y) (mulF p s n Z X) i) % p)) := fun i _ => mod_bd _ _ (by omega)
    go_wp2
    go_region_held3 (fun W => W.cell? ⟨w.heap.size, 0, none⟩ = some (.int .i64 p) ∧ W.cell? ⟨w.heap.size, 1, none⟩ = some (.slice ao n c) ∧ w.heap.size < W.heap.size ∧ Below w.heap.size w W)
      ((first | assumption | exact boxDrew ⟨f0, f1, f2, f3⟩ | exact boxKeep (by assumption) (by assumption)))
      ((first
        | (go_at_call 93; have hx := hE2; refine (sTimes_c p _ _ _ n s _ X _ (HV.out _ (boxBelow (by assumption))) hE2 (HX.out _ (boxBelow (by assumption)))).mono ?_; rintro e v3 ⟨g3, c3, rfl, hg3, hb3, hO3, hE3⟩)
        | (go_at_call 93; have hx := hE1; refine (sTimes_c p _ _ _ n s X _ _ (HV.out _ (boxBelow (by assumption))) (HX.out _ (boxBelow (by assumption))) hE1).mono ?_; rintro e v2 ⟨g2, c2, rfl, hg2, hb2, hO2, hE2⟩)
        | (go_at_call 93; refine (sTimes_c p _ _ _ n s Y Z _ (HV.out _ (boxBelow (by assumption))) (HY.out _ (boxBelow (by assumption))) (HZ.out _ (boxBelow (by assumption)))).mono ?_; rintro e v1 ⟨g1, c1, rfl, hg1, hb1, hO1, hE1⟩)))
    have bx3 : BoxD w p ao n c v3 := by assumption
    obtain ⟨k0, k1, k2, k3⟩ := bx3
    clear f0 f1 f2 f3 hE1 hE2 hO1 hO2
    have t3 : w.heap.size ≤ v3.heap.size := k3.size
    go_wp2
    go_region_held3 (fun W => W.cell? ⟨w.heap.size, 0, none⟩ = some (.int .i64 p) ∧ W.cell? ⟨w.heap.size, 1, none⟩ = some (.slice ao n c) ∧ w.heap.size < W.heap.size ∧ Below w.heap.size w W)
      ((first | assumption | exact boxDrew ⟨k0, k1, k2, k3⟩ | exact boxKeep (by assumption) (by assumption)))
      ((first
        | (go_at_call 111; have hx := hE7; refine (sMinus_c _ _ _ _ _ _ _ ((((hE3.below (drewB _)).below hb5).below hb6).below hb7).ints hE7.ints (by omega) hp1 hp2 (hE3.inp.sm hp2) (hE7.inp.sm hp2)).mono ?_; rintro e vz ⟨gz, cz, rfl, hgz, hbz, hOz⟩)
        | (go_at_call 93; have hx := hE6; refine (sTimes_c p _ _ _ n s _ _ _ (HV.out _ (boxBelow (by assumption))) (hE5.below hb6) hE6).mono ?_; rintro e v7 ⟨g7, c7, rfl, hg7, hb7, hO7, hE7⟩)
        | (go_at_call 93; have hx := hE5; refine (sTimes_c p _ _ _ n s Z X _ (HV.out _ (boxBelow (by assumption))) (HZ.out _ (boxBelow (by assumption))) (HX.out _ (boxBelow (by assumption)))).mono ?_; rintro e v6 ⟨g6, c6, rfl, hg6, hb6, hO6, hE6⟩)
        | (go_at_call 93; refine (sTimes_c p _ _ _ n s X Y _ (HV.out _ (boxBelow (by assumption))) (HX.out _ (boxBelow (by assumption))) (HY.out _ (boxBelow (by assumption)))).mono ?_; rintro e v5 ⟨g5, c5, rfl, hg5, hb5, hO5, hE5⟩)))
    have b4 : Below w.heap.size w vz := boxBelow (by assumption)
    have t5 := hb5.size
    have t6 := hb6.size
    have t7 := hb7.size
    simp at t5
    go_wp2
    go_ret2
    exact ⟨b4, Or.inl ⟨HC.out, gz, cz, rfl, by omega, hOz⟩⟩
  · have HC := Lib.hid hcc
    have H' := Lib.hid h'
    have hne : (cc != 0) = true := by rw [bne_iff_ne]; exact h0
    clear h hx hy hz bA h'
    go_enter Try.func52, Try.ntmps52
    go_wp2_with fail
    go_at_call 92
    refine Calls.makes' (sCode_c p _ _ n 3 s _ _ _ (H'.out.below BL.out) HT.out) _ fun w1 hb1 => ?_
    rw [HC.out]
    go_wp2
    go_ret2
    exact ⟨BL.out.trans (hb1.mono BL.out.size), Or.inr ⟨by rw [HC.out]; exact h0, by rw [HC.out]; rfl⟩⟩


end Go.Proofs.Ytnnacligfoonbaa
