/-
  CyclicForm of the reference; the law on it. No condition.
-/
import Derived.Test.YtdnmjmcdljmghaaD18
import Derived.Test.YtdnmjmcdljmghaaF11a
set_option linter.unusedVariables false
set_option linter.unusedSimpArgs false
namespace Go.Proofs.Ytdnmjmcdljmghaa
open Go.RowKit

set_option maxRecDepth 100000 in
set_option maxHeartbeats 1000000 in
theorem sCyc12_c (p : Int) (sv xv yv zv : Value) (n : Nat) (s X Y Z : Nat → Int) (w : World) (hd : DV w sv p n s) (hx : El w xv p n X) (hy : El w yv p n Y) (hz : El w zv p n Z) :
    Calls Try.prog 57 #[dbl p sv, xv, yv, zv] w fun e w' => Makes w w' e (.int .i64 (cycV p n s X Y Z)) := by
  obtain ⟨ao, c, _, _, rfl, _⟩ := hd.ints.out
  obtain ⟨e0, e1, e2, e3⟩ := box0 w p ao n c 28
  have HV : Hid (∀ W, Below w.heap.size w W → DV W (.slice ao n c) p n s) := fun W hb => hd.below hb
  have HX : Hid (∀ W, Below w.heap.size w W → El W xv p n X) := fun W hb => hx.below hb
  have HY : Hid (∀ W, Below w.heap.size w W → El W yv p n Y) := fun W hb => hy.below hb
  have HZ : Hid (∀ W, Below w.heap.size w W → El W zv p n Z) := fun W hb => hz.below hb
  obtain ⟨_, hp1, hp2, hn4, _⟩ := hd
  have hM : 0 < 2 ^ n := hx.pos
  have hM1 : (0 : Int) < ((2 ^ n : Nat) : Int) := by omega
  have hM2 : (0 : Int) < 2 ^ n := by rw [show ((2 : Int) ^ n) = ((2 ^ n : Nat) : Int) by simp]; exact hM1
  obtain ⟨R, hR⟩ : ∃ R, mulF p s n (mulF p s n X Y) Z 0 = R := ⟨_, rfl⟩
  have hRb : 0 ≤ R ∧ R < p := hR ▸ mulF_in (by omega) s n _ _ (2 ^ n) 0 hM
  have hwr : IntKind.i64.wrap (2 * R) = 2 * R := wrap_in _ (by omega)
  have HC : Hid (cycV p n s X Y Z = (2 * R) % p) := by unfold cycV; rw [hR]; exact rfl
  have HR := Lib.hid hR
  clear hx hy hz hR
  go_enter Try.func57, Try.ntmps57
  go_wp2
  go_region_law (first
        | (go_simp; go_at_call 63; have hx := hE1; refine (sTimes_c p _ _ _ n s _ Z _ (HV.out _ b2) hE1 (HZ.out _ b2)).mono ?_; rintro e w3 ⟨g3, c3, rfl, hg3, hb3, hO3, hE3⟩; have hz3 := hO3.cell hM; rw [HR.out] at hz3; have b3 := b2.trans (hb3.mono b2.size); have q0 := cellKp hb3 k0; have q1 := cellKp hb3 k1)
        | (go_simp; go_at_call 63; refine (sTimes_c p _ _ _ n s X Y _ (HV.out _ (boxBelow (boxDrew ⟨e0, e1, e2, e3⟩))) (HX.out _ (boxBelow (boxDrew ⟨e0, e1, e2, e3⟩))) (HY.out _ (boxBelow (boxDrew ⟨e0, e1, e2, e3⟩)))).mono ?_; rintro e w2 ⟨g2, c2, rfl, hg2, hb2, hO2, hE1⟩; have bx2 := boxKeep hb2 (boxDrew ⟨e0, e1, e2, e3⟩); obtain ⟨k0, k1, k2, b2⟩ := bx2)
        | (go_simp; go_at_call 61; refine (sMod_c _ _ _ hp1 hp2 (by omega) (by omega)).mono ?_; rintro e w' ⟨rfl, rfl⟩))
  all_goals go_wp2
  all_goals go_ret
  all_goals exact ⟨ret_i64 HC.out.symm, b3⟩

set_option maxRecDepth 100000 in
set_option maxHeartbeats 400000 in
theorem sCyclic_c (p : Int) (sv : Value) (n : Nat) (s : Nat → Int) (xv : Value) (nx : Nat) (X : Nat → Int) (yv : Value) (ny : Nat) (Y : Nat → Int) (zv : Value) (nz : Nat) (Z : Nat → Int) (w : World)
    (h : Ints w sv n s) (hx : Ints w xv nx X) (hy : Ints w yv ny Y) (hz : Ints w zv nz Z) :
    Calls Try.prog 20 #[dbl p sv, xv, yv, zv] w fun e w' => Makes w w' e (rC (codeE (dblB p n s) p n 3 (pick3 nx ny nz) (pick3 X Y Z)) (cycV p n s X Y Z)) := by
  have h' := h
  obtain ⟨ao, c, _, _, rfl, _⟩ := h.out
  obtain ⟨xa, xc, _, _, rfl, _⟩ := hx.out
  obtain ⟨ya, yc, _, _, rfl, _⟩ := hy.out
  obtain ⟨za, zc, _, _, rfl, _⟩ := hz.out
  have BX := Lib.hid (box0 w p ao n c 28)
  have b0 := BX.out.2.2.2
  have BL : Hid (Below w.heap.size w ((w.alloc (.cells #[.int .i64 p, .slice ao n c] 28)).alloc (.cells #[.slice xa nx xc, .slice ya ny yc, .slice za nz zc] 22))) := b0.alloc b0.size _
  have ht := list3 22 (hx.below b0) (hy.below b0) (hz.below b0)
  rw [show (w.alloc (.cells #[.int .i64 p, .slice ao n c] 28)).heap.size = w.heap.size + 1 by simp] at ht
  have HT := Lib.hid ht
  clear ht
  have bA : Below (w.alloc (.cells #[.int .i64 p, .slice ao n c] 28)).heap.size (w.alloc (.cells #[.int .i64 p, .slice ao n c] 28)) ((w.alloc (.cells #[.int .i64 p, .slice ao n c] 28)).alloc (.cells #[.slice xa nx xc, .slice ya ny yc, .slice za nz zc] 22)) := (Below.refl _ _).alloc (Nat.le_refl _) _
  have BXA := Lib.hid (boxKeep bA BX.out)
  obtain ⟨e0, e1, e2, e3⟩ := BX.out
  obtain ⟨cc, hcc⟩ : ∃ cc, codeE (dblB p n s) p n 3 (pick3 nx ny nz) (pick3 X Y Z) = cc := ⟨_, rfl⟩
  by_cases h0 : cc = 0
  · obtain ⟨hok, hel⟩ := codeE_zero (hcc.trans h0)
    have hv := dv_of h' hok
    obtain ⟨l0, x0⟩ := elemB_el hx (hel 0 (by omega))
    obtain ⟨l1, y0⟩ := elemB_el hy (hel 1 (by omega))
    obtain ⟨l2, z0⟩ := elemB_el hz (hel 2 (by omega))
    have HV : Hid (∀ W, Below w.heap.size w W → DV W (.slice ao n c) p n s) := fun W hb => hv.below hb
    have HX : Hid (∀ W, Below w.heap.size w W → El W (.slice xa nx xc) p n X) := fun W hb => x0.below hb
    have HY : Hid (∀ W, Below w.heap.size w W → El W (.slice ya ny yc) p n Y) := fun W hb => y0.below hb
    have HZ : Hid (∀ W, Below w.heap.size w W → El W (.slice za nz zc) p n Z) := fun W hb => z0.below hb
    have HC := Lib.hid hcc
    have H' := Lib.hid h'
    clear h hx hy hz hv x0 y0 z0 hel bA h' l0 l1 l2 hok
    subst h0
    go_enter Try.func20, Try.ntmps20
    go_wp2_with fail
    go_at_call 56
    refine Calls.makes' (sCode_c p _ _ n 3 s _ _ _ (H'.out.below BL.out) HT.out) _ fun w1 hb1 => ?_
    rw [HC.out]
    obtain ⟨f0, f1, f2, f3⟩ := boxKeep hb1 BXA.out
    go_wp2_with fail
    go_at_call 57
    refine Calls.makes' (sCyc12_c p _ _ _ _ n s X Y Z _ (HV.out _ f3) (HX.out _ f3) (HY.out _ f3) (HZ.out _ f3)) _ fun w4 hb4 => ?_
    have b4 : Below w.heap.size w w4 := f3.trans (hb4.mono f3.size)
    go_wp2
    go_ret2
    exact ⟨by rw [HC.out]; rfl, b4⟩
  · have HC := Lib.hid hcc
    have H' := Lib.hid h'
    have hne : (cc != 0) = true := by rw [bne_iff_ne]; exact h0
    clear h hx hy hz bA h'
    go_enter Try.func20, Try.ntmps20
    go_wp2_with fail
    go_at_call 56
    refine Calls.makes' (sCode_c p _ _ n 3 s _ _ _ (H'.out.below BL.out) HT.out) _ fun w1 hb1 => ?_
    rw [HC.out]
    go_wp2
    go_ret2
    exact ⟨by rw [HC.out]; unfold rC; rw [if_neg h0]; rfl, BL.out.trans (hb1.mono BL.out.size)⟩

end Go.Proofs.Ytdnmjmcdljmghaa
