/-
  AssociatorOf, in both programs. No condition beside sizes.
-/
import Derived.Test.YtnnacligfoonbaaD20
set_option linter.unusedVariables false
set_option linter.unusedSimpArgs false
namespace Go.Proofs.Ytnnacligfoonbaa
open Go.RowKit

/-- A result that is an element, or nil and a code. -/
structure ResC (w w' : World) (e : Ending) (cc : Int) (n : Nat) (X : Nat → Int) : Prop where
  bel : Below w.heap.size w w'
  out : (cc = 0 ∧ ∃ g c, e = .returned (.tuple #[.slice (some ⟨g, 0, none⟩) (2 ^ n) c, .int .i64 0]) ∧ w.heap.size ≤ g ∧ Own w' 2 g c (2 ^ n) (fun i => .int .i64 (X i))) ∨
    (cc ≠ 0 ∧ e = .returned (.tuple #[.slice none 0 0, .int .i64 cc]))

set_option maxRecDepth 100000 in
set_option maxHeartbeats 400000 in
theorem iAssociatorOf_c (p : Int) (sv : Value) (n : Nat) (s : Nat → Int) (xv : Value) (nx : Nat) (X : Nat → Int) (yv : Value) (ny : Nat) (Y : Nat → Int) (zv : Value) (nz : Nat) (Z : Nat → Int) (w : World)
    (h : Ints w sv n s) (hx : Ints w xv nx X) (hy : Ints w yv ny Y) (hz : Ints w zv nz Z) :
    Calls Try.prog 55 #[dbl p sv, xv, yv, zv] w fun e w' => ResC w w' e (codeE (dblB p n s) p n 3 (pick3 nx ny nz) (pick3 X Y Z)) n (fun i => (mulF p s n (mulF p s n X Y) Z i + -1 * mulF p s n X (mulF p s n Y Z) i) % p) := by
  have h' := h
  obtain ⟨ao, c, _, _, rfl, _⟩ := h.out
  obtain ⟨xa, xc, _, _, rfl, _⟩ := hx.out
  obtain ⟨ya, yc, _, _, rfl, _⟩ := hy.out
  obtain ⟨za, zc, _, _, rfl, _⟩ := hz.out
  have BX := Lib.hid (box0 w p ao n c 26)
  have b0 := BX.out.2.2.2
  have BL : Hid (Below w.heap.size w ((w.alloc (.cells #[.int .i64 p, .slice ao n c] 26)).alloc (.cells #[.slice xa nx xc, .slice ya ny yc, .slice za nz zc] 24))) := b0.alloc b0.size _
  have ht := list3 24 (hx.below b0) (hy.below b0) (hz.below b0)
  rw [show (w.alloc (.cells #[.int .i64 p, .slice ao n c] 26)).heap.size = w.heap.size + 1 by simp] at ht
  have HT := Lib.hid ht
  clear ht
  have bA : Below (w.alloc (.cells #[.int .i64 p, .slice ao n c] 26)).heap.size (w.alloc (.cells #[.int .i64 p, .slice ao n c] 26)) ((w.alloc (.cells #[.int .i64 p, .slice ao n c] 26)).alloc (.cells #[.slice xa nx xc, .slice ya ny yc, .slice za nz zc] 24)) := (Below.refl _ _).alloc (Nat.le_refl _) _
  have BXA := Lib.hid (boxKeep bA BX.out)
  obtain ⟨e0, e1, e2, e3⟩ := BX.out
  obtain ⟨cc, hcc⟩ : ∃ cc, codeE (dblB p n s) p n 3 (pick3 nx ny nz) (pick3 X Y Z) = cc := ⟨_, rfl⟩
  by_cases h0 : cc = 0
  · obtain ⟨hok, hel⟩ := codeE_zero (hcc.trans h0)
    have hv := dv_of h' hok
    obtain ⟨l0, x0⟩ := elemB_el hx (hel 0 (by omega))
    obtain ⟨l1, y0⟩ := elemB_el hy (hel 1 (by omega))
    obtain ⟨l2, z0⟩ := elemB_el hz (hel 2 (by omega))
    have HV : Hid (∀ W, Below w.heap.size w W → DV W (.slice ao n c) p n s) := fun W hb => hv.below hb
    have HX : Hid (∀ W, Below w.heap.size w W → El W (.slice xa nx xc) p n X) := fun W hb => x0.below hb
    have HY : Hid (∀ W, Below w.heap.size w W → El W (.slice ya ny yc) p n Y) := fun W hb => y0.below hb
    have HZ : Hid (∀ W, Below w.heap.size w W → El W (.slice za nz zc) p n Z) := fun W hb => z0.below hb
    have HC := Lib.hid hcc
    have H' := Lib.hid h'
    clear h hx hy hz hv x0 y0 z0 hel bA h' l0 l1 l2 hok
    subst h0
    go_enter Try.func55, Try.ntmps55
    go_wp2_with fail
    go_at_call 83
    refine Calls.makes' (iCheckE_c p _ _ n 3 s _ _ _ (H'.out.below BL.out) HT.out) _ fun w1 hb1 => ?_
    rw [HC.out]
    obtain ⟨f0, f1, f2, f3⟩ := boxKeep hb1 BXA.out
    go_wp2_with fail
    go_at_call 113
    refine (iAssoc_c p _ _ _ _ n s X Y Z _ (HV.out _ f3) (HX.out _ f3) (HY.out _ f3) (HZ.out _ f3)).mono ?_
    rintro e w4 ⟨g4, c4, rfl, hg4, hb4, hO4, hE4⟩
    have b4 : Below w.heap.size w w4 := f3.trans (hb4.mono f3.size)
    go_wp2
    go_ret2
    exact ⟨b4, Or.inl ⟨HC.out, g4, c4, rfl, by have := f3.size; omega, hO4⟩⟩
  · have HC := Lib.hid hcc
    have H' := Lib.hid h'
    have hne : (cc != 0) = true := by rw [bne_iff_ne]; exact h0
    clear h hx hy hz bA h'
    go_enter Try.func55, Try.ntmps55
    go_wp2_with fail
    go_at_call 83
    refine Calls.makes' (iCheckE_c p _ _ n 3 s _ _ _ (H'.out.below BL.out) HT.out) _ fun w1 hb1 => ?_
    rw [HC.out]
    go_wp2
    go_ret2
    exact ⟨BL.out.trans (hb1.mono BL.out.size), Or.inr ⟨by rw [HC.out]; exact h0, by rw [HC.out]; rfl⟩⟩

end Go.Proofs.Ytnnacligfoonbaa
