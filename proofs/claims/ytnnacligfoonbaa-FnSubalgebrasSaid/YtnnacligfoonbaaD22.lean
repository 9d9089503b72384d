/-
  Lists of one and of two elements; CommutatorOf, in both programs. No condition beside sizes.
-/
import Derived.Test.YtnnacligfoonbaaDX
set_option linter.unusedVariables false
set_option linter.unusedSimpArgs false
namespace Go.Proofs.Ytnnacligfoonbaa
open Go.RowKit

/-- a list of one element -/
theorem list1 {w : World} {xv : Value} {nx : Nat} {X : Nat → Int} (t : TypeId) (hx : Ints w xv nx X) :
    Tab (w.alloc (.cells #[xv] t)) (.slice (some ⟨w.heap.size, 0, none⟩) 1 1) 1 (fun _ => nx) (fun _ => X) := by
  have hb : Below w.heap.size w (w.alloc (.cells #[xv] t)) := (Below.refl _ _).alloc (Nat.le_refl _) _
  obtain ⟨a1, c1, b1, o1, h11, h12, h13, h14, h15⟩ := (hx.below hb).out
  have h3 : ∀ i, i < 1 → i = 0 := fun i hi => by omega
  refine ⟨some ⟨w.heap.size, 0, none⟩, 1, w.heap.size, 0, fun _ => a1, fun _ => c1, fun _ => b1, fun _ => o1, rfl, Nat.le_refl _, by omega, fun _ => rfl, fun i hi => ?_, fun i hi => ⟨h12, h13⟩, fun i hi => h14, fun i j hi => h15 j⟩
  obtain rfl := h3 i hi
  simp [h11]

/-- a list of two elements -/
theorem list2 {w : World} {xv yv : Value} {nx ny : Nat} {X Y : Nat → Int} (t : TypeId) (hx : Ints w xv nx X) (hy : Ints w yv ny Y) :
    Tab (w.alloc (.cells #[xv, yv] t)) (.slice (some ⟨w.heap.size, 0, none⟩) 2 2) 2 (pick3 nx ny ny) (pick3 X Y Y) := by
  have hb : Below w.heap.size w (w.alloc (.cells #[xv, yv] t)) := (Below.refl _ _).alloc (Nat.le_refl _) _
  obtain ⟨a1, c1, b1, o1, h11, h12, h13, h14, h15⟩ := (hx.below hb).out
  obtain ⟨a2, c2, b2, o2, h21, h22, h23, h24, h25⟩ := (hy.below hb).out
  have h3 : ∀ i, i < 2 → i = 0 ∨ i = 1 := fun i hi => by omega
  refine ⟨some ⟨w.heap.size, 0, none⟩, 2, w.heap.size, 0, pick3 a1 a2 a2, pick3 c1 c2 c2, pick3 b1 b2 b2, pick3 o1 o2 o2, rfl, Nat.le_refl _, by omega, fun _ => rfl, fun i hi => ?_, fun i hi => ?_, fun i hi => ?_, fun i j hi => ?_⟩
  · rcases h3 i hi with rfl | rfl
    · simp [pick3, h11]
    · simp [pick3, h21]
  · rcases h3 i hi with rfl | rfl
    · exact ⟨h12, h13⟩
    · exact ⟨h22, h23⟩
  · rcases h3 i hi with rfl | rfl
    · exact h14
    · exact h24
  · rcases h3 i hi with rfl | rfl
    · exact h15 j
    · exact h25 j

set_option maxRecDepth 100000 in
set_option maxHeartbeats 1000000 in
theorem iCommutatorOf_c (p : Int) (sv : Value) (n : Nat) (s : Nat → Int) (xv : Value) (nx : Nat) (X : Nat → Int) (yv : Value) (ny : Nat) (Y : Nat → Int) (w : World)
    (h : Ints w sv n s) (hx : Ints w xv nx X) (hy : Ints w yv ny Y) :
    Calls Try.prog 57 #[dbl p sv, xv, yv] w fun e w' => ResC w w' e (codeE (dblB p n s) p n 2 (pick3 nx ny ny) (pick3 X Y Y)) n (fun i => (mulF p s n X Y i + -1 * mulF p s n Y X i) % p) := by
  have h' := h
  obtain ⟨ao, c, _, _, rfl, qh⟩ := h.out
  clear qh
  obtain ⟨xa, xc, _, _, rfl, qx⟩ := hx.out
  clear qx
  obtain ⟨ya, yc, _, _, rfl, qy⟩ := hy.out
  clear qy
  have BX := Lib.hid (box0 w p ao n c 26)
  have b0 := BX.out.2.2.2
  have BL : Hid (Below w.heap.size w ((w.alloc (.cells #[.int .i64 p, .slice ao n c] 26)).alloc (.cells #[.slice xa nx xc, .slice ya ny yc] 24))) := b0.alloc b0.size _
  have ht := list2 24 (hx.below b0) (hy.below b0)
  rw [show (w.alloc (.cells #[.int .i64 p, .slice ao n c] 26)).heap.size = w.heap.size + 1 by simp] at ht
  have HT := Lib.hid ht
  clear ht
  have bA : Below (w.alloc (.cells #[.int .i64 p, .slice ao n c] 26)).heap.size (w.alloc (.cells #[.int .i64 p, .slice ao n c] 26)) ((w.alloc (.cells #[.int .i64 p, .slice ao n c] 26)).alloc (.cells #[.slice xa nx xc, .slice ya ny yc] 24)) := (Below.refl _ _).alloc (Nat.le_refl _) _
  have BXA := Lib.hid (boxKeep bA BX.out)
  obtain ⟨e0, e1, e2, e3⟩ := BX.out
  obtain ⟨cc, hcc⟩ : ∃ cc, codeE (dblB p n s) p n 2 (pick3 nx ny ny) (pick3 X Y Y) = cc := ⟨_, rfl⟩
  by_cases h0 : cc = 0
  · obtain ⟨hok, hel⟩ := codeE_zero (hcc.trans h0)
    have hv := dv_of h' hok
    obtain ⟨l0, x0⟩ := elemB_el hx (hel 0 (by omega))
    obtain ⟨l1, y0⟩ := elemB_el hy (hel 1 (by omega))
    have HV : Hid (∀ W, Below w.heap.size w W → DV W (.slice ao n c) p n s) := fun W hb => hv.below hb
    have HX : Hid (∀ W, Below w.heap.size w W → El W (.slice xa nx xc) p n X) := fun W hb => x0.below hb
    have HY : Hid (∀ W, Below w.heap.size w W → El W (.slice ya ny yc) p n Y) := fun W hb => y0.below hb
    have HOK := Lib.hid hok
    have HC := Lib.hid hcc
    have H' := Lib.hid h'
    obtain ⟨_, hp1, hp2, hn4, _⟩ := hv
    have hp16 := pow_le hn4
    clear h hx hy x0 y0 hel bA h' l0 l1 hok
    subst h0
    go_enter Try.func57, Try.ntmps57
    go_wp2_with fail
    go_at_call 83
    refine Calls.makes' (iCheckE_c p _ _ n 2 s _ _ _ (H'.out.below BL.out) HT.out) _ fun w1 hb1 => ?_
    rw [HC.out]
    obtain ⟨f0, f1, f2, f3⟩ := boxKeep hb1 BXA.out
    clear e0 e1 e2 e3
    go_wp2_with fail
    go_at_call 108
    refine (iComm_c p _ _ _ n s X Y _ (HV.out _ f3) (HX.out _ f3) (HY.out _ f3)).mono ?_
    rintro e w4 ⟨g4, c4, rfl, hg4, hb4, hO4, hE4⟩
    have b4 : Below w.heap.size w w4 := f3.trans (hb4.mono f3.size)
    go_wp2
    go_ret2
    exact ⟨b4, Or.inl ⟨HC.out, g4, c4, rfl, by have := f3.size; omega, hO4⟩⟩
  · have HC := Lib.hid hcc
    have H' := Lib.hid h'
    have hne : (cc != 0) = true := by rw [bne_iff_ne]; exact h0
    clear h hx hy bA h'
    go_enter Try.func57, Try.ntmps57
    go_wp2_with fail
    go_at_call 83
    refine Calls.makes' (iCheckE_c p _ _ n 2 s _ _ _ (H'.out.below BL.out) HT.out) _ fun w1 hb1 => ?_
    rw [HC.out]
    go_wp2
    go_ret2
    exact ⟨BL.out.trans (hb1.mono BL.out.size), Or.inr ⟨by rw [HC.out]; exact h0, by rw [HC.out]; rfl⟩⟩


end Go.Proofs.Ytnnacligfoonbaa
