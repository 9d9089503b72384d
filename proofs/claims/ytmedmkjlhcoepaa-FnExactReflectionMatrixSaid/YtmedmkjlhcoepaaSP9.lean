/-
  ReflectionMatrix, in both programs. No condition beside sizes.
-/
import Derived.Test.YtmedmkjlhcoepaaSP8
set_option linter.unusedVariables false
set_option linter.unusedSimpArgs false
namespace Go.Proofs.Ytmedmkjlhcoepaa
open Go.RowKit

set_option maxRecDepth 100000 in
set_option maxHeartbeats 2000000 in
theorem iReflectionMatrix_c (p : Int) (sv : Value) (n : Nat) (s : Nat → Int) (xv : Value) (nx : Nat) (X : Nat → Int) (w : World)
    (h : Ints w sv n s) (hx : Ints w xv nx X) :
    Calls Try.prog 34 #[dbl p sv, xv] w fun e w' => ResCT w w' e (thenC (codeR p n s 1 (fun _ => nx) (fun _ => X)) (pairF p s n X X == 0) 5) n (fun _ => n) (reflT p s n X) := by
  have h' := h
  obtain ⟨ao, c, _, _, rfl, qh⟩ := h.out
  clear qh
  obtain ⟨xa, xc, _, _, rfl, qx⟩ := hx.out
  clear qx
  have BX := Lib.hid (box0 w p ao n c 30)
  have b0 := BX.out.2.2.2
  have BL : Hid (Below w.heap.size w ((w.alloc (.cells #[.int .i64 p, .slice ao n c] 30)).alloc (.cells #[.slice xa nx xc] 22))) := b0.alloc b0.size _
  have ht := list1 22 (hx.below b0)
  rw [show (w.alloc (.cells #[.int .i64 p, .slice ao n c] 30)).heap.size = w.heap.size + 1 by simp] at ht
  have HT := Lib.hid ht
  clear ht
  have bA : Below (w.alloc (.cells #[.int .i64 p, .slice ao n c] 30)).heap.size (w.alloc (.cells #[.int .i64 p, .slice ao n c] 30)) ((w.alloc (.cells #[.int .i64 p, .slice ao n c] 30)).alloc (.cells #[.slice xa nx xc] 22)) := (Below.refl _ _).alloc (Nat.le_refl _) _
  have BXA := Lib.hid (boxKeep bA BX.out)
  obtain ⟨e0, e1, e2, e3⟩ := BX.out
  obtain ⟨cc, hcc⟩ : ∃ cc, codeR p n s 1 (fun _ => nx) (fun _ => X) = cc := ⟨_, rfl⟩
  by_cases h0 : cc = 0
  · obtain ⟨hok, hel⟩ := codeR_zero (hcc.trans h0)
    have hv : SV w (.slice ao n c) p n s := ⟨h', spB_ok hok⟩
    obtain ⟨l0, x0⟩ := vecB_vc hx (hel 0 (by omega))
    have HV : Hid (∀ W, Below w.heap.size w W → SV W (.slice ao n c) p n s) := fun W hb => hv.below hb
    have HX : Hid (∀ W, Below w.heap.size w W → Vc W (.slice xa nx xc) p n X) := fun W hb => x0.below hb
    have HOK := Lib.hid hok
    have HC := Lib.hid hcc
    have H' := Lib.hid h'
    have hpb := (spB_ok hok).bd
    have hn6 := (spB_ok hok).n6
    have hn1 := (spB_ok hok).n1
    have hD := pairF_in (p := p) (by omega) s n X X
    obtain ⟨d, qd⟩ : ∃ d, pairF p s n X X = d := ⟨_, rfl⟩
    have C1 : Hid (∀ W, Below w.heap.size w W → Calls Try.prog 65 #[dbl p (.slice ao n c), .slice xa nx xc] W fun e w' => Makes W w' e (.int .i64 d)) := fun W hb => qd ▸ iSNorm_c p _ _ n s X W (HV.out W hb) (HX.out W hb)
    have HQ := Lib.hid qd
    clear h hx x0 hel hv bA h' l0 hok
    subst h0
    go_enter Try.func34, Try.ntmps34
    go_wp2_with fail
    go_at_call 69
    refine Calls.makes' (iCkVs_c p _ _ n 1 s _ _ _ (H'.out.below BL.out) HT.out) _ fun w1 hb1 => ?_
    rw [HC.out]
    obtain ⟨f0, f1, f2, f3⟩ := boxKeep hb1 BXA.out
    clear e0 e1 e2 e3
    by_cases hz : d = 0
    · have hne0 : (d == 0) = true := by simp [hz]
      go_wp2_with fail
      go_at_call 65
      refine Calls.makes' (C1.out _ f3) _ fun w2 hb2 => ?_
      have f : BoxD w p ao n c w2 := boxKeep hb2 ⟨f0, f1, f2, f3⟩
      clear f0 f1 f2 f3 hb2
      obtain ⟨f0, f1, f2, f3⟩ := f
      go_wp2
      go_ret2
      have ec : (thenC (codeR p n s 1 (fun _ => nx) (fun _ => X)) (pairF p s n X X == 0) 5) = 5 := by unfold thenC; rw [HC.out, HQ.out, if_pos rfl]; simp [hz]
      exact ⟨f3, Or.inr ⟨by rw [ec]; decide, by rw [ec]; rfl⟩⟩
    · have hne0 : (d == 0) = false := by simp [hz]
      go_wp2_with fail
      go_at_call 65
      refine Calls.makes' (C1.out _ f3) _ fun w2 hb2 => ?_
      have f : BoxD w p ao n c w2 := boxKeep hb2 ⟨f0, f1, f2, f3⟩
      clear f0 f1 f2 f3 hb2
      obtain ⟨f0, f1, f2, f3⟩ := f
      go_wp2_with fail
      go_at_call 72
      refine (iReflection_c p _ _ n s X _ (HV.out _ f3) (HX.out _ f3)).mono ?_
      rintro e w4 ⟨g4, c4, rfl, hb4, hO4⟩
      have b4 : Below w.heap.size w w4 := f3.trans (hb4.mono f3.size)
      go_wp2
      go_ret2
      have ec : (thenC (codeR p n s 1 (fun _ => nx) (fun _ => X)) (pairF p s n X X == 0) 5) = 0 := by unfold thenC; rw [HC.out, HQ.out, if_pos rfl]; simp [hz]
      exact ⟨b4, Or.inl ⟨ec, g4, c4, rfl, hO4.mono f3.size⟩⟩
  · have HC := Lib.hid hcc
    have H' := Lib.hid h'
    have hne : (cc != 0) = true := by rw [bne_iff_ne]; exact h0
    clear h hx bA h'
    go_enter Try.func34, Try.ntmps34
    go_wp2_with fail
    go_at_call 69
    refine Calls.makes' (iCkVs_c p _ _ n 1 s _ _ _ (H'.out.below BL.out) HT.out) _ fun w1 hb1 => ?_
    rw [HC.out]
    go_wp2
    go_ret2
    exact ⟨BL.out.trans (hb1.mono BL.out.size), Or.inr ⟨by unfold thenC; rw [HC.out, if_neg h0]; exact h0, by unfold thenC; rw [HC.out, if_neg h0]; rfl⟩⟩

set_option maxRecDepth 100000 in
set_option maxHeartbeats 2000000 in
theorem sReflectionMatrix_c (p : Int) (sv : Value) (n : Nat) (s : Nat → Int) (xv : Value) (nx : Nat) (X : Nat → Int) (w : World)
    (h : Ints w sv n s) (hx : Ints w xv nx X) :
    Calls Try.prog 33 #[dbl p sv, xv] w fun e w' => ResCT w w' e (thenC (codeR p n s 1 (fun _ => nx) (fun _ => X)) (pairF p s n X X == 0) 5) n (fun _ => n) (reflT p s n X) := by
  have h' := h
  obtain ⟨ao, c, _, _, rfl, qh⟩ := h.out
  clear qh
  obtain ⟨xa, xc, _, _, rfl, qx⟩ := hx.out
  clear qx
  have BX := Lib.hid (box0 w p ao n c 30)
  have b0 := BX.out.2.2.2
  have BL : Hid (Below w.heap.size w ((w.alloc (.cells #[.int .i64 p, .slice ao n c] 30)).alloc (.cells #[.slice xa nx xc] 22))) := b0.alloc b0.size _
  have ht := list1 22 (hx.below b0)
  rw [show (w.alloc (.cells #[.int .i64 p, .slice ao n c] 30)).heap.size = w.heap.size + 1 by simp] at ht
  have HT := Lib.hid ht
  clear ht
  have bA : Below (w.alloc (.cells #[.int .i64 p, .slice ao n c] 30)).heap.size (w.alloc (.cells #[.int .i64 p, .slice ao n c] 30)) ((w.alloc (.cells #[.int .i64 p, .slice ao n c] 30)).alloc (.cells #[.slice xa nx xc] 22)) := (Below.refl _ _).alloc (Nat.le_refl _) _
  have BXA := Lib.hid (boxKeep bA BX.out)
  obtain ⟨e0, e1, e2, e3⟩ := BX.out
  obtain ⟨cc, hcc⟩ : ∃ cc, codeR p n s 1 (fun _ => nx) (fun _ => X) = cc := ⟨_, rfl⟩
  by_cases h0 : cc = 0
  · obtain ⟨hok, hel⟩ := codeR_zero (hcc.trans h0)
    have hv : SV w (.slice ao n c) p n s := ⟨h', spB_ok hok⟩
    obtain ⟨l0, x0⟩ := vecB_vc hx (hel 0 (by omega))
    have HV : Hid (∀ W, Below w.heap.size w W → SV W (.slice ao n c) p n s) := fun W hb => hv.below hb
    have HX : Hid (∀ W, Below w.heap.size w W → Vc W (.slice xa nx xc) p n X) := fun W hb => x0.below hb
    have HOK := Lib.hid hok
    have HC := Lib.hid hcc
    have H' := Lib.hid h'
    have hpb := (spB_ok hok).bd
    have hn6 := (spB_ok hok).n6
    have hn1 := (spB_ok hok).n1
    have hD := pairF_in (p := p) (by omega) s n X X
    obtain ⟨d, qd⟩ : ∃ d, pairF p s n X X = d := ⟨_, rfl⟩
    have C1 : Hid (∀ W, Below w.heap.size w W → Calls Try.prog 52 #[dbl p (.slice ao n c), .slice xa nx xc, .slice xa nx xc] W fun e w' => Makes W w' e (.int .i64 d)) := fun W hb => qd ▸ sPair_c p _ _ _ n s X X W (HV.out W hb) (HX.out W hb) (HX.out W hb)
    have HQ := Lib.hid qd
    clear h hx x0 hel hv bA h' l0 hok
    subst h0
    go_enter Try.func33, Try.ntmps33
    go_wp2_with fail
    go_at_call 67
    refine Calls.makes' (sVecs_c p _ _ n 1 s _ _ _ (H'.out.below BL.out) HT.out (by omega)) _ fun w1 hb1 => ?_
    rw [HC.out]
    obtain ⟨f0, f1, f2, f3⟩ := boxKeep hb1 BXA.out
    clear e0 e1 e2 e3
    by_cases hz : d = 0
    · have hne0 : (d == 0) = true := by simp [hz]
      go_wp2_with fail
      go_at_call 52
      refine Calls.makes' (C1.out _ f3) _ fun w2 hb2 => ?_
      have f : BoxD w p ao n c w2 := boxKeep hb2 ⟨f0, f1, f2, f3⟩
      clear f0 f1 f2 f3 hb2
      obtain ⟨f0, f1, f2, f3⟩ := f
      go_wp2
      go_ret2
      have ec : (thenC (codeR p n s 1 (fun _ => nx) (fun _ => X)) (pairF p s n X X == 0) 5) = 5 := by unfold thenC; rw [HC.out, HQ.out, if_pos rfl]; simp [hz]
      exact ⟨f3, Or.inr ⟨by rw [ec]; decide, by rw [ec]; rfl⟩⟩
    · have hne0 : (d == 0) = false := by simp [hz]
      go_wp2_with fail
      go_at_call 52
      refine Calls.makes' (C1.out _ f3) _ fun w2 hb2 => ?_
      have f : BoxD w p ao n c w2 := boxKeep hb2 ⟨f0, f1, f2, f3⟩
      clear f0 f1 f2 f3 hb2
      obtain ⟨f0, f1, f2, f3⟩ := f
      go_wp2_with fail
      go_at_call 71
      refine (sReflection_c p _ _ n s X _ (HV.out _ f3) (HX.out _ f3) (by rw [HQ.out]; exact hz)).mono ?_
      rintro e w4 ⟨g4, c4, rfl, hb4, hO4⟩
      have b4 : Below w.heap.size w w4 := f3.trans (hb4.mono f3.size)
      go_wp2
      go_ret2
      have ec : (thenC (codeR p n s 1 (fun _ => nx) (fun _ => X)) (pairF p s n X X == 0) 5) = 0 := by unfold thenC; rw [HC.out, HQ.out, if_pos rfl]; simp [hz]
      exact ⟨b4, Or.inl ⟨ec, g4, c4, rfl, hO4.mono f3.size⟩⟩
  · have HC := Lib.hid hcc
    have H' := Lib.hid h'
    have hne : (cc != 0) = true := by rw [bne_iff_ne]; exact h0
    have hne2 : (cc == 0) = false := by simp [h0]
    clear h hx bA h'
    go_enter Try.func33, Try.ntmps33
    go_wp2_with fail
    go_at_call 67
    refine Calls.makes' (sVecs_c p _ _ n 1 s _ _ _ (H'.out.below BL.out) HT.out (by omega)) _ fun w1 hb1 => ?_
    rw [HC.out]
    go_wp2
    go_ret2
    exact ⟨BL.out.trans (hb1.mono BL.out.size), Or.inr ⟨by unfold thenC; rw [HC.out, if_neg h0]; exact h0, by unfold thenC; rw [HC.out, if_neg h0]; rfl⟩⟩


end Go.Proofs.Ytmedmkjlhcoepaa
