/-
  BasisProducts, in both programs. No condition beside sizes.
-/
import Derived.Test.YtnnacligfoonbaaD32
set_option linter.unusedVariables false
set_option linter.unusedSimpArgs false
namespace Go.Proofs.Ytnnacligfoonbaa
open Go.RowKit

set_option maxRecDepth 100000 in
set_option maxHeartbeats 400000 in
theorem iBasisProducts_c (p : Int) (sv : Value) (n : Nat) (s : Nat → Int) (w : World) (h : Ints w sv n s) :
    Calls Try.prog 19 #[dbl p sv] w fun e w' => ResCT w w' e (if dblB p n s then 0 else 1) (2 ^ n) (fun _ => 2 ^ n) (basT p s n) := by
  have h' := Lib.hid h
  obtain ⟨ao, c, _, _, rfl, qh⟩ := h.out
  clear qh
  obtain ⟨e0, e1, e2, e3⟩ := box0 w p ao n c 26
  have BX := Lib.hid (box0 w p ao n c 26)
  cases hok : dblB p n s
  · go_enter Try.func19, Try.ntmps19
    go_wp2_with fail
    go_at_call 35
    refine Calls.makes' (iIsDbl_c _ _ _ _ _ (h'.out.below e3)) _ fun w1 hb1 => ?_
    rw [hok]
    go_wp2
    go_ret2
    exact ⟨e3.trans (hb1.mono e3.size), Or.inr ⟨by simp, rfl⟩⟩
  · have hv := Lib.hid (dv_of h hok)
    have hpb := primeB_bd (dblB_ok hok).prime
    go_enter Try.func19, Try.ntmps19
    go_wp2_with fail
    go_at_call 35
    refine Calls.makes' (iIsDbl_c _ _ _ _ _ (h'.out.below e3)) _ fun w1 hb1 => ?_
    rw [hok]
    obtain ⟨f0, f1, f2, f3⟩ := boxKeep hb1 BX.out
    clear e0 e1 e2 e3
    go_wp2_with fail
    go_at_call 86
    refine (iProducts_c p _ n s _ (hv.out.below f3) (by omega)).mono ?_
    rintro e w4 ⟨g4, c4, rfl, hb4, hO4⟩
    have b4 : Below w.heap.size w w4 := f3.trans (hb4.mono f3.size)
    go_wp2
    go_ret2
    exact ⟨b4, Or.inl ⟨by simp, g4, c4, rfl, hO4.mono f3.size⟩⟩

set_option maxRecDepth 100000 in
set_option maxHeartbeats 400000 in
theorem sBasisProducts_c (p : Int) (sv : Value) (n : Nat) (s : Nat → Int) (w : World) (h : Ints w sv n s) :
    Calls Try.prog 20 #[dbl p sv] w fun e w' => ResCT w w' e (if dblB p n s then 0 else 1) (2 ^ n) (fun _ => 2 ^ n) (basT p s n) := by
  have h' := Lib.hid h
  obtain ⟨ao, c, _, _, rfl, qh⟩ := h.out
  clear qh
  obtain ⟨e0, e1, e2, e3⟩ := box0 w p ao n c 26
  have BX := Lib.hid (box0 w p ao n c 26)
  cases hok : dblB p n s
  · go_enter Try.func20, Try.ntmps20
    go_wp2_with fail
    go_at_call 75
    refine Calls.makes' (sIsDbl_c _ _ _ _ _ (h'.out.below e3)) _ fun w1 hb1 => ?_
    rw [hok]
    go_wp2
    go_ret2
    exact ⟨e3.trans (hb1.mono e3.size), Or.inr ⟨by simp, rfl⟩⟩
  · have hv := Lib.hid (dv_of h hok)
    have hpb := primeB_bd (dblB_ok hok).prime
    go_enter Try.func20, Try.ntmps20
    go_wp2_with fail
    go_at_call 75
    refine Calls.makes' (sIsDbl_c _ _ _ _ _ (h'.out.below e3)) _ fun w1 hb1 => ?_
    rw [hok]
    obtain ⟨f0, f1, f2, f3⟩ := boxKeep hb1 BX.out
    clear e0 e1 e2 e3
    go_wp2_with fail
    go_at_call 87
    refine (sBasis_c p _ n s _ (hv.out.below f3) (by omega)).mono ?_
    rintro e w4 ⟨g4, c4, rfl, hb4, hO4⟩
    have b4 : Below w.heap.size w w4 := f3.trans (hb4.mono f3.size)
    go_wp2
    go_ret2
    exact ⟨b4, Or.inl ⟨by simp, g4, c4, rfl, hO4.mono f3.size⟩⟩


end Go.Proofs.Ytnnacligfoonbaa
