/-
  NucleusOf and CentreOfDoubling by the reference. No condition beside sizes.
-/
import Derived.Test.YtnnacligfoonbaaRN4
set_option linter.unusedVariables false
set_option linter.unusedSimpArgs false
namespace Go.Proofs.Ytnnacligfoonbaa
open Go.RowKit

set_option maxRecDepth 100000 in
set_option maxHeartbeats 1000000 in
theorem sNucleusOf_c (p : Int) (sv : Value) (n : Nat) (s : Nat → Int) (w : World) (h : Ints w sv n s) :
    Calls Try.prog 47 #[dbl p sv] w fun e w' => ResCT w w' e (if dblB p n s then 0 else 1) (nucQ p s n 3).2 (fun _ => 2 ^ n) (nucQ p s n 3).1 := by
  have h' := Lib.hid h
  obtain ⟨ao, c, _, _, rfl, qh⟩ := h.out
  clear qh
  obtain ⟨e0, e1, e2, e3⟩ := box0 w p ao n c 26
  have BX := Lib.hid (box0 w p ao n c 26)
  obtain ⟨Z, hZ⟩ : ∃ Z, nucQ p s n 3 = Z := ⟨_, rfl⟩
  cases hok : dblB p n s
  · rw [hZ]
    obtain ⟨M, hM⟩ : ∃ M, 2 ^ n = M := ⟨_, rfl⟩
    rw [hM]
    clear hM hZ
    go_enter Try.func47, Try.ntmps47
    go_wp2_with fail
    go_at_call 75
    refine Calls.makes' (sIsDbl_c _ _ _ _ _ (h'.out.below e3)) _ fun w1 hb1 => ?_
    rw [hok]
    go_wp2
    go_ret2
    exact ⟨e3.trans (hb1.mono e3.size), Or.inr ⟨by simp, rfl⟩⟩
  · have hv := dv_of h hok
    have hpr := (dblB_ok hok).prime
    have HN : Hid (∀ W, Below w.heap.size w W → Calls Try.prog 105 #[dbl p (.slice ao n c), .bool false] W fun e w' => CopyT W w' e Z.2 (fun _ => 2 ^ n) Z.1) := fun W hb => hZ ▸ sNuc_c p _ n s false 3 (by simp) W (hv.below hb) hpr
    rw [hZ]
    obtain ⟨M, hM⟩ : ∃ M, 2 ^ n = M := ⟨_, rfl⟩
    rw [hM] at HN ⊢
    clear hM hZ hv h
    go_enter Try.func47, Try.ntmps47
    go_wp2_with fail
    go_at_call 75
    refine Calls.makes' (sIsDbl_c _ _ _ _ _ (h'.out.below e3)) _ fun w1 hb1 => ?_
    rw [hok]
    obtain ⟨f0, f1, f2, f3⟩ := boxKeep hb1 BX.out
    clear e0 e1 e2 e3
    go_wp2_with fail
    go_at_call 105
    refine (HN.out _ f3).mono ?_
    rintro e w4 ⟨g4, c4, rfl, hb4, hO4⟩
    go_wp2
    go_ret2
    exact ⟨f3.trans (hb4.mono f3.size), Or.inl ⟨by simp, g4, c4, rfl, hO4.mono f3.size⟩⟩

set_option maxRecDepth 100000 in
set_option maxHeartbeats 1000000 in
theorem sCentreOf_c (p : Int) (sv : Value) (n : Nat) (s : Nat → Int) (w : World) (h : Ints w sv n s) :
    Calls Try.prog 49 #[dbl p sv] w fun e w' => ResCT w w' e (if dblB p n s then 0 else 1) (nucQ p s n 4).2 (fun _ => 2 ^ n) (nucQ p s n 4).1 := by
  have h' := Lib.hid h
  obtain ⟨ao, c, _, _, rfl, qh⟩ := h.out
  clear qh
  obtain ⟨e0, e1, e2, e3⟩ := box0 w p ao n c 26
  have BX := Lib.hid (box0 w p ao n c 26)
  obtain ⟨Z, hZ⟩ : ∃ Z, nucQ p s n 4 = Z := ⟨_, rfl⟩
  cases hok : dblB p n s
  · rw [hZ]
    obtain ⟨M, hM⟩ : ∃ M, 2 ^ n = M := ⟨_, rfl⟩
    rw [hM]
    clear hM hZ
    go_enter Try.func49, Try.ntmps49
    go_wp2_with fail
    go_at_call 75
    refine Calls.makes' (sIsDbl_c _ _ _ _ _ (h'.out.below e3)) _ fun w1 hb1 => ?_
    rw [hok]
    go_wp2
    go_ret2
    exact ⟨e3.trans (hb1.mono e3.size), Or.inr ⟨by simp, rfl⟩⟩
  · have hv := dv_of h hok
    have hpr := (dblB_ok hok).prime
    have HN : Hid (∀ W, Below w.heap.size w W → Calls Try.prog 105 #[dbl p (.slice ao n c), .bool true] W fun e w' => CopyT W w' e Z.2 (fun _ => 2 ^ n) Z.1) := fun W hb => hZ ▸ sNuc_c p _ n s true 4 (by simp) W (hv.below hb) hpr
    rw [hZ]
    obtain ⟨M, hM⟩ : ∃ M, 2 ^ n = M := ⟨_, rfl⟩
    rw [hM] at HN ⊢
    clear hM hZ hv h
    go_enter Try.func49, Try.ntmps49
    go_wp2_with fail
    go_at_call 75
    refine Calls.makes' (sIsDbl_c _ _ _ _ _ (h'.out.below e3)) _ fun w1 hb1 => ?_
    rw [hok]
    obtain ⟨f0, f1, f2, f3⟩ := boxKeep hb1 BX.out
    clear e0 e1 e2 e3
    go_wp2_with fail
    go_at_call 105
    refine (HN.out _ f3).mono ?_
    rintro e w4 ⟨g4, c4, rfl, hb4, hO4⟩
    go_wp2
    go_ret2
    exact ⟨f3.trans (hb4.mono f3.size), Or.inl ⟨by simp, g4, c4, rfl, hO4.mono f3.size⟩⟩


end Go.Proofs.Ytnnacligfoonbaa
