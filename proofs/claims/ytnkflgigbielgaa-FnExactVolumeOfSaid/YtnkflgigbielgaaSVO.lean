/-
  VolumeOf in both programs. No condition.
-/
import Derived.Test.YtnkflgigbielgaaSKJ
import Derived.Test.YtnkflgigbielgaaSE2
import Derived.Test.YtnkflgigbielgaaSE3
set_option linter.unusedVariables false
set_option linter.unusedSimpArgs false
namespace Go.Proofs.Ytnkflgigbielgaa
open Go.RowKit

/-- the code of VolumeOf, and what it hands back -/
def volC (p : Int) (n : Nat) (s : Nat → Int) (m : Nat) (L : Nat → Nat) (T : Nat → Nat → Int) : Int := if codeSl (spB p n s) p n m L T = 0 then (if m = n then 0 else 2) else codeSl (spB p n s) p n m L T
noncomputable def volR (p : Int) (n : Nat) (s : Nat → Int) (m : Nat) (L : Nat → Nat) (T : Nat → Nat → Int) : Int := if volC p n s m L T = 0 then detR p n n 0 T 1 else 0

set_option maxRecDepth 100000 in
set_option maxHeartbeats 2000000 in
theorem iVolumeOf_c (p : Int) (sv lv : Value) (n m : Nat) (s : Nat → Int) (L : Nat → Nat) (T : Nat → Nat → Int) (w : World) (h : Ints w sv n s) (hl : Tab w lv m L T) :
    Calls Try.prog 47 #[dbl p sv, lv] w fun e w' => Makes w w' e (.tuple #[.int .i64 (volR p n s m L T), .int .i64 (volC p n s m L T)]) := by
  obtain ⟨ao, c, b, o, rfl, p2, p3, qx⟩ := h.out
  have hl' := Lib.hid hl
  obtain ⟨la, lc, lb, lo, A, C, RB, RO, rfl, q2, q3, qy⟩ := hl.out
  clear qx qy
  obtain ⟨e0, e1, e2, e3⟩ := box0 w p ao n c 26
  have BX := Lib.hid (box0 w p ao n c 26)
  obtain ⟨cc, hcc⟩ : ∃ cc, codeSl (spB p n s) p n m L T = cc := ⟨_, rfl⟩
  have HC : Hid (Calls Try.prog 74 #[dbl p (.slice ao n c), .slice la m lc] (w.alloc (.cells #[.int .i64 p, .slice ao n c] 26)) fun e w' => Makes (w.alloc (.cells #[.int .i64 p, .slice ao n c] 26)) w' e (.int .i64 cc)) := hcc ▸ iCkL_c p _ _ n m s L T _ (h.below e3) (hl.below e3)
  by_cases h0 : cc = 0
  · subst h0
    obtain ⟨hok, hvec, hm16⟩ := codeSl_zero hcc
    have hsp := spB_ok hok
    have hbd := hsp.bd
    have hn1 := hsp.n1
    have hn6 := hsp.n6
    by_cases hmn : m = n
    · subst hmn
      have hC : volC p m s m L T = 0 := by unfold volC; rw [hcc, if_pos rfl, if_pos rfl]
      have hR : volR p m s m L T = detR p m m 0 T 1 := by unfold volR; rw [if_pos hC]
      rw [hC, hR]
      obtain ⟨B, hB⟩ : ∃ B, detR p m m 0 T 1 = B := ⟨_, rfl⟩
      have HB : Hid (∀ W, Below w.heap.size w W → Calls Try.prog 107 #[.int .i64 p, .slice la m lc] W fun e w' => Makes W w' e (.int .i64 B)) := fun W hb => hB ▸ iDet_c p _ m T W ((vecRows hl'.out hvec).1.below hb) ⟨hn1, hn6⟩ hbd (vecRows hl'.out hvec).2
      rw [hB]
      have hmm : ((m : Int) != (m : Int)) = false := by simp
      clear h hl hcc hvec hok hsp hB hC hR
      go_enter Try.func47, Try.ntmps47
      go_wp2_with fail
      refine Calls.makes' HC.out _ fun w1 hb1 => ?_
      obtain ⟨f0, f1, f2, f3⟩ := boxKeep hb1 BX.out
      go_wp2_with fail
      go_at_call 92
      refine Calls.makes' (iDim_c _ _ _ _ _ (by omega)) _ fun w2 hb2 => ?_
      obtain ⟨k0, k1, k2, k3⟩ := boxKeep hb2 ⟨f0, f1, f2, f3⟩
      go_wp2_with fail
      go_at_call 71
      refine Calls.makes' (iSField_c _ _ _) _ fun w3 hb3 => ?_
      have hb4 := k3.trans (hb3.mono k3.size)
      go_wp2_with fail
      go_at_call 107
      refine Calls.makes' (HB.out _ hb4) _ fun w5 hb5 => ?_
      have hf := hb4.trans (hb5.mono hb4.size)
      go_wp2
      go_ret2
      exact ⟨rfl, hf⟩
    · have hC : volC p n s m L T = 2 := by unfold volC; rw [hcc, if_pos rfl, if_neg hmn]
      have hR : volR p n s m L T = 0 := by unfold volR; rw [hC, if_neg (by decide)]
      rw [hC, hR]
      have hmm : ((m : Int) != (n : Int)) = true := by simp; omega
      clear h hl hcc hvec hok hsp hC hR
      go_enter Try.func47, Try.ntmps47
      go_wp2_with fail
      refine Calls.makes' HC.out _ fun w1 hb1 => ?_
      obtain ⟨f0, f1, f2, f3⟩ := boxKeep hb1 BX.out
      go_wp2_with fail
      go_at_call 92
      refine Calls.makes' (iDim_c _ _ _ _ _ (by omega)) _ fun w2 hb2 => ?_
      have hf := f3.trans (hb2.mono f3.size)
      go_wp2
      go_ret2
      exact ⟨rfl, hf⟩
  · have hne : (cc != 0) = true := by rw [bne_iff_ne]; exact h0
    have hne2 : (cc == 0) = false := by simpa using h0
    have hC : volC p n s m L T = cc := by unfold volC; rw [hcc, if_neg h0]
    have hR : volR p n s m L T = 0 := by unfold volR; rw [hC, if_neg h0]
    rw [hC, hR]
    clear h hl hcc hC hR
    go_enter Try.func47, Try.ntmps47
    go_wp2_with fail
    refine Calls.makes' HC.out _ fun w1 hb1 => ?_
    obtain ⟨f0, f1, f2, f3⟩ := boxKeep hb1 BX.out
    go_wp2
    go_ret2
    exact ⟨rfl, f3⟩

set_option maxRecDepth 100000 in
set_option maxHeartbeats 2000000 in
theorem sVolumeOf_c (p : Int) (sv lv : Value) (n m : Nat) (s : Nat → Int) (L : Nat → Nat) (T : Nat → Nat → Int) (w : World) (h : Ints w sv n s) (hl : Tab w lv m L T) :
    Calls Try.prog 44 #[dbl p sv, lv] w fun e w' => Makes w w' e (.tuple #[.int .i64 (volR p n s m L T), .int .i64 (volC p n s m L T)]) := by
  obtain ⟨ao, c, b, o, rfl, p2, p3, qx⟩ := h.out
  have hl' := Lib.hid hl
  obtain ⟨la, lc, lb, lo, A, C, RB, RO, rfl, q2, q3, qy⟩ := hl.out
  clear qx qy
  obtain ⟨e0, e1, e2, e3⟩ := box0 w p ao n c 26
  have BX := Lib.hid (box0 w p ao n c 26)
  obtain ⟨cc, hcc⟩ : ∃ cc, codeSl (spB p n s) p n m L T = cc := ⟨_, rfl⟩
  have HC : Hid (Calls Try.prog 104 #[dbl p (.slice ao n c), .slice la m lc] (w.alloc (.cells #[.int .i64 p, .slice ao n c] 26)) fun e w' => Makes (w.alloc (.cells #[.int .i64 p, .slice ao n c] 26)) w' e (.int .i64 cc)) := hcc ▸ sL5_c p _ _ n m s L T _ (h.below e3) (hl.below e3)
  by_cases h0 : cc = 0
  · subst h0
    obtain ⟨hok, hvec, hm16⟩ := codeSl_zero hcc
    have hsp := spB_ok hok
    have hbd := hsp.bd
    have hn1 := hsp.n1
    have hn6 := hsp.n6
    by_cases hmn : m = n
    · subst hmn
      have hC : volC p m s m L T = 0 := by unfold volC; rw [hcc, if_pos rfl, if_pos rfl]
      have hR : volR p m s m L T = detR p m m 0 T 1 := by unfold volR; rw [if_pos hC]
      rw [hC, hR]
      obtain ⟨B, hB⟩ : ∃ B, detR p m m 0 T 1 = B := ⟨_, rfl⟩
      have HB : Hid (∀ W, Below w.heap.size w W → Calls Try.prog 105 #[.int .i64 p, .slice la m lc] W fun e w' => Makes W w' e (.int .i64 B)) := fun W hb => hB ▸ sDet_c p _ m T W ((vecRows hl'.out hvec).1.below hb) ⟨hn1, hn6⟩ hsp.prime (vecRows hl'.out hvec).2
      rw [hB]
      have hmm : ((m : Int) != (m : Int)) = false := by simp
      clear h hl hcc hvec hok hsp hB hC hR
      go_enter Try.func44, Try.ntmps44
      go_wp2_with fail
      refine Calls.makes' HC.out _ fun w1 hb1 => ?_
      obtain ⟨f0, f1, f2, f3⟩ := boxKeep hb1 BX.out
      go_wp2_with fail
      go_at_call 105
      refine Calls.makes' (HB.out _ f3) _ fun w5 hb5 => ?_
      have hf := f3.trans (hb5.mono f3.size)
      go_wp2
      go_ret2
      exact ⟨rfl, hf⟩
    · have hC : volC p n s m L T = 2 := by unfold volC; rw [hcc, if_pos rfl, if_neg hmn]
      have hR : volR p n s m L T = 0 := by unfold volR; rw [hC, if_neg (by decide)]
      rw [hC, hR]
      have hmm : ((m : Int) != (n : Int)) = true := by simp; omega
      clear h hl hcc hvec hok hsp hC hR
      go_enter Try.func44, Try.ntmps44
      go_wp2_with fail
      refine Calls.makes' HC.out _ fun w1 hb1 => ?_
      obtain ⟨f0, f1, f2, f3⟩ := boxKeep hb1 BX.out
      go_wp2
      go_ret2
      exact ⟨rfl, f3⟩
  · have hne : (cc != 0) = true := by rw [bne_iff_ne]; exact h0
    have hne2 : (cc == 0) = false := by simpa using h0
    have hC : volC p n s m L T = cc := by unfold volC; rw [hcc, if_neg h0]
    have hR : volR p n s m L T = 0 := by unfold volR; rw [hC, if_neg h0]
    rw [hC, hR]
    clear h hl hcc hC hR
    go_enter Try.func44, Try.ntmps44
    go_wp2_with fail
    refine Calls.makes' HC.out _ fun w1 hb1 => ?_
    obtain ⟨f0, f1, f2, f3⟩ := boxKeep hb1 BX.out
    go_wp2
    go_ret2
    exact ⟨rfl, f3⟩

end Go.Proofs.Ytnkflgigbielgaa
