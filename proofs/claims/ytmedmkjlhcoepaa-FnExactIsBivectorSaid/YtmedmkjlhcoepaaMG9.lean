/-
  IsBivector, in both programs. No condition beside sizes.
-/
import Derived.Test.YtmedmkjlhcoepaaMG8
import Derived.Test.YtmedmkjlhcoepaaSP4
import Derived.Test.YtmedmkjlhcoepaaD26
set_option linter.unusedVariables false
set_option linter.unusedSimpArgs false
namespace Go.Proofs.Ytmedmkjlhcoepaa
open Go.RowKit

set_option maxRecDepth 100000 in
set_option maxHeartbeats 1000000 in
theorem iCkReg_c (p : Int) (sv lv : Value) (n m : Nat) (s : Nat → Int) (L : Nat → Nat) (T : Nat → Nat → Int) (w : World) (h : Ints w sv n s) (hl : Tab w lv m L T) :
    Calls Try.prog 82 #[dbl p sv, lv] w fun e w' => Makes w w' e (.int .i64 (thenC (codeM (spB p n s) p n m L T) (decide (0 ≤ idx s 0 n)) 5)) := by
  have H' := Lib.hid h
  have L' := Lib.hid hl
  obtain ⟨ao, c, b, o, rfl, p2, p3, qx⟩ := h.out
  obtain ⟨la, lc, lb, lo, A, C, RB, RO, rfl, ql⟩ := hl.out
  clear qx ql h hl
  have BX := Lib.hid (box0 w p ao n c 30)
  obtain ⟨e0, e1, e2, e3⟩ := box0 w p ao n c 30
  have HK := Lib.hid (iCkM_c p _ _ n m s L T _ (H'.out.below e3) (L'.out.below e3))
  obtain ⟨cc, hcc⟩ : ∃ cc, codeM (spB p n s) p n m L T = cc := ⟨_, rfl⟩
  obtain ⟨q, hq⟩ : ∃ q, decide (0 ≤ idx s 0 n) = q := ⟨_, rfl⟩
  rw [hcc] at HK ⊢
  have HRG : Hid (∀ W, Below w.heap.size w W → Calls Try.prog 117 #[dbl p (.slice ao n c)] W fun e w' => Makes W w' e (.bool (!q))) := fun W hb => hq ▸ iReg_c p _ n s W (H'.out.below hb)
  rw [hq]
  clear hcc hq
  go_enter Try.func82, Try.ntmps82
  go_wp2_with fail
  go_at_call 75
  refine Calls.makes' HK.out _ fun w1 hb1 => ?_
  obtain ⟨f0, f1, f2, f3⟩ := boxKeep hb1 BX.out
  clear e0 e1 e2 e3 HK
  by_cases h0 : cc = 0
  · subst h0
    go_wp2_with fail
    go_at_call 117
    refine Calls.makes' (HRG.out _ f3) _ fun w2 hb2 => ?_
    have b2 := f3.trans (hb2.mono f3.size)
    cases q
    · go_wp2
      go_ret
      exact ⟨rfl, b2⟩
    · go_wp2
      go_ret
      exact ⟨rfl, b2⟩
  · have hne : (cc != 0) = true := by rw [bne_iff_ne]; exact h0
    go_wp2
    go_ret
    exact ⟨ret_i64 (by unfold thenC; rw [if_neg h0]), f3⟩

theorem codeM_ok {ok : Bool} {p : Int} {n m : Nat} {L : Nat → Nat} {T : Nat → Nat → Int} (h : codeM ok p n m L T = 0) : ok = true := (codeM_zero h).1

set_option maxRecDepth 100000 in
set_option maxHeartbeats 1000000 in
theorem sReg_c (p : Int) (sv lv : Value) (n m : Nat) (s : Nat → Int) (L : Nat → Nat) (T : Nat → Nat → Int) (w : World) (h : Ints w sv n s) (hl : Tab w lv m L T) :
    Calls Try.prog 79 #[dbl p sv, lv] w fun e w' => Makes w w' e (.int .i64 (thenC (codeM (spB p n s) p n m L T) (decide (0 ≤ idx s 0 n)) 5)) := by
  have H' := Lib.hid h
  have L' := Lib.hid hl
  obtain ⟨ao, c, b, o, rfl, p2, p3, qx⟩ := h.out
  obtain ⟨la, lc, lb, lo, A, C, RB, RO, rfl, ql⟩ := hl.out
  clear qx ql h hl
  have BX := Lib.hid (box0 w p ao n c 30)
  obtain ⟨e0, e1, e2, e3⟩ := box0 w p ao n c 30
  have HK := Lib.hid (sCodeM_c p _ _ n m s L T _ (H'.out.below e3) (L'.out.below e3))
  obtain ⟨cc, hcc⟩ : ∃ cc, codeM (spB p n s) p n m L T = cc := ⟨_, rfl⟩
  rw [hcc] at HK ⊢
  by_cases h0 : cc = 0
  · have hok := codeM_ok (hcc.trans h0)
    have hsp := spB_ok hok
    have hpb := hsp.bd
    have HD : Hid (∀ W, Below w.heap.size w W → Calls Try.prog 116 #[dbl p (.slice ao n c)] W fun e w' => Makes W w' e (.int .i64 (dF p s n))) := fun W hb => sDisc_c p _ n s W ⟨H'.out.below hb, hsp⟩
    have hdr := disc_reg hsp.prime hsp.inp
    obtain ⟨d, hd⟩ : ∃ d, dF p s n = d := ⟨_, rfl⟩
    rw [hd] at HD hdr
    have HQ := Lib.hid hdr
    subst h0
    clear hcc hd hdr hok hsp
    rw [← HQ.out]
    go_enter Try.func79, Try.ntmps79
    go_wp2_with fail
    go_at_call 73
    refine Calls.makes' HK.out _ fun w1 hb1 => ?_
    obtain ⟨f0, f1, f2, f3⟩ := boxKeep hb1 BX.out
    clear e0 e1 e2 e3 HK
    go_wp2_with fail
    go_at_call 116
    refine Calls.makes' (HD.out _ f3) _ fun w2 hb2 => ?_
    have b2 := f3.trans (hb2.mono f3.size)
    by_cases e : d = 0
    · subst e
      go_wp2
      go_ret
      exact ⟨rfl, b2⟩
    · have hne : (d == 0) = false := by simpa using e
      have HNE := Lib.hid hne
      go_wp2
      go_ret
      exact ⟨ret_i64 (by rw [HNE.out]; rfl), b2⟩
  · have hne : (cc == 0) = false := by simpa using h0
    clear hcc
    go_enter Try.func79, Try.ntmps79
    go_wp2_with fail
    go_at_call 73
    refine Calls.makes' HK.out _ fun w1 hb1 => ?_
    obtain ⟨f0, f1, f2, f3⟩ := boxKeep hb1 BX.out
    go_wp2
    go_ret
    exact ⟨ret_i64 (by unfold thenC; rw [if_neg h0]), f3⟩

set_option maxRecDepth 100000 in
set_option maxHeartbeats 1000000 in
theorem iBiv_c (v : Value) (n : Nat) (X : Nat → Int) (w : World) (h : Ints w v (2 ^ n) X) (hn : n ≤ 6) :
    Calls Try.prog 83 #[v] w fun e w' => Makes w w' e (.bool (onlyB (2 ^ n) X 2)) := by
  have HO := Lib.hid (iOnly_c v n X 2 w h hn)
  obtain ⟨q, hq⟩ : ∃ q, onlyB (2 ^ n) X 2 = q := ⟨_, rfl⟩
  rw [hq] at HO ⊢
  obtain ⟨ao, c, _, _, rfl, qx⟩ := h.out
  clear qx h hq
  go_enter Try.func83, Try.ntmps83
  go_wp2_with fail
  go_at_call 94
  refine Calls.makes' HO.out _ fun w1 hb1 => ?_
  go_wp2
  go_ret
  exact ⟨rfl, hb1⟩

set_option maxRecDepth 100000 in
set_option maxHeartbeats 2000000 in
theorem iIsBivector_c (p : Int) (sv : Value) (n : Nat) (s : Nat → Int) (xv : Value) (nx : Nat) (X : Nat → Int) (w : World) (h : Ints w sv n s) (hx : Ints w xv nx X) :
    Calls Try.prog 40 #[dbl p sv, xv] w fun e w' => Makes w w' e (rBc (thenC (codeM (spB p n s) p n 1 (fun _ => nx) (fun _ => X)) (decide (0 ≤ idx s 0 n)) 5) (onlyB nx X 2)) := by
  have h' := h
  obtain ⟨ao, c, _, _, rfl, qh⟩ := h.out
  clear qh
  have hx0 := hx
  obtain ⟨xa, xc, _, _, rfl, qx⟩ := hx.out
  clear qx
  have BX := Lib.hid (box0 w p ao n c 30)
  have b0 := BX.out.2.2.2
  have BL : Hid (Below w.heap.size w ((w.alloc (.cells #[.int .i64 p, .slice ao n c] 30)).alloc (.cells #[.slice xa nx xc] 22))) := b0.alloc b0.size _
  have ht := list1 22 (hx.below b0)
  rw [show (w.alloc (.cells #[.int .i64 p, .slice ao n c] 30)).heap.size = w.heap.size + 1 by simp] at ht
  have HT := Lib.hid ht
  clear ht
  have bA : Below (w.alloc (.cells #[.int .i64 p, .slice ao n c] 30)).heap.size (w.alloc (.cells #[.int .i64 p, .slice ao n c] 30)) ((w.alloc (.cells #[.int .i64 p, .slice ao n c] 30)).alloc (.cells #[.slice xa nx xc] 22)) := (Below.refl _ _).alloc (Nat.le_refl _) _
  have BXA := Lib.hid (boxKeep bA BX.out)
  obtain ⟨e0, e1, e2, e3⟩ := BX.out
  obtain ⟨cc, hcc⟩ : ∃ cc, (thenC (codeM (spB p n s) p n 1 (fun _ => nx) (fun _ => X)) (decide (0 ≤ idx s 0 n)) 5) = cc := ⟨_, rfl⟩
  by_cases h0 : cc = 0
  · obtain ⟨hok, hel⟩ := codeM_zero (thenC_zero (hcc.trans h0))
    obtain ⟨l0, x0⟩ := mvB_mv hx0 (hel 0 (by omega))
    have HV : Hid (∀ W, Below w.heap.size w W → SV W (.slice ao n c) p n s) := fun W hb => ⟨h'.below hb, spB_ok hok⟩
    have HX : Hid (∀ W, Below w.heap.size w W → Mv W (.slice xa nx xc) p n X) := fun W hb => x0.below hb
    have HOK := Lib.hid hok
    have HC := Lib.hid hcc
    have H' := Lib.hid h'
    have hpb := (spB_ok hok).bd
    have hn6 := (spB_ok hok).n6
    have hn1 := (spB_ok hok).n1
    have HL0 := Lib.hid l0
    obtain rfl := HL0.out
    obtain ⟨q, hq⟩ : ∃ q, onlyB (2 ^ n) X 2 = q := ⟨_, rfl⟩
    rw [hq]
    have C1 : Hid (∀ W, Below w.heap.size w W → Calls Try.prog 83 #[.slice xa (2 ^ n) xc] W fun e w' => Makes W w' e (.bool q)) := fun W hb => hq ▸ iBiv_c _ n X W (HX.out W hb).ints hn6
    clear hq
    clear h hx hx0 x0 hel bA h' l0 hok
    subst h0
    go_enter Try.func40, Try.ntmps40
    go_wp2_with fail
    go_at_call 82
    refine Calls.makes' (iCkReg_c p _ _ n 1 s _ _ _ (H'.out.below BL.out) HT.out) _ fun w1 hb1 => ?_
    rw [HC.out]
    obtain ⟨f0, f1, f2, f3⟩ := boxKeep hb1 BXA.out
    clear e0 e1 e2 e3
    go_wp2_with fail
    go_at_call 83
    refine Calls.makes' (C1.out _ f3) _ fun w4 hb4 => ?_
    have b4 : Below w.heap.size w w4 := f3.trans (hb4.mono f3.size)
    go_wp2
    go_ret2
    exact ⟨by rw [HC.out]; rfl, b4⟩
  · have HC := Lib.hid hcc
    have H' := Lib.hid h'
    have hne : (cc != 0) = true := by rw [bne_iff_ne]; exact h0
    have hne2 : (cc == 0) = false := by simp [h0]
    clear h hx hx0 bA h'
    go_enter Try.func40, Try.ntmps40
    go_wp2_with fail
    go_at_call 82
    refine Calls.makes' (iCkReg_c p _ _ n 1 s _ _ _ (H'.out.below BL.out) HT.out) _ fun w1 hb1 => ?_
    rw [HC.out]
    go_wp2
    go_ret2
    exact ⟨by rw [HC.out]; unfold rBc; rw [if_neg h0]; rfl, BL.out.trans (hb1.mono BL.out.size)⟩

set_option maxRecDepth 100000 in
set_option maxHeartbeats 2000000 in
theorem sIsBivector_c (p : Int) (sv : Value) (n : Nat) (s : Nat → Int) (xv : Value) (nx : Nat) (X : Nat → Int) (w : World) (h : Ints w sv n s) (hx : Ints w xv nx X) :
    Calls Try.prog 39 #[dbl p sv, xv] w fun e w' => Makes w w' e (rBc (thenC (codeM (spB p n s) p n 1 (fun _ => nx) (fun _ => X)) (decide (0 ≤ idx s 0 n)) 5) (onlyB nx X 2)) := by
  have h' := h
  obtain ⟨ao, c, _, _, rfl, qh⟩ := h.out
  clear qh
  have hx0 := hx
  obtain ⟨xa, xc, _, _, rfl, qx⟩ := hx.out
  clear qx
  have BX := Lib.hid (box0 w p ao n c 30)
  have b0 := BX.out.2.2.2
  have BL : Hid (Below w.heap.size w ((w.alloc (.cells #[.int .i64 p, .slice ao n c] 30)).alloc (.cells #[.slice xa nx xc] 22))) := b0.alloc b0.size _
  have ht := list1 22 (hx.below b0)
  rw [show (w.alloc (.cells #[.int .i64 p, .slice ao n c] 30)).heap.size = w.heap.size + 1 by simp] at ht
  have HT := Lib.hid ht
  clear ht
  have bA : Below (w.alloc (.cells #[.int .i64 p, .slice ao n c] 30)).heap.size (w.alloc (.cells #[.int .i64 p, .slice ao n c] 30)) ((w.alloc (.cells #[.int .i64 p, .slice ao n c] 30)).alloc (.cells #[.slice xa nx xc] 22)) := (Below.refl _ _).alloc (Nat.le_refl _) _
  have BXA := Lib.hid (boxKeep bA BX.out)
  obtain ⟨e0, e1, e2, e3⟩ := BX.out
  obtain ⟨cc, hcc⟩ : ∃ cc, (thenC (codeM (spB p n s) p n 1 (fun _ => nx) (fun _ => X)) (decide (0 ≤ idx s 0 n)) 5) = cc := ⟨_, rfl⟩
  by_cases h0 : cc = 0
  · obtain ⟨hok, hel⟩ := codeM_zero (thenC_zero (hcc.trans h0))
    obtain ⟨l0, x0⟩ := mvB_mv hx0 (hel 0 (by omega))
    have HV : Hid (∀ W, Below w.heap.size w W → SV W (.slice ao n c) p n s) := fun W hb => ⟨h'.below hb, spB_ok hok⟩
    have HX : Hid (∀ W, Below w.heap.size w W → Mv W (.slice xa nx xc) p n X) := fun W hb => x0.below hb
    have HOK := Lib.hid hok
    have HC := Lib.hid hcc
    have H' := Lib.hid h'
    have hpb := (spB_ok hok).bd
    have hn6 := (spB_ok hok).n6
    have hn1 := (spB_ok hok).n1
    have HL0 := Lib.hid l0
    obtain rfl := HL0.out
    obtain ⟨q, hq⟩ : ∃ q, onlyB (2 ^ n) X 2 = q := ⟨_, rfl⟩
    rw [hq]
    have hM := pow_le6 hn6
    have HQ : Hid (eqB (2 ^ n) (2 ^ n) X (partF 2 X) = q) := hq ▸ part_only 2
    clear hq
    clear h hx hx0 x0 hel bA h' l0 hok
    subst h0
    go_enter Try.func39, Try.ntmps39
    go_wp2_with fail
    go_at_call 79
    refine Calls.makes' (sReg_c p _ _ n 1 s _ _ _ (H'.out.below BL.out) HT.out) _ fun w1 hb1 => ?_
    rw [HC.out]
    obtain ⟨f0, f1, f2, f3⟩ := boxKeep hb1 BXA.out
    clear e0 e1 e2 e3
    go_wp2_with fail
    go_at_call 81
    refine (sPart_c _ (2 ^ n) X 2 _ (HX.out _ f3).ints hM).mono ?_
    rintro e w4 ⟨g4, c4, rfl, hg4, hb4, hO4⟩
    have b4 := Lib.hid (f3.trans (hb4.mono f3.size) : Below w.heap.size w w4)
    have HS := Lib.hid (sSame_c _ _ _ _ _ _ w4 (HX.out _ b4.out).ints hO4.ints)
    rw [HQ.out] at HS
    clear hO4
    go_wp2_with fail
    go_at_call 80
    refine Calls.reads' (wr := w) HS.out _ fun q1 => ?_
    go_wp2
    go_ret2
    exact ⟨by rw [HC.out]; rfl, Reads.below b4.out⟩
  · have HC := Lib.hid hcc
    have H' := Lib.hid h'
    have hne : (cc != 0) = true := by rw [bne_iff_ne]; exact h0
    have hne2 : (cc == 0) = false := by simp [h0]
    clear h hx hx0 bA h'
    go_enter Try.func39, Try.ntmps39
    go_wp2_with fail
    go_at_call 79
    refine Calls.makes' (sReg_c p _ _ n 1 s _ _ _ (H'.out.below BL.out) HT.out) _ fun w1 hb1 => ?_
    rw [HC.out]
    go_wp2
    go_ret2
    exact ⟨by rw [HC.out]; unfold rBc; rw [if_neg h0]; rfl, BL.out.trans (hb1.mono BL.out.size)⟩


end Go.Proofs.Ytmedmkjlhcoepaa
