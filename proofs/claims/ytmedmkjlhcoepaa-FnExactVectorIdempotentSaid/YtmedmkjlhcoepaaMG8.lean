/-
  IsEven, in both programs. No condition beside sizes.
-/
import Derived.Test.YtmedmkjlhcoepaaMG7
set_option linter.unusedVariables false
set_option linter.unusedSimpArgs false
namespace Go.Proofs.Ytmedmkjlhcoepaa
open Go.RowKit

/-- a truth value, or a code -/
def rBc (c : Int) (b : Bool) : Value := if c = 0 then .tuple #[.bool b, .int .i64 0] else .tuple #[.bool false, .int .i64 c]
theorem rBc_one (c : Int) (b : Bool) : rBc c b = .tuple #[.bool (if c = 0 then b else false), .int .i64 c] := by
  unfold rBc
  by_cases h : c = 0
  · subst h; rfl
  · rw [if_neg h, if_neg h]

set_option maxRecDepth 100000 in
set_option maxHeartbeats 1000000 in
theorem sInvo_c (p : Int) (sv : Value) (n : Nat) (s : Nat → Int) (v : Value) (X : Nat → Int) (w : World) (hs : SV w sv p n s) (h : Mv w v p n X) :
    Calls Try.prog 122 #[dbl p sv, v] w fun e w' => CopyI w w' e (2 ^ n) (invoF p X) := by
  have hbd := hs.ok.bd
  have hn6 := hs.ok.n6
  have hM := pow_le6 hn6
  have HS : Hid (∀ W, Below w.heap.size w W → Calls Try.prog 149 #[dbl p sv, v, .bool false, .bool true] W fun e w' => CopyI W w' e (2 ^ n) (invoF p X)) := fun W hb => sSigns_c p sv n s v (2 ^ n) X W (hs.ints.below hb) (h.ints.below hb) hM hbd h.inp
  have hsi := hs.ints
  have hxi := h.ints
  obtain ⟨so, sc, _, _, rfl, qs⟩ := hsi.out
  obtain ⟨ao, c, _, _, rfl, qx⟩ := hxi.out
  clear qs qx hs h hsi hxi
  obtain ⟨e0, e1, e2, e3⟩ := box0 w p so n sc 30
  have E3 := Lib.hid e3
  clear e3
  go_enter Try.func122, Try.ntmps122
  go_wp2_with fail
  go_at_call 149
  refine (HS.out _ E3.out).mono ?_
  rintro e w1 ⟨g1, c1, rfl, hg1, hb1, hO1⟩
  have HO := Lib.hid hO1
  have HB := Lib.hid (E3.out.trans (hb1.mono E3.out.size))
  have hs3 := E3.out.size
  clear hO1 hb1
  go_wp2
  go_ret
  exact ⟨g1, c1, rfl, by omega, HB.out, HO.out⟩

set_option maxRecDepth 100000 in
set_option maxHeartbeats 1000000 in
theorem sEven_c (p : Int) (sv : Value) (n : Nat) (s : Nat → Int) (v : Value) (X : Nat → Int) (w : World) (hs : SV w sv p n s) (h : Mv w v p n X) :
    Calls Try.prog 74 #[dbl p sv, v] w fun e w' => Makes w w' e (.bool (evenB (2 ^ n) X)) := by
  have HI : Hid (∀ W, Below w.heap.size w W → Calls Try.prog 122 #[dbl p sv, v] W fun e w' => CopyI W w' e (2 ^ n) (invoF p X)) := fun W hb => sInvo_c p sv n s v X W (hs.below hb) (h.below hb)
  have HE := Lib.hid (invo_even hs.ok.prime h.inp)
  have HX : Hid (∀ W, Below w.heap.size w W → Ints W v (2 ^ n) X) := fun W hb => h.ints.below hb
  have hsi := hs.ints
  have hxi := h.ints
  obtain ⟨so, sc, _, _, rfl, qs⟩ := hsi.out
  obtain ⟨ao, c, _, _, rfl, qx⟩ := hxi.out
  clear qs qx hs h hsi hxi
  obtain ⟨e0, e1, e2, e3⟩ := box0 w p so n sc 30
  have E3 := Lib.hid e3
  clear e3
  go_enter Try.func74, Try.ntmps74
  go_wp2_with fail
  go_at_call 122
  refine (HI.out _ E3.out).mono ?_
  rintro e w1 ⟨g1, c1, rfl, hg1, hb1, hO1⟩
  have HB := Lib.hid (E3.out.trans (hb1.mono E3.out.size))
  have HS := Lib.hid (sSame_c _ _ _ _ _ _ w1 (HX.out _ HB.out) hO1.ints)
  rw [HE.out] at HS
  clear hO1 hb1
  go_wp2_with fail
  go_at_call 80
  refine Calls.reads' (wr := w) HS.out _ fun q1 => ?_
  go_wp2
  go_ret
  exact ⟨rfl, Reads.below HB.out⟩

set_option maxRecDepth 100000 in
set_option maxHeartbeats 2000000 in
theorem iIsEven_c (p : Int) (sv : Value) (n : Nat) (s : Nat → Int) (xv : Value) (nx : Nat) (X : Nat → Int) (w : World) (h : Ints w sv n s) (hx : Ints w xv nx X) :
    Calls Try.prog 36 #[dbl p sv, xv] w fun e w' => Makes w w' e (rBc (codeM (spB p n s) p n 1 (fun _ => nx) (fun _ => X)) (evenB nx X)) := by
  have h' := h
  obtain ⟨ao, c, _, _, rfl, qh⟩ := h.out
  clear qh
  have hx0 := hx
  obtain ⟨xa, xc, _, _, rfl, qx⟩ := hx.out
  clear qx
  have BX := Lib.hid (box0 w p ao n c 30)
  have b0 := BX.out.2.2.2
  have BL : Hid (Below w.heap.size w ((w.alloc (.cells #[.int .i64 p, .slice ao n c] 30)).alloc (.cells #[.slice xa nx xc] 22))) := b0.alloc b0.size _
  have ht := list1 22 (hx.below b0)
  rw [show (w.alloc (.cells #[.int .i64 p, .slice ao n c] 30)).heap.size = w.heap.size + 1 by simp] at ht
  have HT := Lib.hid ht
  clear ht
  have bA : Below (w.alloc (.cells #[.int .i64 p, .slice ao n c] 30)).heap.size (w.alloc (.cells #[.int .i64 p, .slice ao n c] 30)) ((w.alloc (.cells #[.int .i64 p, .slice ao n c] 30)).alloc (.cells #[.slice xa nx xc] 22)) := (Below.refl _ _).alloc (Nat.le_refl _) _
  have BXA := Lib.hid (boxKeep bA BX.out)
  obtain ⟨e0, e1, e2, e3⟩ := BX.out
  obtain ⟨cc, hcc⟩ : ∃ cc, codeM (spB p n s) p n 1 (fun _ => nx) (fun _ => X) = cc := ⟨_, rfl⟩
  by_cases h0 : cc = 0
  · obtain ⟨hok, hel⟩ := codeM_zero (hcc.trans h0)
    obtain ⟨l0, x0⟩ := mvB_mv hx0 (hel 0 (by omega))
    have HV : Hid (∀ W, Below w.heap.size w W → SV W (.slice ao n c) p n s) := fun W hb => ⟨h'.below hb, spB_ok hok⟩
    have HX : Hid (∀ W, Below w.heap.size w W → Mv W (.slice xa nx xc) p n X) := fun W hb => x0.below hb
    have HOK := Lib.hid hok
    have HC := Lib.hid hcc
    have H' := Lib.hid h'
    have hpb := (spB_ok hok).bd
    have hn6 := (spB_ok hok).n6
    have hn1 := (spB_ok hok).n1
    have HL0 := Lib.hid l0
    obtain rfl := HL0.out
    obtain ⟨q, hq⟩ : ∃ q, evenB (2 ^ n) X = q := ⟨_, rfl⟩
    have HB := Lib.hid hq
    rw [hq]
    have C1 : Hid (∀ W, Below w.heap.size w W → Calls Try.prog 76 #[.slice xa (2 ^ n) xc] W fun e w' => Makes W w' e (.bool q)) := fun W hb => hq ▸ iEven_c _ n X W (HX.out W hb).ints hn6
    clear hq
    clear h hx hx0 x0 hel bA h' l0 hok
    subst h0
    go_enter Try.func36, Try.ntmps36
    go_wp2_with fail
    go_at_call 75
    refine Calls.makes' (iCkM_c p _ _ n 1 s _ _ _ (H'.out.below BL.out) HT.out) _ fun w1 hb1 => ?_
    rw [HC.out]
    obtain ⟨f0, f1, f2, f3⟩ := boxKeep hb1 BXA.out
    clear e0 e1 e2 e3
    go_wp2_with fail
    go_at_call 76
    refine Calls.makes' (C1.out _ f3) _ fun w4 hb4 => ?_
    have b4 : Below w.heap.size w w4 := f3.trans (hb4.mono f3.size)
    go_wp2
    go_ret2
    exact ⟨by rw [HC.out]; rfl, b4⟩
  · have HC := Lib.hid hcc
    have H' := Lib.hid h'
    have hne : (cc != 0) = true := by rw [bne_iff_ne]; exact h0
    have hne2 : (cc == 0) = false := by simp [h0]
    clear h hx hx0 bA h'
    go_enter Try.func36, Try.ntmps36
    go_wp2_with fail
    go_at_call 75
    refine Calls.makes' (iCkM_c p _ _ n 1 s _ _ _ (H'.out.below BL.out) HT.out) _ fun w1 hb1 => ?_
    rw [HC.out]
    go_wp2
    go_ret2
    exact ⟨by rw [HC.out]; unfold rBc; rw [if_neg h0]; rfl, BL.out.trans (hb1.mono BL.out.size)⟩

set_option maxRecDepth 100000 in
set_option maxHeartbeats 2000000 in
theorem sIsEven_c (p : Int) (sv : Value) (n : Nat) (s : Nat → Int) (xv : Value) (nx : Nat) (X : Nat → Int) (w : World) (h : Ints w sv n s) (hx : Ints w xv nx X) :
    Calls Try.prog 35 #[dbl p sv, xv] w fun e w' => Makes w w' e (rBc (codeM (spB p n s) p n 1 (fun _ => nx) (fun _ => X)) (evenB nx X)) := by
  have h' := h
  obtain ⟨ao, c, _, _, rfl, qh⟩ := h.out
  clear qh
  have hx0 := hx
  obtain ⟨xa, xc, _, _, rfl, qx⟩ := hx.out
  clear qx
  have BX := Lib.hid (box0 w p ao n c 30)
  have b0 := BX.out.2.2.2
  have BL : Hid (Below w.heap.size w ((w.alloc (.cells #[.int .i64 p, .slice ao n c] 30)).alloc (.cells #[.slice xa nx xc] 22))) := b0.alloc b0.size _
  have ht := list1 22 (hx.below b0)
  rw [show (w.alloc (.cells #[.int .i64 p, .slice ao n c] 30)).heap.size = w.heap.size + 1 by simp] at ht
  have HT := Lib.hid ht
  clear ht
  have bA : Below (w.alloc (.cells #[.int .i64 p, .slice ao n c] 30)).heap.size (w.alloc (.cells #[.int .i64 p, .slice ao n c] 30)) ((w.alloc (.cells #[.int .i64 p, .slice ao n c] 30)).alloc (.cells #[.slice xa nx xc] 22)) := (Below.refl _ _).alloc (Nat.le_refl _) _
  have BXA := Lib.hid (boxKeep bA BX.out)
  obtain ⟨e0, e1, e2, e3⟩ := BX.out
  obtain ⟨cc, hcc⟩ : ∃ cc, codeM (spB p n s) p n 1 (fun _ => nx) (fun _ => X) = cc := ⟨_, rfl⟩
  by_cases h0 : cc = 0
  · obtain ⟨hok, hel⟩ := codeM_zero (hcc.trans h0)
    obtain ⟨l0, x0⟩ := mvB_mv hx0 (hel 0 (by omega))
    have HV : Hid (∀ W, Below w.heap.size w W → SV W (.slice ao n c) p n s) := fun W hb => ⟨h'.below hb, spB_ok hok⟩
    have HX : Hid (∀ W, Below w.heap.size w W → Mv W (.slice xa nx xc) p n X) := fun W hb => x0.below hb
    have HOK := Lib.hid hok
    have HC := Lib.hid hcc
    have H' := Lib.hid h'
    have hpb := (spB_ok hok).bd
    have hn6 := (spB_ok hok).n6
    have hn1 := (spB_ok hok).n1
    have HL0 := Lib.hid l0
    obtain rfl := HL0.out
    obtain ⟨q, hq⟩ : ∃ q, evenB (2 ^ n) X = q := ⟨_, rfl⟩
    have HB := Lib.hid hq
    rw [hq]
    have C1 : Hid (∀ W, Below w.heap.size w W → Calls Try.prog 74 #[dbl p (.slice ao n c), .slice xa (2 ^ n) xc] W fun e w' => Makes W w' e (.bool q)) := fun W hb => hq ▸ sEven_c p _ n s _ X W (HV.out W hb) (HX.out W hb)
    clear hq
    clear h hx hx0 x0 hel bA h' l0 hok
    subst h0
    go_enter Try.func35, Try.ntmps35
    go_wp2_with fail
    go_at_call 73
    refine Calls.makes' (sCodeM_c p _ _ n 1 s _ _ _ (H'.out.below BL.out) HT.out) _ fun w1 hb1 => ?_
    rw [HC.out]
    obtain ⟨f0, f1, f2, f3⟩ := boxKeep hb1 BXA.out
    clear e0 e1 e2 e3
    go_wp2_with fail
    go_at_call 74
    refine Calls.makes' (C1.out _ f3) _ fun w4 hb4 => ?_
    have b4 : Below w.heap.size w w4 := f3.trans (hb4.mono f3.size)
    go_wp2
    go_ret2
    exact ⟨by rw [HC.out]; rfl, b4⟩
  · have HC := Lib.hid hcc
    have H' := Lib.hid h'
    have hne : (cc != 0) = true := by rw [bne_iff_ne]; exact h0
    have hne2 : (cc == 0) = false := by simp [h0]
    clear h hx hx0 bA h'
    go_enter Try.func35, Try.ntmps35
    go_wp2_with fail
    go_at_call 73
    refine Calls.makes' (sCodeM_c p _ _ n 1 s _ _ _ (H'.out.below BL.out) HT.out) _ fun w1 hb1 => ?_
    rw [HC.out]
    go_wp2
    go_ret2
    exact ⟨by rw [HC.out]; unfold rBc; rw [if_neg h0]; rfl, BL.out.trans (hb1.mono BL.out.size)⟩


end Go.Proofs.Ytmedmkjlhcoepaa
