/-
  PairOf in both programs, NormOf of the program. No condition beside sizes.
-/
import Derived.Test.YtnkflgigbielgaaSP4
import Derived.Test.YtnkflgigbielgaaSP3
import Derived.Test.YtnkflgigbielgaaD22
set_option linter.unusedVariables false
set_option linter.unusedSimpArgs false
namespace Go.Proofs.Ytnkflgigbielgaa
open Go.RowKit

/-- the code of a pair -/
def prC (p : Int) (n : Nat) (s : Nat → Int) (nx : Nat) (X : Nat → Int) (ny : Nat) (Y : Nat → Int) : Int := if spB p n s then (if vecB p n nx X && vecB p n ny Y then 0 else 2) else 1
theorem prC_sv {p : Int} {n : Nat} {s : Nat → Int} {nx : Nat} {X : Nat → Int} {ny : Nat} {Y : Nat → Int} : codeSv (spB p n s) p n 2 (pick3 nx ny ny) (pick3 X Y Y) = prC p n s nx X ny Y := by
  unfold codeSv prC
  cases spB p n s
  · rfl
  · show (if anyB _ 2 = true then (2 : Int) else 0) = if (vecB p n nx X && vecB p n ny Y) = true then 0 else 2
    have h : anyB (fun i => !vecB p n (pick3 nx ny ny i) (pick3 X Y Y i)) 2 = !(vecB p n nx X && vecB p n ny Y) := by
      rw [Bool.eq_iff_iff]
      constructor
      · intro h
        cases e : (vecB p n nx X && vecB p n ny Y)
        · rfl
        · simp only [Bool.and_eq_true] at e
          rw [anyB_none fun j hj => ?_] at h
          · exact absurd h (by decide)
          · have h3 : j = 0 ∨ j = 1 := by omega
            rcases h3 with rfl | rfl <;> simp [pick3, e.1, e.2]
      · intro h
        simp only [Bool.not_and, Bool.or_eq_true, Bool.not_eq_true'] at h
        rcases h with h | h
        · exact anyB_at (k := 0) (by omega) (by simp [pick3, h])
        · exact anyB_at (k := 1) (by omega) (by simp [pick3, h])
    rw [h]
    cases (vecB p n nx X && vecB p n ny Y) <;> rfl
theorem prC_zero {p : Int} {n : Nat} {s : Nat → Int} {nx : Nat} {X : Nat → Int} {ny : Nat} {Y : Nat → Int} (h : prC p n s nx X ny Y = 0) : spB p n s = true ∧ vecB p n nx X = true ∧ vecB p n ny Y = true := by
  unfold prC at h
  split at h
  · split at h
    · rename_i h1 h2
      simp only [Bool.and_eq_true] at h2
      exact ⟨h1, h2.1, h2.2⟩
    · omega
  · omega
theorem prC_ok {p : Int} {n : Nat} {s : Nat → Int} {nx : Nat} {X : Nat → Int} {ny : Nat} {Y : Nat → Int} (h1 : spB p n s = true) (h2 : vecB p n nx X = true) (h3 : vecB p n ny Y = true) : prC p n s nx X ny Y = 0 := by unfold prC; rw [h1, h2, h3]; rfl

set_option maxRecDepth 100000 in
set_option maxHeartbeats 2000000 in
theorem iPairOf_c (p : Int) (sv : Value) (n : Nat) (s : Nat → Int) (xv : Value) (nx : Nat) (X : Nat → Int) (yv : Value) (ny : Nat) (Y : Nat → Int) (w : World)
    (h : Ints w sv n s) (hx : Ints w xv nx X) (hy : Ints w yv ny Y) :
    Calls Try.prog 12 #[dbl p sv, xv, yv] w fun e w' => Makes w w' e (rC (prC p n s nx X ny Y) (pairF p s n X Y)) := by
  have h' := h
  obtain ⟨ao, c, _, _, rfl, qh⟩ := h.out
  clear qh
  obtain ⟨xa, xc, _, _, rfl, qx⟩ := hx.out
  clear qx
  obtain ⟨ya, yc, _, _, rfl, qy⟩ := hy.out
  clear qy
  have BX := Lib.hid (box0 w p ao n c 26)
  have b0 := BX.out.2.2.2
  have BL : Hid (Below w.heap.size w ((w.alloc (.cells #[.int .i64 p, .slice ao n c] 26)).alloc (.cells #[.slice xa nx xc, .slice ya ny yc] 24))) := b0.alloc b0.size _
  have ht := list2 24 (hx.below b0) (hy.below b0)
  rw [show (w.alloc (.cells #[.int .i64 p, .slice ao n c] 26)).heap.size = w.heap.size + 1 by simp] at ht
  have HT := Lib.hid ht
  clear ht
  have bA : Below (w.alloc (.cells #[.int .i64 p, .slice ao n c] 26)).heap.size (w.alloc (.cells #[.int .i64 p, .slice ao n c] 26)) ((w.alloc (.cells #[.int .i64 p, .slice ao n c] 26)).alloc (.cells #[.slice xa nx xc, .slice ya ny yc] 24)) := (Below.refl _ _).alloc (Nat.le_refl _) _
  have BXA := Lib.hid (boxKeep bA BX.out)
  obtain ⟨e0, e1, e2, e3⟩ := BX.out
  obtain ⟨cc, hcc⟩ : ∃ cc, prC p n s nx X ny Y = cc := ⟨_, rfl⟩
  by_cases h0 : cc = 0
  · obtain ⟨hok, hel0, hel1⟩ := prC_zero (hcc.trans h0)
    have hv : SV w (.slice ao n c) p n s := ⟨h', spB_ok hok⟩
    obtain ⟨l0, x0⟩ := vecB_vc hx hel0
    obtain ⟨l1, y0⟩ := vecB_vc hy hel1
    have HV : Hid (∀ W, Below w.heap.size w W → SV W (.slice ao n c) p n s) := fun W hb => hv.below hb
    have HX : Hid (∀ W, Below w.heap.size w W → Vc W (.slice xa nx xc) p n X) := fun W hb => x0.below hb
    have HY : Hid (∀ W, Below w.heap.size w W → Vc W (.slice ya ny yc) p n Y) := fun W hb => y0.below hb
    have HC := Lib.hid hcc
    have H' := Lib.hid h'
    clear h hx hy x0 y0 hel0 hel1 hv bA h' l0 l1 hok
    subst h0
    go_enter Try.func12, Try.ntmps12
    go_wp2_with fail
    go_at_call 63
    refine Calls.makes' (iCkV_c p _ _ n 2 s _ _ _ (H'.out.below BL.out) HT.out) _ fun w1 hb1 => ?_
    rw [prC_sv, HC.out]
    obtain ⟨f0, f1, f2, f3⟩ := boxKeep hb1 BXA.out
    clear e0 e1 e2 e3
    go_wp2_with fail
    go_at_call 64
    refine Calls.makes' (iPair_c p _ _ _ n s X Y _ (HV.out _ f3) (HX.out _ f3) (HY.out _ f3)) _ fun w2 hb2 => ?_
    have b4 : Below w.heap.size w w2 := f3.trans (hb2.mono f3.size)
    go_wp2
    go_ret2
    exact ⟨by unfold rC; rw [HC.out]; rfl, b4⟩
  · have HC := Lib.hid hcc
    have H' := Lib.hid h'
    have hne : (cc != 0) = true := by rw [bne_iff_ne]; exact h0
    clear h hx hy bA h'
    go_enter Try.func12, Try.ntmps12
    go_wp2_with fail
    go_at_call 63
    refine Calls.makes' (iCkV_c p _ _ n 2 s _ _ _ (H'.out.below BL.out) HT.out) _ fun w1 hb1 => ?_
    rw [prC_sv, HC.out]
    have b4 := BL.out.trans (hb1.mono BL.out.size)
    go_wp2
    go_ret2
    exact ⟨by unfold rC; rw [HC.out, if_neg h0]; rfl, b4⟩

set_option maxRecDepth 100000 in
set_option maxHeartbeats 2000000 in
theorem sPairOf_c (p : Int) (sv : Value) (n : Nat) (s : Nat → Int) (xv : Value) (nx : Nat) (X : Nat → Int) (yv : Value) (ny : Nat) (Y : Nat → Int) (w : World)
    (h : Ints w sv n s) (hx : Ints w xv nx X) (hy : Ints w yv ny Y) :
    Calls Try.prog 13 #[dbl p sv, xv, yv] w fun e w' => Makes w w' e (rC (prC p n s nx X ny Y) (pairF p s n X Y)) := by
  have hib : Hid (∀ W, Below w.heap.size w W → Ints W sv n s) := fun W hb => h.below hb
  have hxb : Hid (∀ W, Below w.heap.size w W → Ints W xv nx X) := fun W hb => hx.below hb
  have hyb : Hid (∀ W, Below w.heap.size w W → Ints W yv ny Y) := fun W hb => hy.below hb
  have h' := h
  obtain ⟨ao, c, _, _, rfl, qh⟩ := h.out
  clear qh
  have BX := Lib.hid (box0 w p ao n c 26)
  obtain ⟨e0, e1, e2, e3⟩ := BX.out
  obtain ⟨qs, hqs⟩ : ∃ q, spB p n s = q := ⟨_, rfl⟩
  cases qs
  · have HQ := Lib.hid hqs
    clear h hx hy h' hqs
    go_enter Try.func13, Try.ntmps13
    go_wp2_with fail
    refine Calls.makes' (sIsSp_c p _ n s _ (hib.out _ e3)) _ fun w1 hb1 => ?_
    rw [HQ.out]
    have b4 := e3.trans (hb1.mono e3.size)
    go_wp2
    go_ret2
    exact ⟨by unfold rC prC; rw [HQ.out]; rfl, b4⟩
  · have hok := spB_ok hqs
    have hpb := hok.bd
    have hn6 := hok.n6
    have HV : Hid (∀ W, Below w.heap.size w W → SV W (.slice ao n c) p n s) := fun W hb => ⟨hib.out W hb, hok⟩
    obtain ⟨qx, hqx⟩ : ∃ q, vecB p n nx X = q := ⟨_, rfl⟩
    obtain ⟨qy, hqy⟩ : ∃ q, vecB p n ny Y = q := ⟨_, rfl⟩
    have HQ := Lib.hid hqs
    have HX := Lib.hid hqx
    have HY := Lib.hid hqy
    have VX : Hid (qx = true → ∀ W, Below w.heap.size w W → Vc W xv p n X) := fun e W hb => (vecB_vc (hxb.out W hb) (hqx.trans e)).2
    have VY : Hid (qy = true → ∀ W, Below w.heap.size w W → Vc W yv p n Y) := fun e W hb => (vecB_vc (hyb.out W hb) (hqy.trans e)).2
    clear h hx hy h' hqs hqx hqy hok
    cases qx
    · go_enter Try.func13, Try.ntmps13
      go_wp2_with fail
      refine Calls.makes' (sIsSp_c p _ n s _ (hib.out _ e3)) _ fun w1 hb1 => ?_
      rw [HQ.out]
      obtain ⟨f0, f1, f2, f3⟩ := boxKeep hb1 BX.out
      clear e0 e1 e2 e3
      go_wp2_with fail
      go_at_call 66
      refine Calls.makes' (sVec_c p _ n _ _ nx X _ (hxb.out _ f3) (by omega) (by omega) hn6) _ fun w2 hb2 => ?_
      rw [HX.out]
      have b4 := f3.trans (hb2.mono f3.size)
      go_wp2
      go_ret2
      exact ⟨by unfold rC prC; rw [HQ.out, HX.out]; rfl, b4⟩
    · cases qy
      · go_enter Try.func13, Try.ntmps13
        go_wp2_with fail
        refine Calls.makes' (sIsSp_c p _ n s _ (hib.out _ e3)) _ fun w1 hb1 => ?_
        rw [HQ.out]
        obtain ⟨f0, f1, f2, f3⟩ := boxKeep hb1 BX.out
        clear e0 e1 e2 e3
        go_wp2_with fail
        go_at_call 66
        refine Calls.makes' (sVec_c p _ n _ _ nx X _ (hxb.out _ f3) (by omega) (by omega) hn6) _ fun w2 hb2 => ?_
        rw [HX.out]
        have f : BoxD w p ao n c w2 := boxKeep hb2 ⟨f0, f1, f2, f3⟩
        clear f0 f1 f2 f3 hb2
        obtain ⟨f0, f1, f2, f3⟩ := f
        go_wp2_with fail
        go_at_call 66
        refine Calls.makes' (sVec_c p _ n _ _ ny Y _ (hyb.out _ f3) (by omega) (by omega) hn6) _ fun w3 hb3 => ?_
        rw [HY.out]
        have b4 := f3.trans (hb3.mono f3.size)
        go_wp2
        go_ret2
        exact ⟨by unfold rC prC; rw [HQ.out, HX.out, HY.out]; rfl, b4⟩
      · go_enter Try.func13, Try.ntmps13
        go_wp2_with fail
        refine Calls.makes' (sIsSp_c p _ n s _ (hib.out _ e3)) _ fun w1 hb1 => ?_
        rw [HQ.out]
        obtain ⟨f0, f1, f2, f3⟩ := boxKeep hb1 BX.out
        clear e0 e1 e2 e3
        go_wp2_with fail
        go_at_call 66
        refine Calls.makes' (sVec_c p _ n _ _ nx X _ (hxb.out _ f3) (by omega) (by omega) hn6) _ fun w2 hb2 => ?_
        rw [HX.out]
        have f : BoxD w p ao n c w2 := boxKeep hb2 ⟨f0, f1, f2, f3⟩
        clear f0 f1 f2 f3 hb2
        obtain ⟨f0, f1, f2, f3⟩ := f
        go_wp2_with fail
        go_at_call 66
        refine Calls.makes' (sVec_c p _ n _ _ ny Y _ (hyb.out _ f3) (by omega) (by omega) hn6) _ fun w3 hb3 => ?_
        rw [HY.out]
        have f : BoxD w p ao n c w3 := boxKeep hb3 ⟨f0, f1, f2, f3⟩
        clear f0 f1 f2 f3 hb3
        obtain ⟨f0, f1, f2, f3⟩ := f
        go_wp2_with fail
        go_at_call 67
        refine Calls.makes' (sPair_c p _ _ _ n s X Y _ (HV.out _ f3) (VX.out (by trivial) _ f3) (VY.out (by trivial) _ f3)) _ fun w4 hb4 => ?_
        have b4 := f3.trans (hb4.mono f3.size)
        go_wp2
        go_ret2
        exact ⟨by unfold rC prC; rw [HQ.out, HX.out, HY.out]; rfl, b4⟩

set_option maxRecDepth 100000 in
set_option maxHeartbeats 2000000 in
/-- NormOf at a vector -/
theorem vNormOf_c (p : Int) (sv : Value) (n : Nat) (s : Nat → Int) (xv : Value) (X : Nat → Int) (w : World) (hok : spB p n s = true) (h : Ints w sv n s) (hx : Vc w xv p n X) :
    Calls Try.prog 20 #[dbl p sv, xv] w fun e w' => Makes w w' e (.tuple #[.int .i64 (pairF p s n X X), .int .i64 0]) := by
  have hxi := hx.ints
  have hv : SV w sv p n s := ⟨h, spB_ok hok⟩
  obtain ⟨ao, c, _, _, rfl, qh⟩ := h.out
  clear qh
  obtain ⟨xa, xc, _, _, rfl, qx⟩ := hxi.out
  clear qx
  have BX := Lib.hid (box0 w p ao n c 26)
  have b0 := BX.out.2.2.2
  have BL : Hid (Below w.heap.size w ((w.alloc (.cells #[.int .i64 p, .slice ao n c] 26)).alloc (.cells #[.slice xa n xc] 24))) := b0.alloc b0.size _
  have ht := list1 24 (hxi.below b0)
  rw [show (w.alloc (.cells #[.int .i64 p, .slice ao n c] 26)).heap.size = w.heap.size + 1 by simp] at ht
  have HT := Lib.hid ht
  have bA : Below (w.alloc (.cells #[.int .i64 p, .slice ao n c] 26)).heap.size (w.alloc (.cells #[.int .i64 p, .slice ao n c] 26)) ((w.alloc (.cells #[.int .i64 p, .slice ao n c] 26)).alloc (.cells #[.slice xa n xc] 24)) := (Below.refl _ _).alloc (Nat.le_refl _) _
  have BXA := Lib.hid (boxKeep bA BX.out)
  obtain ⟨e0, e1, e2, e3⟩ := BX.out
  have h0 : codeSv (spB p n s) p n 1 (fun _ => n) (fun _ => X) = 0 := by
    unfold codeSv
    rw [hok, if_pos rfl]
    have : anyB (fun i => !vecB p n n X) 1 = false := anyB_none fun j hj => by
      have : vecB p n n X = true := by
        rw [vecB_eq rfl]
        exact inPB_true fun i hi => decide_eq_true (by have := hx.inp i hi; omega)
      rw [this]; rfl
    rw [this]; rfl
  have HC := Lib.hid h0
  have HV : Hid (∀ W, Below w.heap.size w W → SV W (.slice ao n c) p n s) := fun W hb => hv.below hb
  have HX : Hid (∀ W, Below w.heap.size w W → Vc W (.slice xa n xc) p n X) := fun W hb => hx.below hb
  clear h hx hxi hv bA h0 ht
  go_enter Try.func20, Try.ntmps20
  go_wp2_with fail
  go_at_call 63
  refine Calls.makes' (iCkV_c p _ _ n 1 s _ _ _ (HV.out _ BL.out).ints HT.out) _ fun w1 hb1 => ?_
  rw [HC.out]
  obtain ⟨f0, f1, f2, f3⟩ := boxKeep hb1 BXA.out
  clear e0 e1 e2 e3
  go_wp2_with fail
  go_at_call 73
  refine Calls.makes' (iSNorm_c p _ _ n s X _ (HV.out _ f3) (HX.out _ f3)) _ fun w2 hb2 => ?_
  have b4 : Below w.heap.size w w2 := f3.trans (hb2.mono f3.size)
  go_wp2
  go_ret2
  exact ⟨rfl, b4⟩

end Go.Proofs.Ytnkflgigbielgaa
