/-
  Small functions of a doubling: DoubleTimes, DoubleNorm, NormDiagonal, what kind it is. No condition beside sizes.
-/
import Derived.Test.YtnnacligfoonbaaD22
import Derived.Test.YtnnacligfoonbaaD24
import Derived.Test.YtnnacligfoonbaaD40
import Derived.Test.YtnnacligfoonbaaD31
set_option linter.unusedVariables false
set_option linter.unusedSimpArgs false
namespace Go.Proofs.Ytnnacligfoonbaa
open Go.RowKit

set_option maxRecDepth 100000 in
set_option maxHeartbeats 1000000 in
theorem iDoubleTimes_c (p : Int) (sv : Value) (n : Nat) (s : Nat → Int) (xv : Value) (nx : Nat) (X : Nat → Int) (yv : Value) (ny : Nat) (Y : Nat → Int) (w : World)
    (h : Ints w sv n s) (hx : Ints w xv nx X) (hy : Ints w yv ny Y) :
    Calls Try.prog 33 #[dbl p sv, xv, yv] w fun e w' => ResC w w' e (codeE (dblB p n s) p n 2 (pick3 nx ny ny) (pick3 X Y Y)) n (mulF p s n X Y) := by
  have h' := h
  obtain ⟨ao, c, _, _, rfl, qh⟩ := h.out
  clear qh
  obtain ⟨xa, xc, _, _, rfl, qx⟩ := hx.out
  clear qx
  obtain ⟨ya, yc, _, _, rfl, qy⟩ := hy.out
  clear qy
  have BX := Lib.hid (box0 w p ao n c 26)
  have b0 := BX.out.2.2.2
  have BL : Hid (Below w.heap.size w ((w.alloc (.cells #[.int .i64 p, .slice ao n c] 26)).alloc (.cells #[.slice xa nx xc, .slice ya ny yc] 24))) := b0.alloc b0.size _
  have ht := list2 24 (hx.below b0) (hy.below b0)
  rw [show (w.alloc (.cells #[.int .i64 p, .slice ao n c] 26)).heap.size = w.heap.size + 1 by simp] at ht
  have HT := Lib.hid ht
  clear ht
  have bA : Below (w.alloc (.cells #[.int .i64 p, .slice ao n c] 26)).heap.size (w.alloc (.cells #[.int .i64 p, .slice ao n c] 26)) ((w.alloc (.cells #[.int .i64 p, .slice ao n c] 26)).alloc (.cells #[.slice xa nx xc, .slice ya ny yc] 24)) := (Below.refl _ _).alloc (Nat.le_refl _) _
  have BXA := Lib.hid (boxKeep bA BX.out)
  obtain ⟨e0, e1, e2, e3⟩ := BX.out
  obtain ⟨cc, hcc⟩ : ∃ cc, codeE (dblB p n s) p n 2 (pick3 nx ny ny) (pick3 X Y Y) = cc := ⟨_, rfl⟩
  by_cases h0 : cc = 0
  · obtain ⟨hok, hel⟩ := codeE_zero (hcc.trans h0)
    have hv := dv_of h' hok
    obtain ⟨l0, x0⟩ := elemB_el hx (hel 0 (by omega))
    obtain ⟨l1, y0⟩ := elemB_el hy (hel 1 (by omega))
    have HV : Hid (∀ W, Below w.heap.size w W → DV W (.slice ao n c) p n s) := fun W hb => hv.below hb
    have HX : Hid (∀ W, Below w.heap.size w W → El W (.slice xa nx xc) p n X) := fun W hb => x0.below hb
    have HY : Hid (∀ W, Below w.heap.size w W → El W (.slice ya ny yc) p n Y) := fun W hb => y0.below hb
    have HOK := Lib.hid hok
    have HC := Lib.hid hcc
    have H' := Lib.hid h'
    obtain ⟨_, hp1, hp2, hn4, _⟩ := hv
    have hp16 := pow_le hn4
    clear h hx hy x0 y0 hel bA h' l0 l1 hok
    subst h0
    go_enter Try.func33, Try.ntmps33
    go_wp2_with fail
    go_at_call 83
    refine Calls.makes' (iCheckE_c p _ _ n 2 s _ _ _ (H'.out.below BL.out) HT.out) _ fun w1 hb1 => ?_
    rw [HC.out]
    obtain ⟨f0, f1, f2, f3⟩ := boxKeep hb1 BXA.out
    clear e0 e1 e2 e3
    go_wp2_with fail
    go_at_call 91
    refine (iTimes_c p _ _ _ n s X Y _ (HV.out _ f3) (HX.out _ f3) (HY.out _ f3)).mono ?_
    rintro e w4 ⟨g4, c4, rfl, hg4, hb4, hO4, hE4⟩
    have b4 : Below w.heap.size w w4 := f3.trans (hb4.mono f3.size)
    go_wp2
    go_ret2
    exact ⟨b4, Or.inl ⟨HC.out, g4, c4, rfl, by have := f3.size; omega, hO4⟩⟩
  · have HC := Lib.hid hcc
    have H' := Lib.hid h'
    have hne : (cc != 0) = true := by rw [bne_iff_ne]; exact h0
    clear h hx hy bA h'
    go_enter Try.func33, Try.ntmps33
    go_wp2_with fail
    go_at_call 83
    refine Calls.makes' (iCheckE_c p _ _ n 2 s _ _ _ (H'.out.below BL.out) HT.out) _ fun w1 hb1 => ?_
    rw [HC.out]
    go_wp2
    go_ret2
    exact ⟨BL.out.trans (hb1.mono BL.out.size), Or.inr ⟨by rw [HC.out]; exact h0, by rw [HC.out]; rfl⟩⟩

set_option maxRecDepth 100000 in
set_option maxHeartbeats 1000000 in
theorem sDoubleTimes_c (p : Int) (sv : Value) (n : Nat) (s : Nat → Int) (xv : Value) (nx : Nat) (X : Nat → Int) (yv : Value) (ny : Nat) (Y : Nat → Int) (w : World)
    (h : Ints w sv n s) (hx : Ints w xv nx X) (hy : Ints w yv ny Y) :
    Calls Try.prog 34 #[dbl p sv, xv, yv] w fun e w' => ResC w w' e (codeE (dblB p n s) p n 2 (pick3 nx ny ny) (pick3 X Y Y)) n (mulF p s n X Y) := by
  have h' := h
  obtain ⟨ao, c, _, _, rfl, qh⟩ := h.out
  clear qh
  obtain ⟨xa, xc, _, _, rfl, qx⟩ := hx.out
  clear qx
  obtain ⟨ya, yc, _, _, rfl, qy⟩ := hy.out
  clear qy
  have BX := Lib.hid (box0 w p ao n c 26)
  have b0 := BX.out.2.2.2
  have BL : Hid (Below w.heap.size w ((w.alloc (.cells #[.int .i64 p, .slice ao n c] 26)).alloc (.cells #[.slice xa nx xc, .slice ya ny yc] 24))) := b0.alloc b0.size _
  have ht := list2 24 (hx.below b0) (hy.below b0)
  rw [show (w.alloc (.cells #[.int .i64 p, .slice ao n c] 26)).heap.size = w.heap.size + 1 by simp] at ht
  have HT := Lib.hid ht
  clear ht
  have bA : Below (w.alloc (.cells #[.int .i64 p, .slice ao n c] 26)).heap.size (w.alloc (.cells #[.int .i64 p, .slice ao n c] 26)) ((w.alloc (.cells #[.int .i64 p, .slice ao n c] 26)).alloc (.cells #[.slice xa nx xc, .slice ya ny yc] 24)) := (Below.refl _ _).alloc (Nat.le_refl _) _
  have BXA := Lib.hid (boxKeep bA BX.out)
  obtain ⟨e0, e1, e2, e3⟩ := BX.out
  obtain ⟨cc, hcc⟩ : ∃ cc, codeE (dblB p n s) p n 2 (pick3 nx ny ny) (pick3 X Y Y) = cc := ⟨_, rfl⟩
  by_cases h0 : cc = 0
  · obtain ⟨hok, hel⟩ := codeE_zero (hcc.trans h0)
    have hv := dv_of h' hok
    obtain ⟨l0, x0⟩ := elemB_el hx (hel 0 (by omega))
    obtain ⟨l1, y0⟩ := elemB_el hy (hel 1 (by omega))
    have HV : Hid (∀ W, Below w.heap.size w W → DV W (.slice ao n c) p n s) := fun W hb => hv.below hb
    have HX : Hid (∀ W, Below w.heap.size w W → El W (.slice xa nx xc) p n X) := fun W hb => x0.below hb
    have HY : Hid (∀ W, Below w.heap.size w W → El W (.slice ya ny yc) p n Y) := fun W hb => y0.below hb
    have HOK := Lib.hid hok
    have HC := Lib.hid hcc
    have H' := Lib.hid h'
    obtain ⟨_, hp1, hp2, hn4, _⟩ := hv
    have hp16 := pow_le hn4
    clear h hx hy x0 y0 hel bA h' l0 l1 hok
    subst h0
    go_enter Try.func34, Try.ntmps34
    go_wp2_with fail
    go_at_call 92
    refine Calls.makes' (sCode_c p _ _ n 2 s _ _ _ (H'.out.below BL.out) HT.out) _ fun w1 hb1 => ?_
    rw [HC.out]
    obtain ⟨f0, f1, f2, f3⟩ := boxKeep hb1 BXA.out
    clear e0 e1 e2 e3
    go_wp2_with fail
    go_at_call 93
    refine (sTimes_c p _ _ _ n s X Y _ (HV.out _ f3) (HX.out _ f3) (HY.out _ f3)).mono ?_
    rintro e w4 ⟨g4, c4, rfl, hg4, hb4, hO4, hE4⟩
    have b4 : Below w.heap.size w w4 := f3.trans (hb4.mono f3.size)
    go_wp2
    go_ret2
    exact ⟨b4, Or.inl ⟨HC.out, g4, c4, rfl, by have := f3.size; omega, hO4⟩⟩
  · have HC := Lib.hid hcc
    have H' := Lib.hid h'
    have hne : (cc != 0) = true := by rw [bne_iff_ne]; exact h0
    clear h hx hy bA h'
    go_enter Try.func34, Try.ntmps34
    go_wp2_with fail
    go_at_call 92
    refine Calls.makes' (sCode_c p _ _ n 2 s _ _ _ (H'.out.below BL.out) HT.out) _ fun w1 hb1 => ?_
    rw [HC.out]
    go_wp2
    go_ret2
    exact ⟨BL.out.trans (hb1.mono BL.out.size), Or.inr ⟨by rw [HC.out]; exact h0, by rw [HC.out]; rfl⟩⟩


theorem codeE_ok {p : Int} {n m : Nat} {s : Nat → Int} {T : Nat → Nat → Int} (hok : dblB p n s = true) (h : ∀ i, i < m → InP p (2 ^ n) (T i)) : codeE (dblB p n s) p n m (fun _ => 2 ^ n) T = 0 := by
  unfold codeE
  rw [hok, if_pos rfl, if_neg]
  rw [anyB_none fun j hj => by
    rw [elemB_eq rfl]
    simp only [Bool.not_eq_false']
    exact decide_eq_true fun i hi => by have := h j hj i hi; omega]
  decide
theorem codeE_no {p : Int} {n m : Nat} {s : Nat → Int} {L : Nat → Nat} {T : Nat → Nat → Int} (hok : dblB p n s = false) : codeE (dblB p n s) p n m L T = 1 := by
  unfold codeE; rw [hok]; rfl

set_option maxRecDepth 100000 in
set_option maxHeartbeats 1000000 in
theorem vNorm_c (p : Int) (sv : Value) (n : Nat) (s : Nat → Int) (xv : Value) (X : Nat → Int) (w : World) (hok : dblB p n s = true) (h : Ints w sv n s) (hx : El w xv p n X) :
    Calls Try.prog 17 #[dbl p sv, xv] w fun e w' => Makes w w' e (.tuple #[.int .i64 (normF p s n X), .int .i64 0]) := by
  have hv := dv_of h hok
  have h' := h
  obtain ⟨ao, c, _, _, rfl, qh⟩ := h.out
  clear qh
  have hxi := hx.ints
  obtain ⟨xa, xc, _, _, rfl, qx⟩ := hxi.out
  clear qx
  have BX := Lib.hid (box0 w p ao n c 26)
  have b0 := BX.out.2.2.2
  have BL : Hid (Below w.heap.size w ((w.alloc (.cells #[.int .i64 p, .slice ao n c] 26)).alloc (.cells #[.slice xa (2 ^ n) xc] 24))) := b0.alloc b0.size _
  have ht := list1 24 (hxi.below b0)
  rw [show (w.alloc (.cells #[.int .i64 p, .slice ao n c] 26)).heap.size = w.heap.size + 1 by simp] at ht
  have HT := Lib.hid ht
  clear ht
  have bA : Below (w.alloc (.cells #[.int .i64 p, .slice ao n c] 26)).heap.size (w.alloc (.cells #[.int .i64 p, .slice ao n c] 26)) ((w.alloc (.cells #[.int .i64 p, .slice ao n c] 26)).alloc (.cells #[.slice xa (2 ^ n) xc] 24)) := (Below.refl _ _).alloc (Nat.le_refl _) _
  have BXA := Lib.hid (boxKeep bA BX.out)
  obtain ⟨e0, e1, e2, e3⟩ := BX.out
  have HV : Hid (∀ W, Below w.heap.size w W → DV W (.slice ao n c) p n s) := fun W hb => hv.below hb
  have HX : Hid (∀ W, Below w.heap.size w W → El W (.slice xa (2 ^ n) xc) p n X) := fun W hb => hx.below hb
  have HC := Lib.hid (codeE_ok (m := 1) (T := fun _ => X) hok (fun i _ => hx.inp))
  have H' := Lib.hid h'
  have hpb := primeB_bd (dblB_ok hok).prime
  have hM0 : 0 < 2 ^ n := Nat.pos_of_ne_zero (by simp)
  have hp16 := pow_le hv.le
  have hin := Lib.hid hx.inp
  clear h hx bA h' hok hv hxi
  obtain ⟨a1, q1⟩ : ∃ a, normF p s n X = a := ⟨_, rfl⟩
  have C1 : Hid (∀ W, Below w.heap.size w W → Calls Try.prog 84 #[dbl p (.slice ao n c), .slice xa (2 ^ n) xc] W fun e w' => Makes W w' e (.int .i64 a1)) := fun W hb => q1 ▸ iNorm_c p _ _ n s X W (HV.out _ hb) (HX.out _ hb)
  rw [q1]
  clear q1
  go_enter Try.func17, Try.ntmps17
  go_wp2_with fail
  go_at_call 83
  refine Calls.makes' (iCheckE_c p _ _ n 1 s _ _ _ (H'.out.below BL.out) HT.out) _ fun w1 hb1 => ?_
  rw [HC.out]
  obtain ⟨f0, f1, f2, f3⟩ := boxKeep hb1 BXA.out
  clear e0 e1 e2 e3
  go_wp2_with fail
  refine Calls.makes' (C1.out w1 f3) _ fun w2 hb2 => ?_
  have b4 := f3.trans (hb2.mono f3.size)
  go_wp2
  go_ret2
  exact ⟨rfl, b4⟩

set_option maxRecDepth 100000 in
set_option maxHeartbeats 1000000 in
theorem vTrace_c (p : Int) (sv : Value) (n : Nat) (s : Nat → Int) (xv : Value) (X : Nat → Int) (w : World) (hok : dblB p n s = true) (h : Ints w sv n s) (hx : El w xv p n X) :
    Calls Try.prog 38 #[dbl p sv, xv] w fun e w' => Makes w w' e (.tuple #[.int .i64 ((2 * X 0) % p), .int .i64 0]) := by
  have hv := dv_of h hok
  have h' := h
  obtain ⟨ao, c, _, _, rfl, qh⟩ := h.out
  clear qh
  have hxi := hx.ints
  obtain ⟨xa, xc, _, _, rfl, qx⟩ := hxi.out
  clear qx
  have BX := Lib.hid (box0 w p ao n c 26)
  have b0 := BX.out.2.2.2
  have BL : Hid (Below w.heap.size w ((w.alloc (.cells #[.int .i64 p, .slice ao n c] 26)).alloc (.cells #[.slice xa (2 ^ n) xc] 24))) := b0.alloc b0.size _
  have ht := list1 24 (hxi.below b0)
  rw [show (w.alloc (.cells #[.int .i64 p, .slice ao n c] 26)).heap.size = w.heap.size + 1 by simp] at ht
  have HT := Lib.hid ht
  clear ht
  have bA : Below (w.alloc (.cells #[.int .i64 p, .slice ao n c] 26)).heap.size (w.alloc (.cells #[.int .i64 p, .slice ao n c] 26)) ((w.alloc (.cells #[.int .i64 p, .slice ao n c] 26)).alloc (.cells #[.slice xa (2 ^ n) xc] 24)) := (Below.refl _ _).alloc (Nat.le_refl _) _
  have BXA := Lib.hid (boxKeep bA BX.out)
  obtain ⟨e0, e1, e2, e3⟩ := BX.out
  have HV : Hid (∀ W, Below w.heap.size w W → DV W (.slice ao n c) p n s) := fun W hb => hv.below hb
  have HX : Hid (∀ W, Below w.heap.size w W → El W (.slice xa (2 ^ n) xc) p n X) := fun W hb => hx.below hb
  have HC := Lib.hid (codeE_ok (m := 1) (T := fun _ => X) hok (fun i _ => hx.inp))
  have H' := Lib.hid h'
  have hpb := primeB_bd (dblB_ok hok).prime
  have hM0 : 0 < 2 ^ n := Nat.pos_of_ne_zero (by simp)
  have hp16 := pow_le hv.le
  have hin := Lib.hid hx.inp
  clear h hx bA h' hok hv hxi
  obtain ⟨a1, q1⟩ : ∃ a, (2 * X 0) % p = a := ⟨_, rfl⟩
  have C1 : Hid (∀ W, Below w.heap.size w W → Calls Try.prog 98 #[dbl p (.slice ao n c), .slice xa (2 ^ n) xc] W fun e w' => Makes W w' e (.int .i64 a1)) := fun W hb => q1 ▸ iTrace_c p _ _ n s X W (HV.out _ hb) (HX.out _ hb)
  rw [q1]
  clear q1
  go_enter Try.func38, Try.ntmps38
  go_wp2_with fail
  go_at_call 83
  refine Calls.makes' (iCheckE_c p _ _ n 1 s _ _ _ (H'.out.below BL.out) HT.out) _ fun w1 hb1 => ?_
  rw [HC.out]
  obtain ⟨f0, f1, f2, f3⟩ := boxKeep hb1 BXA.out
  clear e0 e1 e2 e3
  go_wp2_with fail
  refine Calls.makes' (C1.out w1 f3) _ fun w2 hb2 => ?_
  have b4 := f3.trans (hb2.mono f3.size)
  go_wp2
  go_ret2
  exact ⟨rfl, b4⟩

set_option maxRecDepth 100000 in
set_option maxHeartbeats 1000000 in
theorem vConj_c (p : Int) (sv : Value) (n : Nat) (s : Nat → Int) (xv : Value) (X : Nat → Int) (w : World) (hok : dblB p n s = true) (h : Ints w sv n s) (hx : El w xv p n X) :
    Calls Try.prog 37 #[dbl p sv, xv] w fun e w' => ∃ g c, e = .returned (.tuple #[.slice (some ⟨g, 0, none⟩) (2 ^ n) c, .int .i64 0]) ∧ Below w.heap.size w w' ∧ El w' (.slice (some ⟨g, 0, none⟩) (2 ^ n) c) p n (conjF p X) := by
  have hv := dv_of h hok
  have h' := h
  obtain ⟨ao, c, _, _, rfl, qh⟩ := h.out
  clear qh
  have hxi := hx.ints
  obtain ⟨xa, xc, _, _, rfl, qx⟩ := hxi.out
  clear qx
  have BX := Lib.hid (box0 w p ao n c 26)
  have b0 := BX.out.2.2.2
  have BL : Hid (Below w.heap.size w ((w.alloc (.cells #[.int .i64 p, .slice ao n c] 26)).alloc (.cells #[.slice xa (2 ^ n) xc] 24))) := b0.alloc b0.size _
  have ht := list1 24 (hxi.below b0)
  rw [show (w.alloc (.cells #[.int .i64 p, .slice ao n c] 26)).heap.size = w.heap.size + 1 by simp] at ht
  have HT := Lib.hid ht
  clear ht
  have bA : Below (w.alloc (.cells #[.int .i64 p, .slice ao n c] 26)).heap.size (w.alloc (.cells #[.int .i64 p, .slice ao n c] 26)) ((w.alloc (.cells #[.int .i64 p, .slice ao n c] 26)).alloc (.cells #[.slice xa (2 ^ n) xc] 24)) := (Below.refl _ _).alloc (Nat.le_refl _) _
  have BXA := Lib.hid (boxKeep bA BX.out)
  obtain ⟨e0, e1, e2, e3⟩ := BX.out
  have HV : Hid (∀ W, Below w.heap.size w W → DV W (.slice ao n c) p n s) := fun W hb => hv.below hb
  have HX : Hid (∀ W, Below w.heap.size w W → El W (.slice xa (2 ^ n) xc) p n X) := fun W hb => hx.below hb
  have HC := Lib.hid (codeE_ok (m := 1) (T := fun _ => X) hok (fun i _ => hx.inp))
  have H' := Lib.hid h'
  have hpb := primeB_bd (dblB_ok hok).prime
  have hM0 : 0 < 2 ^ n := Nat.pos_of_ne_zero (by simp)
  have hp16 := pow_le hv.le
  have hin := Lib.hid hx.inp
  clear h hx bA h' hok hv hxi
  go_enter Try.func37, Try.ntmps37
  go_wp2_with fail
  go_at_call 83
  refine Calls.makes' (iCheckE_c p _ _ n 1 s _ _ _ (H'.out.below BL.out) HT.out) _ fun w1 hb1 => ?_
  rw [HC.out]
  obtain ⟨f0, f1, f2, f3⟩ := boxKeep hb1 BXA.out
  clear e0 e1 e2 e3
  go_wp2_with fail
  refine Calls.makes' (iField_c _ _ _) _ fun w2 hb2 => ?_
  have f : BoxD w p ao n c w2 := boxKeep hb2 ⟨f0, f1, f2, f3⟩
  clear f0 f1 f2 f3 hb2
  obtain ⟨f0, f1, f2, f3⟩ := f
  go_wp2_with fail
  refine (iConj_c _ _ _ _ _ (HX.out _ f3).ints hM0 (by omega) (by omega) (by omega) ((HX.out _ f3).inp.sm (by omega))).mono ?_
  rintro e w3 ⟨g3, c3, rfl, hg3, hb3, hO3⟩
  have b4 := f3.trans (hb3.mono f3.size)
  go_wp2
  go_ret2
  exact ⟨g3, c3, rfl, b4, hO3.ints, conjF_in (by omega) hin.out⟩

set_option maxRecDepth 100000 in
set_option maxHeartbeats 1000000 in
theorem times9_c (p : Int) (sv : Value) (n : Nat) (s : Nat → Int) (xv yv : Value) (X Y : Nat → Int) (w : World) (hok : dblB p n s = true) (h : Ints w sv n s) (hx : El w xv p n X) (hy : El w yv p n Y) :
    Calls Try.prog 30 #[dbl p sv, xv, yv] w fun e w' => ∃ g c, e = .returned (.slice (some ⟨g, 0, none⟩) (2 ^ n) c) ∧ Below w.heap.size w w' ∧ El w' (.slice (some ⟨g, 0, none⟩) (2 ^ n) c) p n (mulF p s n X Y) := by
  obtain ⟨ao, c, _, _, rfl, qh⟩ := h.out
  clear qh
  obtain ⟨e0, e1, e2, e3⟩ := box0 w p ao n c 26
  have hpb := primeB_bd (dblB_ok hok).prime
  have hc : Hid (Calls Try.prog 33 #[dbl p (.slice ao n c), xv, yv] (w.alloc (.cells #[.int .i64 p, .slice ao n c] 26)) fun e w' => ∃ g cc, e = .returned (.tuple #[.slice (some ⟨g, 0, none⟩) (2 ^ n) cc, .int .i64 0]) ∧ Below w.heap.size w w' ∧ El w' (.slice (some ⟨g, 0, none⟩) (2 ^ n) cc) p n (mulF p s n X Y)) := by
    refine (iDoubleTimes_c p _ n s xv (2 ^ n) X yv (2 ^ n) Y _ (h.below e3) (hx.ints.below e3) (hy.ints.below e3)).mono ?_
    rintro e w' ⟨hb, hr⟩
    have h0 : codeE (dblB p n s) p n 2 (pick3 (2 ^ n) (2 ^ n) (2 ^ n)) (pick3 X Y Y) = 0 := by
      have e : pick3 (2 ^ n) (2 ^ n) (2 ^ n) = fun _ => 2 ^ n := by funext i; simp [pick3]
      rw [e]
      refine codeE_ok hok fun i hi => ?_
      have hi' : i = 0 ∨ i = 1 := by omega
      rcases hi' with rfl | rfl
      · exact hx.inp
      · exact hy.inp
    rcases hr with ⟨_, g, cc, rfl, _, hO⟩ | ⟨h1, _⟩
    · exact ⟨g, cc, rfl, e3.trans (hb.mono e3.size), hO.ints, mulF_in (by omega) s n X Y _⟩
    · exact absurd h0 h1
  clear h hx hy hok e3
  go_enter Try.func30, Try.ntmps30
  go_wp2_with fail
  refine hc.out.mono ?_
  rintro e w1 ⟨g, cc, rfl, hb, hE⟩
  go_wp2
  go_ret
  exact ⟨g, cc, rfl, hb, hE⟩

set_option maxRecDepth 100000 in
set_option maxHeartbeats 1000000 in
theorem iNormDiagonal_c (p : Int) (sv : Value) (n : Nat) (s : Nat → Int) (w : World) (h : Ints w sv n s) :
    Calls Try.prog 22 #[dbl p sv] w fun e w' => ResC w w' e (if dblB p n s then 0 else 1) n (dgF p s n) := by
  have h' := Lib.hid h
  obtain ⟨ao, c, _, _, rfl, qh⟩ := h.out
  clear qh
  obtain ⟨e0, e1, e2, e3⟩ := box0 w p ao n c 26
  have BX := Lib.hid (box0 w p ao n c 26)
  cases hok : dblB p n s
  · go_enter Try.func22, Try.ntmps22
    go_wp2_with fail
    go_at_call 35
    refine Calls.makes' (iIsDbl_c _ _ _ _ _ (h'.out.below e3)) _ fun w1 hb1 => ?_
    rw [hok]
    go_wp2
    go_ret2
    exact ⟨e3.trans (hb1.mono e3.size), Or.inr ⟨by simp, rfl⟩⟩
  · have hv := Lib.hid (dv_of h hok)
    have hst := Lib.hid (dblB_ok hok).step
    have hpb := primeB_bd (dblB_ok hok).prime
    have hn4 := (dblB_ok hok).le
    go_enter Try.func22, Try.ntmps22
    go_wp2_with fail
    go_at_call 35
    refine Calls.makes' (iIsDbl_c _ _ _ _ _ (h'.out.below e3)) _ fun w1 hb1 => ?_
    rw [hok]
    obtain ⟨f0, f1, f2, f3⟩ := boxKeep hb1 BX.out
    clear e0 e1 e2 e3
    go_wp2_with fail
    go_at_call 79
    refine (iDiag_c p _ n s _ (hv.out.below f3) (by omega)).mono ?_
    rintro e w4 ⟨g4, c4, rfl, hg4, hb4, hO4⟩
    have b4 : Below w.heap.size w w4 := f3.trans (hb4.mono f3.size)
    have g5 : w.heap.size ≤ g4 := Nat.le_trans f3.size hg4
    go_wp2
    go_ret2
    exact ⟨b4, Or.inl ⟨by simp, g4, c4, rfl, g5, hO4⟩⟩

set_option maxRecDepth 100000 in
set_option maxHeartbeats 1000000 in
theorem sNormDiagonal_c (p : Int) (sv : Value) (n : Nat) (s : Nat → Int) (w : World) (h : Ints w sv n s) :
    Calls Try.prog 23 #[dbl p sv] w fun e w' => ResC w w' e (if dblB p n s then 0 else 1) n (dgF p s n) := by
  have h' := Lib.hid h
  obtain ⟨ao, c, _, _, rfl, qh⟩ := h.out
  clear qh
  obtain ⟨e0, e1, e2, e3⟩ := box0 w p ao n c 26
  have BX := Lib.hid (box0 w p ao n c 26)
  cases hok : dblB p n s
  · go_enter Try.func23, Try.ntmps23
    go_wp2_with fail
    go_at_call 75
    refine Calls.makes' (sIsDbl_c _ _ _ _ _ (h'.out.below e3)) _ fun w1 hb1 => ?_
    rw [hok]
    go_wp2
    go_ret2
    exact ⟨e3.trans (hb1.mono e3.size), Or.inr ⟨by simp, rfl⟩⟩
  · have hv := Lib.hid (dv_of h hok)
    have hst := Lib.hid (dblB_ok hok).step
    have hpb := primeB_bd (dblB_ok hok).prime
    have hn4 := (dblB_ok hok).le
    go_enter Try.func23, Try.ntmps23
    go_wp2_with fail
    go_at_call 75
    refine Calls.makes' (sIsDbl_c _ _ _ _ _ (h'.out.below e3)) _ fun w1 hb1 => ?_
    rw [hok]
    obtain ⟨f0, f1, f2, f3⟩ := boxKeep hb1 BX.out
    clear e0 e1 e2 e3
    go_wp2_with fail
    go_at_call 78
    refine (sDiag_c p _ n s _ (hv.out.below f3) (by omega) hst.out).mono ?_
    rintro e w4 ⟨g4, c4, rfl, hg4, hb4, hO4⟩
    have b4 : Below w.heap.size w w4 := f3.trans (hb4.mono f3.size)
    have g5 : w.heap.size ≤ g4 := Nat.le_trans f3.size hg4
    go_wp2
    go_ret2
    exact ⟨b4, Or.inl ⟨by simp, g4, c4, rfl, g5, hO4⟩⟩

set_option maxRecDepth 100000 in
set_option maxHeartbeats 1000000 in
theorem vSize_c (p : Int) (sv : Value) (n : Nat) (s : Nat → Int) (w : World) (hok : dblB p n s = true) (h : Ints w sv n s) :
    Calls Try.prog 24 #[dbl p sv] w fun e w' => Makes w w' e (.tuple #[.int .i64 ((2 ^ n : Nat) : Int), .int .i64 0]) := by
  have h' := Lib.hid h
  obtain ⟨ao, c, _, _, rfl, qh⟩ := h.out
  clear qh
  obtain ⟨e0, e1, e2, e3⟩ := box0 w p ao n c 26
  have BX := Lib.hid (box0 w p ao n c 26)
  have hn4 := (dblB_ok hok).le
  obtain ⟨M, hM⟩ : ∃ M, 2 ^ n = M := ⟨_, rfl⟩
  have hsz := fun W => hM ▸ iSize_c p ao n c W hn4
  rw [hM]
  have HS := Lib.hid hsz
  clear hsz hM h
  go_enter Try.func24, Try.ntmps24
  go_wp2_with fail
  go_at_call 35
  refine Calls.makes' (iIsDbl_c _ _ _ _ _ (h'.out.below e3)) _ fun w1 hb1 => ?_
  rw [hok]
  obtain ⟨f0, f1, f2, f3⟩ := boxKeep hb1 BX.out
  clear e0 e1 e2 e3
  go_wp2_with fail
  refine Calls.makes' (HS.out _) _ fun w2 hb2 => ?_
  have b4 := f3.trans (hb2.mono f3.size)
  go_wp2
  go_ret2
  exact ⟨rfl, b4⟩

set_option maxRecDepth 100000 in
set_option maxHeartbeats 1000000 in
theorem vAtMost_c (p : Int) (sv : Value) (n : Nat) (s : Nat → Int) (k : Nat) (w : World) (hok : dblB p n s = true) (h : Ints w sv n s) :
    Calls Try.prog 89 #[dbl p sv, .int .i64 k] w fun e w' => Makes w w' e (.tuple #[.bool (decide (n ≤ k)), .int .i64 0]) := by
  have h' := Lib.hid h
  obtain ⟨ao, c, _, _, rfl, qh⟩ := h.out
  clear qh
  obtain ⟨e0, e1, e2, e3⟩ := box0 w p ao n c 26
  have BX := Lib.hid (box0 w p ao n c 26)
  clear h
  go_enter Try.func89, Try.ntmps89
  go_wp2_with fail
  go_at_call 35
  refine Calls.makes' (iIsDbl_c _ _ _ _ _ (h'.out.below e3)) _ fun w1 hb1 => ?_
  rw [hok]
  obtain ⟨f0, f1, f2, f3⟩ := boxKeep hb1 BX.out
  clear e0 e1 e2 e3
  have hd : decide ((n : Int) ≤ (k : Int)) = decide (n ≤ k) := by simp
  go_wp2
  go_ret2
  exact ⟨by first | rfl | simp, f3⟩

set_option maxRecDepth 100000 in
set_option maxHeartbeats 1000000 in
theorem vComm_c (p : Int) (sv : Value) (n : Nat) (s : Nat → Int) (w : World) (hok : dblB p n s = true) (h : Ints w sv n s) :
    Calls Try.prog 25 #[dbl p sv] w fun e w' => Makes w w' e (.tuple #[.bool (decide (n ≤ 1)), .int .i64 0]) := by
  have h' := h
  obtain ⟨ao, c, _, _, rfl, qh⟩ := h.out
  clear qh
  obtain ⟨e0, e1, e2, e3⟩ := box0 w p ao n c 26
  have HC := Lib.hid (vAtMost_c p _ n s 1 _ hok (h'.below e3))
  have E3 := Lib.hid e3
  clear h h' e3
  go_enter Try.func25, Try.ntmps25
  go_wp2_with fail
  refine Calls.makes' HC.out _ fun w1 hb1 => ?_
  have b4 := E3.out.trans (hb1.mono E3.out.size)
  go_wp2
  go_ret2
  exact ⟨rfl, b4⟩

set_option maxRecDepth 100000 in
set_option maxHeartbeats 1000000 in
theorem vAssoc_c (p : Int) (sv : Value) (n : Nat) (s : Nat → Int) (w : World) (hok : dblB p n s = true) (h : Ints w sv n s) :
    Calls Try.prog 26 #[dbl p sv] w fun e w' => Makes w w' e (.tuple #[.bool (decide (n ≤ 2)), .int .i64 0]) := by
  have h' := h
  obtain ⟨ao, c, _, _, rfl, qh⟩ := h.out
  clear qh
  obtain ⟨e0, e1, e2, e3⟩ := box0 w p ao n c 26
  have HC := Lib.hid (vAtMost_c p _ n s 2 _ hok (h'.below e3))
  have E3 := Lib.hid e3
  clear h h' e3
  go_enter Try.func26, Try.ntmps26
  go_wp2_with fail
  refine Calls.makes' HC.out _ fun w1 hb1 => ?_
  have b4 := E3.out.trans (hb1.mono E3.out.size)
  go_wp2
  go_ret2
  exact ⟨rfl, b4⟩

set_option maxRecDepth 100000 in
set_option maxHeartbeats 1000000 in
theorem vAlt_c (p : Int) (sv : Value) (n : Nat) (s : Nat → Int) (w : World) (hok : dblB p n s = true) (h : Ints w sv n s) :
    Calls Try.prog 27 #[dbl p sv] w fun e w' => Makes w w' e (.tuple #[.bool (decide (n ≤ 3)), .int .i64 0]) := by
  have h' := h
  obtain ⟨ao, c, _, _, rfl, qh⟩ := h.out
  clear qh
  obtain ⟨e0, e1, e2, e3⟩ := box0 w p ao n c 26
  have HC := Lib.hid (vAtMost_c p _ n s 3 _ hok (h'.below e3))
  have E3 := Lib.hid e3
  clear h h' e3
  go_enter Try.func27, Try.ntmps27
  go_wp2_with fail
  refine Calls.makes' HC.out _ fun w1 hb1 => ?_
  have b4 := E3.out.trans (hb1.mono E3.out.size)
  go_wp2
  go_ret2
  exact ⟨rfl, b4⟩

end Go.Proofs.Ytnnacligfoonbaa
