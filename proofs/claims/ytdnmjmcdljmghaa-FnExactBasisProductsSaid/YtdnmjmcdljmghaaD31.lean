/-
  LeftMatrixOf and RightMatrixOf, in both programs. No condition beside sizes.
-/
import Derived.Test.YtdnmjmcdljmghaaD30
set_option linter.unusedVariables false
set_option linter.unusedSimpArgs false
namespace Go.Proofs.Ytdnmjmcdljmghaa
open Go.RowKit

/-- A result that is a table, or nil and a code. -/
structure ResCT (w w' : World) (e : Ending) (cc : Int) (G : Nat) (L : Nat → Nat) (T : Nat → Nat → Int) : Prop where
  bel : Below w.heap.size w w'
  out : (cc = 0 ∧ ∃ g c, e = .returned (.tuple #[.slice (some ⟨g, 0, none⟩) G c, .int .i64 0]) ∧ OTab w' w.heap.size g c G L T) ∨
    (cc ≠ 0 ∧ e = .returned (.tuple #[.slice none 0 0, .int .i64 cc]))
theorem ResCT.toT {w w' : World} {e : Ending} {cc : Int} {G : Nat} {L : Nat → Nat} {T : Nat → Nat → Int} (h : ResCT w w' e cc G L T) : ResT w w' e cc (if cc = 0 then G else 0) L T := by
  rcases h.out with ⟨h0, g, c, he, hO⟩ | ⟨h0, he⟩
  · subst h0
    exact ⟨some ⟨g, 0, none⟩, c, he, h.bel, hO.ot⟩
  · rw [if_neg h0]
    exact ⟨none, 0, he, h.bel, ⟨Or.inl ⟨rfl, rfl, rfl⟩⟩⟩
theorem sumL_const (M : Nat) : ∀ G, sumL (fun _ => M) G = G * M
  | 0 => by simp [sumL]
  | G + 1 => by rw [sumL, sumL_const M G, Nat.succ_mul]
theorem sqr_le {cc : Int} {n : Nat} (h : cc = 0 → n ≤ 4) : (if cc = 0 then 2 ^ n else 0) ≤ 1048576 ∧ sumL (fun _ => 2 ^ n) (if cc = 0 then 2 ^ n else 0) ≤ 1048576 := by
  by_cases h0 : cc = 0
  · rw [if_pos h0, sumL_const]
    have := pow_le (h h0)
    have h2 := Nat.mul_le_mul this this
    omega
  · rw [if_neg h0]; simp [sumL]
theorem codeE_le {p : Int} {n m : Nat} {s : Nat → Int} {L : Nat → Nat} {T : Nat → Nat → Int} (h : codeE (dblB p n s) p n m L T = 0) : n ≤ 4 := (dblB_ok (codeE_zero h).1).le

set_option maxRecDepth 100000 in
set_option maxHeartbeats 1000000 in
theorem iLeftMatrixOf_c (p : Int) (sv : Value) (n : Nat) (s : Nat → Int) (xv : Value) (nx : Nat) (X : Nat → Int) (w : World)
    (h : Ints w sv n s) (hx : Ints w xv nx X) :
    Calls Try.prog 47 #[dbl p sv, xv] w fun e w' => ResCT w w' e (codeE (dblB p n s) p n 1 (fun _ => nx) (fun _ => X)) (2 ^ n) (fun _ => 2 ^ n) (fun i j => mulF p s n X (dlt j) i) := by
  have h' := h
  obtain ⟨ao, c, _, _, rfl, qh⟩ := h.out
  clear qh
  obtain ⟨xa, xc, _, _, rfl, qx⟩ := hx.out
  clear qx
  have BX := Lib.hid (box0 w p ao n c 28)
  have b0 := BX.out.2.2.2
  have BL : Hid (Below w.heap.size w ((w.alloc (.cells #[.int .i64 p, .slice ao n c] 28)).alloc (.cells #[.slice xa nx xc] 22))) := b0.alloc b0.size _
  have ht := list1 22 (hx.below b0)
  rw [show (w.alloc (.cells #[.int .i64 p, .slice ao n c] 28)).heap.size = w.heap.size + 1 by simp] at ht
  have HT := Lib.hid ht
  clear ht
  have bA : Below (w.alloc (.cells #[.int .i64 p, .slice ao n c] 28)).heap.size (w.alloc (.cells #[.int .i64 p, .slice ao n c] 28)) ((w.alloc (.cells #[.int .i64 p, .slice ao n c] 28)).alloc (.cells #[.slice xa nx xc] 22)) := (Below.refl _ _).alloc (Nat.le_refl _) _
  have BXA := Lib.hid (boxKeep bA BX.out)
  obtain ⟨e0, e1, e2, e3⟩ := BX.out
  obtain ⟨cc, hcc⟩ : ∃ cc, codeE (dblB p n s) p n 1 (fun _ => nx) (fun _ => X) = cc := ⟨_, rfl⟩
  by_cases h0 : cc = 0
  · obtain ⟨hok, hel⟩ := codeE_zero (hcc.trans h0)
    have hv := dv_of h' hok
    obtain ⟨l0, x0⟩ := elemB_el hx (hel 0 (by omega))
    have HV : Hid (∀ W, Below w.heap.size w W → DV W (.slice ao n c) p n s) := fun W hb => hv.below hb
    have HX : Hid (∀ W, Below w.heap.size w W → El W (.slice xa nx xc) p n X) := fun W hb => x0.below hb
    have HOK := Lib.hid hok
    have HC := Lib.hid hcc
    have H' := Lib.hid h'
    obtain ⟨_, hp1, hp2, hn4, _⟩ := hv
    have hp16 := pow_le hn4
    have hpb := primeB_bd (dblB_ok hok).prime
    clear h hx x0 hel bA h' l0 hok
    subst h0
    go_enter Try.func47, Try.ntmps47
    go_wp2_with fail
    go_at_call 58
    refine Calls.makes' (iCheckE_c p _ _ n 1 s _ _ _ (H'.out.below BL.out) HT.out) _ fun w1 hb1 => ?_
    rw [HC.out]
    obtain ⟨f0, f1, f2, f3⟩ := boxKeep hb1 BXA.out
    clear e0 e1 e2 e3
    go_wp2_with fail
    go_at_call 85
    refine (iLeft_c p _ _ n s X _ (HV.out _ f3) (HX.out _ f3) (by omega)).mono ?_
    rintro e w4 ⟨g4, c4, rfl, hb4, hO4⟩
    have b4 : Below w.heap.size w w4 := f3.trans (hb4.mono f3.size)
    go_wp2
    go_ret2
    exact ⟨b4, Or.inl ⟨HC.out, g4, c4, rfl, hO4.mono f3.size⟩⟩
  · have HC := Lib.hid hcc
    have H' := Lib.hid h'
    have hne : (cc != 0) = true := by rw [bne_iff_ne]; exact h0
    clear h hx bA h'
    go_enter Try.func47, Try.ntmps47
    go_wp2_with fail
    go_at_call 58
    refine Calls.makes' (iCheckE_c p _ _ n 1 s _ _ _ (H'.out.below BL.out) HT.out) _ fun w1 hb1 => ?_
    rw [HC.out]
    go_wp2
    go_ret2
    exact ⟨BL.out.trans (hb1.mono BL.out.size), Or.inr ⟨by rw [HC.out]; exact h0, by rw [HC.out]; rfl⟩⟩

set_option maxRecDepth 100000 in
set_option maxHeartbeats 1000000 in
theorem sLeftMatrixOf_c (p : Int) (sv : Value) (n : Nat) (s : Nat → Int) (xv : Value) (nx : Nat) (X : Nat → Int) (w : World)
    (h : Ints w sv n s) (hx : Ints w xv nx X) :
    Calls Try.prog 46 #[dbl p sv, xv] w fun e w' => ResCT w w' e (codeE (dblB p n s) p n 1 (fun _ => nx) (fun _ => X)) (2 ^ n) (fun _ => 2 ^ n) (fun i j => mulF p s n X (dlt j) i) := by
  have h' := h
  obtain ⟨ao, c, _, _, rfl, qh⟩ := h.out
  clear qh
  obtain ⟨xa, xc, _, _, rfl, qx⟩ := hx.out
  clear qx
  have BX := Lib.hid (box0 w p ao n c 28)
  have b0 := BX.out.2.2.2
  have BL : Hid (Below w.heap.size w ((w.alloc (.cells #[.int .i64 p, .slice ao n c] 28)).alloc (.cells #[.slice xa nx xc] 22))) := b0.alloc b0.size _
  have ht := list1 22 (hx.below b0)
  rw [show (w.alloc (.cells #[.int .i64 p, .slice ao n c] 28)).heap.size = w.heap.size + 1 by simp] at ht
  have HT := Lib.hid ht
  clear ht
  have bA : Below (w.alloc (.cells #[.int .i64 p, .slice ao n c] 28)).heap.size (w.alloc (.cells #[.int .i64 p, .slice ao n c] 28)) ((w.alloc (.cells #[.int .i64 p, .slice ao n c] 28)).alloc (.cells #[.slice xa nx xc] 22)) := (Below.refl _ _).alloc (Nat.le_refl _) _
  have BXA := Lib.hid (boxKeep bA BX.out)
  obtain ⟨e0, e1, e2, e3⟩ := BX.out
  obtain ⟨cc, hcc⟩ : ∃ cc, codeE (dblB p n s) p n 1 (fun _ => nx) (fun _ => X) = cc := ⟨_, rfl⟩
  by_cases h0 : cc = 0
  · obtain ⟨hok, hel⟩ := codeE_zero (hcc.trans h0)
    have hv := dv_of h' hok
    obtain ⟨l0, x0⟩ := elemB_el hx (hel 0 (by omega))
    have HV : Hid (∀ W, Below w.heap.size w W → DV W (.slice ao n c) p n s) := fun W hb => hv.below hb
    have HX : Hid (∀ W, Below w.heap.size w W → El W (.slice xa nx xc) p n X) := fun W hb => x0.below hb
    have HOK := Lib.hid hok
    have HC := Lib.hid hcc
    have H' := Lib.hid h'
    obtain ⟨_, hp1, hp2, hn4, _⟩ := hv
    have hp16 := pow_le hn4
    have hpb := primeB_bd (dblB_ok hok).prime
    clear h hx x0 hel bA h' l0 hok
    subst h0
    go_enter Try.func46, Try.ntmps46
    go_wp2_with fail
    go_at_call 56
    refine Calls.makes' (sCode_c p _ _ n 1 s _ _ _ (H'.out.below BL.out) HT.out) _ fun w1 hb1 => ?_
    rw [HC.out]
    obtain ⟨f0, f1, f2, f3⟩ := boxKeep hb1 BXA.out
    clear e0 e1 e2 e3
    go_wp2_with fail
    go_at_call 84
    refine (sLeft_c p _ _ n s X _ (HV.out _ f3) (HX.out _ f3) (by omega)).mono ?_
    rintro e w4 ⟨g4, c4, rfl, hb4, hO4⟩
    have b4 : Below w.heap.size w w4 := f3.trans (hb4.mono f3.size)
    go_wp2
    go_ret2
    exact ⟨b4, Or.inl ⟨HC.out, g4, c4, rfl, hO4.mono f3.size⟩⟩
  · have HC := Lib.hid hcc
    have H' := Lib.hid h'
    have hne : (cc != 0) = true := by rw [bne_iff_ne]; exact h0
    clear h hx bA h'
    go_enter Try.func46, Try.ntmps46
    go_wp2_with fail
    go_at_call 56
    refine Calls.makes' (sCode_c p _ _ n 1 s _ _ _ (H'.out.below BL.out) HT.out) _ fun w1 hb1 => ?_
    rw [HC.out]
    go_wp2
    go_ret2
    exact ⟨BL.out.trans (hb1.mono BL.out.size), Or.inr ⟨by rw [HC.out]; exact h0, by rw [HC.out]; rfl⟩⟩

set_option maxRecDepth 100000 in
set_option maxHeartbeats 1000000 in
theorem iRightMatrixOf_c (p : Int) (sv : Value) (n : Nat) (s : Nat → Int) (xv : Value) (nx : Nat) (X : Nat → Int) (w : World)
    (h : Ints w sv n s) (hx : Ints w xv nx X) :
    Calls Try.prog 49 #[dbl p sv, xv] w fun e w' => ResCT w w' e (codeE (dblB p n s) p n 1 (fun _ => nx) (fun _ => X)) (2 ^ n) (fun _ => 2 ^ n) (fun i j => mulF p s n (dlt j) X i) := by
  have h' := h
  obtain ⟨ao, c, _, _, rfl, qh⟩ := h.out
  clear qh
  obtain ⟨xa, xc, _, _, rfl, qx⟩ := hx.out
  clear qx
  have BX := Lib.hid (box0 w p ao n c 28)
  have b0 := BX.out.2.2.2
  have BL : Hid (Below w.heap.size w ((w.alloc (.cells #[.int .i64 p, .slice ao n c] 28)).alloc (.cells #[.slice xa nx xc] 22))) := b0.alloc b0.size _
  have ht := list1 22 (hx.below b0)
  rw [show (w.alloc (.cells #[.int .i64 p, .slice ao n c] 28)).heap.size = w.heap.size + 1 by simp] at ht
  have HT := Lib.hid ht
  clear ht
  have bA : Below (w.alloc (.cells #[.int .i64 p, .slice ao n c] 28)).heap.size (w.alloc (.cells #[.int .i64 p, .slice ao n c] 28)) ((w.alloc (.cells #[.int .i64 p, .slice ao n c] 28)).alloc (.cells #[.slice xa nx xc] 22)) := (Below.refl _ _).alloc (Nat.le_refl _) _
  have BXA := Lib.hid (boxKeep bA BX.out)
  obtain ⟨e0, e1, e2, e3⟩ := BX.out
  obtain ⟨cc, hcc⟩ : ∃ cc, codeE (dblB p n s) p n 1 (fun _ => nx) (fun _ => X) = cc := ⟨_, rfl⟩
  by_cases h0 : cc = 0
  · obtain ⟨hok, hel⟩ := codeE_zero (hcc.trans h0)
    have hv := dv_of h' hok
    obtain ⟨l0, x0⟩ := elemB_el hx (hel 0 (by omega))
    have HV : Hid (∀ W, Below w.heap.size w W → DV W (.slice ao n c) p n s) := fun W hb => hv.below hb
    have HX : Hid (∀ W, Below w.heap.size w W → El W (.slice xa nx xc) p n X) := fun W hb => x0.below hb
    have HOK := Lib.hid hok
    have HC := Lib.hid hcc
    have H' := Lib.hid h'
    obtain ⟨_, hp1, hp2, hn4, _⟩ := hv
    have hp16 := pow_le hn4
    have hpb := primeB_bd (dblB_ok hok).prime
    clear h hx x0 hel bA h' l0 hok
    subst h0
    go_enter Try.func49, Try.ntmps49
    go_wp2_with fail
    go_at_call 58
    refine Calls.makes' (iCheckE_c p _ _ n 1 s _ _ _ (H'.out.below BL.out) HT.out) _ fun w1 hb1 => ?_
    rw [HC.out]
    obtain ⟨f0, f1, f2, f3⟩ := boxKeep hb1 BXA.out
    clear e0 e1 e2 e3
    go_wp2_with fail
    go_at_call 87
    refine (iRight_c p _ _ n s X _ (HV.out _ f3) (HX.out _ f3) (by omega)).mono ?_
    rintro e w4 ⟨g4, c4, rfl, hb4, hO4⟩
    have b4 : Below w.heap.size w w4 := f3.trans (hb4.mono f3.size)
    go_wp2
    go_ret2
    exact ⟨b4, Or.inl ⟨HC.out, g4, c4, rfl, hO4.mono f3.size⟩⟩
  · have HC := Lib.hid hcc
    have H' := Lib.hid h'
    have hne : (cc != 0) = true := by rw [bne_iff_ne]; exact h0
    clear h hx bA h'
    go_enter Try.func49, Try.ntmps49
    go_wp2_with fail
    go_at_call 58
    refine Calls.makes' (iCheckE_c p _ _ n 1 s _ _ _ (H'.out.below BL.out) HT.out) _ fun w1 hb1 => ?_
    rw [HC.out]
    go_wp2
    go_ret2
    exact ⟨BL.out.trans (hb1.mono BL.out.size), Or.inr ⟨by rw [HC.out]; exact h0, by rw [HC.out]; rfl⟩⟩

set_option maxRecDepth 100000 in
set_option maxHeartbeats 1000000 in
theorem sRightMatrixOf_c (p : Int) (sv : Value) (n : Nat) (s : Nat → Int) (xv : Value) (nx : Nat) (X : Nat → Int) (w : World)
    (h : Ints w sv n s) (hx : Ints w xv nx X) :
    Calls Try.prog 48 #[dbl p sv, xv] w fun e w' => ResCT w w' e (codeE (dblB p n s) p n 1 (fun _ => nx) (fun _ => X)) (2 ^ n) (fun _ => 2 ^ n) (fun i j => mulF p s n (dlt j) X i) := by
  have h' := h
  obtain ⟨ao, c, _, _, rfl, qh⟩ := h.out
  clear qh
  obtain ⟨xa, xc, _, _, rfl, qx⟩ := hx.out
  clear qx
  have BX := Lib.hid (box0 w p ao n c 28)
  have b0 := BX.out.2.2.2
  have BL : Hid (Below w.heap.size w ((w.alloc (.cells #[.int .i64 p, .slice ao n c] 28)).alloc (.cells #[.slice xa nx xc] 22))) := b0.alloc b0.size _
  have ht := list1 22 (hx.below b0)
  rw [show (w.alloc (.cells #[.int .i64 p, .slice ao n c] 28)).heap.size = w.heap.size + 1 by simp] at ht
  have HT := Lib.hid ht
  clear ht
  have bA : Below (w.alloc (.cells #[.int .i64 p, .slice ao n c] 28)).heap.size (w.alloc (.cells #[.int .i64 p, .slice ao n c] 28)) ((w.alloc (.cells #[.int .i64 p, .slice ao n c] 28)).alloc (.cells #[.slice xa nx xc] 22)) := (Below.refl _ _).alloc (Nat.le_refl _) _
  have BXA := Lib.hid (boxKeep bA BX.out)
  obtain ⟨e0, e1, e2, e3⟩ := BX.out
  obtain ⟨cc, hcc⟩ : ∃ cc, codeE (dblB p n s) p n 1 (fun _ => nx) (fun _ => X) = cc := ⟨_, rfl⟩
  by_cases h0 : cc = 0
  · obtain ⟨hok, hel⟩ := codeE_zero (hcc.trans h0)
    have hv := dv_of h' hok
    obtain ⟨l0, x0⟩ := elemB_el hx (hel 0 (by omega))
    have HV : Hid (∀ W, Below w.heap.size w W → DV W (.slice ao n c) p n s) := fun W hb => hv.below hb
    have HX : Hid (∀ W, Below w.heap.size w W → El W (.slice xa nx xc) p n X) := fun W hb => x0.below hb
    have HOK := Lib.hid hok
    have HC := Lib.hid hcc
    have H' := Lib.hid h'
    obtain ⟨_, hp1, hp2, hn4, _⟩ := hv
    have hp16 := pow_le hn4
    have hpb := primeB_bd (dblB_ok hok).prime
    clear h hx x0 hel bA h' l0 hok
    subst h0
    go_enter Try.func48, Try.ntmps48
    go_wp2_with fail
    go_at_call 56
    refine Calls.makes' (sCode_c p _ _ n 1 s _ _ _ (H'.out.below BL.out) HT.out) _ fun w1 hb1 => ?_
    rw [HC.out]
    obtain ⟨f0, f1, f2, f3⟩ := boxKeep hb1 BXA.out
    clear e0 e1 e2 e3
    go_wp2_with fail
    go_at_call 86
    refine (sRight_c p _ _ n s X _ (HV.out _ f3) (HX.out _ f3) (by omega)).mono ?_
    rintro e w4 ⟨g4, c4, rfl, hb4, hO4⟩
    have b4 : Below w.heap.size w w4 := f3.trans (hb4.mono f3.size)
    go_wp2
    go_ret2
    exact ⟨b4, Or.inl ⟨HC.out, g4, c4, rfl, hO4.mono f3.size⟩⟩
  · have HC := Lib.hid hcc
    have H' := Lib.hid h'
    have hne : (cc != 0) = true := by rw [bne_iff_ne]; exact h0
    clear h hx bA h'
    go_enter Try.func48, Try.ntmps48
    go_wp2_with fail
    go_at_call 56
    refine Calls.makes' (sCode_c p _ _ n 1 s _ _ _ (H'.out.below BL.out) HT.out) _ fun w1 hb1 => ?_
    rw [HC.out]
    go_wp2
    go_ret2
    exact ⟨BL.out.trans (hb1.mono BL.out.size), Or.inr ⟨by rw [HC.out]; exact h0, by rw [HC.out]; rfl⟩⟩


end Go.Proofs.Ytdnmjmcdljmghaa
