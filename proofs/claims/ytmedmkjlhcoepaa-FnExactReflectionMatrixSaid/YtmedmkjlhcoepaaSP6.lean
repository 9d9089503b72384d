/-
  ReflectIn, in both programs. No condition beside sizes.
-/
import Derived.Test.YtmedmkjlhcoepaaSP5
set_option linter.unusedVariables false
set_option linter.unusedSimpArgs false
namespace Go.Proofs.Ytmedmkjlhcoepaa
open Go.RowKit

theorem codeR_zero {p : Int} {n m : Nat} {s : Nat → Int} {L : Nat → Nat} {T : Nat → Nat → Int} (h : codeR p n s m L T = 0) : spB p n s = true ∧ ∀ i, i < m → vecB p n (L i) (T i) = true := codeSv_zero (thenC_zero h)
/-- A result that is a vector, or nil and a code. -/
structure ResV (w w' : World) (e : Ending) (cc : Int) (n : Nat) (X : Nat → Int) : Prop where
  bel : Below w.heap.size w w'
  out : (cc = 0 ∧ ∃ g c, e = .returned (.tuple #[.slice (some ⟨g, 0, none⟩) n c, .int .i64 0]) ∧ w.heap.size ≤ g ∧ Own w' 2 g c n (fun i => .int .i64 (X i))) ∨
    (cc ≠ 0 ∧ e = .returned (.tuple #[.slice none 0 0, .int .i64 cc]))
theorem ResV.toO {w w' : World} {e : Ending} {cc : Int} {n : Nat} {X : Nat → Int} (h : ResV w w' e cc n X) : ResO w w' e cc (if cc = 0 then n else 0) X := by
  rcases h.out with ⟨h0, g, c, he, hg, hO⟩ | ⟨h0, he⟩
  · subst h0
    exact ⟨some ⟨g, 0, none⟩, c, he, h.bel, ⟨Or.inr ⟨g, rfl, ⟨hg, hO.lt⟩, hO⟩⟩⟩
  · rw [if_neg h0]
    exact ⟨none, 0, he, h.bel, ⟨Or.inl ⟨rfl, rfl, rfl⟩⟩⟩

set_option maxRecDepth 100000 in
set_option maxHeartbeats 2000000 in
theorem iReflectIn_c (p : Int) (sv : Value) (n : Nat) (s : Nat → Int) (xv : Value) (nx : Nat) (X : Nat → Int) (yv : Value) (ny : Nat) (Y : Nat → Int) (w : World)
    (h : Ints w sv n s) (hx : Ints w xv nx X) (hy : Ints w yv ny Y) :
    Calls Try.prog 29 #[dbl p sv, xv, yv] w fun e w' => ResV w w' e (thenC (codeR p n s 2 (pick3 nx ny ny) (pick3 X Y Y)) (pairF p s n X X == 0) 5) n (reflF p (pairF p s n X Y) (invM p (pairF p s n X X)) Y X) := by
  have h' := h
  obtain ⟨ao, c, _, _, rfl, qh⟩ := h.out
  clear qh
  obtain ⟨xa, xc, _, _, rfl, qx⟩ := hx.out
  clear qx
  obtain ⟨ya, yc, _, _, rfl, qy⟩ := hy.out
  clear qy
  have BX := Lib.hid (box0 w p ao n c 30)
  have b0 := BX.out.2.2.2
  have BL : Hid (Below w.heap.size w ((w.alloc (.cells #[.int .i64 p, .slice ao n c] 30)).alloc (.cells #[.slice xa nx xc, .slice ya ny yc] 22))) := b0.alloc b0.size _
  have ht := list2 22 (hx.below b0) (hy.below b0)
  rw [show (w.alloc (.cells #[.int .i64 p, .slice ao n c] 30)).heap.size = w.heap.size + 1 by simp] at ht
  have HT := Lib.hid ht
  clear ht
  have bA : Below (w.alloc (.cells #[.int .i64 p, .slice ao n c] 30)).heap.size (w.alloc (.cells #[.int .i64 p, .slice ao n c] 30)) ((w.alloc (.cells #[.int .i64 p, .slice ao n c] 30)).alloc (.cells #[.slice xa nx xc, .slice ya ny yc] 22)) := (Below.refl _ _).alloc (Nat.le_refl _) _
  have BXA := Lib.hid (boxKeep bA BX.out)
  obtain ⟨e0, e1, e2, e3⟩ := BX.out
  obtain ⟨cc, hcc⟩ : ∃ cc, codeR p n s 2 (pick3 nx ny ny) (pick3 X Y Y) = cc := ⟨_, rfl⟩
  by_cases h0 : cc = 0
  · obtain ⟨hok, hel⟩ := codeR_zero (hcc.trans h0)
    have hv : SV w (.slice ao n c) p n s := ⟨h', spB_ok hok⟩
    obtain ⟨l0, x0⟩ := vecB_vc hx (hel 0 (by omega))
    obtain ⟨l1, y0⟩ := vecB_vc hy (hel 1 (by omega))
    have HV : Hid (∀ W, Below w.heap.size w W → SV W (.slice ao n c) p n s) := fun W hb => hv.below hb
    have HX : Hid (∀ W, Below w.heap.size w W → Vc W (.slice xa nx xc) p n X) := fun W hb => x0.below hb
    have HY : Hid (∀ W, Below w.heap.size w W → Vc W (.slice ya ny yc) p n Y) := fun W hb => y0.below hb
    have HOK := Lib.hid hok
    have HC := Lib.hid hcc
    have H' := Lib.hid h'
    have hpb := (spB_ok hok).bd
    have hn6 := (spB_ok hok).n6
    have hn1 := (spB_ok hok).n1
    have hD := pairF_in (p := p) (by omega) s n X X
    obtain ⟨d, qd⟩ : ∃ d, pairF p s n X X = d := ⟨_, rfl⟩
    have C1 : Hid (∀ W, Below w.heap.size w W → Calls Try.prog 65 #[dbl p (.slice ao n c), .slice xa nx xc] W fun e w' => Makes W w' e (.int .i64 d)) := fun W hb => qd ▸ iSNorm_c p _ _ n s X W (HV.out W hb) (HX.out W hb)
    have HQ := Lib.hid qd
    clear h hx hy x0 y0 hel hv bA h' l0 l1 hok
    subst h0
    go_enter Try.func29, Try.ntmps29
    go_wp2_with fail
    go_at_call 69
    refine Calls.makes' (iCkVs_c p _ _ n 2 s _ _ _ (H'.out.below BL.out) HT.out) _ fun w1 hb1 => ?_
    rw [HC.out]
    obtain ⟨f0, f1, f2, f3⟩ := boxKeep hb1 BXA.out
    clear e0 e1 e2 e3
    by_cases hz : d = 0
    · have hne0 : (d == 0) = true := by simp [hz]
      go_wp2_with fail
      go_at_call 65
      refine Calls.makes' (C1.out _ f3) _ fun w2 hb2 => ?_
      have f : BoxD w p ao n c w2 := boxKeep hb2 ⟨f0, f1, f2, f3⟩
      clear f0 f1 f2 f3 hb2
      obtain ⟨f0, f1, f2, f3⟩ := f
      go_wp2
      go_ret2
      have ec : (thenC (codeR p n s 2 (pick3 nx ny ny) (pick3 X Y Y)) (pairF p s n X X == 0) 5) = 5 := by unfold thenC; rw [HC.out, HQ.out, if_pos rfl]; simp [hz]
      exact ⟨f3, Or.inr ⟨by rw [ec]; decide, by rw [ec]; rfl⟩⟩
    · have hne0 : (d == 0) = false := by simp [hz]
      go_wp2_with fail
      go_at_call 65
      refine Calls.makes' (C1.out _ f3) _ fun w2 hb2 => ?_
      have f : BoxD w p ao n c w2 := boxKeep hb2 ⟨f0, f1, f2, f3⟩
      clear f0 f1 f2 f3 hb2
      obtain ⟨f0, f1, f2, f3⟩ := f
      go_wp2_with fail
      go_at_call 70
      refine (iRefl_c p _ _ _ n s X Y _ (HV.out _ f3) (HX.out _ f3) (HY.out _ f3)).mono ?_
      rintro e w4 ⟨g4, c4, rfl, hg4, hb4, hO4⟩
      have b4 : Below w.heap.size w w4 := f3.trans (hb4.mono f3.size)
      go_wp2
      go_ret2
      have ec : (thenC (codeR p n s 2 (pick3 nx ny ny) (pick3 X Y Y)) (pairF p s n X X == 0) 5) = 0 := by unfold thenC; rw [HC.out, HQ.out, if_pos rfl]; simp [hz]
      exact ⟨b4, Or.inl ⟨ec, g4, c4, rfl, by have := f3.size; omega, hO4⟩⟩
  · have HC := Lib.hid hcc
    have H' := Lib.hid h'
    have hne : (cc != 0) = true := by rw [bne_iff_ne]; exact h0
    clear h hx hy bA h'
    go_enter Try.func29, Try.ntmps29
    go_wp2_with fail
    go_at_call 69
    refine Calls.makes' (iCkVs_c p _ _ n 2 s _ _ _ (H'.out.below BL.out) HT.out) _ fun w1 hb1 => ?_
    rw [HC.out]
    go_wp2
    go_ret2
    exact ⟨BL.out.trans (hb1.mono BL.out.size), Or.inr ⟨by unfold thenC; rw [HC.out, if_neg h0]; exact h0, by unfold thenC; rw [HC.out, if_neg h0]; rfl⟩⟩

set_option maxRecDepth 100000 in
set_option maxHeartbeats 2000000 in
theorem sReflectIn_c (p : Int) (sv : Value) (n : Nat) (s : Nat → Int) (xv : Value) (nx : Nat) (X : Nat → Int) (yv : Value) (ny : Nat) (Y : Nat → Int) (w : World)
    (h : Ints w sv n s) (hx : Ints w xv nx X) (hy : Ints w yv ny Y) :
    Calls Try.prog 27 #[dbl p sv, xv, yv] w fun e w' => ResV w w' e (thenC (codeR p n s 2 (pick3 nx ny ny) (pick3 X Y Y)) (pairF p s n X X == 0) 5) n (reflF p (pairF p s n X Y) (invM p (pairF p s n X X)) Y X) := by
  have h' := h
  obtain ⟨ao, c, _, _, rfl, qh⟩ := h.out
  clear qh
  obtain ⟨xa, xc, _, _, rfl, qx⟩ := hx.out
  clear qx
  obtain ⟨ya, yc, _, _, rfl, qy⟩ := hy.out
  clear qy
  have BX := Lib.hid (box0 w p ao n c 30)
  have b0 := BX.out.2.2.2
  have BL : Hid (Below w.heap.size w ((w.alloc (.cells #[.int .i64 p, .slice ao n c] 30)).alloc (.cells #[.slice xa nx xc, .slice ya ny yc] 22))) := b0.alloc b0.size _
  have ht := list2 22 (hx.below b0) (hy.below b0)
  rw [show (w.alloc (.cells #[.int .i64 p, .slice ao n c] 30)).heap.size = w.heap.size + 1 by simp] at ht
  have HT := Lib.hid ht
  clear ht
  have bA : Below (w.alloc (.cells #[.int .i64 p, .slice ao n c] 30)).heap.size (w.alloc (.cells #[.int .i64 p, .slice ao n c] 30)) ((w.alloc (.cells #[.int .i64 p, .slice ao n c] 30)).alloc (.cells #[.slice xa nx xc, .slice ya ny yc] 22)) := (Below.refl _ _).alloc (Nat.le_refl _) _
  have BXA := Lib.hid (boxKeep bA BX.out)
  obtain ⟨e0, e1, e2, e3⟩ := BX.out
  obtain ⟨cc, hcc⟩ : ∃ cc, codeR p n s 2 (pick3 nx ny ny) (pick3 X Y Y) = cc := ⟨_, rfl⟩
  by_cases h0 : cc = 0
  · obtain ⟨hok, hel⟩ := codeR_zero (hcc.trans h0)
    have hv : SV w (.slice ao n c) p n s := ⟨h', spB_ok hok⟩
    obtain ⟨l0, x0⟩ := vecB_vc hx (hel 0 (by omega))
    obtain ⟨l1, y0⟩ := vecB_vc hy (hel 1 (by omega))
    have HV : Hid (∀ W, Below w.heap.size w W → SV W (.slice ao n c) p n s) := fun W hb => hv.below hb
    have HX : Hid (∀ W, Below w.heap.size w W → Vc W (.slice xa nx xc) p n X) := fun W hb => x0.below hb
    have HY : Hid (∀ W, Below w.heap.size w W → Vc W (.slice ya ny yc) p n Y) := fun W hb => y0.below hb
    have HOK := Lib.hid hok
    have HC := Lib.hid hcc
    have H' := Lib.hid h'
    have hpb := (spB_ok hok).bd
    have hn6 := (spB_ok hok).n6
    have hn1 := (spB_ok hok).n1
    have hD := pairF_in (p := p) (by omega) s n X X
    obtain ⟨d, qd⟩ : ∃ d, pairF p s n X X = d := ⟨_, rfl⟩
    have C1 : Hid (∀ W, Below w.heap.size w W → Calls Try.prog 52 #[dbl p (.slice ao n c), .slice xa nx xc, .slice xa nx xc] W fun e w' => Makes W w' e (.int .i64 d)) := fun W hb => qd ▸ sPair_c p _ _ _ n s X X W (HV.out W hb) (HX.out W hb) (HX.out W hb)
    have HQ := Lib.hid qd
    clear h hx hy x0 y0 hel hv bA h' l0 l1 hok
    subst h0
    go_enter Try.func27, Try.ntmps27
    go_wp2_with fail
    go_at_call 67
    refine Calls.makes' (sVecs_c p _ _ n 2 s _ _ _ (H'.out.below BL.out) HT.out (by omega)) _ fun w1 hb1 => ?_
    rw [HC.out]
    obtain ⟨f0, f1, f2, f3⟩ := boxKeep hb1 BXA.out
    clear e0 e1 e2 e3
    by_cases hz : d = 0
    · have hne0 : (d == 0) = true := by simp [hz]
      go_wp2_with fail
      go_at_call 52
      refine Calls.makes' (C1.out _ f3) _ fun w2 hb2 => ?_
      have f : BoxD w p ao n c w2 := boxKeep hb2 ⟨f0, f1, f2, f3⟩
      clear f0 f1 f2 f3 hb2
      obtain ⟨f0, f1, f2, f3⟩ := f
      go_wp2
      go_ret2
      have ec : (thenC (codeR p n s 2 (pick3 nx ny ny) (pick3 X Y Y)) (pairF p s n X X == 0) 5) = 5 := by unfold thenC; rw [HC.out, HQ.out, if_pos rfl]; simp [hz]
      exact ⟨f3, Or.inr ⟨by rw [ec]; decide, by rw [ec]; rfl⟩⟩
    · have hne0 : (d == 0) = false := by simp [hz]
      go_wp2_with fail
      go_at_call 52
      refine Calls.makes' (C1.out _ f3) _ fun w2 hb2 => ?_
      have f : BoxD w p ao n c w2 := boxKeep hb2 ⟨f0, f1, f2, f3⟩
      clear f0 f1 f2 f3 hb2
      obtain ⟨f0, f1, f2, f3⟩ := f
      go_wp2_with fail
      go_at_call 68
      refine (sRefl_c p _ _ _ n s X Y _ (HV.out _ f3) (HX.out _ f3) (HY.out _ f3) (by rw [HQ.out]; exact hz)).mono ?_
      rintro e w4 ⟨g4, c4, rfl, hg4, hb4, hO4⟩
      have b4 : Below w.heap.size w w4 := f3.trans (hb4.mono f3.size)
      go_wp2
      go_ret2
      have ec : (thenC (codeR p n s 2 (pick3 nx ny ny) (pick3 X Y Y)) (pairF p s n X X == 0) 5) = 0 := by unfold thenC; rw [HC.out, HQ.out, if_pos rfl]; simp [hz]
      exact ⟨b4, Or.inl ⟨ec, g4, c4, rfl, by have := f3.size; omega, hO4⟩⟩
  · have HC := Lib.hid hcc
    have H' := Lib.hid h'
    have hne : (cc != 0) = true := by rw [bne_iff_ne]; exact h0
    have hne2 : (cc == 0) = false := by simp [h0]
    clear h hx hy bA h'
    go_enter Try.func27, Try.ntmps27
    go_wp2_with fail
    go_at_call 67
    refine Calls.makes' (sVecs_c p _ _ n 2 s _ _ _ (H'.out.below BL.out) HT.out (by omega)) _ fun w1 hb1 => ?_
    rw [HC.out]
    go_wp2
    go_ret2
    exact ⟨BL.out.trans (hb1.mono BL.out.size), Or.inr ⟨by unfold thenC; rw [HC.out, if_neg h0]; exact h0, by unfold thenC; rw [HC.out, if_neg h0]; rfl⟩⟩


end Go.Proofs.Ytmedmkjlhcoepaa
