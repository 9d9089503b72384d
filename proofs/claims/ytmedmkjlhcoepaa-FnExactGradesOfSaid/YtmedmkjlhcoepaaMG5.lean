/-
  GradesOf, in both programs. No condition beside sizes.
-/
import Derived.Test.YtmedmkjlhcoepaaMG4
set_option linter.unusedVariables false
set_option linter.unusedSimpArgs false
namespace Go.Proofs.Ytmedmkjlhcoepaa
open Go.RowKit

/-- a list of integers, or nil and a code -/
structure ResL (w w' : World) (e : Ending) (cc : Int) (L : List Int) : Prop where
  bel : Below w.heap.size w w'
  out : (cc = 0 ∧ ∃ g c, e = .returned (.tuple #[.slice (some ⟨g, 0, none⟩) L.length c, .int .i64 0]) ∧ w.heap.size ≤ g ∧ Own w' 2 g c L.length (fun i => .int .i64 (L.getD i 0))) ∨
    (cc ≠ 0 ∧ e = .returned (.tuple #[.slice none 0 0, .int .i64 cc]))
theorem ResL.toO {w w' : World} {e : Ending} {cc : Int} {L : List Int} (h : ResL w w' e cc L) : ResO w w' e cc (if cc = 0 then L.length else 0) (fun i => L.getD i 0) := by
  rcases h.out with ⟨h0, g, c, he, hg, hO⟩ | ⟨h0, he⟩
  · subst h0
    exact ⟨some ⟨g, 0, none⟩, c, he, h.bel, ⟨Or.inr ⟨g, rfl, ⟨hg, hO.lt⟩, hO⟩⟩⟩
  · rw [if_neg h0]
    exact ⟨none, 0, he, h.bel, ⟨Or.inl ⟨rfl, rfl, rfl⟩⟩⟩

set_option maxRecDepth 100000 in
set_option maxHeartbeats 2000000 in
theorem iGradesOf_c (p : Int) (sv : Value) (n : Nat) (s : Nat → Int) (xv : Value) (nx : Nat) (X : Nat → Int) (w : World) (h : Ints w sv n s) (hx : Ints w xv nx X) :
    Calls Try.prog 38 #[dbl p sv, xv] w fun e w' => ResL w w' e (codeM (spB p n s) p n 1 (fun _ => nx) (fun _ => X)) (gL (2 ^ n) X (n + 1)) := by
  have h' := h
  obtain ⟨ao, c, _, _, rfl, qh⟩ := h.out
  clear qh
  have hx0 := hx
  obtain ⟨xa, xc, _, _, rfl, qx⟩ := hx.out
  clear qx
  have BX := Lib.hid (box0 w p ao n c 30)
  have b0 := BX.out.2.2.2
  have BL : Hid (Below w.heap.size w ((w.alloc (.cells #[.int .i64 p, .slice ao n c] 30)).alloc (.cells #[.slice xa nx xc] 22))) := b0.alloc b0.size _
  have ht := list1 22 (hx.below b0)
  rw [show (w.alloc (.cells #[.int .i64 p, .slice ao n c] 30)).heap.size = w.heap.size + 1 by simp] at ht
  have HT := Lib.hid ht
  clear ht
  have bA : Below (w.alloc (.cells #[.int .i64 p, .slice ao n c] 30)).heap.size (w.alloc (.cells #[.int .i64 p, .slice ao n c] 30)) ((w.alloc (.cells #[.int .i64 p, .slice ao n c] 30)).alloc (.cells #[.slice xa nx xc] 22)) := (Below.refl _ _).alloc (Nat.le_refl _) _
  have BXA := Lib.hid (boxKeep bA BX.out)
  obtain ⟨e0, e1, e2, e3⟩ := BX.out
  obtain ⟨cc, hcc⟩ : ∃ cc, codeM (spB p n s) p n 1 (fun _ => nx) (fun _ => X) = cc := ⟨_, rfl⟩
  by_cases h0 : cc = 0
  · obtain ⟨hok, hel⟩ := codeM_zero (hcc.trans h0)
    obtain ⟨l0, x0⟩ := mvB_mv hx0 (hel 0 (by omega))
    have HV : Hid (∀ W, Below w.heap.size w W → SV W (.slice ao n c) p n s) := fun W hb => ⟨h'.below hb, spB_ok hok⟩
    have HX : Hid (∀ W, Below w.heap.size w W → Mv W (.slice xa nx xc) p n X) := fun W hb => x0.below hb
    have HOK := Lib.hid hok
    have HC := Lib.hid hcc
    have H' := Lib.hid h'
    have hpb := (spB_ok hok).bd
    have hn6 := (spB_ok hok).n6
    have hn1 := (spB_ok hok).n1
    have HL0 := Lib.hid l0
    obtain rfl := HL0.out
    clear h hx hx0 x0 hel bA h' l0 hok
    subst h0
    go_enter Try.func38, Try.ntmps38
    go_wp2_with fail
    go_at_call 75
    refine Calls.makes' (iCkM_c p _ _ n 1 s _ _ _ (H'.out.below BL.out) HT.out) _ fun w1 hb1 => ?_
    rw [HC.out]
    obtain ⟨f0, f1, f2, f3⟩ := boxKeep hb1 BXA.out
    clear e0 e1 e2 e3
    go_wp2_with fail
    go_at_call 78
    refine (iGrades_c _ n X _ ((HX.out _ f3).ints) hn6).mono ?_
    rintro e w4 ⟨g4, c4, rfl, hg4, hb4, hO4⟩
    have b4 : Below w.heap.size w w4 := f3.trans (hb4.mono f3.size)
    have HO4 := Lib.hid hO4
    have hs4 := f3.size
    clear hO4
    go_wp2
    go_ret2
    exact ⟨b4, Or.inl ⟨HC.out, g4, c4, rfl, by omega, HO4.out⟩⟩
  · have HC := Lib.hid hcc
    have H' := Lib.hid h'
    have hne : (cc != 0) = true := by rw [bne_iff_ne]; exact h0
    have hne2 : (cc == 0) = false := by simp [h0]
    clear h hx hx0 bA h'
    go_enter Try.func38, Try.ntmps38
    go_wp2_with fail
    go_at_call 75
    refine Calls.makes' (iCkM_c p _ _ n 1 s _ _ _ (H'.out.below BL.out) HT.out) _ fun w1 hb1 => ?_
    rw [HC.out]
    go_wp2
    go_ret2
    exact ⟨BL.out.trans (hb1.mono BL.out.size), Or.inr ⟨by rw [HC.out]; exact h0, by rw [HC.out]; rfl⟩⟩

set_option maxRecDepth 100000 in
set_option maxHeartbeats 2000000 in
theorem sGradesOf_c (p : Int) (sv : Value) (n : Nat) (s : Nat → Int) (xv : Value) (nx : Nat) (X : Nat → Int) (w : World) (h : Ints w sv n s) (hx : Ints w xv nx X) :
    Calls Try.prog 37 #[dbl p sv, xv] w fun e w' => ResL w w' e (codeM (spB p n s) p n 1 (fun _ => nx) (fun _ => X)) (gL (2 ^ n) X (n + 1)) := by
  have h' := h
  obtain ⟨ao, c, _, _, rfl, qh⟩ := h.out
  clear qh
  have hx0 := hx
  obtain ⟨xa, xc, _, _, rfl, qx⟩ := hx.out
  clear qx
  have BX := Lib.hid (box0 w p ao n c 30)
  have b0 := BX.out.2.2.2
  have BL : Hid (Below w.heap.size w ((w.alloc (.cells #[.int .i64 p, .slice ao n c] 30)).alloc (.cells #[.slice xa nx xc] 22))) := b0.alloc b0.size _
  have ht := list1 22 (hx.below b0)
  rw [show (w.alloc (.cells #[.int .i64 p, .slice ao n c] 30)).heap.size = w.heap.size + 1 by simp] at ht
  have HT := Lib.hid ht
  clear ht
  have bA : Below (w.alloc (.cells #[.int .i64 p, .slice ao n c] 30)).heap.size (w.alloc (.cells #[.int .i64 p, .slice ao n c] 30)) ((w.alloc (.cells #[.int .i64 p, .slice ao n c] 30)).alloc (.cells #[.slice xa nx xc] 22)) := (Below.refl _ _).alloc (Nat.le_refl _) _
  have BXA := Lib.hid (boxKeep bA BX.out)
  obtain ⟨e0, e1, e2, e3⟩ := BX.out
  obtain ⟨cc, hcc⟩ : ∃ cc, codeM (spB p n s) p n 1 (fun _ => nx) (fun _ => X) = cc := ⟨_, rfl⟩
  by_cases h0 : cc = 0
  · obtain ⟨hok, hel⟩ := codeM_zero (hcc.trans h0)
    obtain ⟨l0, x0⟩ := mvB_mv hx0 (hel 0 (by omega))
    have HV : Hid (∀ W, Below w.heap.size w W → SV W (.slice ao n c) p n s) := fun W hb => ⟨h'.below hb, spB_ok hok⟩
    have HX : Hid (∀ W, Below w.heap.size w W → Mv W (.slice xa nx xc) p n X) := fun W hb => x0.below hb
    have HOK := Lib.hid hok
    have HC := Lib.hid hcc
    have H' := Lib.hid h'
    have hpb := (spB_ok hok).bd
    have hn6 := (spB_ok hok).n6
    have hn1 := (spB_ok hok).n1
    have HL0 := Lib.hid l0
    obtain rfl := HL0.out
    clear h hx hx0 x0 hel bA h' l0 hok
    subst h0
    go_enter Try.func37, Try.ntmps37
    go_wp2_with fail
    go_at_call 73
    refine Calls.makes' (sCodeM_c p _ _ n 1 s _ _ _ (H'.out.below BL.out) HT.out) _ fun w1 hb1 => ?_
    rw [HC.out]
    obtain ⟨f0, f1, f2, f3⟩ := boxKeep hb1 BXA.out
    clear e0 e1 e2 e3
    go_wp2_with fail
    go_at_call 77
    refine (sGrades_c p _ n s _ X _ (HV.out _ f3).ints ((HX.out _ f3).ints) hn6).mono ?_
    rintro e w4 ⟨g4, c4, rfl, hg4, hb4, hO4⟩
    have b4 : Below w.heap.size w w4 := f3.trans (hb4.mono f3.size)
    have HO4 := Lib.hid hO4
    have hs4 := f3.size
    clear hO4
    go_wp2
    go_ret2
    exact ⟨b4, Or.inl ⟨HC.out, g4, c4, rfl, by omega, HO4.out⟩⟩
  · have HC := Lib.hid hcc
    have H' := Lib.hid h'
    have hne : (cc != 0) = true := by rw [bne_iff_ne]; exact h0
    have hne2 : (cc == 0) = false := by simp [h0]
    clear h hx hx0 bA h'
    go_enter Try.func37, Try.ntmps37
    go_wp2_with fail
    go_at_call 73
    refine Calls.makes' (sCodeM_c p _ _ n 1 s _ _ _ (H'.out.below BL.out) HT.out) _ fun w1 hb1 => ?_
    rw [HC.out]
    go_wp2
    go_ret2
    exact ⟨BL.out.trans (hb1.mono BL.out.size), Or.inr ⟨by rw [HC.out]; exact h0, by rw [HC.out]; rfl⟩⟩


end Go.Proofs.Ytmedmkjlhcoepaa
