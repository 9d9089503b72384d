/-
  AnnihilatorOf in both programs. No condition beside sizes.
-/
import Derived.Test.YtdehfpnlehbdjaaRE1
import Derived.Test.YtdehfpnlehbdjaaRC3
import Derived.Test.YtdehfpnlehbdjaaD31
set_option linter.unusedVariables false
set_option linter.unusedSimpArgs false
namespace Go.Proofs.Ytdehfpnlehbdjaa
open Go.RowKit

/-- the matrix of a product from the left -/
def lmT (p : Int) (s : Nat → Int) (n : Nat) (X : Nat → Int) (i j : Nat) : Int := mulF p s n X (dlt j) i
theorem lmT_in {p : Int} (hp : 0 < p) (s : Nat → Int) (n : Nat) (X : Nat → Int) : RowsIn p (2 ^ n) (2 ^ n) (lmT p s n X) := fun i hi j hj => mulF_in hp s n X (dlt j) (2 ^ n) i hi
/-- the reduced rows of what an element annihilates -/
def annS (p : Int) (s : Nat → Int) (n : Nat) (X : Nat → Int) : (Nat → Nat → Int) × Nat := kerS p (2 ^ n) (bSt p (2 ^ n) (lmT p s n X) (2 ^ n))
theorem annS_same {p : Int} (hp : primeB p = true) (s : Nat → Int) (n : Nat) (X : Nat → Int) :
    (annS p s n X).2 = (kerA p (2 ^ n) (putA p (2 ^ n) (lmT p s n X) (2 ^ n))).2 ∧ ∀ r j, r < (annS p s n X).2 → j < 2 ^ n → (annS p s n X).1 r j = (kerA p (2 ^ n) (putA p (2 ^ n) (lmT p s n X) (2 ^ n))).1 r j := by
  have hb := primeB_bd hp
  have h := bSt_putA hp (lmT_in (p := p) (by omega) s n X)
  exact ker_same hp h.1 h.2
theorem annS_le {p : Int} (hp : primeB p = true) (s : Nat → Int) (n : Nat) (X : Nat → Int) : (annS p s n X).2 ≤ 2 ^ n := by
  have hb := primeB_bd hp
  exact (bSt_of hp (kerT_in (p := p) (by omega) (2 ^ n) _ _ _ _)).le

set_option maxRecDepth 100000 in
set_option maxHeartbeats 2000000 in
theorem iAnnih_c (p : Int) (sv : Value) (n : Nat) (s : Nat → Int) (xv : Value) (nx : Nat) (X : Nat → Int) (w : World)
    (h : Ints w sv n s) (hx : Ints w xv nx X) :
    Calls Try.prog 25 #[dbl p sv, xv] w fun e w' => ResCT w w' e (codeE (dblB p n s) p n 1 (fun _ => nx) (fun _ => X)) (annS p s n X).2 (fun _ => 2 ^ n) (annS p s n X).1 := by
  have h' := h
  obtain ⟨ao, c, _, _, rfl, qh⟩ := h.out
  clear qh
  obtain ⟨xa, xc, _, _, rfl, qx⟩ := hx.out
  clear qx
  have BX := Lib.hid (box0 w p ao n c 30)
  have b0 := BX.out.2.2.2
  have BL : Hid (Below w.heap.size w ((w.alloc (.cells #[.int .i64 p, .slice ao n c] 30)).alloc (.cells #[.slice xa nx xc] 22))) := b0.alloc b0.size _
  have ht := list1 22 (hx.below b0)
  rw [show (w.alloc (.cells #[.int .i64 p, .slice ao n c] 30)).heap.size = w.heap.size + 1 by simp] at ht
  have HT := Lib.hid ht
  clear ht
  have bA : Below (w.alloc (.cells #[.int .i64 p, .slice ao n c] 30)).heap.size (w.alloc (.cells #[.int .i64 p, .slice ao n c] 30)) ((w.alloc (.cells #[.int .i64 p, .slice ao n c] 30)).alloc (.cells #[.slice xa nx xc] 22)) := (Below.refl _ _).alloc (Nat.le_refl _) _
  have BXA := Lib.hid (boxKeep bA BX.out)
  obtain ⟨e0, e1, e2, e3⟩ := BX.out
  obtain ⟨cc, hcc⟩ : ∃ cc, codeE (dblB p n s) p n 1 (fun _ => nx) (fun _ => X) = cc := ⟨_, rfl⟩
  by_cases h0 : cc = 0
  · obtain ⟨hok, hel⟩ := codeE_zero (hcc.trans h0)
    have hv := dv_of h' hok
    have hpr := (dblB_ok hok).prime
    have hpb := primeB_bd hpr
    obtain ⟨l0, x0⟩ := elemB_el hx (hel 0 (by omega))
    have hn4 := hv.le
    have hp16 := pow_le hn4
    have hM0 := x0.pos
    have HC := Lib.hid hcc
    have H' := Lib.hid h'
    have HLf : Hid (∀ W, Below w.heap.size w W → Calls Try.prog 55 #[dbl p (.slice ao n c), .slice xa nx xc] W fun e w' => CopyT W w' e (2 ^ n) (fun _ => 2 ^ n) (lmT p s n X)) := fun W hb => iLeft_c p _ _ n s X W (hv.below hb) (x0.below hb) (by omega)
    have HK : Hid (∀ W v, Tab W v (2 ^ n) (fun _ => 2 ^ n) (lmT p s n X) → Calls Try.prog 54 #[.int .i64 p, v, .int .i64 ((2 ^ n : Nat) : Int)] W fun e w' => CopyT W w' e (annS p s n X).2 (fun _ => 2 ^ n) (annS p s n X).1) := fun W v h =>
      iKernel_c p v (2 ^ n) (2 ^ n) (lmT p s n X) W h ⟨hM0, by omega⟩ (by omega) hpr (lmT_in (by omega) s n X)
    have HZ : Hid (∀ W, Calls Try.prog 56 #[dbl p (.slice ao n c)] W fun e w' => Makes W w' e (.int .i64 ((2 ^ n : Nat) : Int))) := fun W => iSize_c p ao n c W hn4
    obtain ⟨Z, hZ⟩ : ∃ Z, annS p s n X = Z := ⟨_, rfl⟩
    obtain ⟨M, hM⟩ : ∃ M, 2 ^ n = M := ⟨_, rfl⟩
    rw [hZ, hM] at HK ⊢
    rw [hM] at HLf
    rw [hM] at HZ
    clear h hx x0 hel bA h' l0 hok hv hZ hM hpr hn4 hp16 hM0 hpb
    subst h0
    go_enter Try.func25, Try.ntmps25
    go_wp2_with fail
    go_at_call 34
    refine Calls.makes' (iCheckE_c p _ _ n 1 s _ _ _ (H'.out.below BL.out) HT.out) _ fun w1 hb1 => ?_
    rw [HC.out]
    obtain ⟨f0, f1, f2, f3⟩ := boxKeep hb1 BXA.out
    have BX1 := Lib.hid (boxKeep hb1 BXA.out)
    clear e0 e1 e2 e3 BX BXA b0
    go_wp2
    go_region_held3 (fun W => W.cell? ⟨w.heap.size, 0, none⟩ = some (.int .i64 p) ∧ W.cell? ⟨w.heap.size, 1, none⟩ = some (.slice ao n c) ∧ w.heap.size < W.heap.size ∧ Below w.heap.size w W)
      ((first | assumption | exact boxDrew ⟨f0, f1, f2, f3⟩ | exact boxKeep (by assumption) (by assumption)))
      ((first
        | (go_at_call 54; have hx := hb5; refine (HK.out _ _ (hO4.tab.below hb5)).mono ?_; rintro e w6 ⟨g6, c6, rfl, hb6, hO6⟩)
        | (go_at_call 56; refine Calls.makes' (HZ.out _) _ fun w5 hb5 => ?_)
        | (go_at_call 55; refine (HLf.out _ (boxBelow (by assumption))).mono ?_; rintro e w4 ⟨g4, c4, rfl, hb4, hO4⟩)
        | (go_at_call 35; refine Calls.makes' (iField_c _ _ _) _ fun w3 hb3 => ?_)))
    have b6 : Below w.heap.size w w6 := boxBelow (by assumption)
    have t3 := hb3.size
    have t4 := hb4.size
    have t5 := hb5.size
    have t1 := f3.size
    simp at t3
    go_wp2
    go_ret2
    exact ⟨b6, Or.inl ⟨HC.out, g6, c6, rfl, hO6.mono (by omega)⟩⟩
  · have HC := Lib.hid hcc
    have H' := Lib.hid h'
    have hne : (cc != 0) = true := by rw [bne_iff_ne]; exact h0
    obtain ⟨Z, hZ⟩ : ∃ Z, annS p s n X = Z := ⟨_, rfl⟩
    obtain ⟨M, hM⟩ : ∃ M, 2 ^ n = M := ⟨_, rfl⟩
    rw [hZ, hM]
    clear h hx bA h' hZ hM
    go_enter Try.func25, Try.ntmps25
    go_wp2_with fail
    go_at_call 34
    refine Calls.makes' (iCheckE_c p _ _ n 1 s _ _ _ (H'.out.below BL.out) HT.out) _ fun w1 hb1 => ?_
    rw [HC.out]
    go_wp2
    go_ret2
    exact ⟨BL.out.trans (hb1.mono BL.out.size), Or.inr ⟨by rw [HC.out]; exact h0, by rw [HC.out]; rfl⟩⟩

set_option maxRecDepth 100000 in
set_option maxHeartbeats 2000000 in
theorem sAnnih_c (p : Int) (sv : Value) (n : Nat) (s : Nat → Int) (xv : Value) (nx : Nat) (X : Nat → Int) (w : World)
    (h : Ints w sv n s) (hx : Ints w xv nx X) :
    Calls Try.prog 23 #[dbl p sv, xv] w fun e w' => ResCT w w' e (codeE (dblB p n s) p n 1 (fun _ => nx) (fun _ => X)) (annS p s n X).2 (fun _ => 2 ^ n) (annS p s n X).1 := by
  have h' := h
  obtain ⟨ao, c, _, _, rfl, qh⟩ := h.out
  clear qh
  obtain ⟨xa, xc, _, _, rfl, qx⟩ := hx.out
  clear qx
  have BX := Lib.hid (box0 w p ao n c 30)
  have b0 := BX.out.2.2.2
  have BL : Hid (Below w.heap.size w ((w.alloc (.cells #[.int .i64 p, .slice ao n c] 30)).alloc (.cells #[.slice xa nx xc] 22))) := b0.alloc b0.size _
  have ht := list1 22 (hx.below b0)
  rw [show (w.alloc (.cells #[.int .i64 p, .slice ao n c] 30)).heap.size = w.heap.size + 1 by simp] at ht
  have HT := Lib.hid ht
  clear ht
  have bA : Below (w.alloc (.cells #[.int .i64 p, .slice ao n c] 30)).heap.size (w.alloc (.cells #[.int .i64 p, .slice ao n c] 30)) ((w.alloc (.cells #[.int .i64 p, .slice ao n c] 30)).alloc (.cells #[.slice xa nx xc] 22)) := (Below.refl _ _).alloc (Nat.le_refl _) _
  have BXA := Lib.hid (boxKeep bA BX.out)
  obtain ⟨e0, e1, e2, e3⟩ := BX.out
  obtain ⟨cc, hcc⟩ : ∃ cc, codeE (dblB p n s) p n 1 (fun _ => nx) (fun _ => X) = cc := ⟨_, rfl⟩
  by_cases h0 : cc = 0
  · obtain ⟨hok, hel⟩ := codeE_zero (hcc.trans h0)
    have hv := dv_of h' hok
    have hpr := (dblB_ok hok).prime
    have hpb := primeB_bd hpr
    obtain ⟨l0, x0⟩ := elemB_el hx (hel 0 (by omega))
    have hn4 := hv.le
    have hp16 := pow_le hn4
    have hM0 := x0.pos
    have HC := Lib.hid hcc
    have H' := Lib.hid h'
    have HLf : Hid (∀ W, Below w.heap.size w W → Calls Try.prog 53 #[dbl p (.slice ao n c), .slice xa nx xc] W fun e w' => CopyT W w' e (2 ^ n) (fun _ => 2 ^ n) (lmT p s n X)) := fun W hb => sLeft_c p _ _ n s X W (hv.below hb) (x0.below hb) (by omega)
    have HK : Hid (∀ W v, Tab W v (2 ^ n) (fun _ => 2 ^ n) (lmT p s n X) → Calls Try.prog 52 #[.int .i64 p, .int .i64 ((nx : Nat) : Int), v] W fun e w' => CopyT W w' e (annS p s n X).2 (fun _ => 2 ^ n) (annS p s n X).1) := fun W v h => by
      have hs := annS_same hpr s n X
      have hk := sK12_c p v (2 ^ n) (2 ^ n) (lmT p s n X) W h ⟨hM0, by omega⟩ (by omega) hpr (lmT_in (by omega) s n X)
      rw [← l0] at hk ⊢
      exact hk.mono fun e w' h => h.turn (by rw [l0]; exact hs.1.symm) fun i j hi hj => by
        rw [l0] at hi hj ⊢
        exact (hs.2 i j (by rw [hs.1]; exact hi) hj).symm
    obtain ⟨Z, hZ⟩ : ∃ Z, annS p s n X = Z := ⟨_, rfl⟩
    obtain ⟨M, hM⟩ : ∃ M, 2 ^ n = M := ⟨_, rfl⟩
    rw [hZ, hM] at HK ⊢
    rw [hM] at HLf
    clear h hx x0 hel bA h' l0 hok hv hZ hM hpr hn4 hp16 hM0 hpb
    subst h0
    go_enter Try.func23, Try.ntmps23
    go_wp2_with fail
    go_at_call 31
    refine Calls.makes' (sCode_c p _ _ n 1 s _ _ _ (H'.out.below BL.out) HT.out) _ fun w1 hb1 => ?_
    rw [HC.out]
    obtain ⟨f0, f1, f2, f3⟩ := boxKeep hb1 BXA.out
    have BX1 := Lib.hid (boxKeep hb1 BXA.out)
    clear e0 e1 e2 e3 BX BXA b0
    go_wp2
    go_region_held3 (fun W => W.cell? ⟨w.heap.size, 0, none⟩ = some (.int .i64 p) ∧ W.cell? ⟨w.heap.size, 1, none⟩ = some (.slice ao n c) ∧ w.heap.size < W.heap.size ∧ Below w.heap.size w W)
      ((first | assumption | exact boxDrew ⟨f0, f1, f2, f3⟩ | exact boxKeep (by assumption) (by assumption)))
      ((first
        | (go_at_call 52; refine (HK.out _ _ hO4.tab).mono ?_; rintro e w6 ⟨g6, c6, rfl, hb6, hO6⟩)
        | (go_at_call 53; refine (HLf.out _ (boxBelow (by assumption))).mono ?_; rintro e w4 ⟨g4, c4, rfl, hb4, hO4⟩)))
    have b6 : Below w.heap.size w w6 := boxBelow (by assumption)
    have t4 := hb4.size
    have t1 := f3.size
    simp at t4
    go_wp2
    go_ret2
    exact ⟨b6, Or.inl ⟨HC.out, g6, c6, rfl, hO6.mono (by omega)⟩⟩
  · have HC := Lib.hid hcc
    have H' := Lib.hid h'
    have hne : (cc != 0) = true := by rw [bne_iff_ne]; exact h0
    obtain ⟨Z, hZ⟩ : ∃ Z, annS p s n X = Z := ⟨_, rfl⟩
    obtain ⟨M, hM⟩ : ∃ M, 2 ^ n = M := ⟨_, rfl⟩
    rw [hZ, hM]
    clear h hx bA h' hZ hM
    go_enter Try.func23, Try.ntmps23
    go_wp2_with fail
    go_at_call 31
    refine Calls.makes' (sCode_c p _ _ n 1 s _ _ _ (H'.out.below BL.out) HT.out) _ fun w1 hb1 => ?_
    rw [HC.out]
    go_wp2
    go_ret2
    exact ⟨BL.out.trans (hb1.mono BL.out.size), Or.inr ⟨by rw [HC.out]; exact h0, by rw [HC.out]; rfl⟩⟩


end Go.Proofs.Ytdehfpnlehbdjaa
