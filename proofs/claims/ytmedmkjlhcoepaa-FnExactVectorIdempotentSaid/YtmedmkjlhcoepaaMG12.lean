/-
  VectorIdempotent, by the program. No condition beside sizes.
-/
import Derived.Test.YtmedmkjlhcoepaaMG11
import Derived.Test.YtmedmkjlhcoepaaSE1
set_option linter.unusedVariables false
set_option linter.unusedSimpArgs false
namespace Go.Proofs.Ytmedmkjlhcoepaa
open Go.RowKit

/-- why there is no idempotent -/
def badI (p : Int) (n : Nat) (s X : Nat → Int) : Bool := !onlyB (2 ^ n) X 1 || (pairF p s n (vF X) (vF X) == 0 || !hasRoot p.toNat (pairF p s n (vF X) (vF X)))
/-- the least root of the norm -/
def nrI (p : Int) (n : Nat) (s X : Nat → Int) : Int := rtV p.toNat (pairF p s n (vF X) (vF X))
theorem rtV_bd {P : Nat} {a : Int} (hP : 1 ≤ P) (ha : 0 ≤ a ∧ a < P) (hz : a ≠ 0) (h : hasRoot P a = true) : 0 < rtV P a ∧ rtV P a < P := by
  have hlt := of_decide_eq_true h
  have hr := fst_is (rootB P a) P hlt
  unfold rtV
  rw [if_pos h]
  have h0 : fst (rootB P a) P ≠ 0 := fun e => by
    rw [e] at hr
    have : (0 : Int) = a := by simpa [rootB] using hr
    omega
  omega

theorem thenC_nz {c k : Int} {b : Bool} (h : c ≠ 0) : thenC c b k = c := if_neg h

set_option maxRecDepth 100000 in
set_option maxHeartbeats 8000000 in
theorem iVecIdem_c (p : Int) (sv : Value) (n : Nat) (s : Nat → Int) (xv : Value) (nx : Nat) (X : Nat → Int) (w : World) (h : Ints w sv n s) (hx : Ints w xv nx X) :
    Calls Try.prog 42 #[dbl p sv, xv] w fun e w' => ResC w w' e (thenC (thenC (codeM (spB p n s) p n 1 (fun _ => nx) (fun _ => X)) (decide (4 < n)) 3) (badI p n s X) 5) n (viF p (nrI p n s X) X) := by
  have h' := h
  obtain ⟨ao, c, _, _, rfl, qh⟩ := h.out
  clear qh
  have hx0 := hx
  obtain ⟨xa, xc, _, _, rfl, qx⟩ := hx.out
  clear qx
  have BX := Lib.hid (box0 w p ao n c 30)
  have b0 := BX.out.2.2.2
  have BL : Hid (Below w.heap.size w ((w.alloc (.cells #[.int .i64 p, .slice ao n c] 30)).alloc (.cells #[.slice xa nx xc] 22))) := b0.alloc b0.size _
  have ht := list1 22 (hx.below b0)
  rw [show (w.alloc (.cells #[.int .i64 p, .slice ao n c] 30)).heap.size = w.heap.size + 1 by simp] at ht
  have HT := Lib.hid ht
  clear ht
  have bA : Below (w.alloc (.cells #[.int .i64 p, .slice ao n c] 30)).heap.size (w.alloc (.cells #[.int .i64 p, .slice ao n c] 30)) ((w.alloc (.cells #[.int .i64 p, .slice ao n c] 30)).alloc (.cells #[.slice xa nx xc] 22)) := (Below.refl _ _).alloc (Nat.le_refl _) _
  have BXA := Lib.hid (boxKeep bA BX.out)
  obtain ⟨e0, e1, e2, e3⟩ := BX.out
  obtain ⟨cc, hcc⟩ : ∃ cc, (thenC (codeM (spB p n s) p n 1 (fun _ => nx) (fun _ => X)) (decide (4 < n)) 3) = cc := ⟨_, rfl⟩
  by_cases h0 : cc = 0
  · obtain ⟨hok, hel⟩ := codeM_zero (thenC_zero (hcc.trans h0))
    obtain ⟨l0, x0⟩ := mvB_mv hx0 (hel 0 (by omega))
    have HV : Hid (∀ W, Below w.heap.size w W → SV W (.slice ao n c) p n s) := fun W hb => ⟨h'.below hb, spB_ok hok⟩
    have HX : Hid (∀ W, Below w.heap.size w W → Mv W (.slice xa nx xc) p n X) := fun W hb => x0.below hb
    have HOK := Lib.hid hok
    have HC := Lib.hid hcc
    have H' := Lib.hid h'
    have hpb := (spB_ok hok).bd
    have hn6 := (spB_ok hok).n6
    have hn1 := (spB_ok hok).n1
    have HL0 := Lib.hid l0
    obtain rfl := HL0.out
    have hM := pow_le6 hn6
    obtain ⟨P, rfl⟩ : ∃ P : Nat, p = (P : Int) := ⟨p.toNat, by omega⟩
    have hpr := Lib.hid (spB_ok hok).prime
    have hXi := Lib.hid x0.inp
    have hvin : InP (P : Int) n (vF X) := fun i hi => hXi.out _ (p2_lt hi)
    have HVI := Lib.hid hvin
    obtain ⟨a, ha⟩ : ∃ a, pairF (P : Int) s n (vF X) (vF X) = a := ⟨_, rfl⟩
    have hab : 0 ≤ a ∧ a < (P : Int) := ha ▸ pairF_in (by omega) s n _ _
    obtain ⟨q1, hq1⟩ : ∃ q, onlyB (2 ^ n) X 1 = q := ⟨_, rfl⟩
    have HBD : Hid (badI P n s X = (!q1 || (a == 0 || !hasRoot P a))) := by unfold badI; rw [ha, hq1, Int.toNat_natCast]; exact rfl
    have HRT : Hid (nrI P n s X = rtV P a) := by unfold nrI; rw [ha, Int.toNat_natCast]; exact rfl
    have HR1 := Lib.hid (rtV_bd (P := P) (a := a) (by omega) hab)
    have C1 : Hid (∀ W, Below w.heap.size w W → ∀ u, Ints W u n (vF X) → Calls Try.prog 65 #[dbl (P : Int) (.slice ao n c), u] W fun e w' => Makes W w' e (.int .i64 a)) := fun W hb u hu => ha ▸ iSNorm_c (P : Int) _ u n s (vF X) W (HV.out W hb) ⟨hu, hvin⟩
    have C2 : Hid (∀ W, Below w.heap.size w W → Calls Try.prog 94 #[.slice xa (2 ^ n) xc, .int .i64 1] W fun e w' => Makes W w' e (.bool q1)) := fun W hb => hq1 ▸ iOnly_c _ n X 1 W (HX.out W hb).ints hn6
    have C3 := Lib.hid (fun W => iRootV_c P a W (by omega) (by omega))
    obtain ⟨r, hr⟩ : ∃ r, rtV P a = r := ⟨_, rfl⟩
    rw [hr] at HR1 HRT C3
    obtain ⟨q3, hq3⟩ : ∃ q, hasRoot P a = q := ⟨_, rfl⟩
    rw [hq3] at HR1 HBD C3
    clear ha hq1 hr hq3 hvin
    clear h hx hx0 x0 hel bA h' l0 hok
    subst h0
    go_enter Try.func42, Try.ntmps42
    go_wp2_with fail
    go_at_call 91
    refine Calls.makes' (iCkAlg_c _ _ _ n 1 s _ _ _ (H'.out.below BL.out) HT.out) _ fun w1 hb1 => ?_
    rw [HC.out]
    obtain ⟨f0, f1, f2, f3⟩ := boxKeep hb1 BXA.out
    clear e0 e1 e2 e3
    go_wp2
    go_region_held3 (fun W => W.cell? ⟨w.heap.size, 0, none⟩ = some (.int .i64 (P : Int)) ∧ W.cell? ⟨w.heap.size, 1, none⟩ = some (.slice ao n c) ∧ w.heap.size < W.heap.size ∧ Below w.heap.size w W)
      ((first | assumption | exact boxDrew ⟨f0, f1, f2, f3⟩ | exact boxKeep (by assumption) (by assumption)))
      ((first
        | (have hz := hO1; go_at_call 65; refine Calls.makes' (C1.out _ (boxBelow (by assumption)) _ hO1.ints) _ fun v2 hb2 => ?_; clear hz)
        | (go_at_call 92; refine (iVpart_c (P : Int) _ n s _ X _ (HV.out _ (boxBelow (by assumption))) (HX.out _ (boxBelow (by assumption)))).mono ?_; rintro e v1 ⟨g1, c1, rfl, hg1, hb1', hO1⟩)))
    have bx : BoxD w (P : Int) ao n c v2 := by assumption
    obtain ⟨k0, k1, k2, k3⟩ := bx
    clear f0 f1 f2 f3 hO1 hb2 hb1'
    go_wp2_with fail
    go_at_call 60
    refine Calls.makes' (iSField_c _ _ _) _ fun w3 hb3 => ?_
    replace k0 := cellKp hb3 k0
    replace k1 := cellKp hb3 k1
    replace k3 := k3.trans (hb3.mono k3.size)
    clear hb3 k2
    go_wp2_with fail
    go_at_call 93
    refine (C3.out _).mono ?_
    rintro e w' ⟨rfl, rfl⟩
    go_wp2_with fail
    go_at_call 94
    refine Calls.makes' (C2.out _ k3) _ fun w4 hb4 => ?_
    replace k0 := cellKp hb4 k0
    replace k1 := cellKp hb4 k1
    replace k3 := k3.trans (hb4.mono k3.size)
    clear hb4
    have K3 := Lib.hid k3
    cases q1
    · have HBE := Lib.hid (show badI P n s X = true by rw [HBD.out]; rfl)
      clear HBD k3
      go_wp2
      go_ret2
      exact ⟨K3.out, Or.inr ⟨(by rw [HC.out, HBE.out]; decide), by rw [HC.out, HBE.out]; rfl⟩⟩
    by_cases h0 : a = 0
    · subst h0
      have HBE := Lib.hid (show badI P n s X = true by rw [HBD.out]; rfl)
      clear HBD k3
      go_wp2
      go_ret2
      exact ⟨K3.out, Or.inr ⟨(by rw [HC.out, HBE.out]; decide), by rw [HC.out, HBE.out]; rfl⟩⟩
    have h0b : (a == 0) = false := by simpa using h0
    have H0 := Lib.hid h0
    clear h0
    cases q3
    · have HBE := Lib.hid (show badI P n s X = true by rw [HBD.out, h0b]; rfl)
      clear HBD k3
      go_wp2
      go_ret2
      exact ⟨K3.out, Or.inr ⟨(by rw [HC.out, HBE.out]; decide), by rw [HC.out, HBE.out]; rfl⟩⟩
    have HBE := Lib.hid (show badI P n s X = false by rw [HBD.out, h0b]; rfl)
    obtain ⟨hr1, hr2⟩ := HR1.out H0.out rfl
    have hi2 := powM_bd (p := (P : Int)) (a := 2) (by omega) ((P : Int) - 2).toNat
    have hir := powM_bd (p := (P : Int)) (a := r) (by omega) ((P : Int) - 2).toNat
    have HI2 : Hid (∀ W, Calls Try.prog 98 #[.int .i64 (P : Int), .int .i64 2] W fun e w' => e = .returned (.int .i64 (invM P 2)) ∧ W = w') := fun W => iInv_c P 2 W (by omega) (by omega) (by omega)
    have HIR : Hid (∀ W, Calls Try.prog 98 #[.int .i64 (P : Int), .int .i64 r] W fun e w' => e = .returned (.int .i64 (invM P r)) ∧ W = w') := fun W => iInv_c P r W (by omega) (by omega) (by omega)
    have HVI2 : Hid (∀ i, viF (P : Int) r X i = ((dlt 0 i + invM (P : Int) r * X i) % (P : Int) * invM (P : Int) 2) % (P : Int)) := fun i => rfl
    obtain ⟨u2, hu2⟩ : ∃ u, invM (P : Int) 2 = u := ⟨_, rfl⟩
    obtain ⟨ur, hur⟩ : ∃ u, invM (P : Int) r = u := ⟨_, rfl⟩
    have hi2' : 0 ≤ u2 ∧ u2 < (P : Int) := hu2 ▸ hi2
    have hir' : 0 ≤ ur ∧ ur < (P : Int) := hur ▸ hir
    rw [hu2] at HI2 HVI2
    rw [hur] at HIR HVI2
    clear hi2 hir hu2 hur HBD HR1
    go_wp2_with fail
    go_at_call 60
    refine Calls.makes' (iSField_c _ _ _) _ fun w5 hb5 => ?_
    replace k0 := cellKp hb5 k0
    replace k1 := cellKp hb5 k1
    replace k3 := k3.trans (hb5.mono k3.size)
    clear hb5
    go_wp2_with fail
    go_at_call 97
    refine (iOneM_c (P : Int) ao n c _ hn6).mono ?_
    rintro e w6 ⟨g6, c6, rfl, hg6, hb6, hO6⟩
    have hI6 := Lib.hid hO6.ints
    replace k0 := cellKp hb6 k0
    replace k1 := cellKp hb6 k1
    replace k3 := k3.trans (hb6.mono k3.size)
    clear hO6 hb6
    go_wp2_with fail
    go_at_call 98
    refine (HIR.out _).mono ?_
    rintro e w' ⟨rfl, rfl⟩
    have HPl := Lib.hid (iPlus_c (P : Int) _ _ (2 ^ n) (2 ^ n) (dlt 0) X ur w6 hI6.out (HX.out w6 k3).ints (Nat.le_refl _) (by omega) (by omega) (by omega) ((dlt_in (by omega) _ _ : InP (P : Int) (2 ^ n) (dlt 0)).sm (by omega)) (hXi.out.sm (by omega)) (by omega))
    go_wp2_with fail
    go_at_call 96
    refine HPl.out.mono ?_
    rintro e w7 ⟨g7, c7, rfl, hg7, hb7, hO7⟩
    have hI7 := Lib.hid hO7.ints
    replace k3 := k3.trans (hb7.mono k3.size)
    clear hO7 hb7 HPl hI6
    go_wp2_with fail
    go_at_call 98
    refine (HI2.out _).mono ?_
    rintro e w' ⟨rfl, rfl⟩
    have HSc := Lib.hid (iScaled_c (P : Int) _ (2 ^ n) (fun i => (dlt 0 i + ur * X i) % (P : Int)) u2 w7 hI7.out (by omega) (by omega) (by omega) (fun i hi => by have := mod_bd (dlt 0 i + ur * X i) (P : Int) (by omega); show -1000 ≤ (dlt 0 i + ur * X i) % (P : Int) ∧ (dlt 0 i + ur * X i) % (P : Int) ≤ 1000; omega) (by omega))
    go_wp2_with fail
    go_at_call 95
    refine HSc.out.mono ?_
    rintro e w8 ⟨g8, c8, rfl, hg8, hb8, hO8⟩
    have HO8 := Lib.hid (hO8.congr (V' := fun i => .int .i64 (viF (P : Int) r X i)) fun i hi => by rw [HVI2.out i])
    have hs7 := k3.size
    have K8 := Lib.hid (k3.trans (hb8.mono k3.size))
    clear hO8 hb8 HSc k3
    go_wp2
    go_ret2
    exact ⟨K8.out, Or.inl ⟨by rw [HC.out, HBE.out]; rfl, g8, c8, rfl, by omega, by rw [HRT.out]; exact HO8.out⟩⟩
  · have HC := Lib.hid hcc
    have H' := Lib.hid h'
    have hne : (cc != 0) = true := by rw [bne_iff_ne]; exact h0
    have hne2 : (cc == 0) = false := by simp [h0]
    clear h hx hx0 bA h'
    go_enter Try.func42, Try.ntmps42
    go_wp2_with fail
    go_at_call 91
    refine Calls.makes' (iCkAlg_c _ _ _ n 1 s _ _ _ (H'.out.below BL.out) HT.out) _ fun w1 hb1 => ?_
    rw [HC.out]
    go_wp2
    go_ret2
    exact ⟨BL.out.trans (hb1.mono BL.out.size), Or.inr ⟨by rw [HC.out, thenC_nz h0]; exact h0, by rw [HC.out, thenC_nz h0]; rfl⟩⟩


end Go.Proofs.Ytmedmkjlhcoepaa
