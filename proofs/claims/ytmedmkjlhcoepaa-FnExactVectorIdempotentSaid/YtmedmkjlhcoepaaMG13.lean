/-
  VectorIdempotent, by the reference. No condition beside sizes.
-/
import Derived.Test.YtmedmkjlhcoepaaMG12
set_option linter.unusedVariables false
set_option linter.unusedSimpArgs false
namespace Go.Proofs.Ytmedmkjlhcoepaa
open Go.RowKit

/-- the box, at worlds that come after W0 -/
def SB (W0 : World) (bd : Nat) (P : Int) (a : Option Addr) (m c : Nat) (W : World) : Prop :=
  W.cell? ⟨bd, 0, none⟩ = some (.int .i64 P) ∧ W.cell? ⟨bd, 1, none⟩ = some (.slice a m c) ∧ bd < W.heap.size ∧ Below W0.heap.size W0 W
theorem sbKeep {W0 W W' : World} {bd : Nat} {P : Int} {a : Option Addr} {m c : Nat} (hb : Below W.heap.size W W') (h : SB W0 bd P a m c W) : SB W0 bd P a m c W' :=
  ⟨cellKp hb h.1, cellKp hb h.2.1, by have := hb.size; have := h.2.2.1; omega, h.2.2.2.trans (hb.mono h.2.2.2.size)⟩
theorem sbDrew {W0 : World} {bd : Nat} {P : Int} {a : Option Addr} {m c : Nat} (h0 : W0.cell? ⟨bd, 0, none⟩ = some (.int .i64 P)) (h1 : W0.cell? ⟨bd, 1, none⟩ = some (.slice a m c)) (hl : bd < W0.heap.size) : SB W0 bd P a m c W0.drew :=
  sbKeep (drewB W0) ⟨h0, h1, hl, Below.refl _ _⟩
theorem sbBelow {W0 W : World} {bd : Nat} {P : Int} {a : Option Addr} {m c : Nat} (h : SB W0 bd P a m c W) : Below W0.heap.size W0 W := h.2.2.2

set_option maxRecDepth 100000 in
set_option maxHeartbeats 8000000 in
theorem sVecIdem_c (p : Int) (sv : Value) (n : Nat) (s : Nat → Int) (xv : Value) (nx : Nat) (X : Nat → Int) (w : World) (h : Ints w sv n s) (hx : Ints w xv nx X) :
    Calls Try.prog 41 #[dbl p sv, xv] w fun e w' => ResC w w' e (thenC (thenC (codeM (spB p n s) p n 1 (fun _ => nx) (fun _ => X)) (decide (4 < n)) 3) (badI p n s X) 5) n (viF p (nrI p n s X) X) := by
  have h' := h
  obtain ⟨ao, c, _, _, rfl, qh⟩ := h.out
  clear qh
  have hx0 := hx
  obtain ⟨xa, xc, _, _, rfl, qx⟩ := hx.out
  clear qx
  have BX := Lib.hid (box0 w p ao n c 30)
  have b0 := BX.out.2.2.2
  have BL : Hid (Below w.heap.size w ((w.alloc (.cells #[.int .i64 p, .slice ao n c] 30)).alloc (.cells #[.slice xa nx xc] 22))) := b0.alloc b0.size _
  have ht := list1 22 (hx.below b0)
  rw [show (w.alloc (.cells #[.int .i64 p, .slice ao n c] 30)).heap.size = w.heap.size + 1 by simp] at ht
  have HT := Lib.hid ht
  clear ht
  have bA : Below (w.alloc (.cells #[.int .i64 p, .slice ao n c] 30)).heap.size (w.alloc (.cells #[.int .i64 p, .slice ao n c] 30)) ((w.alloc (.cells #[.int .i64 p, .slice ao n c] 30)).alloc (.cells #[.slice xa nx xc] 22)) := (Below.refl _ _).alloc (Nat.le_refl _) _
  have BXA := Lib.hid (boxKeep bA BX.out)
  obtain ⟨e0, e1, e2, e3⟩ := BX.out
  obtain ⟨cc, hcc⟩ : ∃ cc, (thenC (codeM (spB p n s) p n 1 (fun _ => nx) (fun _ => X)) (decide (4 < n)) 3) = cc := ⟨_, rfl⟩
  by_cases h0 : cc = 0
  · obtain ⟨hok, hel⟩ := codeM_zero (thenC_zero (hcc.trans h0))
    obtain ⟨l0, x0⟩ := mvB_mv hx0 (hel 0 (by omega))
    have HV : Hid (∀ W, Below w.heap.size w W → SV W (.slice ao n c) p n s) := fun W hb => ⟨h'.below hb, spB_ok hok⟩
    have HX : Hid (∀ W, Below w.heap.size w W → Mv W (.slice xa nx xc) p n X) := fun W hb => x0.below hb
    have HOK := Lib.hid hok
    have HC := Lib.hid hcc
    have H' := Lib.hid h'
    have hpb := (spB_ok hok).bd
    have hn6 := (spB_ok hok).n6
    have hn1 := (spB_ok hok).n1
    have HL0 := Lib.hid l0
    obtain rfl := HL0.out
    have hM := pow_le6 hn6
    obtain ⟨P, rfl⟩ : ∃ P : Nat, p = (P : Int) := ⟨p.toNat, by omega⟩
    have hpr := Lib.hid (spB_ok hok).prime
    have hXi := Lib.hid x0.inp
    have hvin : InP (P : Int) n (vF X) := fun i hi => hXi.out _ (p2_lt hi)
    have HVI := Lib.hid hvin
    obtain ⟨a, ha⟩ : ∃ a, pairF (P : Int) s n (vF X) (vF X) = a := ⟨_, rfl⟩
    have hab : 0 ≤ a ∧ a < (P : Int) := ha ▸ pairF_in (by omega) s n _ _
    obtain ⟨q1, hq1⟩ : ∃ q, onlyB (2 ^ n) X 1 = q := ⟨_, rfl⟩
    have HBD : Hid (badI P n s X = (!q1 || (a == 0 || !hasRoot P a))) := by unfold badI; rw [ha, hq1, Int.toNat_natCast]; exact rfl
    have HRT : Hid (nrI P n s X = rtV P a) := by unfold nrI; rw [ha, Int.toNat_natCast]; exact rfl
    have HR1 := Lib.hid (rtV_bd (P := P) (a := a) (by omega) hab)
    have C1 : Hid (∀ W, Below w.heap.size w W → ∀ u, Ints W u n (vF X) → Calls Try.prog 52 #[dbl (P : Int) (.slice ao n c), u, u] W fun e w' => Makes W w' e (.int .i64 a)) := fun W hb u hu => ha ▸ sPair_c (P : Int) _ u u n s (vF X) (vF X) W (HV.out W hb) ⟨hu, hvin⟩ ⟨hu, hvin⟩
    have HQ : Hid (eqB (2 ^ n) (2 ^ n) X (partF 1 X) = q1) := hq1 ▸ part_only 1
    obtain ⟨t, ht⟩ : ∃ t, idxB (rootB P a) P = t := ⟨_, rfl⟩
    have C3 : Hid (∀ W, Calls Try.prog 86 #[.int .i64 (P : Int), .int .i64 a] W fun e w' => e = .returned (.int .i64 t) ∧ W = w') := fun W => ht ▸ sRoot_c P a W (by omega) (by omega)
    obtain ⟨hi1, hi2⟩ := idx_root (P := P) (a := a) (by omega) hab
    rw [ht] at hi1 hi2
    have HI1 := Lib.hid hi1
    have HI2 := Lib.hid hi2
    have htb : -1 ≤ t ∧ t ≤ (P : Int) := by rw [← ht]; unfold idxB; split <;> omega
    clear ha hq1 ht hvin hi1 hi2
    clear h hx hx0 x0 hel bA h' l0 hok
    subst h0
    go_enter Try.func41, Try.ntmps41
    go_wp2_with fail
    go_at_call 84
    refine Calls.makes' (sCkAlg_c _ _ _ n 1 s _ _ _ (H'.out.below BL.out) HT.out) _ fun w1 hb1 => ?_
    rw [HC.out]
    obtain ⟨f0, f1, f2, f3⟩ := boxKeep hb1 BXA.out
    clear e0 e1 e2 e3
    go_wp2_with fail
    go_at_call 85
    refine (sVlist_c (P : Int) _ n s _ X _ (HV.out _ f3) (HX.out _ f3)).mono ?_
    rintro e w2 ⟨g2, c2, rfl, hg2, hb2, hO2⟩
    obtain ⟨k0, k1, k2, k3⟩ := boxKeep hb2 ⟨f0, f1, f2, f3⟩
    have HI := Lib.hid (fun (W : World) (hb : Below w2.heap.size w2 W) => hO2.ints.below hb)
    have K3 := Lib.hid k3
    clear f0 f1 f2 f3 hb2 hO2
    go_wp2
    go_region_held3 (fun W => W.cell? ⟨w.heap.size, 0, none⟩ = some (.int .i64 (P : Int)) ∧ W.cell? ⟨w.heap.size, 1, none⟩ = some (.slice ao n c) ∧ w.heap.size < W.heap.size ∧ Below w2.heap.size w2 W)
      ((first | assumption | exact sbDrew k0 k1 k2 | exact sbKeep (by assumption) (by assumption)))
      ((first
        | (go_at_call 86; refine (C3.out _).mono ?_; rintro e w' ⟨rfl, rfl⟩)
        | (go_at_call 52; refine Calls.makes' (C1.out _ (K3.out.trans ((sbBelow (by assumption)).mono K3.out.size)) _ (HI.out _ (sbBelow (by assumption)))) _ fun v3 hb3 => ?_)))
    have hbr : Below w2.heap.size w2 v3 := sbBelow (by assumption)
    replace k0 := cellKp hbr k0
    replace k1 := cellKp hbr k1
    replace k3 := k3.trans (hbr.mono k3.size)
    clear hbr hb3 k2 HI K3
    go_wp2_with fail
    go_at_call 81
    refine (sPart_c _ (2 ^ n) X 1 _ (HX.out _ k3).ints hM).mono ?_
    rintro e w4 ⟨g4, c4, rfl, hg4, hb4, hO4⟩
    replace k0 := cellKp hb4 k0
    replace k1 := cellKp hb4 k1
    replace k3 := k3.trans (hb4.mono k3.size)
    have HS := Lib.hid (sSame_c _ _ _ _ _ _ w4 (HX.out _ k3).ints hO4.ints)
    rw [HQ.out] at HS
    clear hO4 hb4
    go_wp2_with fail
    go_at_call 80
    refine Calls.reads' (wr := w) HS.out _ fun z1 => ?_
    replace k0 := cellKp (below_drewN _ z1) k0
    replace k1 := cellKp (below_drewN _ z1) k1
    replace k3 := k3.trans ((below_drewN _ z1).mono k3.size)
    clear HS
    have K3 := Lib.hid k3
    cases q1
    · have HBE := Lib.hid (show badI P n s X = true by rw [HBD.out]; rfl)
      clear HBD k3
      go_wp2
      go_ret2
      exact ⟨K3.out, Or.inr ⟨(by rw [HC.out, HBE.out]; decide), by rw [HC.out, HBE.out]; rfl⟩⟩
    by_cases hle : t ≤ 0
    · have HBE := Lib.hid (show badI P n s X = true by rw [HBD.out, ← HI1.out, decide_eq_true hle]; rfl)
      clear HBD k3
      go_wp2
      go_ret2
      exact ⟨K3.out, Or.inr ⟨(by rw [HC.out, HBE.out]; decide), by rw [HC.out, HBE.out]; rfl⟩⟩
    have hbf : (a == 0 || !hasRoot P a) = false := by rw [← HI1.out]; exact decide_eq_false hle
    have HBE := Lib.hid (show badI P n s X = false by rw [HBD.out, hbf]; rfl)
    have HTR := Lib.hid (HI2.out hbf)
    have hz : a ≠ 0 := fun e => by rw [e] at hbf; simp at hbf
    have hroot : hasRoot P a = true := by cases hh : hasRoot P a; (· rw [hh] at hbf; simp at hbf); rfl
    obtain ⟨hr1, hr2⟩ := HR1.out hz hroot
    rw [← HTR.out] at hr1 hr2
    have hi2 := powM_bd (p := (P : Int)) (a := 2) (by omega) ((P : Int) - 2).toNat
    have hir := powM_bd (p := (P : Int)) (a := t) (by omega) ((P : Int) - 2).toNat
    have HH2 : Hid (∀ W, Calls Try.prog 87 #[.int .i64 (P : Int), .int .i64 2] W fun e w' => e = .returned (.int .i64 (invM P 2)) ∧ W = w') := fun W => sInv_c P 2 W hpr.out (by omega) (by omega)
    have HIR : Hid (∀ W, Calls Try.prog 87 #[.int .i64 (P : Int), .int .i64 t] W fun e w' => e = .returned (.int .i64 (invM P t)) ∧ W = w') := fun W => sInv_c P t W hpr.out hr1 hr2
    have HVI2 : Hid (∀ i, viF (P : Int) t X i = ((dlt 0 i * invM (P : Int) 2) % (P : Int) + (invM (P : Int) 2 * invM (P : Int) t) % (P : Int) * X i) % (P : Int)) := fun i => viF_same.symm
    obtain ⟨u2, hu2⟩ : ∃ u, invM (P : Int) 2 = u := ⟨_, rfl⟩
    obtain ⟨ur, hur⟩ : ∃ u, invM (P : Int) t = u := ⟨_, rfl⟩
    have hi2' : 0 ≤ u2 ∧ u2 < (P : Int) := hu2 ▸ hi2
    have hir' : 0 ≤ ur ∧ ur < (P : Int) := hur ▸ hir
    rw [hu2] at HH2 HVI2
    rw [hur] at HIR HVI2
    have hm := mul_bd (a := u2) (b := ur) (by omega) (by omega)
    obtain ⟨y, hy⟩ : ∃ y, u2 * ur = y := ⟨_, rfl⟩
    have hy0 : 0 ≤ y := hy ▸ Int.mul_nonneg hi2'.1 hir'.1
    obtain ⟨K, hK⟩ : ∃ K, y % (P : Int) = K := ⟨_, rfl⟩
    have hKb : 0 ≤ K ∧ K < (P : Int) := hK ▸ mod_bd _ _ (by omega)
    rw [hy] at HVI2 hm
    rw [hK] at HVI2
    have hwy : IntKind.i64.wrap (u2 * ur) = y := by rw [hy]; exact wrap_in _ (by omega)
    have htm : Int.tmod y (P : Int) = K := by rw [← hK]; exact Int.tmod_eq_emod_of_nonneg hy0
    have hwK : IntKind.i64.wrap K = K := wrap_in _ (by omega)
    have hP0 : (P : Int) ≠ 0 := by omega
    have hPn : ¬ P = 0 := by omega
    have hPm : IntKind.i64.wrap (Int.tmod y (P : Int)) = K := by rw [htm]; exact hwK
    clear hi2 hir hu2 hur HBD HR1 hbf hz hroot hy HI1 HI2
    have HL4 := Lib.hid (fun (W : World) (u : Value) (hu : Ints W u (2 ^ n) (dlt 0)) => sScale2_c (P : Int) u (2 ^ n) (dlt 0) u2 W hu (by omega) (by omega) (by omega) (dlt_in (by omega) _ _) (by omega))
    have HL5 := Lib.hid (fun (W : World) (u : Value) (hu : Ints W u (2 ^ n) (fun i => (dlt 0 i * u2) % (P : Int))) (hb : Below w.heap.size w W) => sPlus2_c (P : Int) u _ (2 ^ n) (fun i => (dlt 0 i * u2) % (P : Int)) X K W hu (HX.out W hb).ints (by omega) (by omega) (by omega) (fun i hi => mod_bd _ _ (by omega)) hXi.out (by omega))
    go_wp2_with fail
    go_at_call 87
    refine (HH2.out _).mono ?_
    rintro e w' ⟨rfl, rfl⟩
    have hl5 : w.heap.size < (w4.drewN z1).heap.size := lt_of_cell k0
    go_wp2
    go_region_held3 (fun W => W.cell? ⟨w.heap.size, 0, none⟩ = some (.int .i64 (P : Int)) ∧ W.cell? ⟨w.heap.size, 1, none⟩ = some (.slice ao n c) ∧ w.heap.size < W.heap.size ∧ Below w.heap.size w W)
      ((first | assumption | exact boxDrew ⟨k0, k1, hl5, k3⟩ | exact boxKeep (by assumption) (by assumption) | exact boxKeep (below_drewN _ _) ⟨k0, k1, hl5, k3⟩))
      ((first
        | (have hz := hO7; go_at_call 88; refine (HL5.out _ _ hO7.ints (boxBelow (by assumption))).mono ?_; rintro e v8 ⟨g8, c8, rfl, hg8, hb8, hO8⟩; have hx7 : Below w.heap.size w v7 := boxBelow (by assumption); have hgw := Nat.le_trans hx7.size hg8; clear hz hx7)
        | (go_at_call 87; refine (HIR.out _).mono ?_; rintro e w' ⟨rfl, rfl⟩)
        | (have hz := hO6; go_at_call 89; refine (HL4.out _ _ hO6.ints).mono ?_; rintro e v7 ⟨g7, c7, rfl, hg7, hb7, hO7⟩; clear hz)
        | (go_at_call 90; refine (sOneM_c (P : Int) ao n c _ hn6).mono ?_; rintro e v6 ⟨g6, c6, rfl, hg6, hb6, hO6⟩)))
    have K8 : Hid (Below w.heap.size w v8) := boxBelow (by assumption)
    have HO8 := Lib.hid (hO8.congr (V' := fun i => .int .i64 (viF (P : Int) t X i)) fun i hi => by rw [HVI2.out i])
    clear hO8 hb8 hO6 hO7 hb6 hb7
    go_wp2
    go_ret2
    exact ⟨K8.out, Or.inl ⟨by rw [HC.out, HBE.out]; rfl, g8, c8, rfl, hgw, by rw [HRT.out, ← HTR.out]; exact HO8.out⟩⟩
  · have HC := Lib.hid hcc
    have H' := Lib.hid h'
    have hne : (cc != 0) = true := by rw [bne_iff_ne]; exact h0
    have hne2 : (cc == 0) = false := by simp [h0]
    clear h hx hx0 bA h'
    go_enter Try.func41, Try.ntmps41
    go_wp2_with fail
    go_at_call 84
    refine Calls.makes' (sCkAlg_c _ _ _ n 1 s _ _ _ (H'.out.below BL.out) HT.out) _ fun w1 hb1 => ?_
    rw [HC.out]
    go_wp2
    go_ret2
    exact ⟨BL.out.trans (hb1.mono BL.out.size), Or.inr ⟨by rw [HC.out, thenC_nz h0]; exact h0, by rw [HC.out, thenC_nz h0]; rfl⟩⟩


end Go.Proofs.Ytmedmkjlhcoepaa
