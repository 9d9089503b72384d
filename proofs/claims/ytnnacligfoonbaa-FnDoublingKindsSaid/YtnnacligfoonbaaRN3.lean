/-
  NucleusOf and CentreOfDoubling by the program. No condition beside sizes.
-/
import Derived.Test.YtnnacligfoonbaaRN2
set_option linter.unusedVariables false
set_option linter.unusedSimpArgs false
namespace Go.Proofs.Ytnnacligfoonbaa
open Go.RowKit

theorem tstF_in {p : Int} (hp : 0 < p) (s : Nat → Int) (n r j q : Nat) : 0 ≤ tstF p s n r (dltU j) q ∧ tstF p s n r (dltU j) q < p := nucF_in hp s n _ _ _ (dltU j) (q + 1) q (by omega)
theorem tstC_in {p : Int} (hp : 0 < p) (s : Nat → Int) (n r j q : Nat) : 0 ≤ tstC p s n r (dltU j) q ∧ tstC p s n r (dltU j) q < p := by
  unfold tstC
  split
  · exact tstF_in hp s n r j q
  · exact nucF_in hp s n _ _ _ (dltU j) (q + 1) q (by omega)
theorem tstC_old {p : Int} {s : Nat → Int} {n t : Nat} (h : t < 2 ^ n * 2 ^ n * 3) : tstF p s n t = tstC p s n t := by unfold tstC; rw [if_pos h]
theorem tstC_new (p : Int) (s : Nat → Int) (n i : Nat) : tstC p s n (2 ^ n * 2 ^ n * 3 + i) = nucF p s n i 0 3 := by unfold tstC; rw [if_neg (by omega), Nat.add_sub_cancel_left]
/-- solutions of the tests of the nucleus -/
theorem iSolN_c (p : Int) (sv : Value) (n : Nat) (s : Nat → Int) (B0 g0 c0 : Nat) (w : World) (hd : DV w sv p n s) (hpr : primeB p = true) (hF : OFns w p (2 ^ n) B0 g0 c0 (2 ^ n * 2 ^ n * 3) (tstF p s n)) :
    Calls Try.prog 103 #[dbl p sv, .slice (some ⟨g0, 0, none⟩) (2 ^ n * 2 ^ n * 3) c0] w fun e w' => CopyT w w' e (nucQ p s n 3).2 (fun _ => 2 ^ n) (nucQ p s n 3).1 := by
  have hb := primeB_bd hpr
  have hin := tstF_in (p := p) (by omega) s n
  have h := nuc_i hpr ((solQ_of hpr (t := 2 ^ n * 2 ^ n * 3) fun r j q _ _ _ => hin r j q).iff (FnS_nuc p s n))
  exact (iSol_c p sv n s B0 g0 c0 _ _ w hd hpr hF fun r j q _ _ _ => hin r j q).mono fun e w' hc => hc.turn h.1 h.2
/-- solutions of the tests of the centre -/
theorem iSolC_c (p : Int) (sv : Value) (n : Nat) (s : Nat → Int) (B0 g0 c0 : Nat) (w : World) (hd : DV w sv p n s) (hpr : primeB p = true) (hF : OFns w p (2 ^ n) B0 g0 c0 (2 ^ n * 2 ^ n * 3 + 2 ^ n) (tstC p s n)) :
    Calls Try.prog 103 #[dbl p sv, .slice (some ⟨g0, 0, none⟩) (2 ^ n * 2 ^ n * 3 + 2 ^ n) c0] w fun e w' => CopyT w w' e (nucQ p s n 4).2 (fun _ => 2 ^ n) (nucQ p s n 4).1 := by
  have hb := primeB_bd hpr
  have hin := tstC_in (p := p) (by omega) s n
  have h := nuc_i hpr ((solQ_of hpr (t := 2 ^ n * 2 ^ n * 3 + 2 ^ n) fun r j q _ _ _ => hin r j q).iff (FnS_cen p s n))
  exact (iSol_c p sv n s B0 g0 c0 _ _ w hd hpr hF fun r j q _ _ _ => hin r j q).mono fun e w' hc => hc.turn h.1 h.2

set_option maxRecDepth 100000 in
set_option maxHeartbeats 4000000 in
theorem iNucleusOf_c (p : Int) (sv : Value) (n : Nat) (s : Nat → Int) (w : World) (h : Ints w sv n s) :
    Calls Try.prog 46 #[dbl p sv] w fun e w' => ResCT w w' e (if dblB p n s then 0 else 1) (nucQ p s n 3).2 (fun _ => 2 ^ n) (nucQ p s n 3).1 := by
  have h' := Lib.hid h
  obtain ⟨ao, c, _, _, rfl, qh⟩ := h.out
  clear qh
  obtain ⟨e0, e1, e2, e3⟩ := box0 w p ao n c 26
  have BX := Lib.hid (box0 w p ao n c 26)
  obtain ⟨Z, hZ⟩ : ∃ Z, nucQ p s n 3 = Z := ⟨_, rfl⟩
  cases hok : dblB p n s
  · rw [hZ]
    obtain ⟨M, hM⟩ : ∃ M, 2 ^ n = M := ⟨_, rfl⟩
    rw [hM]
    clear hM hZ
    go_enter Try.func46, Try.ntmps46
    go_wp2_with fail
    go_at_call 35
    refine Calls.makes' (iIsDbl_c _ _ _ _ _ (h'.out.below e3)) _ fun w1 hb1 => ?_
    rw [hok]
    go_wp2
    go_ret2
    exact ⟨e3.trans (hb1.mono e3.size), Or.inr ⟨by simp, rfl⟩⟩
  · have hv := dv_of h hok
    have hpr := (dblB_ok hok).prime
    have hpb := primeB_bd hpr
    have HTs : Hid (∀ W, Below w.heap.size w W → Calls Try.prog 104 #[dbl p (.slice ao n c)] W fun e w' => ∃ g c, e = .returned (.slice (some ⟨g, 0, none⟩) (2 ^ n * 2 ^ n * 3) c) ∧ Below W.heap.size W w' ∧ OFns w' p (2 ^ n) W.heap.size g c (2 ^ n * 2 ^ n * 3) (tstF p s n)) := fun W hb => iTests_c p _ n s W (hv.below hb) (by omega)
    have HSo : Hid (∀ W B g cg, Below w.heap.size w W → OFns W p (2 ^ n) B g cg (2 ^ n * 2 ^ n * 3) (tstF p s n) → Calls Try.prog 103 #[dbl p (.slice ao n c), .slice (some ⟨g, 0, none⟩) (2 ^ n * 2 ^ n * 3) cg] W fun e w' => CopyT W w' e Z.2 (fun _ => 2 ^ n) Z.1) := fun W B g cg hb hF => hZ ▸ iSolN_c p _ n s B g cg W (hv.below hb) hpr hF
    rw [hZ]
    obtain ⟨K, hK⟩ : ∃ K, 2 ^ n * 2 ^ n * 3 = K := ⟨_, rfl⟩
    rw [hK] at HTs HSo
    obtain ⟨M, hM⟩ : ∃ M, 2 ^ n = M := ⟨_, rfl⟩
    rw [hM] at HTs HSo ⊢
    clear hM hK hZ hv h
    go_enter Try.func46, Try.ntmps46
    go_wp2_with fail
    go_at_call 35
    refine Calls.makes' (iIsDbl_c _ _ _ _ _ (h'.out.below e3)) _ fun w1 hb1 => ?_
    rw [hok]
    obtain ⟨f0, f1, f2, f3⟩ := boxKeep hb1 BX.out
    clear e0 e1 e2 e3
    go_wp2
    go_region_held3 (fun W => W.cell? ⟨w.heap.size, 0, none⟩ = some (.int .i64 p) ∧ W.cell? ⟨w.heap.size, 1, none⟩ = some (.slice ao n c) ∧ w.heap.size < W.heap.size ∧ Below w.heap.size w W)
      ((first | assumption | exact boxDrew ⟨f0, f1, f2, f3⟩ | exact boxKeep (by assumption) (by assumption)))
      ((first
        | (go_at_call 103; refine (HSo.out _ _ _ _ (boxBelow (by assumption)) hF4).mono ?_; rintro e w6 ⟨g6, c6, rfl, hb6, hO6⟩)
        | (go_at_call 104; refine (HTs.out _ (boxBelow (by assumption))).mono ?_; rintro e w4 ⟨g4, c4, rfl, hb4, hF4⟩)))
    have b6 : Below w.heap.size w w6 := boxBelow (by assumption)
    have t4 := hb4.size
    have t1 := f3.size
    simp at t4
    go_wp2
    go_ret2
    exact ⟨b6, Or.inl ⟨by simp, g6, c6, rfl, hO6.mono (by omega)⟩⟩

set_option maxRecDepth 100000 in
set_option maxHeartbeats 4000000 in
theorem iCentreOf_c (p : Int) (sv : Value) (n : Nat) (s : Nat → Int) (w : World) (h : Ints w sv n s) :
    Calls Try.prog 48 #[dbl p sv] w fun e w' => ResCT w w' e (if dblB p n s then 0 else 1) (nucQ p s n 4).2 (fun _ => 2 ^ n) (nucQ p s n 4).1 := by
  have h' := Lib.hid h
  obtain ⟨ao, c, _, _, rfl, qh⟩ := h.out
  clear qh
  obtain ⟨e0, e1, e2, e3⟩ := box0 w p ao n c 26
  have BX := Lib.hid (box0 w p ao n c 26)
  obtain ⟨Z, hZ⟩ : ∃ Z, nucQ p s n 4 = Z := ⟨_, rfl⟩
  cases hok : dblB p n s
  · rw [hZ]
    obtain ⟨M, hM⟩ : ∃ M, 2 ^ n = M := ⟨_, rfl⟩
    rw [hM]
    clear hM hZ
    go_enter Try.func48, Try.ntmps48
    go_wp2_with fail
    go_at_call 35
    refine Calls.makes' (iIsDbl_c _ _ _ _ _ (h'.out.below e3)) _ fun w1 hb1 => ?_
    rw [hok]
    go_wp2
    go_ret2
    exact ⟨e3.trans (hb1.mono e3.size), Or.inr ⟨by simp, rfl⟩⟩
  · have hv := dv_of h hok
    have hpr := (dblB_ok hok).prime
    have hpb := primeB_bd hpr
    have hn4 := hv.le
    have hM16 := pow_le hn4
    have hMM : 2 ^ n * 2 ^ n ≤ 16 * 16 := Nat.mul_le_mul hM16 hM16
    have HTs : Hid (∀ W, Below w.heap.size w W → Calls Try.prog 104 #[dbl p (.slice ao n c)] W fun e w' => ∃ g c, e = .returned (.slice (some ⟨g, 0, none⟩) (2 ^ n * 2 ^ n * 3) c) ∧ Below W.heap.size W w' ∧ OFns w' p (2 ^ n) W.heap.size g c (2 ^ n * 2 ^ n * 3) (tstC p s n)) := fun W hb => (iTests_c p _ n s W (hv.below hb) (by omega)).mono fun e w' h => by
      obtain ⟨g, cg, q1, q2, q3⟩ := h
      exact ⟨g, cg, q1, q2, q3.congr fun t ht => tstC_old ht⟩
    have HSo : Hid (∀ W B g cg, Below w.heap.size w W → OFns W p (2 ^ n) B g cg (2 ^ n * 2 ^ n * 3 + 2 ^ n) (tstC p s n) → Calls Try.prog 103 #[dbl p (.slice ao n c), .slice (some ⟨g, 0, none⟩) (2 ^ n * 2 ^ n * 3 + 2 ^ n) cg] W fun e w' => CopyT W w' e Z.2 (fun _ => 2 ^ n) Z.1) := fun W B g cg hb hF => hZ ▸ iSolC_c p _ n s B g cg W (hv.below hb) hpr hF
    have HNW : Hid (∀ i, tstC p s n (2 ^ n * 2 ^ n * 3 + i) = nucF p s n i 0 3) := fun i => tstC_new p s n i
    have HN : Hid (∀ (W : World) (g yb ry cy i : Nat), BoxD w p ao n c W → w.heap.size < g → W.cell? ⟨yb, 0, none⟩ = some (.slice (some ⟨ry, 0, none⟩) (2 ^ n) cy) → yb ≠ g →
        Own W 2 ry cy (2 ^ n) (fun j => .int .i64 (dlt i j)) → ry ≠ g →
        FnOk W g p (2 ^ n) (.func (.func 107) #[] #[.pointer (some ⟨w.heap.size, 0, none⟩), .pointer (some ⟨yb, 0, none⟩)]) (nucF p s n i 0 3)) := by
      intro W g yb ry cy i hbx hg hy hyg oy hry
      exact ⟨_, fun _ _ => by simp [go_sem], Or.inr ⟨_, _, rfl, fun W' hc xv X hx hX =>
        tstC_c p ao n c s _ _ _ _ _ W' (hv.below (Chg.belowB hbx.2.2.2 hc (by omega))) (hc.cellAt (by omega) hbx.1) (hc.cellAt (by omega) hbx.2.1) (hc.cellAt hyg hy) ⟨(hc.own oy hry).ints, dlt_in (by omega) _ _⟩ xv X ⟨hx, hX⟩⟩⟩
    rw [hZ]
    obtain ⟨F, hF⟩ : ∃ F, tstC p s n = F := ⟨_, rfl⟩
    obtain ⟨K, hK⟩ : ∃ K, 2 ^ n * 2 ^ n * 3 = K := ⟨_, rfl⟩
    rw [hK, hF] at HTs HSo HNW
    have hK2 : K ≤ 768 := by omega
    obtain ⟨M, hM⟩ : ∃ M, 2 ^ n = M := ⟨_, rfl⟩
    have HZ : Hid (∀ W, Calls Try.prog 88 #[dbl p (.slice ao n c)] W fun e w' => Makes W w' e (.int .i64 ((M : Nat) : Int))) := fun W => hM ▸ iSize_c p ao n c W hn4
    rw [hM] at HTs HSo HN hM16 ⊢
    clear hM hK hZ hv h hF hMM
    go_enter Try.func48, Try.ntmps48
    go_wp2_with fail
    go_at_call 35
    refine Calls.makes' (iIsDbl_c _ _ _ _ _ (h'.out.below e3)) _ fun w1 hb1 => ?_
    rw [hok]
    obtain ⟨f0, f1, f2, f3⟩ := boxKeep hb1 BX.out
    have BX1 := Lib.hid (boxKeep hb1 BX.out)
    clear e0 e1 e2 e3 BX hb1
    go_wp2_with fail
    go_at_call 104
    refine (HTs.out _ f3).mono ?_
    rintro e w2 ⟨gt, ct, rfl, hb2, hF2⟩
    have BX2 := Lib.hid (boxKeep hb2 BX1.out)
    have hF3 := Lib.hid (hF2.mono (show w.heap.size + 1 ≤ w1.heap.size from f2))
    clear f0 f1 f2 f3 hb2 hF2 BX1
    obtain ⟨f0, f1, f2, f3⟩ := BX2.out
    go_wp2_with fail
    refine Calls.makes' (HZ.out _) _ fun w3 hb3 => ?_
    have HT3 := Lib.hid (hF3.out.kept hb3)
    have BX3 := Lib.hid (boxKeep hb3 BX2.out)
    have l1 : gt < w3.heap.size := HT3.out.lt
    clear hb3 f0 f1 f2 f3
    go_wp2_with fail
    go_at_call 106
    refine (iUnit_c M _ (by omega)).mono ?_
    rintro e w4 ⟨gu, cu, rfl, hb4, hU⟩
    have hU2 := Lib.hid hU.bound
    have l2 := hb4.size
    have HT4 := Lib.hid (HT3.out.kept hb4)
    have BX4 := Lib.hid (boxKeep hb4 BX3.out)
    obtain ⟨B1, hB1⟩ : ∃ B, w3.heap.size = B := ⟨_, rfl⟩
    obtain ⟨U1, hU1⟩ : ∃ U, w4.heap.size = U := ⟨_, rfl⟩
    have hU3 : Hid (OTabM w4 B1 U1 gu cu M (fun _ => M) dlt) := by subst hB1; subst hU1; exact hU2
    have l3 : Hid (U1 ≤ w4.heap.size) := Nat.le_of_eq hU1.symm
    rw [hB1] at l1 l2
    rw [hU1] at l2
    clear hU1 hB1 hU2 hU hb4 HT3 BX3 hF3 BX2
    go_wp2
    go_loopg [4, 16] M (fun g o i wr => ∃ x : Nat, x ≤ M ∧ g = M - x ∧ i = .int .i64 x ∧ BoxD w p ao n c wr ∧ Hid (U1 ≤ wr.heap.size) ∧ Hid (OTabM wr B1 U1 gu cu M (fun _ => M) dlt) ∧ ∃ g' c' J, o = .slice (some ⟨g', 0, none⟩) J c' ∧ Hid (J = K + x) ∧ Hid (g' < B1 ∨ U1 ≤ g') ∧ Hid (OFns wr p M (w.heap.size + 1) g' c' J F))
    case atStart => exact ⟨0, Nat.zero_le _, rfl, rfl, BX4.out, l3.out, hU3.out, _, _, _, rfl, rfl, Or.inl l1, HT4.out⟩
    case round =>
      obtain ⟨x, hx, rfl, rfl, ⟨f0, f1, f2, f3⟩, hul, hu, g', c', J, rfl, hJ, hgd, hT⟩ := hrel
      have BXr := Lib.hid (show BoxD w p ao n c wr from ⟨f0, f1, f2, f3⟩)
      clear BX4 l3 hU3 HT4
      by_cases hxd : x < M
      · obtain ⟨ry, cy, hcy, hoy, hry1, hry2⟩ := hu.out.rowO hxd
        obtain ⟨V, hV, hpush⟩ := hT.out.push (show w.heap.size + 1 ≤ wr.heap.size by omega)
        have HPU := Lib.hid hpush
        have hOY := Lib.hid hoy
        have hgB := hT.out.base
        have hgl2 := hT.out.lt
        have a1 := hgd.out
        have a3 := hul.out
        have hJ1 := hJ.out
        have hJ3 : J ≤ 1000 := by omega
        have hVw := (hV.alloc (.cells #[.slice (some ⟨ry, 0, none⟩) M cy] 24))
        have hs5 : (wr.alloc (.cells #[.slice (some ⟨ry, 0, none⟩) M cy] 24)).heap.size = wr.heap.size + 1 := by simp
        have HS5 := Lib.hid hs5
        clear hpush hoy hJ1 hs5
        go_wp2_with (at_builtin; refine wpList_push _ rfl _ _ _ _ elF rfl hVw (.func (.func 107) #[] #[.pointer (some ⟨w.heap.size, 0, none⟩), .pointer (some ⟨wr.heap.size, 0, none⟩)]) rfl (by rw [HS5.out]; rfl) rfl (by omega) (by omega) ?_; intro g3 c3 w6 hO6 hg6 hgr6)
        go_roundg (M - (x + 1))
        case measure => omega
        case rel =>
          rw [HS5.out] at hg6
          have hs6 := hgr6.size
          rw [HS5.out] at hs6
          have hbb : Below wr.heap.size wr (wr.alloc (.cells #[.slice (some ⟨ry, 0, none⟩) M cy] 24)) := (Below.refl _ _).alloc (Nat.le_refl _) _
          have hyA : (wr.alloc (.cells #[.slice (some ⟨ry, 0, none⟩) M cy] 24)).cell? ⟨wr.heap.size, 0, none⟩ = some (.slice (some ⟨ry, 0, none⟩) M cy) := by simp
          generalize wr.alloc (.cells #[.slice (some ⟨ry, 0, none⟩) M cy] 24) = wA at hbb hgr6 hyA
          have bx6 := boxGrown hgr6 (by omega) (boxKeep hbb BXr.out)
          have hy6 := grown_cell hgr6 (by omega) hyA
          have oy6 := (hOY.out.kept hbb).grown hgr6 (by intro e; injection e with e; omega)
          have hT6 := HPU.out w6 g3 c3 1 (fun _ => .func (.func 107) #[] #[.pointer (some ⟨w.heap.size, 0, none⟩), .pointer (some ⟨wr.heap.size, 0, none⟩)]) (hO6.congr fun i hi => by by_cases e : i = J <;> simp [e]; omega) ((Chg.of_below hbb _).trans (Chg.of_grown hgr6)) (by omega) (fun a ha => by
            obtain rfl : a = 0 := by omega
            rw [Nat.add_zero, hJ.out, HNW.out x]
            exact HN.out w6 g3 wr.heap.size ry cy x bx6 (by omega) hy6 (by omega) oy6 (by omega))
          exact ⟨x + 1, by omega, rfl, by go_num, bx6, (show U1 ≤ w6.heap.size by omega), (hu.out.kept hbb).grown hgr6 a1, g3, c3, _, rfl, (by have := hJ.out; show J + 1 = K + (x + 1); omega), (show g3 < B1 ∨ U1 ≤ g3 by omega), hT6⟩
      · obtain rfl : x = M := by omega
        have hJ2 := hJ.out
        subst hJ2
        go_wp2_with fail
        go_at_call 103
        refine (HSo.out _ _ _ _ f3 hT.out).mono ?_
        rintro e w6 ⟨g6, c6, rfl, hb6, hO6⟩
        go_wp2
        go_ret2
        exact ⟨f3.trans (hb6.mono f3.size), Or.inl ⟨by simp, g6, c6, rfl, hO6.mono f3.size⟩⟩


end Go.Proofs.Ytnnacligfoonbaa
