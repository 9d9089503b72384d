/-
  CountVectors in both programs with the codes, and the draw of a space and a number. No condition beside sizes.
-/
import Derived.Test.YtnkflgigbielgaaLV1
import Derived.Test.YtnkflgigbielgaaLS4
set_option linter.unusedVariables false
set_option linter.unusedSimpArgs false
namespace Go.Proofs.Ytnkflgigbielgaa
open Go.RowKit

theorem inPB_one (p k : Int) : inPB 0 p 1 (fun _ => k) = inB k 0 (p - 1) := by
  cases h : inB k 0 (p - 1)
  · exact inPB_false (k := 0) (by omega) h
  · exact inPB_true fun i hi => h

/-- the code and the number of vectors with a norm -/
def vcC (p : Int) (n : Nat) (s : Nat → Int) (k : Int) : Int := if spB p n s then (if inB k 0 (p - 1) then 0 else 2) else 1
def vcV (p : Int) (n : Nat) (s : Nat → Int) (k : Int) : Int := foreK p.toNat s 0 n k.toNat
theorem vcC_out {p : Int} {n : Nat} {s : Nat → Int} {k : Int} (h : spB p n s = false) : vcC p n s k = 1 := by unfold vcC; rw [h]; rfl
theorem vcC_in {p : Int} {n : Nat} {s : Nat → Int} {k : Int} (h : spB p n s = true) : vcC p n s k = if inB k 0 (p - 1) then 0 else 2 := by unfold vcC; rw [h]; rfl

set_option maxRecDepth 100000 in
set_option maxHeartbeats 2000000 in
theorem iCountVectors_c (p : Int) (sv : Value) (n : Nat) (s : Nat → Int) (k : Int) (w : World) (h : Ints w sv n s) :
    Calls Try.prog 27 #[dbl p sv, .int .i64 k] w fun e w' => Makes w w' e (rC (vcC p n s k) (vcV p n s k)) := by
  cases hok : spB p n s
  · rw [vcC_out hok]
    have HOK := Lib.hid hok
    have HSI := Lib.hid h
    obtain ⟨ao, c, b, o, rfl, p2, p3, qx⟩ := h.out
    obtain ⟨e0, e1, e2, e3⟩ := box0 w p ao n c 26
    clear hok h qx
    go_enter Try.func27, Try.ntmps27
    go_wp2_with fail
    refine Calls.makes' (iIsSp_c p _ n s _ (HSI.out.below e3)) _ fun w1 hb1 => ?_
    rw [HOK.out]
    have b4 := e3.trans (hb1.mono e3.size)
    go_wp2
    go_ret2
    exact ⟨rfl, b4⟩
  · rw [vcC_in hok]
    have hpb := (spB_ok hok).bd
    cases hin : inB k 0 (p - 1)
    · have HOK := Lib.hid hok
      have HSI := Lib.hid h
      obtain ⟨ao, c, b, o, rfl, p2, p3, qx⟩ := h.out
      have BX := Lib.hid (box0 w p ao n c 26)
      obtain ⟨e0, e1, e2, e3⟩ := box0 w p ao n c 26
      have HIS : Hid (∀ W v, Ints W v 1 (fun _ => k) → Calls Try.prog 72 #[.int .i64 p, v] W fun e w' => e = .returned (.bool false) ∧ W = w') := fun W v hv => (by rw [inPB_one, hin] : inPB 0 p 1 (fun _ => k) = false) ▸ iIs_c p v 1 _ W hv (by omega) (by omega)
      clear hok h qx hin
      go_enter Try.func27, Try.ntmps27
      go_wp2_with fail
      refine Calls.makes' (iIsSp_c p _ n s _ (HSI.out.below e3)) _ fun w1 hb1 => ?_
      rw [HOK.out]
      have BX1 := Lib.hid (boxKeep hb1 BX.out)
      obtain ⟨e0, e1, e2, e3⟩ := BX1.out
      go_wp2_with fail
      go_at_call 71
      refine Calls.makes' (iSField_c _ _ _) _ fun w2 hb2 => ?_
      have hi1 := ints1s w2 k 2
      have hfin := e3.trans (hb2.mono e3.size)
      have hfin := hfin.alloc hfin.size (.cells #[.int .i64 k] 2)
      go_wp2_with fail
      go_at_call 72
      refine (HIS.out _ _ hi1).mono ?_
      rintro e w' ⟨rfl, rfl⟩
      go_wp2
      go_ret2
      exact ⟨rfl, hfin⟩
    · have hk : 0 ≤ k ∧ k ≤ p - 1 := of_decide_eq_true hin
      obtain ⟨P, rfl⟩ := Int.eq_ofNat_of_zero_le (show 0 ≤ p by omega)
      obtain ⟨K, rfl⟩ := Int.eq_ofNat_of_zero_le hk.1
      have := iCountVec_c P sv n s K w ⟨h, spB_ok hok⟩ hok (by omega)
      exact this

set_option maxRecDepth 100000 in
set_option maxHeartbeats 2000000 in
theorem sCountVectors_c (p : Int) (sv : Value) (n : Nat) (s : Nat → Int) (k : Int) (w : World) (h : Ints w sv n s) :
    Calls Try.prog 28 #[dbl p sv, .int .i64 k] w fun e w' => Makes w w' e (rC (vcC p n s k) (vcV p n s k)) := by
  have HSI := Lib.hid h
  obtain ⟨ao, c, b, o, rfl, p2, p3, qx⟩ := h.out
  have BX := Lib.hid (box0 w p ao n c 26)
  obtain ⟨e0, e1, e2, e3⟩ := box0 w p ao n c 26
  clear h qx
  cases hok : spB p n s
  · rw [vcC_out hok]
    have HOK := Lib.hid hok
    clear hok
    go_enter Try.func28, Try.ntmps28
    go_wp2_with fail
    refine Calls.makes' (sIsSp_c _ _ n s _ (HSI.out.below e3)) _ fun w1 hb1 => ?_
    rw [HOK.out]
    have b4 := e3.trans (hb1.mono e3.size)
    go_wp2
    go_ret2
    exact ⟨rfl, b4⟩
  · rw [vcC_in hok]
    have hpb := (spB_ok hok).bd
    have HOK := Lib.hid hok
    by_cases hin : 0 ≤ k ∧ k ≤ p - 1
    · have hib : inB k 0 (p - 1) = true := decide_eq_true hin
      have HI : Hid (∀ W, Calls Try.prog 82 #[.int .i64 k, .int .i64 0, .int .i64 (p - 1)] W fun e w' => e = .returned (.bool true) ∧ W = w') := fun W => hib ▸ sIn_c _ _ _ W
      rw [hib, if_pos rfl]
      obtain ⟨P, rfl⟩ := Int.eq_ofNat_of_zero_le (show 0 ≤ p by omega)
      obtain ⟨K, rfl⟩ := Int.eq_ofNat_of_zero_le hin.1
      have hKP : K < P := by omega
      have HC : Hid (∀ W, Below w.heap.size w W → Calls Try.prog 87 #[dbl (P : Int) (.slice ao n c)] W fun e w' => CopyI W w' e P (foreK P s 0 n)) := fun W hb => sCountsSp_c P _ n s W ⟨HSI.out.below hb, spB_ok hok⟩
      obtain ⟨x, hx⟩ : ∃ x, vcV (P : Int) n s (K : Int) = x := ⟨_, rfl⟩
      have HX : Hid (foreK P s 0 n K = x) := hx
      rw [hx]
      clear hx hok hin hib
      have i0 : (0 : Int) ≤ (K : Int) := by omega
      have i1 : (K : Int) < (P : Int) := by omega
      go_enter Try.func28, Try.ntmps28
      go_wp2_with fail
      refine Calls.makes' (sIsSp_c _ _ n s _ (HSI.out.below e3)) _ fun w1 hb1 => ?_
      rw [HOK.out]
      obtain ⟨f0, f1, f2, f3⟩ := boxKeep hb1 BX.out
      clear e0 e1 e2 e3
      go_wp2_with (go_at_call 82; refine (HI.out _).mono ?_; rintro e w' ⟨rfl, rfl⟩)
      go_at_call 87
      refine (HC.out _ f3).mono ?_
      rintro e w3 ⟨g3, c3, rfl, hg3, hb3, hO3⟩
      have hz3 := hO3.cell hKP
      rw [HX.out] at hz3
      have b3 := f3.trans (hb3.mono f3.size)
      go_wp2
      go_ret2
      exact ⟨rfl, b3⟩
    · have hib : inB k 0 (p - 1) = false := decide_eq_false hin
      have HI : Hid (∀ W, Calls Try.prog 82 #[.int .i64 k, .int .i64 0, .int .i64 (p - 1)] W fun e w' => e = .returned (.bool false) ∧ W = w') := fun W => hib ▸ sIn_c _ _ _ W
      rw [hib, if_neg (by simp)]
      clear hok hin hib
      go_enter Try.func28, Try.ntmps28
      go_wp2_with fail
      refine Calls.makes' (sIsSp_c _ _ n s _ (HSI.out.below e3)) _ fun w1 hb1 => ?_
      rw [HOK.out]
      obtain ⟨f0, f1, f2, f3⟩ := boxKeep hb1 BX.out
      go_wp2_with (go_at_call 82; refine (HI.out _).mono ?_; rintro e w' ⟨rfl, rfl⟩)
      go_ret2
      exact ⟨rfl, f3⟩

/-- a space and a number that are drawn -/
structure DrawnN (w w' : World) (e : Ending) : Prop where
  out : ∃ (P : Int) (a : Option Addr) (c m : Nat) (s : Nat → Int) (x : Int), e = .returned (.tuple #[dbl P (.slice a m c), .int .i64 x]) ∧ Below w.heap.size w w' ∧ OI w' w.heap.size w'.heap.size a c m s ∧ m ≤ 7

set_option maxRecDepth 100000 in
set_option maxHeartbeats 4000000 in
theorem sDrawVectorsOfNorm_c (cv : Value) (n : Nat) (B : Nat → Int) (w : World) (hB : Byt w cv n B) :
    Calls Try.prog 24 #[cv] w fun e w' => DrawnN w w' e := by
  have HB : Hid (∀ W, Below w.heap.size w W → Byt W cv n B) := fun W hb => hB.below hb
  obtain ⟨wa, hwa⟩ : ∃ wa, wa = w.alloc (.cells #[.int .i64 0, .slice none 0 0] 26) := ⟨_, rfl⟩
  have hba : Below w.heap.size w wa := by rw [hwa]; exact (Below.refl _ _).alloc (Nat.le_refl _) _
  have hF := sFrom_c cv n B wa (HB.out _ hba)
  rw [hwa] at hF
  have HF := Lib.hid hF
  have HWA := Lib.hid hwa
  have HBA := Lib.hid hba
  obtain ⟨ao, c0, _, _, rfl, qq⟩ := hB.out
  clear hwa hF hB hba qq
  go_enter Try.func24, Try.ntmps24
  go_wp2_with fail
  refine HF.out.mono ?_
  rintro e w1 ⟨g, rfl, hg, hb1, hs1⟩
  rw [← HWA.out] at hg hb1
  have hbw1 : Hid (Below w.heap.size w w1) := HBA.out.trans (hb1.mono HBA.out.size)
  have h4 := ints4 w1 2 2 2 3 4
  have hb4 : Below w1.heap.size w1 (w1.alloc (.cells #[.int .i64 2, .int .i64 2, .int .i64 3, .int .i64 4] 2)) := (Below.refl _ _).alloc (Nat.le_refl _) _
  have hgl1 := hs1.lt
  have hp4 : Calls Try.prog 76 #[.pointer (some ⟨g, 0, none⟩), .slice (some ⟨w1.heap.size, 0, none⟩) 4 4] (w1.alloc (.cells #[.int .i64 2, .int .i64 2, .int .i64 3, .int .i64 4] 2)) fun e w' => ∃ K : Int, (1 ≤ K ∧ K ≤ 6) ∧ e = .returned (.int .i64 K) ∧ Drew w1 w' g (.slice ao n c0) n := by
    refine (sPick_c g n _ _ B _ 4 _ (hs1.kept hb4) (HB.out _ (hbw1.out.trans (hb4.mono hbw1.out.size))) (fun W hc => h4.chgInts hc (by omega)) (by omega)).mono fun e w' h => ?_
    obtain ⟨j, hj, he, hd⟩ := h
    have h3 : j = 0 ∨ j = 1 ∨ j = 2 ∨ j = 3 := by omega
    refine ⟨_, ?_, he, ⟨hd.src, (Chg.of_below hb4 _).trans hd.chg⟩⟩
    rcases h3 with rfl | rfl | rfl | rfl <;> simp
  have HP4 := Lib.hid hp4
  have HG := Lib.hid hg
  have HB1 := Lib.hid hb1
  have HS1 := Lib.hid hs1
  clear HF hg hb1 hs1 hp4 h4 hb4
  go_wp2_with fail
  refine HP4.out.mono ?_
  rintro e w1p ⟨K, hK, rfl, hdp⟩
  have HA := Lib.hid (sAnySp_c g n _ B K w1p hdp.src (fun W hc => HB.out W (hbw1.out.trans ((hdp.chg.trans hc).below hbw1.out.size (fun k e => by have e : k = g := e; have := HBA.out.size; have := HG.out; omega)))) hK)
  have HDP := Lib.hid hdp
  clear HP4 hdp
  go_wp2_with fail
  refine HA.out.mono ?_
  rintro e w2 ⟨P, a, c, m, s, rfl, hm, hP, hL, hd⟩
  have hL := hL.lowH (B' := w1.heap.size) HDP.out.chg.size (Nat.le_refl _)
  have hd : Drew w1 w2 g (.slice ao n c0) n := ⟨hd.src, HDP.out.chg.trans hd.chg⟩
  obtain ⟨wb, hwb⟩ : ∃ wb, wb = w2.alloc (.cells #[.int .i64 P, .slice a m c] 26) := ⟨_, rfl⟩
  have hDK := dk_start (P := P) HWA.out HB1.out HG.out HS1.out hL hd hwb
  have HD : Hid (DK w (w2.alloc (.cells #[.int .i64 P, .slice a m c] 26)).drew g (.slice ao n c0) n w2.heap.size P a c m s) := by rw [← hwb]; exact hDK.kept (drewB wb)
  have b0 := HD.out.box.cell (show 0 < 2 by omega)
  have b1 := HD.out.box.cell (show 1 < 2 by omega)
  have r0 := HD.out.res.cell (show 0 < 2 by omega)
  have r1 := HD.out.res.cell (show 1 < 2 by omega)
  simp only [if_pos, if_neg (show ¬ (1 : Nat) = 0 by omega)] at b0 b1 r0 r1
  have ho := HD.out.ord
  have CV : Hid (∀ W, DK w W g (.slice ao n c0) n w2.heap.size P a c m s → Calls Try.prog 77 #[.pointer (some ⟨g, 0, none⟩), .int .i64 P] W fun e w' => ∃ x : Int, e = .returned (.int .i64 x) ∧ DK w w' g (.slice ao n c0) n w2.heap.size P a c m s) := fun W h =>
    (sSpoil01_c g n _ B P W h.src (fun W' hc => HB.out W' (h.bel.trans (hc.below h.bel.size (fun k e => by have e : k = g := e; have := h.ord; omega)))) (by omega)).mono fun e w' hv => by
      obtain ⟨x, h1, _, h3⟩ := hv
      exact ⟨x, h1, h.step h3⟩
  clear hwb hDK HS1 HB1 HG hd hL hbw1 HA HDP
  go_wp2
  go_region_law (first
    | (go_simp; go_at_call 77; refine (CV.out _ HD.out).mono ?_; rintro e w6 ⟨x, rfl, hD6⟩; have HD6 := Lib.hid hD6; have y0 := hD6.box.cell (show 0 < 2 by omega); have y1 := hD6.box.cell (show 1 < 2 by omega); have r0 := hD6.res.cell (show 0 < 2 by omega); have r1 := hD6.res.cell (show 1 < 2 by omega); have q0 := hD6.res.frozen 0; have q1 := hD6.res.frozen 1; simp only [if_pos, if_neg (show ¬ (1 : Nat) = 0 by omega)] at y0 y1 r0 r1; clear hD6 b0 b1))
  all_goals
    have hres := (HD6.out.res.set 0 (.int .i64 P)).set 1 (.slice a m c)
    have c0' := hres.cell (show 0 < 2 by omega)
    have c1' := hres.cell (show 1 < 2 by omega)
    simp at c0' c1'
    obtain ⟨u1, u2, u3⟩ := HD6.out.fin (.int .i64 P) (.slice a m c)
    have HFIN : Hid (DrawnN w ((w6.setCell ⟨w.heap.size, 0, none⟩ (.int .i64 P)).setCell ⟨w.heap.size, 1, none⟩ (.slice a m c)) (.returned (.tuple #[dbl P (.slice a m c), .int .i64 x]))) :=
      ⟨P, a, c, m, s, x, rfl, u2, u3, by omega⟩
    clear hres u1 u2 u3
    go_wp2
    refine bodyPost_ret (v := .tuple #[.agg #[.int .i64 P, .slice a m c], .int .i64 x]) (by simp [results, Try.results24, go_sem, c0', c1']; try rfl) rfl ?_
    exact HFIN.out

end Go.Proofs.Ytnkflgigbielgaa
