/-
  CountOfNorm, in both programs. No condition beside sizes.
-/
import Derived.Test.YtnnacligfoonbaaD41
set_option linter.unusedVariables false
set_option linter.unusedSimpArgs false
namespace Go.Proofs.Ytnnacligfoonbaa
open Go.RowKit

/-- the code of a norm -/
def nCode (p : Int) (n : Nat) (s : Nat → Int) (k : Int) : Int := if dblB p n s then (if inB k 0 (p - 1) then 0 else 2) else 1
theorem nCode_out {p : Int} {n : Nat} {s : Nat → Int} {k : Int} (h : dblB p n s = false) : nCode p n s k = 1 := by unfold nCode; rw [h]; rfl
theorem nCode_in {p : Int} {n : Nat} {s : Nat → Int} {k : Int} (h : dblB p n s = true) : nCode p n s k = if inB k 0 (p - 1) then 0 else 2 := by unfold nCode; rw [h]; rfl
theorem inPB_one (p k : Int) : inPB 0 p 1 (fun _ => k) = inB k 0 (p - 1) := by
  cases h : inB k 0 (p - 1)
  · exact inPB_false (k := 0) (by omega) h
  · exact inPB_true fun i hi => h
theorem ints1 (w : World) (k : Int) (t : TypeId) : Ints (w.alloc (.cells #[.int .i64 k] t)) (.slice (some ⟨w.heap.size, 0, none⟩) 1 1) 1 (fun _ => k) :=
  (Own.new w t #[.int .i64 k] (fun _ => .int .i64 k) (by simp) (fun i hi => by
    obtain rfl : i = 0 := by simp at hi; omega
    rfl)).ints

set_option maxRecDepth 100000 in
set_option maxHeartbeats 1000000 in
theorem iCkNorm_c (p : Int) (sv : Value) (n : Nat) (s : Nat → Int) (k : Int) (w : World) (h : Ints w sv n s) :
    Calls Try.prog 73 #[dbl p sv, .int .i64 k] w fun e w' => Makes w w' e (.int .i64 (nCode p n s k)) := by
  obtain ⟨ao, c, b, o, rfl, p2, p3, qx⟩ := h.out
  clear qx
  obtain ⟨e0, e1, e2, e3⟩ := box0 w p ao n c 26
  have BX := Lib.hid (box0 w p ao n c 26)
  cases hok : dblB p n s
  · rw [nCode_out hok]
    go_enter Try.func73, Try.ntmps73
    go_wp2_with fail
    refine Calls.makes' (iIsDbl_c _ _ _ _ _ (h.below e3)) _ fun w1 hb1 => ?_
    rw [hok]
    go_wp2
    go_ret
    exact ⟨rfl, e3.trans (hb1.mono e3.size)⟩
  · rw [nCode_in hok]
    have hpb := primeB_bd (dblB_ok hok).prime
    obtain ⟨q, hq⟩ : ∃ q, inB k 0 (p - 1) = q := ⟨_, rfl⟩
    rw [hq]
    have HIS : Hid (∀ W v, Ints W v 1 (fun _ => k) → Calls Try.prog 95 #[.int .i64 p, v] W fun e w' => e = .returned (.bool q) ∧ W = w') := fun W v hv => (by rw [inPB_one, hq] : inPB 0 p 1 (fun _ => k) = q) ▸ iIs_c p v 1 _ W hv (by omega) (by omega)
    have HOK := Lib.hid hok
    have H' := Lib.hid h
    clear hok hq h
    cases q
    all_goals
      go_enter Try.func73, Try.ntmps73
      go_wp2_with fail
      refine Calls.makes' (iIsDbl_c _ _ _ _ _ (H'.out.below e3)) _ fun w1 hb1 => ?_
      rw [HOK.out]
      obtain ⟨f0, f1, f2, f3⟩ := boxKeep hb1 BX.out
      go_wp2_with fail
      refine Calls.makes' (iField_c _ _ _) _ fun w2 hb2 => ?_
      have b2 := f3.trans (hb2.mono f3.size)
      have hi := ints1 w2 k 2
      have ba : Below w.heap.size w (w2.alloc (.cells #[.int .i64 k] 2)) := b2.alloc b2.size _
      go_wp2_with fail
      go_at_call 95
      refine (HIS.out _ _ hi).mono ?_
      rintro e w' ⟨rfl, rfl⟩
      go_wp2
      go_ret
      exact ⟨rfl, ba⟩

/-- the number of elements with a norm -/
def cntV (p : Int) (n : Nat) (s : Nat → Int) (k : Int) : Int := backK p.toNat (dgF p s n) 0 (2 ^ n) k.toNat

set_option maxRecDepth 100000 in
set_option maxHeartbeats 1000000 in
theorem iCountOfNorm_c (p : Int) (sv : Value) (n : Nat) (s : Nat → Int) (k : Int) (w : World) (h : Ints w sv n s) :
    Calls Try.prog 12 #[dbl p sv, .int .i64 k] w fun e w' => Makes w w' e (rC (nCode p n s k) (cntV p n s k)) := by
  obtain ⟨ao, c, b, o, rfl, p2, p3, qx⟩ := h.out
  clear qx
  obtain ⟨e0, e1, e2, e3⟩ := box0 w p ao n c 26
  have BX := Lib.hid (box0 w p ao n c 26)
  obtain ⟨cc, hcc⟩ : ∃ cc, nCode p n s k = cc := ⟨_, rfl⟩
  have HC : Hid (Calls Try.prog 73 #[dbl p (.slice ao n c), .int .i64 k] (w.alloc (.cells #[.int .i64 p, .slice ao n c] 26)) fun e w' => Makes (w.alloc (.cells #[.int .i64 p, .slice ao n c] 26)) w' e (.int .i64 cc)) := hcc ▸ iCkNorm_c p _ n s k _ (h.below e3)
  rw [hcc]
  by_cases h0 : cc = 0
  · have hok : dblB p n s = true := by
      cases hk : dblB p n s
      · rw [nCode_out hk] at hcc; omega
      · rfl
    have hin : 0 ≤ k ∧ k ≤ p - 1 := by
      rw [nCode_in hok] at hcc
      cases hk : inB k 0 (p - 1)
      · rw [hk, if_neg (by simp)] at hcc; omega
      · exact of_decide_eq_true hk
    have hv := dv_of h hok
    have hpb := primeB_bd (dblB_ok hok).prime
    obtain ⟨P, rfl⟩ := Int.eq_ofNat_of_zero_le (show 0 ≤ p by omega)
    obtain ⟨K, rfl⟩ := Int.eq_ofNat_of_zero_le hin.1
    have hKP : K < P := by omega
    obtain ⟨x, hx⟩ : ∃ x, cntV (P : Int) n s (K : Int) = x := ⟨_, rfl⟩
    have hN : ∀ W, Below w.heap.size w W → Calls Try.prog 74 #[dbl (P : Int) (.slice ao n c)] W fun e w' => CopyT W w' e (2 ^ n + 1) (fun _ => P) (fun i => backK P (dgF P s n) i (2 ^ n - i)) := fun W hb => iNormCounts_c P _ n s W (hv.below hb) (by omega) (by omega)
    have hxe : backK P (dgF P s n) 0 (2 ^ n - 0) K = x := by rw [← hx]; rfl
    have HX := Lib.hid hxe
    rw [hx]
    obtain ⟨M, hM⟩ : ∃ M, 2 ^ n + 1 = M := ⟨_, rfl⟩
    rw [hM] at hN
    have hM0 : 0 < M := by rw [← hM]; exact Nat.succ_pos _
    have HN := Lib.hid hN
    subst h0
    clear hM hN hxe hx hok hin hv hcc h
    have i0 : (0 : Int) ≤ (K : Int) := by omega
    have i1 : (K : Int) < (P : Int) := by omega
    have i2 : (0 : Int) < (M : Int) := by omega
    go_enter Try.func12, Try.ntmps12
    go_wp2_with fail
    refine Calls.makes' HC.out _ fun w1 hb1 => ?_
    obtain ⟨f0, f1, f2, f3⟩ := boxKeep hb1 BX.out
    go_wp2_with fail
    go_at_call 74
    refine (HN.out _ f3).mono ?_
    rintro e w2 ⟨g2, c2, rfl, hb2, hT⟩
    obtain ⟨R, C, o1, o2, o3, o4⟩ := hT.out
    have z1 := o1.cell hM0
    have z2 := (o3 0 hM0).1.cell hKP
    rw [HX.out] at z2
    have b2 := f3.trans (hb2.mono f3.size)
    clear hT o1 o2 o3 o4 hb2 e0 e1
    go_wp2
    go_ret2
    exact ⟨rfl, b2⟩
  · have hne : (cc != 0) = true := by rw [bne_iff_ne]; exact h0
    go_enter Try.func12, Try.ntmps12
    go_wp2_with fail
    refine Calls.makes' HC.out _ fun w1 hb1 => ?_
    go_wp2
    go_ret2
    exact ⟨by unfold rC; rw [if_neg h0]; rfl, e3.trans (hb1.mono e3.size)⟩

set_option maxRecDepth 100000 in
set_option maxHeartbeats 1000000 in
theorem sCountOfNorm_c (p : Int) (sv : Value) (n : Nat) (s : Nat → Int) (k : Int) (w : World) (h : Ints w sv n s) :
    Calls Try.prog 13 #[dbl p sv, .int .i64 k] w fun e w' => Makes w w' e (rC (nCode p n s k) (cntV p n s k)) := by
  have H' := Lib.hid h
  obtain ⟨ao, c, b, o, rfl, p2, p3, qx⟩ := h.out
  clear qx
  obtain ⟨e0, e1, e2, e3⟩ := box0 w p ao n c 26
  have BX := Lib.hid (box0 w p ao n c 26)
  cases hok : dblB p n s
  · rw [nCode_out hok]
    go_enter Try.func13, Try.ntmps13
    go_wp2_with fail
    refine Calls.makes' (sIsDbl_c _ _ _ _ _ (h.below e3)) _ fun w1 hb1 => ?_
    rw [hok]
    go_wp2
    go_ret2
    exact ⟨rfl, e3.trans (hb1.mono e3.size)⟩
  · rw [nCode_in hok]
    have HOK := Lib.hid hok
    have hpb := primeB_bd (dblB_ok hok).prime
    by_cases hin : 0 ≤ k ∧ k ≤ p - 1
    · have hib : inB k 0 (p - 1) = true := decide_eq_true hin
      have HI : Hid (∀ W, Calls Try.prog 76 #[.int .i64 k, .int .i64 0, .int .i64 (p - 1)] W fun e w' => e = .returned (.bool true) ∧ W = w') := fun W => hib ▸ sIn_c _ _ _ W
      rw [hib, if_pos rfl]
      have hv := dv_of h hok
      have hst := (dblB_ok hok).step
      obtain ⟨P, rfl⟩ := Int.eq_ofNat_of_zero_le (show 0 ≤ p by omega)
      obtain ⟨K, rfl⟩ := Int.eq_ofNat_of_zero_le hin.1
      have hKP : K < P := by omega
      have hn4 := hv.le
      have hp16 := pow_le hn4
      have HD : Hid (∀ W, Below w.heap.size w W → Calls Try.prog 78 #[dbl (P : Int) (.slice ao n c)] W fun e w' => CopyI W w' e (2 ^ n) (dgF P s n)) := fun W hb => sDiag_c _ _ n s W (hv.below hb) (by omega) hst
      have HCN : Hid (∀ W v, Ints W v (2 ^ n) (dgF P s n) → Calls Try.prog 77 #[.int .i64 (P : Int), v] W fun e w' => CopyI W w' e P (foreK P (dgF P s n) 0 (2 ^ n))) := fun W v hi => sCounts_c P v _ _ W hi (by omega) (by omega) hp16 (fun i _ => by have := dgF_in (p := (P : Int)) (by omega) s n i; omega)
      obtain ⟨x, hx⟩ : ∃ x, cntV (P : Int) n s (K : Int) = x := ⟨_, rfl⟩
      have HX : Hid (foreK P (dgF P s n) 0 (2 ^ n) K = x) := by
        rw [← hx]; exact fore_back (by omega) _ 0 _ K hKP
      rw [hx]
      clear hx hok hin hv h hst hib hp16
      have i0 : (0 : Int) ≤ (K : Int) := by omega
      have i1 : (K : Int) < (P : Int) := by omega
      go_enter Try.func13, Try.ntmps13
      go_wp2_with fail
      refine Calls.makes' (sIsDbl_c _ _ _ _ _ (H'.out.below e3)) _ fun w1 hb1 => ?_
      rw [HOK.out]
      obtain ⟨f0, f1, f2, f3⟩ := boxKeep hb1 BX.out
      have BX1 := Lib.hid (show BoxD w (P : Int) ao n c w1 from ⟨f0, f1, f2, f3⟩)
      obtain ⟨j0, j1, j2, j3⟩ := boxDrew BX1.out
      clear e0 e1 e2 e3
      go_wp2_with (go_at_call 76; refine (HI.out _).mono ?_; rintro e w' ⟨rfl, rfl⟩)
      go_region_law (first
        | (go_simp; go_at_call 78; refine (HD.out _ j3).mono ?_; rintro e w2 ⟨g2, c2, rfl, hg2, hb2, hO2⟩; have bx2 := boxKeep hb2 ⟨j0, j1, j2, j3⟩; obtain ⟨k0, k1, k2, k3⟩ := bx2)
        | (go_simp; go_at_call 77; refine (HCN.out _ _ hO2.ints).mono ?_; rintro e w3 ⟨g3, c3, rfl, hg3, hb3, hO3⟩; have hz3 := hO3.cell hKP; rw [HX.out] at hz3; have b3 := k3.trans (hb3.mono k3.size)))
      all_goals go_wp2
      all_goals go_ret2
      all_goals exact ⟨rfl, b3⟩
    · have hib : inB k 0 (p - 1) = false := decide_eq_false hin
      have HI : Hid (∀ W, Calls Try.prog 76 #[.int .i64 k, .int .i64 0, .int .i64 (p - 1)] W fun e w' => e = .returned (.bool false) ∧ W = w') := fun W => hib ▸ sIn_c _ _ _ W
      rw [hib, if_neg (by simp)]
      clear hok hin hib h
      go_enter Try.func13, Try.ntmps13
      go_wp2_with fail
      refine Calls.makes' (sIsDbl_c _ _ _ _ _ (H'.out.below e3)) _ fun w1 hb1 => ?_
      rw [HOK.out]
      obtain ⟨f0, f1, f2, f3⟩ := boxKeep hb1 BX.out
      go_wp2_with (go_at_call 76; refine (HI.out _).mono ?_; rintro e w' ⟨rfl, rfl⟩)
      go_ret2
      exact ⟨rfl, f3⟩

end Go.Proofs.Ytnnacligfoonbaa
