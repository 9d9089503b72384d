/-
  Multivectors: the tests and the codes, in both programs. No condition beside sizes.
-/
import Derived.Test.YtmedmkjlhcoepaaSP2
set_option linter.unusedVariables false
set_option linter.unusedSimpArgs false
namespace Go.Proofs.Ytmedmkjlhcoepaa
open Go.RowKit

/-- the multivectors of a space -/
def mvB (p : Int) (n L : Nat) (X : Nat → Int) : Bool := decide (L = 2 ^ n) && inPB 0 p L X
theorem mvB_ne {p : Int} {n L : Nat} {X : Nat → Int} (h : L ≠ 2 ^ n) : mvB p n L X = false := by unfold mvB; rw [decide_eq_false h]; rfl
theorem mvB_eq {p : Int} {n L : Nat} {X : Nat → Int} (h : L = 2 ^ n) : mvB p n L X = inPB 0 p L X := by unfold mvB; rw [decide_eq_true h]; rfl
theorem mvB_out {p : Int} {n L : Nat} {X : Nat → Int} (h : inPB 0 p L X = false) : mvB p n L X = false := by unfold mvB; rw [h]; simp
structure Mv (w : World) (v : Value) (p : Int) (n : Nat) (X : Nat → Int) : Prop where
  ints : Ints w v (2 ^ n) X
  inp : InP p (2 ^ n) X
theorem Mv.below {w w' : World} {v : Value} {p : Int} {n : Nat} {X : Nat → Int} (h : Mv w v p n X) (hb : Below w.heap.size w w') : Mv w' v p n X := ⟨h.ints.below hb, h.inp⟩
theorem mvB_mv {w : World} {v : Value} {p : Int} {n L : Nat} {X : Nat → Int} (h : Ints w v L X) (he : mvB p n L X = true) : L = 2 ^ n ∧ Mv w v p n X := by
  unfold mvB at he
  simp only [Bool.and_eq_true, decide_eq_true_eq] at he
  obtain ⟨rfl, h2⟩ := he
  exact ⟨rfl, h, inPB_ok h2⟩
theorem pow_le6 {n : Nat} (h : n ≤ 6) : 2 ^ n ≤ 64 := Nat.le_trans (Nat.pow_le_pow_right (by omega) h) (by decide)
/-- the code of m multivectors -/
def codeM (ok : Bool) (p : Int) (n m : Nat) (L : Nat → Nat) (T : Nat → Nat → Int) : Int := if ok then (if anyB (fun i => !mvB p n (L i) (T i)) m then 2 else 0) else 1
theorem codeM_zero {ok : Bool} {p : Int} {n m : Nat} {L : Nat → Nat} {T : Nat → Nat → Int} (h : codeM ok p n m L T = 0) : ok = true ∧ ∀ i, i < m → mvB p n (L i) (T i) = true := by
  unfold codeM at h
  cases ok
  · simp at h
  · cases ha : anyB (fun i => !mvB p n (L i) (T i)) m
    · refine ⟨rfl, fun i hi => ?_⟩
      cases hb : mvB p n (L i) (T i)
      · rw [anyB_at hi (by rw [hb]; rfl)] at ha; cases ha
      · rfl
    · rw [ha] at h; simp at h

set_option maxRecDepth 100000 in
set_option maxHeartbeats 1000000 in
theorem iIsMv_c (p : Int) (ao : Option Addr) (n c : Nat) (v : Value) (L : Nat) (X : Nat → Int) (w : World) (h : Ints w v L X) (h1 : 1 ≤ p) (h2 : p ≤ 1000) (hn : n ≤ 6) :
    Calls Try.prog 125 #[dbl p (.slice ao n c), v] w fun e w' => Makes w w' e (.bool (mvB p n L X)) := by
  have hi : ∀ W, Below w.heap.size w W → Ints W v L X := fun W hb => h.below hb
  obtain ⟨xa, xc, b, o, rfl, p2, p3, qx⟩ := h.out
  have HI := Lib.hid hi
  obtain ⟨e0, e1, e2, e3⟩ := box0 w p ao n c 30
  have BX := Lib.hid (box0 w p ao n c 30)
  clear qx hi h
  obtain ⟨M, hM⟩ : ∃ M, 2 ^ n = M := ⟨_, rfl⟩
  have hM64 : M ≤ 64 := hM ▸ pow_le6 hn
  have hw2 : wrap64 ((2 : Int) ^ n) = (M : Int) := by rw [show ((2 : Int) ^ n) = ((2 ^ n : Nat) : Int) by simp, hM]; unfold wrap64; omega
  by_cases hL : L = M
  · obtain ⟨q, hq⟩ : ∃ q, inPB 0 p L X = q := ⟨_, rfl⟩
    rw [mvB_eq (hL.trans hM.symm), hq]
    have HIS : Hid (∀ W, Below w.heap.size w W → Calls Try.prog 61 #[.int .i64 p, .slice xa L xc] W fun e w' => e = .returned (.bool q) ∧ W = w') := fun W hb => hq ▸ iIs_c p _ L X W (HI.out W hb) h1 h2
    have hd : ((L : Int) == (M : Int)) = true := by rw [hL]; simp
    clear hq hL hM
    go_enter Try.func125, Try.ntmps125
    go_wp2_with fail
    refine Calls.makes' (iDim_c _ _ _ _ _ (by omega)) _ fun w1 hb1 => ?_
    obtain ⟨f0, f1, f2, f3⟩ := boxKeep hb1 BX.out
    clear e0 e1 e2 e3
    go_wp2_with fail
    refine Calls.makes' (iSField_c _ _ _) _ fun w2 hb2 => ?_
    have b2 := f3.trans (hb2.mono f3.size)
    go_wp2_with fail
    go_at_call 61
    refine (HIS.out _ b2).mono ?_
    rintro e w' ⟨rfl, rfl⟩
    go_wp2
    go_ret
    exact ⟨rfl, b2⟩
  · have hd : ((L : Int) == (M : Int)) = false := by rw [beq_eq_false_iff_ne]; omega
    rw [mvB_ne (fun e => hL (e.trans hM))]
    clear hL hM
    go_enter Try.func125, Try.ntmps125
    go_wp2_with fail
    refine Calls.makes' (iDim_c _ _ _ _ _ (by omega)) _ fun w1 hb1 => ?_
    obtain ⟨f0, f1, f2, f3⟩ := boxKeep hb1 BX.out
    go_wp2
    go_ret
    exact ⟨rfl, f3⟩

set_option maxRecDepth 100000 in
set_option maxHeartbeats 400000 in
theorem iCkM1_c (p : Int) (bb : Nat) (ao : Option Addr) (n c : Nat) (v : Value) (L : Nat) (X : Nat → Int) (w : World) (h : Ints w v L X) (h1 : 1 ≤ p) (h2 : p ≤ 1000) (hn : n ≤ 6)
    (c0 : w.cell? ⟨bb, 0, none⟩ = some (.int .i64 p)) (c1 : w.cell? ⟨bb, 1, none⟩ = some (.slice ao n c)) :
    Calls Try.prog 124 #[v, .pointer (some ⟨bb, 0, none⟩)] w fun e w' => Makes w w' e (.bool (!mvB p n L X)) := by
  obtain ⟨q, hq⟩ : ∃ q, mvB p n L X = q := ⟨_, rfl⟩
  have HQ : Hid (Calls Try.prog 125 #[dbl p (.slice ao n c), v] w fun e w' => Makes w w' e (.bool q)) := hq ▸ iIsMv_c p ao n c v L X w h h1 h2 hn
  rw [hq]
  clear hq h
  go_enter Try.func124, Try.ntmps124
  go_wp2_with fail
  go_at_call 125
  refine Calls.makes' HQ.out _ fun w1 hb1 => ?_
  go_wp2
  go_ret
  exact ⟨rfl, hb1⟩

set_option maxRecDepth 100000 in
set_option maxHeartbeats 1000000 in
theorem iCkM_c (p : Int) (sv lv : Value) (n m : Nat) (s : Nat → Int) (L : Nat → Nat) (T : Nat → Nat → Int) (w : World) (h : Ints w sv n s) (hl : Tab w lv m L T) :
    Calls Try.prog 75 #[dbl p sv, lv] w fun e w' => Makes w w' e (.int .i64 (codeM (spB p n s) p n m L T)) := by
  obtain ⟨ao, c, b, o, rfl, p2, p3, qx⟩ := h.out
  clear qx
  obtain ⟨e0, e1, e2, e3⟩ := box0 w p ao n c 30
  have BX := Lib.hid (box0 w p ao n c 30)
  cases hok : spB p n s
  · go_enter Try.func75, Try.ntmps75
    go_wp2_with fail
    refine Calls.makes' (iIsSp_c _ _ _ _ _ (h.below e3)) _ fun w1 hb1 => ?_
    rw [hok]
    go_wp2
    go_ret
    exact ⟨rfl, e3.trans (hb1.mono e3.size)⟩
  · have hv := spB_ok hok
    have hpb := hv.bd
    go_enter Try.func75, Try.ntmps75
    go_wp2_with fail
    refine Calls.makes' (iIsSp_c _ _ _ _ _ (h.below e3)) _ fun w1 hb1 => ?_
    rw [hok]
    obtain ⟨f0, f1, f2, f3⟩ := boxKeep hb1 BX.out
    go_wp2_with fail
    refine Calls.makes' (iContainsFuncRI_c 124 (fun _ _ => by simp [go_sem]) _ _ m L T (fun i => !mvB p n (L i) (T i)) _ (hl.below f3) (fun i hi W u hbW hu => iCkM1_c p w.heap.size ao n c u (L i) (T i) W hu (by omega) (by omega) hv.n6 (cellKp hbW f0) (cellKp hbW f1))) _ fun w3 hb3 => ?_
    have b3 := f3.trans (hb3.mono f3.size)
    cases ha : anyB (fun i => !mvB p n (L i) (T i)) m
    · go_wp2
      go_ret
      exact ⟨ret_i64 (by unfold codeM; rw [ha]; rfl), b3⟩
    · go_wp2
      go_ret
      exact ⟨ret_i64 (by unfold codeM; rw [ha]; rfl), b3⟩

set_option maxRecDepth 100000 in
set_option maxHeartbeats 1000000 in
theorem sSizeM_c (p : Int) (ao : Option Addr) (n c : Nat) (w : World) (hn : n ≤ 6) :
    Calls Try.prog 148 #[dbl p (.slice ao n c)] w fun e w' => Makes w w' e (.int .i64 ((2 ^ n : Nat) : Int)) := by
  obtain ⟨e0, e1, e2, e3⟩ := box0 w p ao n c 30
  obtain ⟨M, hM⟩ : ∃ M, 2 ^ n = M := ⟨_, rfl⟩
  have hM64 : M ≤ 64 := hM ▸ pow_le6 hn
  have hw2 : wrap64 ((2 : Int) ^ n) = (M : Int) := by rw [show ((2 : Int) ^ n) = ((2 ^ n : Nat) : Int) by simp, hM]; unfold wrap64; omega
  rw [hM]
  clear hM
  go_enter Try.func148, Try.ntmps148
  go_wp2
  go_ret
  exact ⟨ret_i64 hw2, e3⟩

set_option maxRecDepth 100000 in
set_option maxHeartbeats 1000000 in
theorem sIsMv_c (p : Int) (sv : Value) (n : Nat) (s : Nat → Int) (v : Value) (L : Nat) (X : Nat → Int) (w : World) (hd : Ints w sv n s) (hok : spB p n s = true) (h : Ints w v L X) :
    Calls Try.prog 121 #[dbl p sv, v] w fun e w' => Makes w w' e (.bool (mvB p n L X)) := by
  have hi : ∀ W, Below w.heap.size w W → Ints W v L X := fun W hb => h.below hb
  have hv := spB_ok hok
  have hpb := hv.bd
  have hn6 := hv.n6
  have HS0 : Hid (∀ W, Below w.heap.size w W → Calls Try.prog 50 #[dbl p sv] W fun e w' => Makes W w' e (.bool true)) := fun W hb => hok ▸ sIsSp_c p sv n s W (hd.below hb)
  obtain ⟨xa, xc, b, o, rfl, p2, p3, qx⟩ := h.out
  obtain ⟨ao, c, _, _, rfl, qs⟩ := hd.out
  have HI := Lib.hid hi
  obtain ⟨e0, e1, e2, e3⟩ := box0 w p ao n c 30
  have BX := Lib.hid (box0 w p ao n c 30)
  clear qx hi h hd qs
  obtain ⟨M, hM⟩ : ∃ M, 2 ^ n = M := ⟨_, rfl⟩
  have HZ : Hid (∀ W, Calls Try.prog 148 #[dbl p (.slice ao n c)] W fun e w' => Makes W w' e (.int .i64 ((M : Nat) : Int))) := fun W => hM ▸ sSizeM_c p ao n c W hn6
  by_cases hL : L = M
  · obtain ⟨q, hq⟩ : ∃ q, inPB 0 p L X = q := ⟨_, rfl⟩
    rw [mvB_eq (hL.trans hM.symm), hq]
    have HIS : Hid (∀ W, Below w.heap.size w W → Calls Try.prog 108 #[.int .i64 p, .slice xa L xc] W fun e w' => e = .returned (.bool q) ∧ W = w') := fun W hb => hq ▸ sNums_c p _ L X W (HI.out W hb) (by omega) (by omega)
    have hd : ((L : Int) == (M : Int)) = true := by rw [hL]; simp
    clear hq hL hM hok
    go_enter Try.func121, Try.ntmps121
    go_wp2_with fail
    refine Calls.makes' (HS0.out _ e3) _ fun w0 hb0 => ?_
    obtain ⟨g0, g1, g2, g3⟩ := boxKeep hb0 BX.out
    clear e0 e1 e2 e3
    go_wp2_with fail
    refine Calls.makes' (HZ.out _) _ fun w1 hb1 => ?_
    obtain ⟨f0, f1, f2, f3⟩ := boxKeep hb1 ⟨g0, g1, g2, g3⟩
    clear g0 g1 g2 g3
    go_wp2_with fail
    go_at_call 108
    refine (HIS.out _ f3).mono ?_
    rintro e w' ⟨rfl, rfl⟩
    go_wp2
    go_ret
    exact ⟨rfl, f3⟩
  · have hd : ((L : Int) == (M : Int)) = false := by rw [beq_eq_false_iff_ne]; omega
    rw [mvB_ne (fun e => hL (e.trans hM))]
    clear hL hM hok
    go_enter Try.func121, Try.ntmps121
    go_wp2_with fail
    refine Calls.makes' (HS0.out _ e3) _ fun w0 hb0 => ?_
    obtain ⟨g0, g1, g2, g3⟩ := boxKeep hb0 BX.out
    clear e0 e1 e2 e3
    go_wp2_with fail
    refine Calls.makes' (HZ.out _) _ fun w1 hb1 => ?_
    obtain ⟨f0, f1, f2, f3⟩ := boxKeep hb1 ⟨g0, g1, g2, g3⟩
    go_wp2
    go_ret
    exact ⟨rfl, f3⟩

set_option maxRecDepth 100000 in
set_option maxHeartbeats 4000000 in
theorem sCodeM_c (p : Int) (sv lv : Value) (n m : Nat) (s : Nat → Int) (L : Nat → Nat) (T : Nat → Nat → Int) (w : World) (h : Ints w sv n s) (hl : Tab w lv m L T) :
    Calls Try.prog 73 #[dbl p sv, lv] w fun e w' => Makes w w' e (.int .i64 (codeM (spB p n s) p n m L T)) := by
  obtain ⟨ao, c, b, o, rfl, p2, p3, _⟩ := h.out
  obtain ⟨e0, e1, e2, e3⟩ := box0 w p ao n c 30
  have BX := Lib.hid (box0 w p ao n c 30)
  cases hok : spB p n s
  · go_enter Try.func73, Try.ntmps73
    go_wp2_with fail
    refine Calls.makes' (sIsSp_c _ _ _ _ _ (h.below e3)) _ fun w1 hb1 => ?_
    rw [hok]
    go_wp2
    go_ret
    exact ⟨rfl, e3.trans (hb1.mono e3.size)⟩
  · have hv := Lib.hid h
    have hOK := Lib.hid hok
    obtain ⟨la, lc, lb, lo, A, C, RB, RO, rfl, q2, q3, q4, q5, q6, q7, q8⟩ := hl.out
    have hr : ∀ i, i < m → Ints w (.slice (A i) (L i) (C i)) (L i) (T i) := fun i hi => Tab.rowAt q6 q7 q8 hi
    have HR := Lib.hid hr
    have P5 := Lib.hid q5
    clear hl q5 q6 q7 q8 hr
    go_enter Try.func73, Try.ntmps73
    go_wp2_with fail
    refine Calls.makes' (sIsSp_c _ _ _ _ _ (h.below e3)) _ fun w1 hb1 => ?_
    rw [hok]
    obtain ⟨f0, f1, f2, f3⟩ := boxKeep hb1 BX.out
    clear h e0 e1 e2 e3 hb1
    go_wp2
    go_loopg [5] m (fun g i wr => ∃ k : Nat, k ≤ m ∧ g = m - k ∧ i = .int .i64 k ∧ BoxD w p ao n c wr ∧ ∀ j, j < k → mvB p n (L j) (T j) = true)
    case atStart => exact ⟨0, Nat.zero_le _, rfl, rfl, ⟨f0, f1, f2, f3⟩, fun j hj => absurd hj (Nat.not_lt_zero _)⟩
    case round =>
      obtain ⟨k, hk, rfl, rfl, ⟨f0, f1, f2, f3⟩, hl⟩ := hrel
      have HL := Lib.hid hl; clear hl
      have BXr := Lib.hid (show BoxD w p ao n c wr from ⟨f0, f1, f2, f3⟩)
      by_cases hlt : k < m
      · obtain rfl := q4 (by omega)
        have f4 : wr.cell? ⟨lb, lo + k, none⟩ = some (.slice (A k) (L k) (C k)) := by rw [f3.cell (p := ⟨lb, lo + k, none⟩) (lt_of_cell (P5.out k hlt))]; exact P5.out k hlt
        have hlb := lt_of_cell (P5.out k hlt)
        obtain ⟨q, hq⟩ : ∃ q, mvB p n (L k) (T k) = q := ⟨_, rfl⟩
        have hEl : ∀ W, Below w.heap.size w W → Calls Try.prog 121 #[dbl p (.slice ao n c), .slice (A k) (L k) (C k)] W fun e w' => Makes W w' e (.bool q) := fun W hb => hq ▸ sIsMv_c p _ n s _ (L k) (T k) W (hv.out.below hb) hOK.out ((HR.out k hlt).below hb)
        have HE := Lib.hid hEl; clear hEl
        have i0 : (0 : Int) ≤ (k : Int) := by omega
        have i1 : (k : Int) < (m : Int) := by omega
        go_wp2
        go_region_held3 (fun W => (W.cell? ⟨w.heap.size, 0, none⟩ = some (.int .i64 p) ∧ W.cell? ⟨w.heap.size, 1, none⟩ = some (.slice ao n c) ∧ w.heap.size < W.heap.size ∧ Below w.heap.size w W) ∧ W.cell? ⟨lb, lo + k, none⟩ = some (.slice (A k) (L k) (C k)))
          ((first | assumption | exact boxKeepC hlb (drewB _) ⟨⟨f0, f1, f2, f3⟩, f4⟩ | exact boxKeepC hlb (by assumption) (by assumption)))
          ((first | (go_at_call 121; refine Calls.makes' (HE.out _ (boxBelowC (by assumption))) _ fun w2 hb2 => ?_)))
        have bx2 : BoxD w p ao n c w2 := And.left (b := w2.cell? ⟨lb, lo + k, none⟩ = some (.slice (A k) (L k) (C k))) (by assumption)
        cases q
        · go_wp2
          go_ret
          exact ⟨ret_i64 (by unfold codeM; rw [anyB_at hlt (by rw [hq]; rfl)]; rfl), bx2.2.2.2⟩
        · go_wp2
          go_roundg (m - (k + 1))
          case measure => omega
          case rel => exact ⟨k + 1, by omega, rfl, by go_num, bx2, fun j hj => by
            by_cases e : j = k
            · subst e; exact hq
            · exact HL.out j (by omega)⟩
      · obtain rfl : k = m := by omega
        go_wp2
        go_ret
        exact ⟨ret_i64 (by unfold codeM; rw [anyB_none fun j hj => by rw [HL.out j hj]; rfl]; rfl), f3⟩

end Go.Proofs.Ytmedmkjlhcoepaa
