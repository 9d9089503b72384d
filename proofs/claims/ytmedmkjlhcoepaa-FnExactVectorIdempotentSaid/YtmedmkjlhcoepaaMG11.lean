/-
  The unit of an algebra, and its codes. No condition beside sizes.
-/
import Derived.Test.YtmedmkjlhcoepaaMG10
import Derived.Test.YtmedmkjlhcoepaaD26
import Derived.Test.YtmedmkjlhcoepaaD28
import Derived.Test.YtmedmkjlhcoepaaQJ
set_option linter.unusedVariables false
set_option linter.unusedSimpArgs false
namespace Go.Proofs.Ytmedmkjlhcoepaa
open Go.RowKit

theorem idx_root {P : Nat} {a : Int} (hP : 1 ≤ P) (ha : 0 ≤ a ∧ a < P) : (decide (idxB (rootB P a) P ≤ 0) = (a == 0 || !hasRoot P a)) ∧ ((a == 0 || !hasRoot P a) = false → idxB (rootB P a) P = rtV P a) := by
  unfold idxB hasRoot rtV hasRoot
  by_cases h : fst (rootB P a) P < P
  · rw [if_pos h, decide_eq_true h]
    have hr := fst_is (rootB P a) P h
    have hr' : ((fst (rootB P a) P : Nat) : Int) * (fst (rootB P a) P : Nat) % P = a := by simpa [rootB] using hr
    constructor
    · by_cases h0 : fst (rootB P a) P = 0
      · rw [h0] at hr' ⊢
        have : a = 0 := by simpa using hr'.symm
        subst this; simp
      · have hne : a ≠ 0 := fun e => by
          have h2 : rootB P a 0 = true := by rw [e]; simp [rootB]
          have h3 : fst (rootB P a) P = 0 := fst_at (by omega) (fun j hj => absurd hj (Nat.not_lt_zero _)) h2
          exact h0 h3
        rw [decide_eq_false (by omega)]; simp [hne]
    · intro _; rfl
  · rw [if_neg h, decide_eq_false h]
    constructor
    · simp
    · intro e; simp at e
theorem viF_same {p a b x i : Int} : ((i * a) % p + (a * b) % p * x) % p = ((i + b * x) % p * a) % p := by
  rw [mod_add_mod, Int.add_emod, mod_mul_mod, ← Int.add_emod, mod_mul_mod]
  congr 1
  grind
/-- the vector of a multivector, its norm, the idempotent -/
def vF (X : Nat → Int) (i : Nat) : Int := X (2 ^ i)
def viF (p : Int) (r : Int) (X : Nat → Int) (i : Nat) : Int := ((dlt 0 i + invM p r * X i) % p * invM p 2) % p

set_option maxRecDepth 100000 in
set_option maxHeartbeats 1000000 in
theorem iNothing_c (p : Int) (ao : Option Addr) (n c : Nat) (w : World) (hn : n ≤ 6) :
    Calls Try.prog 155 #[dbl p (.slice ao n c)] w fun e w' => CopyI w w' e (2 ^ n) (fun _ => 0) := by
  obtain ⟨e0, e1, e2, e3⟩ := box0 w p ao n c 30
  have BX := Lib.hid (box0 w p ao n c 30)
  have hw2 := p2_wrap (i := n) (by omega)
  have hM := pow_le6 hn
  obtain ⟨M, hM2⟩ : ∃ M, 2 ^ n = M := ⟨_, rfl⟩
  rw [hM2] at hw2 hM ⊢
  clear hM2
  go_enter Try.func155, Try.ntmps155
  go_wp2_with fail
  go_at_call 101
  refine Calls.makes' (iDim_c _ _ _ _ _ (by omega)) _ fun w1 hb1 => ?_
  obtain ⟨f0, f1, f2, f3⟩ := boxKeep hb1 BX.out
  clear e0 e1 e2 e3
  have hs3 := f3.size
  go_wp2_with (at_make; rw [hw2]; refine wpList_mkA _ rfl _ _ _ _ elI rfl rfl .i64 .i64 M rfl rfl (by omega) (by omega) ?_; intro W1 hB1 hS1 hO1)
  go_ret
  exact ⟨_, _, rfl, by omega, f3.trans (hB1.mono f3.size), hO1⟩

set_option maxRecDepth 100000 in
set_option maxHeartbeats 1000000 in
theorem iBlade0_c (p : Int) (ao : Option Addr) (n c : Nat) (w : World) (hn : n ≤ 6) :
    Calls Try.prog 136 #[dbl p (.slice ao n c), .int .i64 0] w fun e w' => CopyI w w' e (2 ^ n) (dlt 0) := by
  obtain ⟨e0, e1, e2, e3⟩ := box0 w p ao n c 30
  have HN := Lib.hid (fun W => iNothing_c p ao n c W hn)
  have hN0 : 0 < 2 ^ n := Nat.pow_pos (by decide)
  obtain ⟨M, hM2⟩ : ∃ M, 2 ^ n = M := ⟨_, rfl⟩
  rw [hM2] at HN hN0 ⊢
  clear hM2
  have E3 := Lib.hid e3
  clear e3
  go_enter Try.func136, Try.ntmps136
  go_wp2_with fail
  go_at_call 155
  refine (HN.out _).mono ?_
  rintro e w1 ⟨g1, c1, rfl, hg1, hb1, hO1⟩
  have z0 := hO1.cell hN0
  have zf := hO1.frozen 0
  have hO2 : Hid (Own (w1.setCell ⟨g1, 0, none⟩ (.int .i64 1)) 2 g1 c1 M (fun i => .int .i64 (dlt 0 i))) := (hO1.set 0 (.int .i64 1)).congr fun i hi => by unfold dlt; by_cases e : i = 0 <;> simp [e]
  have hb2 : Hid (Below w.heap.size w (w1.setCell ⟨g1, 0, none⟩ (.int .i64 1))) := (E3.out.trans (hb1.mono E3.out.size)).setCell (by have := E3.out.size; show w.heap.size ≤ g1; omega) _
  have hs3 := E3.out.size
  clear hO1 hb1
  go_wp2
  go_ret
  exact ⟨g1, c1, rfl, by omega, hb2.out, hO2.out⟩

set_option maxRecDepth 100000 in
set_option maxHeartbeats 1000000 in
theorem iOneM_c (p : Int) (ao : Option Addr) (n c : Nat) (w : World) (hn : n ≤ 6) :
    Calls Try.prog 97 #[dbl p (.slice ao n c)] w fun e w' => CopyI w w' e (2 ^ n) (dlt 0) := by
  obtain ⟨e0, e1, e2, e3⟩ := box0 w p ao n c 30
  have HN := Lib.hid (fun W => iBlade0_c p ao n c W hn)
  obtain ⟨M, hM2⟩ : ∃ M, 2 ^ n = M := ⟨_, rfl⟩
  rw [hM2] at HN ⊢
  clear hM2
  have E3 := Lib.hid e3
  clear e3
  go_enter Try.func97, Try.ntmps97
  go_wp2_with fail
  go_at_call 136
  refine (HN.out _).mono ?_
  rintro e w1 ⟨g1, c1, rfl, hg1, hb1, hO1⟩
  have hs3 := E3.out.size
  have hO2 := Lib.hid hO1
  have hb2 := Lib.hid (E3.out.trans (hb1.mono E3.out.size))
  clear hO1 hb1
  go_wp2
  go_ret
  exact ⟨g1, c1, rfl, by omega, hb2.out, hO2.out⟩

set_option maxRecDepth 100000 in
set_option maxHeartbeats 1000000 in
theorem sZeroM_c (p : Int) (ao : Option Addr) (n c : Nat) (w : World) (hn : n ≤ 6) :
    Calls Try.prog 133 #[dbl p (.slice ao n c)] w fun e w' => CopyI w w' e (2 ^ n) (fun _ => 0) := by
  obtain ⟨e0, e1, e2, e3⟩ := box0 w p ao n c 30
  have HZ := Lib.hid (fun W => sSizeM_c p ao n c W hn)
  have hM := pow_le6 hn
  obtain ⟨M, hM2⟩ : ∃ M, 2 ^ n = M := ⟨_, rfl⟩
  rw [hM2] at HZ hM ⊢
  clear hM2
  have E3 := Lib.hid e3
  clear e3
  go_enter Try.func133, Try.ntmps133
  go_wp2_with fail
  go_at_call 148
  refine Calls.makes' (HZ.out _) _ fun w1 hb1 => ?_
  have f3 := E3.out.trans (hb1.mono E3.out.size)
  have hs3 := f3.size
  go_wp2_with (at_make; refine wpList_mkA _ rfl _ _ _ _ elI rfl rfl .i64 .i64 M rfl rfl (by omega) (by omega) ?_; intro W1 hB1 hS1 hO1)
  go_ret
  exact ⟨_, _, rfl, by omega, f3.trans (hB1.mono f3.size), hO1⟩

set_option maxRecDepth 100000 in
set_option maxHeartbeats 1000000 in
theorem sOneM_c (p : Int) (ao : Option Addr) (n c : Nat) (w : World) (hn : n ≤ 6) :
    Calls Try.prog 90 #[dbl p (.slice ao n c)] w fun e w' => CopyI w w' e (2 ^ n) (dlt 0) := by
  obtain ⟨e0, e1, e2, e3⟩ := box0 w p ao n c 30
  have HN := Lib.hid (fun W => sZeroM_c p ao n c W hn)
  have hN0 : 0 < 2 ^ n := Nat.pow_pos (by decide)
  obtain ⟨M, hM2⟩ : ∃ M, 2 ^ n = M := ⟨_, rfl⟩
  rw [hM2] at HN hN0 ⊢
  clear hM2
  have E3 := Lib.hid e3
  clear e3
  go_enter Try.func90, Try.ntmps90
  go_wp2_with fail
  go_at_call 133
  refine (HN.out _).mono ?_
  rintro e w1 ⟨g1, c1, rfl, hg1, hb1, hO1⟩
  have z0 := hO1.cell hN0
  have zf := hO1.frozen 0
  have hO2 : Hid (Own (w1.setCell ⟨g1, 0, none⟩ (.int .i64 1)) 2 g1 c1 M (fun i => .int .i64 (dlt 0 i))) := (hO1.set 0 (.int .i64 1)).congr fun i hi => by unfold dlt; by_cases e : i = 0 <;> simp [e]
  have hb2 : Hid (Below w.heap.size w (w1.setCell ⟨g1, 0, none⟩ (.int .i64 1))) := (E3.out.trans (hb1.mono E3.out.size)).setCell (by have := E3.out.size; show w.heap.size ≤ g1; omega) _
  have hs3 := E3.out.size
  clear hO1 hb1
  go_wp2
  go_ret
  exact ⟨g1, c1, rfl, by omega, hb2.out, hO2.out⟩

set_option maxRecDepth 100000 in
set_option maxHeartbeats 1000000 in
theorem iCkAlg_c (p : Int) (sv lv : Value) (n m : Nat) (s : Nat → Int) (L : Nat → Nat) (T : Nat → Nat → Int) (w : World) (h : Ints w sv n s) (hl : Tab w lv m L T) :
    Calls Try.prog 91 #[dbl p sv, lv] w fun e w' => Makes w w' e (.int .i64 (thenC (codeM (spB p n s) p n m L T) (decide (4 < n)) 3)) := by
  have H' := Lib.hid h
  have L' := Lib.hid hl
  obtain ⟨ao, c, b, o, rfl, p2, p3, qx⟩ := h.out
  obtain ⟨la, lc, lb, lo, A, C, RB, RO, rfl, ql⟩ := hl.out
  clear qx ql h hl
  have BX := Lib.hid (box0 w p ao n c 30)
  obtain ⟨e0, e1, e2, e3⟩ := box0 w p ao n c 30
  have HK := Lib.hid (iCkM_c p _ _ n m s L T _ (H'.out.below e3) (L'.out.below e3))
  obtain ⟨cc, hcc⟩ : ∃ cc, codeM (spB p n s) p n m L T = cc := ⟨_, rfl⟩
  rw [hcc] at HK ⊢
  by_cases h0 : cc = 0
  · have hn6 := (spB_ok (codeM_zero (hcc.trans h0)).1).n6
    subst h0
    clear hcc
    go_enter Try.func91, Try.ntmps91
    go_wp2_with fail
    go_at_call 75
    refine Calls.makes' HK.out _ fun w1 hb1 => ?_
    obtain ⟨f0, f1, f2, f3⟩ := boxKeep hb1 BX.out
    clear e0 e1 e2 e3 HK
    go_wp2_with fail
    go_at_call 101
    refine Calls.makes' (iDim_c _ _ _ _ _ (by omega)) _ fun w2 hb2 => ?_
    have b2 := f3.trans (hb2.mono f3.size)
    by_cases e : 4 < n
    · go_wp2
      go_ret
      exact ⟨ret_i64 (by rw [decide_eq_true e]; rfl), b2⟩
    · go_wp2
      go_ret
      exact ⟨ret_i64 (by rw [decide_eq_false e]; rfl), b2⟩
  · have hne : (cc != 0) = true := by rw [bne_iff_ne]; exact h0
    clear hcc
    go_enter Try.func91, Try.ntmps91
    go_wp2_with fail
    go_at_call 75
    refine Calls.makes' HK.out _ fun w1 hb1 => ?_
    obtain ⟨f0, f1, f2, f3⟩ := boxKeep hb1 BX.out
    go_wp2
    go_ret
    exact ⟨ret_i64 (by unfold thenC; rw [if_neg h0]), f3⟩

set_option maxRecDepth 100000 in
set_option maxHeartbeats 1000000 in
theorem sCkAlg_c (p : Int) (sv lv : Value) (n m : Nat) (s : Nat → Int) (L : Nat → Nat) (T : Nat → Nat → Int) (w : World) (h : Ints w sv n s) (hl : Tab w lv m L T) :
    Calls Try.prog 84 #[dbl p sv, lv] w fun e w' => Makes w w' e (.int .i64 (thenC (codeM (spB p n s) p n m L T) (decide (4 < n)) 3)) := by
  have H' := Lib.hid h
  have L' := Lib.hid hl
  obtain ⟨ao, c, b, o, rfl, p2, p3, qx⟩ := h.out
  obtain ⟨la, lc, lb, lo, A, C, RB, RO, rfl, ql⟩ := hl.out
  clear qx ql h hl
  have BX := Lib.hid (box0 w p ao n c 30)
  obtain ⟨e0, e1, e2, e3⟩ := box0 w p ao n c 30
  have HK := Lib.hid (sCodeM_c p _ _ n m s L T _ (H'.out.below e3) (L'.out.below e3))
  obtain ⟨cc, hcc⟩ : ∃ cc, codeM (spB p n s) p n m L T = cc := ⟨_, rfl⟩
  rw [hcc] at HK ⊢
  by_cases h0 : cc = 0
  · have hn6 := (spB_ok (codeM_zero (hcc.trans h0)).1).n6
    subst h0
    clear hcc
    go_enter Try.func84, Try.ntmps84
    go_wp2_with fail
    go_at_call 73
    refine Calls.makes' HK.out _ fun w1 hb1 => ?_
    obtain ⟨f0, f1, f2, f3⟩ := boxKeep hb1 BX.out
    clear e0 e1 e2 e3 HK
    by_cases e : 4 < n
    · have e1 : decide ((n : Int) > 4) = true := decide_eq_true (by omega)
      go_wp2
      go_ret
      exact ⟨ret_i64 (by rw [decide_eq_true e]; rfl), f3⟩
    · have e1 : decide ((n : Int) > 4) = false := decide_eq_false (by omega)
      go_wp2
      go_ret
      exact ⟨ret_i64 (by rw [decide_eq_false e]; rfl), f3⟩
  · have hne : (cc == 0) = false := by simpa using h0
    clear hcc
    go_enter Try.func84, Try.ntmps84
    go_wp2_with fail
    go_at_call 73
    refine Calls.makes' HK.out _ fun w1 hb1 => ?_
    obtain ⟨f0, f1, f2, f3⟩ := boxKeep hb1 BX.out
    go_wp2
    go_ret
    exact ⟨ret_i64 (by unfold thenC; rw [if_neg h0]), f3⟩


end Go.Proofs.Ytmedmkjlhcoepaa
