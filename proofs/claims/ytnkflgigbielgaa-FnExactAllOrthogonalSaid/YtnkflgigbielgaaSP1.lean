/-
  Spaces: the test of a space and of its vectors, in both programs. No condition beside sizes.
-/
import Derived.Test.YtnkflgigbielgaaDS0
import Derived.Test.YtnkflgigbielgaaDJB
import Derived.Test.YtnkflgigbielgaaQNJ
set_option linter.unusedVariables false
set_option linter.unusedSimpArgs false
namespace Go.Proofs.Ytnkflgigbielgaa
open Go.RowKit

/-- the test of a space -/
def spB (p : Int) (n : Nat) (s : Nat → Int) : Bool := primeB p && decide (1 ≤ n ∧ n ≤ 6) && inPB 0 p n s
structure SpOk (p : Int) (n : Nat) (s : Nat → Int) : Prop where
  prime : primeB p = true
  n1 : 1 ≤ n
  n6 : n ≤ 6
  inp : InP p n s
theorem spB_ok {p : Int} {n : Nat} {s : Nat → Int} (h : spB p n s = true) : SpOk p n s := by
  unfold spB at h
  simp only [Bool.and_eq_true] at h
  have h2 := of_decide_eq_true h.1.2
  exact ⟨h.1.1, h2.1, h2.2, inPB_ok h.2⟩
theorem spB_noPrime {p : Int} {n : Nat} {s : Nat → Int} (h : primeB p = false) : spB p n s = false := by unfold spB; rw [h]; rfl
theorem spB_len {p : Int} {n : Nat} {s : Nat → Int} (h : ¬ (1 ≤ n ∧ n ≤ 6)) : spB p n s = false := by unfold spB; rw [decide_eq_false h]; simp
theorem spB_yes {p : Int} {n : Nat} {s : Nat → Int} (h1 : primeB p = true) (h2 : 1 ≤ n ∧ n ≤ 6) : spB p n s = inPB 0 p n s := by unfold spB; rw [h1, decide_eq_true h2]; rfl
/-- a space at a world -/
structure SV (w : World) (sv : Value) (p : Int) (n : Nat) (s : Nat → Int) : Prop where
  ints : Ints w sv n s
  ok : SpOk p n s
theorem SV.below {w w' : World} {sv : Value} {p : Int} {n : Nat} {s : Nat → Int} (h : SV w sv p n s) (hb : Below w.heap.size w w') : SV w' sv p n s := ⟨h.ints.below hb, h.ok⟩
theorem SpOk.bd {p : Int} {n : Nat} {s : Nat → Int} (h : SpOk p n s) : 3 ≤ p ∧ p ≤ 13 := primeB_bd h.prime
/-- a vector at a world -/
structure Vc (w : World) (v : Value) (p : Int) (n : Nat) (X : Nat → Int) : Prop where
  ints : Ints w v n X
  inp : InP p n X
theorem Vc.below {w w' : World} {v : Value} {p : Int} {n : Nat} {X : Nat → Int} (h : Vc w v p n X) (hb : Below w.heap.size w w') : Vc w' v p n X := ⟨h.ints.below hb, h.inp⟩
def vecB (p : Int) (n L : Nat) (X : Nat → Int) : Bool := decide (L = n) && inPB 0 p L X
theorem vecB_ne {p : Int} {n L : Nat} {X : Nat → Int} (h : L ≠ n) : vecB p n L X = false := by unfold vecB; rw [decide_eq_false h]; rfl
theorem vecB_eq {p : Int} {n L : Nat} {X : Nat → Int} (h : L = n) : vecB p n L X = inPB 0 p L X := by unfold vecB; rw [decide_eq_true h]; rfl
theorem vecB_vc {w : World} {v : Value} {p : Int} {n L : Nat} {X : Nat → Int} (h : Ints w v L X) (he : vecB p n L X = true) : L = n ∧ Vc w v p n X := by
  unfold vecB at he
  simp only [Bool.and_eq_true, decide_eq_true_eq] at he
  obtain ⟨rfl, h2⟩ := he
  exact ⟨rfl, h, inPB_ok h2⟩

theorem iSField_c (p : Int) (sv : Value) (w : World) : Calls Try.prog 71 #[dbl p sv] w fun e w' => Makes w w' e (.int .i64 p) := by
  go_enter Try.func71, Try.ntmps71
  go_wp2
  go_ret
  exact ⟨rfl, (Below.refl _ _).alloc (Nat.le_refl _) _⟩

theorem iDim_c (p : Int) (ao : Option Addr) (n c : Nat) (w : World) (hn : n ≤ 1048576) : Calls Try.prog 92 #[dbl p (.slice ao n c)] w fun e w' => Makes w w' e (.int .i64 n) := by
  go_enter Try.func92, Try.ntmps92
  go_wp2
  go_ret
  exact ⟨rfl, (Below.refl _ _).alloc (Nat.le_refl _) _⟩

set_option maxRecDepth 100000 in
set_option maxHeartbeats 2000000 in
theorem iIsSp_c (p : Int) (sv : Value) (n : Nat) (s : Nat → Int) (w : World) (h : Ints w sv n s) :
    Calls Try.prog 14 #[dbl p sv] w fun e w' => Makes w w' e (.bool (spB p n s)) := by
  have hi : ∀ W, Below w.heap.size w W → Ints W sv n s := fun W hb => h.below hb
  obtain ⟨ao, c, b, o, rfl, p2, p3, p4, p5⟩ := h.out
  have HI := Lib.hid hi
  clear h p5 hi p4
  obtain ⟨e0, e1, e2, e3⟩ := box0 w p ao n c 26
  cases hp : primeB p
  · have HP' : Hid (∀ W, Calls Try.prog 68 #[.int .i64 p] W fun e w' => e = .returned (.bool false) ∧ W = w') := fun W => hp ▸ iPrime_c p W
    have HR : Hid (∀ W, Below w.heap.size w W → Makes w W (.returned (.bool false)) (.bool (spB p n s))) := fun W hb => ⟨ret_bool (spB_noPrime hp).symm, hb⟩
    go_enter Try.func14, Try.ntmps14
    go_wp2
    go_quiet ((go_at_call 68; exact Calls.pure (HP'.out _)))
    go_wp2
    go_ret
    exact HR.out _ (Reads.below e3)
  · have HP' : Hid (∀ W, Calls Try.prog 68 #[.int .i64 p] W fun e w' => e = .returned (.bool true) ∧ W = w') := fun W => hp ▸ iPrime_c p W
    have hpc := primeB_bd hp
    by_cases hn : 1 ≤ n ∧ n ≤ 6
    · have HN : Hid (∀ W, Calls Try.prog 69 #[.int .i64 n, .int .i64 1, .int .i64 6] W fun e w' => e = .returned (.bool true) ∧ W = w') := fun W => (show inB (n : Int) 1 6 = true from decide_eq_true (by omega)) ▸ iIn_c _ _ _ W
      obtain ⟨q, hq⟩ : ∃ q, inPB 0 p n s = q := ⟨_, rfl⟩
      have HIS : Hid (∀ W, Below w.heap.size w W → Calls Try.prog 72 #[.int .i64 p, .slice ao n c] W fun e w' => e = .returned (.bool q) ∧ W = w') := fun W hb => hq ▸ iIs_c p _ n s W (HI.out W hb) (by omega) (by omega)
      have HR : Hid (∀ W, Below w.heap.size w W → Makes w W (.returned (.bool q)) (.bool (spB p n s))) := fun W hb => ⟨ret_bool (by rw [spB_yes hp hn, hq]), hb⟩
      clear hq
      go_enter Try.func14, Try.ntmps14
      go_wp2
      first
        | (go_region_law (first
            | (go_simp; go_at_call 68; refine (HP'.out _).mono ?_; rintro e w' ⟨rfl, rfl⟩)
            | (go_simp; go_at_call 70; refine (iLenI_c _ _ _ _ (by omega)).mono ?_; rintro e w' ⟨rfl, rfl⟩)
            | (go_simp; go_at_call 69; refine (HN.out _).mono ?_; rintro e w' ⟨rfl, rfl⟩)
            | (go_simp; go_at_call 71; refine Calls.makes' (iSField_c _ _ _) _ fun w1 hb1 => ?_; have hbx := boxKeep hb1 (boxDrew ⟨e0, e1, e2, e3⟩); obtain ⟨f0, f1, f2, f3⟩ := hbx)
            | (go_simp; go_at_call 72; refine (HIS.out _ f3).mono ?_; rintro e w' ⟨rfl, rfl⟩)))
        | fail
      all_goals go_wp2
      all_goals go_ret
      all_goals exact HR.out _ f3
    · have HN : Hid (∀ W, Calls Try.prog 69 #[.int .i64 n, .int .i64 1, .int .i64 6] W fun e w' => e = .returned (.bool false) ∧ W = w') := fun W => (show inB (n : Int) 1 6 = false from decide_eq_false (by omega)) ▸ iIn_c _ _ _ W
      have HR : Hid (∀ W, Below w.heap.size w W → Makes w W (.returned (.bool false)) (.bool (spB p n s))) := fun W hb => ⟨ret_bool (spB_len hn).symm, hb⟩
      clear hn
      go_enter Try.func14, Try.ntmps14
      go_wp2
      go_quiet ((first | (go_at_call 68; exact Calls.pure (HP'.out _)) | (go_at_call 70; exact Calls.pure (iLenI_c _ _ _ _ (by omega))) | (go_at_call 69; exact Calls.pure (HN.out _))))
      go_wp2
      go_ret
      exact HR.out _ (Reads.below e3)

theorem sNums_c (p : Int) (v : Value) (n : Nat) (X : Nat → Int) (w : World) (h : Ints w v n X) (h1 : 1 ≤ p) (h2 : p ≤ 1000) :
    Calls Try.prog 131 #[.int .i64 p, v] w fun e w' => e = .returned (.bool (inPB 0 p n X)) ∧ w = w' := by
  obtain ⟨ao, c, b, o, rfl, p2, p3, p4, p5⟩ := h.out
  clear h
  go_enter Try.func131, Try.ntmps131
  go_wp2
  go_loopg [5] n (fun g i wr => w = wr ∧ ∃ k : Nat, k ≤ n ∧ g = n - k ∧ i = .int .i64 k ∧ ∀ j, j < k → inB (X j) 0 (p - 1) = true)
  case atStart => exact ⟨rfl, 0, Nat.zero_le _, rfl, rfl, fun j hj => absurd hj (Nat.not_lt_zero _)⟩
  case round =>
    obtain ⟨rfl, k, hk, rfl, rfl, hl⟩ := hrel
    have HL := Lib.hid hl; clear hl
    by_cases hlt : k < n
    · obtain rfl := p4 (by omega)
      go_wp2_with (go_at_call 82; refine (sIn_c _ _ _ _).mono ?_; rintro e w' ⟨rfl, rfl⟩)
      · have ht : (!inB (X k) 0 (p - 1)) = true := by assumption
        go_ret
        exact ⟨ret_bool (inPB_false hlt (by simpa using ht)).symm, rfl⟩
      · have ht : (!inB (X k) 0 (p - 1)) = false := by assumption
        go_roundg (n - (k + 1))
        case measure => omega
        case rel => exact ⟨rfl, k + 1, by omega, rfl, by go_num, fun j hj => by
          by_cases e : j = k
          · subst e; simpa using ht
          · exact HL.out j (by omega)⟩
    · obtain rfl : k = n := by omega
      go_wp2
      go_ret
      exact ⟨ret_bool (inPB_true HL.out).symm, rfl⟩

set_option maxRecDepth 100000 in
set_option maxHeartbeats 1000000 in
theorem sIsSp_c (p : Int) (sv : Value) (n : Nat) (s : Nat → Int) (w : World) (h : Ints w sv n s) :
    Calls Try.prog 65 #[dbl p sv] w fun e w' => Makes w w' e (.bool (spB p n s)) := by
  have hi : ∀ W, Below w.heap.size w W → Ints W sv n s := fun W hb => h.below hb
  obtain ⟨ao, c, b, o, rfl, p2, p3, p4, p5⟩ := h.out
  have HI := Lib.hid hi
  clear h p5 hi p4
  obtain ⟨e0, e1, e2, e3⟩ := box0 w p ao n c 26
  cases hp : primeB p
  · have HP' : Hid (∀ W, Calls Try.prog 130 #[.int .i64 p] W fun e w' => e = .returned (.bool false) ∧ W = w') := fun W => hp ▸ sPrime_c p W
    have HR : Hid (∀ W, Below w.heap.size w W → Makes w W (.returned (.bool false)) (.bool (spB p n s))) := fun W hb => ⟨ret_bool (spB_noPrime hp).symm, hb⟩
    go_enter Try.func65, Try.ntmps65
    go_wp2_with (go_at_call 130; refine (HP'.out _).mono ?_; rintro e w' ⟨rfl, rfl⟩)
    go_ret
    exact HR.out _ e3
  · have HP' : Hid (∀ W, Calls Try.prog 130 #[.int .i64 p] W fun e w' => e = .returned (.bool true) ∧ W = w') := fun W => hp ▸ sPrime_c p W
    have hpc := primeB_bd hp
    by_cases hn : 1 ≤ n ∧ n ≤ 6
    · have HN : Hid (∀ W, Calls Try.prog 82 #[.int .i64 n, .int .i64 1, .int .i64 6] W fun e w' => e = .returned (.bool true) ∧ W = w') := fun W => (show inB (n : Int) 1 6 = true from decide_eq_true (by omega)) ▸ sIn_c _ _ _ W
      obtain ⟨q, hq⟩ : ∃ q, inPB 0 p n s = q := ⟨_, rfl⟩
      have HIS : Hid (∀ W, Below w.heap.size w W → Calls Try.prog 131 #[.int .i64 p, .slice ao n c] W fun e w' => e = .returned (.bool q) ∧ W = w') := fun W hb => hq ▸ sNums_c p _ n s W (HI.out W hb) (by omega) (by omega)
      have HR : Hid (∀ W, Below w.heap.size w W → Makes w W (.returned (.bool q)) (.bool (spB p n s))) := fun W hb => ⟨ret_bool (by rw [spB_yes hp hn, hq]), hb⟩
      clear hq
      go_enter Try.func65, Try.ntmps65
      go_wp2_with (first
        | (go_at_call 130; refine (HP'.out _).mono ?_; rintro e w' ⟨rfl, rfl⟩)
        | (go_at_call 82; refine (HN.out _).mono ?_; rintro e w' ⟨rfl, rfl⟩)
        | (go_at_call 131; refine (HIS.out _ e3).mono ?_; rintro e w' ⟨rfl, rfl⟩))
      go_ret
      exact HR.out _ e3
    · have HN : Hid (∀ W, Calls Try.prog 82 #[.int .i64 n, .int .i64 1, .int .i64 6] W fun e w' => e = .returned (.bool false) ∧ W = w') := fun W => (show inB (n : Int) 1 6 = false from decide_eq_false (by omega)) ▸ sIn_c _ _ _ W
      have HR : Hid (∀ W, Below w.heap.size w W → Makes w W (.returned (.bool false)) (.bool (spB p n s))) := fun W hb => ⟨ret_bool (spB_len hn).symm, hb⟩
      clear hn
      go_enter Try.func65, Try.ntmps65
      go_wp2_with (first
        | (go_at_call 130; refine (HP'.out _).mono ?_; rintro e w' ⟨rfl, rfl⟩)
        | (go_at_call 82; refine (HN.out _).mono ?_; rintro e w' ⟨rfl, rfl⟩))
      go_ret
      exact HR.out _ e3

set_option maxRecDepth 100000 in
set_option maxHeartbeats 400000 in
theorem iIsVec_c (p : Int) (ao : Option Addr) (n c : Nat) (v : Value) (L : Nat) (X : Nat → Int) (w : World) (h : Ints w v L X) (h1 : 1 ≤ p) (h2 : p ≤ 1000) (hn : n ≤ 6) :
    Calls Try.prog 127 #[dbl p (.slice ao n c), v] w fun e w' => Makes w w' e (.bool (vecB p n L X)) := by
  have hi : ∀ W, Below w.heap.size w W → Ints W v L X := fun W hb => h.below hb
  obtain ⟨xa, xc, b, o, rfl, p2, p3, qx⟩ := h.out
  have HI := Lib.hid hi
  obtain ⟨e0, e1, e2, e3⟩ := box0 w p ao n c 26
  have BX := Lib.hid (box0 w p ao n c 26)
  clear qx hi h
  by_cases hL : L = n
  · obtain ⟨q, hq⟩ : ∃ q, inPB 0 p L X = q := ⟨_, rfl⟩
    rw [vecB_eq hL, hq]
    have HIS : Hid (∀ W, Below w.heap.size w W → Calls Try.prog 72 #[.int .i64 p, .slice xa L xc] W fun e w' => e = .returned (.bool q) ∧ W = w') := fun W hb => hq ▸ iIs_c p _ L X W (HI.out W hb) h1 h2
    have hd : ((L : Int) == (n : Int)) = true := by rw [hL]; simp
    clear hq hL
    go_enter Try.func127, Try.ntmps127
    go_wp2_with fail
    refine Calls.makes' (iDim_c _ _ _ _ _ (by omega)) _ fun w1 hb1 => ?_
    obtain ⟨f0, f1, f2, f3⟩ := boxKeep hb1 BX.out
    clear e0 e1 e2 e3
    go_wp2_with fail
    refine Calls.makes' (iSField_c _ _ _) _ fun w2 hb2 => ?_
    have b2 := f3.trans (hb2.mono f3.size)
    go_wp2_with fail
    go_at_call 72
    refine (HIS.out _ b2).mono ?_
    rintro e w' ⟨rfl, rfl⟩
    go_wp2
    go_ret
    exact ⟨rfl, b2⟩
  · have hd : ((L : Int) == (n : Int)) = false := by rw [beq_eq_false_iff_ne]; omega
    rw [vecB_ne hL]
    clear hL
    go_enter Try.func127, Try.ntmps127
    go_wp2_with fail
    refine Calls.makes' (iDim_c _ _ _ _ _ (by omega)) _ fun w1 hb1 => ?_
    obtain ⟨f0, f1, f2, f3⟩ := boxKeep hb1 BX.out
    go_wp2
    go_ret
    exact ⟨rfl, f3⟩

set_option maxRecDepth 100000 in
set_option maxHeartbeats 400000 in
theorem sVec_c (p : Int) (ao : Option Addr) (n c : Nat) (v : Value) (L : Nat) (X : Nat → Int) (w : World) (h : Ints w v L X) (h1 : 1 ≤ p) (h2 : p ≤ 1000) (hn : n ≤ 6) :
    Calls Try.prog 66 #[dbl p (.slice ao n c), v] w fun e w' => Makes w w' e (.bool (vecB p n L X)) := by
  have hi : ∀ W, Below w.heap.size w W → Ints W v L X := fun W hb => h.below hb
  obtain ⟨xa, xc, b, o, rfl, p2, p3, qx⟩ := h.out
  have HI := Lib.hid hi
  obtain ⟨e0, e1, e2, e3⟩ := box0 w p ao n c 26
  have E3 := Lib.hid e3
  clear qx hi h
  by_cases hL : L = n
  · obtain ⟨q, hq⟩ : ∃ q, inPB 0 p L X = q := ⟨_, rfl⟩
    rw [vecB_eq hL, hq]
    have HIS : Hid (∀ W, Below w.heap.size w W → Calls Try.prog 131 #[.int .i64 p, .slice xa L xc] W fun e w' => e = .returned (.bool q) ∧ W = w') := fun W hb => hq ▸ sNums_c p _ L X W (HI.out W hb) h1 h2
    have hd : ((L : Int) == (n : Int)) = true := by rw [hL]; simp
    clear hq hL
    go_enter Try.func66, Try.ntmps66
    go_wp2_with (go_at_call 131; refine (HIS.out _ E3.out).mono ?_; rintro e w' ⟨rfl, rfl⟩)
    go_ret
    exact ⟨rfl, E3.out⟩
  · have hd : ((L : Int) == (n : Int)) = false := by rw [beq_eq_false_iff_ne]; omega
    rw [vecB_ne hL]
    clear hL
    go_enter Try.func66, Try.ntmps66
    go_wp2
    go_ret
    exact ⟨rfl, E3.out⟩

end Go.Proofs.Ytnkflgigbielgaa
