/-
  Spaces: the test of a space and of its vectors, in both programs. No condition beside sizes.
-/
import Derived.Test.YtejbigdebjcomaaDoorDS0
import Derived.Test.YtejbigdebjcomaaDoorDJB
import Derived.Test.YtejbigdebjcomaaDoorQNJ
set_option linter.unusedVariables false
set_option linter.unusedSimpArgs false
set_option maxRecDepth 100000
namespace Go.Proofs.YtejbigdebjcomaaDoor
open Go.RowKit


/-- the test of a space -/
def spB (p : Int) (n : Nat) (s : Nat → Int) : Bool := primeB p && decide (1 ≤ n ∧ n ≤ 6) && inPB 0 p n s

structure SpOk (p : Int) (n : Nat) (s : Nat → Int) : Prop where
  prime : primeB p = true
  n1 : 1 ≤ n
  n6 : n ≤ 6
  inp : InP p n s

theorem spB_ok {p : Int} {n : Nat} {s : Nat → Int} (h : spB p n s = true) : SpOk p n s := by
  unfold spB at h
  simp only [Bool.and_eq_true] at h
  have h2 := of_decide_eq_true h.1.2
  exact ⟨h.1.1, h2.1, h2.2, inPB_ok h.2⟩

theorem spB_noPrime {p : Int} {n : Nat} {s : Nat → Int} (h : primeB p = false) : spB p n s = false := by unfold spB; rw [h]; rfl

theorem spB_len {p : Int} {n : Nat} {s : Nat → Int} (h : ¬ (1 ≤ n ∧ n ≤ 6)) : spB p n s = false := by unfold spB; rw [decide_eq_false h]; simp

theorem spB_yes {p : Int} {n : Nat} {s : Nat → Int} (h1 : primeB p = true) (h2 : 1 ≤ n ∧ n ≤ 6) : spB p n s = inPB 0 p n s := by unfold spB; rw [h1, decide_eq_true h2]; rfl

/-- a space at a world -/
structure SV (w : World) (sv : Value) (p : Int) (n : Nat) (s : Nat → Int) : Prop where
  ints : Ints w sv n s
  ok : SpOk p n s

theorem SV.below {w w' : World} {sv : Value} {p : Int} {n : Nat} {s : Nat → Int} (h : SV w sv p n s) (hb : Below w.heap.size w w') : SV w' sv p n s := ⟨h.ints.below hb, h.ok⟩

theorem SpOk.bd {p : Int} {n : Nat} {s : Nat → Int} (h : SpOk p n s) : 3 ≤ p ∧ p ≤ 13 := primeB_bd h.prime

/-- a vector at a world -/
structure Vc (w : World) (v : Value) (p : Int) (n : Nat) (X : Nat → Int) : Prop where
  ints : Ints w v n X
  inp : InP p n X

theorem Vc.below {w w' : World} {v : Value} {p : Int} {n : Nat} {X : Nat → Int} (h : Vc w v p n X) (hb : Below w.heap.size w w') : Vc w' v p n X := ⟨h.ints.below hb, h.inp⟩

def vecB (p : Int) (n L : Nat) (X : Nat → Int) : Bool := decide (L = n) && inPB 0 p L X

theorem vecB_ne {p : Int} {n L : Nat} {X : Nat → Int} (h : L ≠ n) : vecB p n L X = false := by unfold vecB; rw [decide_eq_false h]; rfl

theorem vecB_eq {p : Int} {n L : Nat} {X : Nat → Int} (h : L = n) : vecB p n L X = inPB 0 p L X := by unfold vecB; rw [decide_eq_true h]; rfl

theorem vecB_vc {w : World} {v : Value} {p : Int} {n L : Nat} {X : Nat → Int} (h : Ints w v L X) (he : vecB p n L X = true) : L = n ∧ Vc w v p n X := by
  unfold vecB at he
  simp only [Bool.and_eq_true, decide_eq_true_eq] at he
  obtain ⟨rfl, h2⟩ := he
  exact ⟨rfl, h, inPB_ok h2⟩


theorem iSField_c (p : Int) (sv : Value) (w : World) : Calls Tryd.prog 53 #[dbl p sv] w fun e w' => Makes w w' e (.int .i64 p) := by
  go_enter Tryd.func53, Tryd.ntmps53
  go_wp2
  go_ret
  exact ⟨rfl, (Below.refl _ _).alloc (Nat.le_refl _) _⟩


set_option maxRecDepth 100000 in
set_option maxHeartbeats 2000000 in
theorem iIsSp_c (p : Int) (sv : Value) (n : Nat) (s : Nat → Int) (w : World) (h : Ints w sv n s) :
    Calls Tryd.prog 30 #[dbl p sv] w fun e w' => Makes w w' e (.bool (spB p n s)) := by
  have hi : ∀ W, Below w.heap.size w W → Ints W sv n s := fun W hb => h.below hb
  obtain ⟨ao, c, b, o, rfl, p2, p3, p4, p5⟩ := h.out
  have HI := Lib.hid hi
  clear h p5 hi p4
  obtain ⟨e0, e1, e2, e3⟩ := box0 w p ao n c 24
  cases hp : primeB p
  · have HP' : Hid (∀ W, Calls Tryd.prog 27 #[.int .i64 p] W fun e w' => e = .returned (.bool false) ∧ W = w') := fun W => hp ▸ iPrime_c p W
    have HR : Hid (∀ W, Below w.heap.size w W → Makes w W (.returned (.bool false)) (.bool (spB p n s))) := fun W hb => ⟨ret_bool (spB_noPrime hp).symm, hb⟩
    go_enter Tryd.func30, Tryd.ntmps30
    go_wp2
    go_quiet ((go_at_call 27; exact Calls.pure (HP'.out _)))
    go_wp2
    go_ret
    exact HR.out _ (Reads.below e3)
  · have HP' : Hid (∀ W, Calls Tryd.prog 27 #[.int .i64 p] W fun e w' => e = .returned (.bool true) ∧ W = w') := fun W => hp ▸ iPrime_c p W
    have hpc := primeB_bd hp
    by_cases hn : 1 ≤ n ∧ n ≤ 6
    · have HN : Hid (∀ W, Calls Tryd.prog 51 #[.int .i64 n, .int .i64 1, .int .i64 6] W fun e w' => e = .returned (.bool true) ∧ W = w') := fun W => (show inB (n : Int) 1 6 = true from decide_eq_true (by omega)) ▸ iIn_c _ _ _ W
      obtain ⟨q, hq⟩ : ∃ q, inPB 0 p n s = q := ⟨_, rfl⟩
      have HIS : Hid (∀ W, Below w.heap.size w W → Calls Tryd.prog 54 #[.int .i64 p, .slice ao n c] W fun e w' => e = .returned (.bool q) ∧ W = w') := fun W hb => hq ▸ iIs_c p _ n s W (HI.out W hb) (by omega) (by omega)
      have HR : Hid (∀ W, Below w.heap.size w W → Makes w W (.returned (.bool q)) (.bool (spB p n s))) := fun W hb => ⟨ret_bool (by rw [spB_yes hp hn, hq]), hb⟩
      clear hq
      go_enter Tryd.func30, Tryd.ntmps30
      go_wp2
      first
        | (go_region_law (first
            | (go_simp; go_at_call 27; refine (HP'.out _).mono ?_; rintro e w' ⟨rfl, rfl⟩)
            | (go_simp; go_at_call 52; refine (iLenI_c _ _ _ _ (by omega)).mono ?_; rintro e w' ⟨rfl, rfl⟩)
            | (go_simp; go_at_call 51; refine (HN.out _).mono ?_; rintro e w' ⟨rfl, rfl⟩)
            | (go_simp; go_at_call 53; refine Calls.makes' (iSField_c _ _ _) _ fun w1 hb1 => ?_; have hbx := boxKeep hb1 (boxDrew ⟨e0, e1, e2, e3⟩); obtain ⟨f0, f1, f2, f3⟩ := hbx)
            | (go_simp; go_at_call 54; refine (HIS.out _ f3).mono ?_; rintro e w' ⟨rfl, rfl⟩)))
        | fail
      all_goals go_wp2
      all_goals go_ret
      all_goals exact HR.out _ f3
    · have HN : Hid (∀ W, Calls Tryd.prog 51 #[.int .i64 n, .int .i64 1, .int .i64 6] W fun e w' => e = .returned (.bool false) ∧ W = w') := fun W => (show inB (n : Int) 1 6 = false from decide_eq_false (by omega)) ▸ iIn_c _ _ _ W
      have HR : Hid (∀ W, Below w.heap.size w W → Makes w W (.returned (.bool false)) (.bool (spB p n s))) := fun W hb => ⟨ret_bool (spB_len hn).symm, hb⟩
      clear hn
      go_enter Tryd.func30, Tryd.ntmps30
      go_wp2
      go_quiet ((first | (go_at_call 27; exact Calls.pure (HP'.out _)) | (go_at_call 52; exact Calls.pure (iLenI_c _ _ _ _ (by omega))) | (go_at_call 51; exact Calls.pure (HN.out _))))
      go_wp2
      go_ret
      exact HR.out _ (Reads.below e3)


theorem sNums_c (p : Int) (v : Value) (n : Nat) (X : Nat → Int) (w : World) (h : Ints w v n X) (h1 : 1 ≤ p) (h2 : p ≤ 1000) :
    Calls Tryd.prog 44 #[.int .i64 p, v] w fun e w' => e = .returned (.bool (inPB 0 p n X)) ∧ w = w' := by
  obtain ⟨ao, c, b, o, rfl, p2, p3, p4, p5⟩ := h.out
  clear h
  go_enter Tryd.func44, Tryd.ntmps44
  go_wp2
  go_loopg [5] n (fun g i wr => w = wr ∧ ∃ k : Nat, k ≤ n ∧ g = n - k ∧ i = .int .i64 k ∧ ∀ j, j < k → inB (X j) 0 (p - 1) = true)
  case atStart => exact ⟨rfl, 0, Nat.zero_le _, rfl, rfl, fun j hj => absurd hj (Nat.not_lt_zero _)⟩
  case round =>
    obtain ⟨rfl, k, hk, rfl, rfl, hl⟩ := hrel
    have HL := Lib.hid hl; clear hl
    by_cases hlt : k < n
    · obtain rfl := p4 (by omega)
      go_wp2_with (go_at_call 43; refine (sIn_c _ _ _ _).mono ?_; rintro e w' ⟨rfl, rfl⟩)
      · have ht : (!inB (X k) 0 (p - 1)) = true := by assumption
        go_ret
        exact ⟨ret_bool (inPB_false hlt (by simpa using ht)).symm, rfl⟩
      · have ht : (!inB (X k) 0 (p - 1)) = false := by assumption
        go_roundg (n - (k + 1))
        case measure => omega
        case rel => exact ⟨rfl, k + 1, by omega, rfl, by go_num, fun j hj => by
          by_cases e : j = k
          · subst e; simpa using ht
          · exact HL.out j (by omega)⟩
    · obtain rfl : k = n := by omega
      go_wp2
      go_ret
      exact ⟨ret_bool (inPB_true HL.out).symm, rfl⟩


set_option maxRecDepth 100000 in
set_option maxHeartbeats 1000000 in
theorem sIsSp_c (p : Int) (sv : Value) (n : Nat) (s : Nat → Int) (w : World) (h : Ints w sv n s) :
    Calls Tryd.prog 23 #[dbl p sv] w fun e w' => Makes w w' e (.bool (spB p n s)) := by
  have hi : ∀ W, Below w.heap.size w W → Ints W sv n s := fun W hb => h.below hb
  obtain ⟨ao, c, b, o, rfl, p2, p3, p4, p5⟩ := h.out
  have HI := Lib.hid hi
  clear h p5 hi p4
  obtain ⟨e0, e1, e2, e3⟩ := box0 w p ao n c 24
  cases hp : primeB p
  · have HP' : Hid (∀ W, Calls Tryd.prog 20 #[.int .i64 p] W fun e w' => e = .returned (.bool false) ∧ W = w') := fun W => hp ▸ sPrime_c p W
    have HR : Hid (∀ W, Below w.heap.size w W → Makes w W (.returned (.bool false)) (.bool (spB p n s))) := fun W hb => ⟨ret_bool (spB_noPrime hp).symm, hb⟩
    go_enter Tryd.func23, Tryd.ntmps23
    go_wp2_with (go_at_call 20; refine (HP'.out _).mono ?_; rintro e w' ⟨rfl, rfl⟩)
    go_ret
    exact HR.out _ e3
  · have HP' : Hid (∀ W, Calls Tryd.prog 20 #[.int .i64 p] W fun e w' => e = .returned (.bool true) ∧ W = w') := fun W => hp ▸ sPrime_c p W
    have hpc := primeB_bd hp
    by_cases hn : 1 ≤ n ∧ n ≤ 6
    · have HN : Hid (∀ W, Calls Tryd.prog 43 #[.int .i64 n, .int .i64 1, .int .i64 6] W fun e w' => e = .returned (.bool true) ∧ W = w') := fun W => (show inB (n : Int) 1 6 = true from decide_eq_true (by omega)) ▸ sIn_c _ _ _ W
      obtain ⟨q, hq⟩ : ∃ q, inPB 0 p n s = q := ⟨_, rfl⟩
      have HIS : Hid (∀ W, Below w.heap.size w W → Calls Tryd.prog 44 #[.int .i64 p, .slice ao n c] W fun e w' => e = .returned (.bool q) ∧ W = w') := fun W hb => hq ▸ sNums_c p _ n s W (HI.out W hb) (by omega) (by omega)
      have HR : Hid (∀ W, Below w.heap.size w W → Makes w W (.returned (.bool q)) (.bool (spB p n s))) := fun W hb => ⟨ret_bool (by rw [spB_yes hp hn, hq]), hb⟩
      clear hq
      go_enter Tryd.func23, Tryd.ntmps23
      go_wp2_with (first
        | (go_at_call 20; refine (HP'.out _).mono ?_; rintro e w' ⟨rfl, rfl⟩)
        | (go_at_call 43; refine (HN.out _).mono ?_; rintro e w' ⟨rfl, rfl⟩)
        | (go_at_call 44; refine (HIS.out _ e3).mono ?_; rintro e w' ⟨rfl, rfl⟩))
      go_ret
      exact HR.out _ e3
    · have HN : Hid (∀ W, Calls Tryd.prog 43 #[.int .i64 n, .int .i64 1, .int .i64 6] W fun e w' => e = .returned (.bool false) ∧ W = w') := fun W => (show inB (n : Int) 1 6 = false from decide_eq_false (by omega)) ▸ sIn_c _ _ _ W
      have HR : Hid (∀ W, Below w.heap.size w W → Makes w W (.returned (.bool false)) (.bool (spB p n s))) := fun W hb => ⟨ret_bool (spB_len hn).symm, hb⟩
      clear hn
      go_enter Tryd.func23, Tryd.ntmps23
      go_wp2_with (first
        | (go_at_call 20; refine (HP'.out _).mono ?_; rintro e w' ⟨rfl, rfl⟩)
        | (go_at_call 43; refine (HN.out _).mono ?_; rintro e w' ⟨rfl, rfl⟩))
      go_ret
      exact HR.out _ e3

end Go.Proofs.YtejbigdebjcomaaDoor
