/-
  Doublings: the test of a doubling and the code of elements, in both programs. No condition beside sizes.
-/
import Derived.Test.YtdehfpnlehbdjaaD13
set_option linter.unusedVariables false
set_option linter.unusedSimpArgs false
namespace Go.Proofs.Ytdehfpnlehbdjaa
open Go.RowKit

/-- a box that holds a doubling, behind w -/
abbrev BoxD (w : World) (p : Int) (ao : Option Addr) (n c : Nat) (W : World) : Prop :=
  W.cell? ⟨w.heap.size, 0, none⟩ = some (.int .i64 p) ∧ W.cell? ⟨w.heap.size, 1, none⟩ = some (.slice ao n c) ∧ w.heap.size < W.heap.size ∧ Below w.heap.size w W
theorem boxKeep {w W W' : World} {p : Int} {ao : Option Addr} {n c : Nat} (hb : Below W.heap.size W W') (h : BoxD w p ao n c W) : BoxD w p ao n c W' :=
  ⟨by rw [hb.cell (p := ⟨w.heap.size, 0, none⟩) h.2.2.1]; exact h.1, by rw [hb.cell (p := ⟨w.heap.size, 1, none⟩) h.2.2.1]; exact h.2.1, by have := hb.size; have := h.2.2.1; omega, h.2.2.2.trans (hb.mono h.2.2.2.size)⟩
theorem box0 (w : World) (p : Int) (ao : Option Addr) (n c : Nat) (t : TypeId) : BoxD w p ao n c (w.alloc (.cells #[.int .i64 p, .slice ao n c] t)) :=
  ⟨by simp, by simp, by simp, (Below.refl _ _).alloc (Nat.le_refl _) _⟩
theorem boxDrew {w W : World} {p : Int} {ao : Option Addr} {n c : Nat} (h : BoxD w p ao n c W) : BoxD w p ao n c W.drew :=
  boxKeep (W := W) ⟨rfl, rfl, rfl, Nat.le_refl _, fun _ _ => rfl⟩ h

theorem idx_neg {f : Nat → Int} {x : Int} : ∀ {n : Nat}, ¬ 0 ≤ idx f x n → ∀ j, j < n → f j ≠ x
  | 0, _, j, hj => absurd hj (Nat.not_lt_zero _)
  | n + 1, h, j, hj => by
    simp only [idx] at h
    by_cases h0 : 0 ≤ idx f x n
    · rw [if_pos h0] at h; exact absurd h0 h
    · rw [if_neg h0] at h
      by_cases h1 : f n = x
      · rw [if_pos h1] at h; omega
      · by_cases e : j = n
        · subst e; exact h1
        · exact idx_neg h0 j (by omega)

theorem dblB_noPrime {p : Int} {n : Nat} {s : Nat → Int} (h : primeB p = false) : dblB p n s = false := by unfold dblB; rw [h]; rfl
theorem dblB_big {p : Int} {n : Nat} {s : Nat → Int} (h : ¬ n ≤ 4) : dblB p n s = false := by unfold dblB; rw [decide_eq_false h]; simp
theorem dblB_out {p : Int} {n : Nat} {s : Nat → Int} (h : inPB 1 p n s = false) : dblB p n s = false := by unfold dblB; rw [h]; simp
theorem dblB_yes {p : Int} {n : Nat} {s : Nat → Int} (h1 : primeB p = true) (h2 : n ≤ 4) (h3 : inPB 1 p n s = true) : dblB p n s = true := by unfold dblB; rw [h1, h3, decide_eq_true h2]; rfl
theorem inPB_step {p : Int} {n : Nat} {s : Nat → Int} : inPB 1 p n s = (inPB 0 p n s && !decide (0 ≤ idx s 0 n)) := by
  cases h : inPB 1 p n s
  · cases h0 : inPB 0 p n s
    · rfl
    · by_cases hc : 0 ≤ idx s 0 n
      · rw [decide_eq_true hc]; rfl
      · exfalso
        have h1 := of_decide_eq_true h0
        have h2 := idx_neg hc
        exact (of_decide_eq_false h) fun i hi => by have := h1 i hi; have := h2 i hi; omega
  · have h1 := of_decide_eq_true h
    rw [show inPB 0 p n s = true from decide_eq_true fun i hi => by have := h1 i hi; omega, idx_none (f := s) (x := 0) fun j hj => by have := h1 j hj; omega]
    rfl

theorem Calls.pure {P : Program} {f : FuncId} {args : Array Value} {w : World} {n : Nat} {v : Value}
    (h : Calls P f args (w.drewN n) fun e w' => e = .returned v ∧ w.drewN n = w') : Calls P f args (w.drewN n) fun e w'' => e = .returned v ∧ ∃ m, w'' = w.drewN m :=
  Calls.reads (h.mono fun e w' h => ⟨h.1, 0, h.2.symm⟩)

set_option maxRecDepth 100000 in
set_option maxHeartbeats 4000000 in
theorem iIsDbl_c (p : Int) (sv : Value) (n : Nat) (s : Nat → Int) (w : World) (h : Ints w sv n s) :
    Calls Try.prog 49 #[dbl p sv] w fun e w' => Makes w w' e (.bool (dblB p n s)) := by
  have hi : ∀ W, Below w.heap.size w W → Ints W sv n s := fun W hb => h.below hb
  obtain ⟨ao, c, b, o, rfl, p2, p3, p4, p5⟩ := h.out
  have HI := Lib.hid hi
  clear h p5 hi p4
  obtain ⟨e0, e1, e2, e3⟩ := box0 w p ao n c 30
  cases hp : primeB p
  · have HP : ∀ W, Calls Try.prog 79 #[.int .i64 p] W fun e w' => e = .returned (.bool false) ∧ W = w' := fun W => hp ▸ iPrime_c p W
    have HP' := Lib.hid HP; clear HP
    have hres : ∀ W, Below w.heap.size w W → Makes w W (.returned (.bool false)) (.bool (dblB p n s)) := fun W hb => ⟨ret_bool (dblB_noPrime hp).symm, hb⟩
    have HR := Lib.hid hres; clear hres
    go_enter Try.func49, Try.ntmps49
    go_wp2
    go_quiet ((go_at_call 79; exact Calls.pure (HP'.out _)))
    go_wp2
    go_ret
    exact HR.out _ (Reads.below e3)
  · have HP : ∀ W, Calls Try.prog 79 #[.int .i64 p] W fun e w' => e = .returned (.bool true) ∧ W = w' := fun W => hp ▸ iPrime_c p W
    have HP' := Lib.hid HP; clear HP
    have hpc := primeB_bd hp
    by_cases h4 : n ≤ 4
    · have hd4 : decide ((n : Int) ≤ 4) = true := decide_eq_true (by omega)
      have hfield : ∀ W, Calls Try.prog 35 #[dbl p (.slice ao n c)] W fun e w' => Makes W w' e (.int .i64 p) := fun W => iField_c p _ W
      have HF := Lib.hid hfield; clear hfield
      cases h0 : inPB 0 p n s
      · have his : ∀ W, Below w.heap.size w W → Calls Try.prog 64 #[.int .i64 p, .slice ao n c] W fun e w' => e = .returned (.bool false) ∧ W = w' := fun W hb => h0 ▸ iIs_c p _ n s W (HI.out W hb) (by omega) (by omega)
        have HIS := Lib.hid his; clear his
        have hres : ∀ W, Below w.heap.size w W → Makes w W (.returned (.bool false)) (.bool (dblB p n s)) := fun W hb => ⟨ret_bool (dblB_out (by rw [inPB_step, h0]; rfl)).symm, hb⟩
        have HR := Lib.hid hres; clear hres h0
        go_enter Try.func49, Try.ntmps49
        go_wp2
        first
          | (go_region_law (first
              | (go_simp; go_at_call 79; refine (HP'.out _).mono ?_; rintro e w' ⟨rfl, rfl⟩)
              | (go_simp; go_at_call 35; refine Calls.makes' (HF.out _) _ fun w1 hb1 => ?_; have hbx := boxKeep hb1 (boxDrew ⟨e0, e1, e2, e3⟩); obtain ⟨f0, f1, f2, f3⟩ := hbx)
              | (go_simp; go_at_call 64; refine (HIS.out _ f3).mono ?_; rintro e w' ⟨rfl, rfl⟩)))
          | fail
        all_goals go_wp2
        all_goals go_ret
        all_goals exact HR.out _ f3
      · have his : ∀ W, Below w.heap.size w W → Calls Try.prog 64 #[.int .i64 p, .slice ao n c] W fun e w' => e = .returned (.bool true) ∧ W = w' := fun W hb => h0 ▸ iIs_c p _ n s W (HI.out W hb) (by omega) (by omega)
        have HIS := Lib.hid his; clear his
        have hcn : ∀ W, Below w.heap.size w W → Calls Try.prog 80 #[.slice ao n c, .int .i64 0] W fun e w' => e = .returned (.bool (decide (0 ≤ idx s 0 n))) ∧ W = w' := fun W hb => iContains_c _ n s 0 W (HI.out W hb)
        have HC := Lib.hid hcn; clear hcn
        have hres : ∀ W, Below w.heap.size w W → Makes w W (.returned (.bool (!decide (0 ≤ idx s 0 n)))) (.bool (dblB p n s)) := fun W hb => ⟨ret_bool (by
          unfold dblB; rw [inPB_step, h0, hp, decide_eq_true h4]; rfl), hb⟩
        have HR := Lib.hid hres; clear hres h0
        obtain ⟨bb, hbb⟩ : ∃ bb, decide (0 ≤ idx s 0 n) = bb := ⟨_, rfl⟩
        rw [hbb] at HC HR
        go_enter Try.func49, Try.ntmps49
        go_wp2
        first
          | (go_region_law (first
              | (go_simp; go_at_call 79; refine (HP'.out _).mono ?_; rintro e w' ⟨rfl, rfl⟩)
              | (go_simp; go_at_call 35; refine Calls.makes' (HF.out _) _ fun w1 hb1 => ?_; have hbx := boxKeep hb1 (boxDrew ⟨e0, e1, e2, e3⟩); obtain ⟨f0, f1, f2, f3⟩ := hbx)
              | (go_simp; go_at_call 64; refine (HIS.out _ f3).mono ?_; rintro e w' ⟨rfl, rfl⟩)
              | (go_simp; go_at_call 80; refine (HC.out _ f3).mono ?_; rintro e w' ⟨rfl, rfl⟩)))
          | fail
        all_goals go_wp2
        all_goals go_ret
        all_goals exact HR.out _ f3
    · have hd4 : decide ((n : Int) ≤ 4) = false := decide_eq_false (by omega)
      have hres : ∀ W, Below w.heap.size w W → Makes w W (.returned (.bool false)) (.bool (dblB p n s)) := fun W hb => ⟨ret_bool (dblB_big h4).symm, hb⟩
      have HR := Lib.hid hres; clear hres
      go_enter Try.func49, Try.ntmps49
      go_wp2
      go_quiet ((go_at_call 79; exact Calls.pure (HP'.out _)))
      go_wp2
      go_ret
      exact HR.out _ (Reads.below e3)

set_option maxRecDepth 100000 in
set_option maxHeartbeats 4000000 in
theorem sIsDbl_c (p : Int) (sv : Value) (n : Nat) (s : Nat → Int) (w : World) (h : Ints w sv n s) :
    Calls Try.prog 47 #[dbl p sv] w fun e w' => Makes w w' e (.bool (dblB p n s)) := by
  obtain ⟨ao, c, b, o, rfl, p2, p3, p4, p5⟩ := h.out
  have P5 := Lib.hid p5
  clear h p5
  obtain ⟨e0, e1, e2, e3⟩ := box0 w p ao n c 30
  have E := e3
  cases hp : primeB p
  · have HP : ∀ W, Calls Try.prog 76 #[.int .i64 p] W fun e w' => e = .returned (.bool false) ∧ W = w' := fun W => hp ▸ sPrime_c p W
    have HP' := Lib.hid HP; clear HP
    go_enter Try.func47, Try.ntmps47
    go_wp2_with (go_at_call 76; refine (HP'.out _).mono ?_; rintro e w' ⟨rfl, rfl⟩)
    go_ret
    exact ⟨ret_bool (dblB_noPrime hp).symm, E⟩
  · have HP : ∀ W, Calls Try.prog 76 #[.int .i64 p] W fun e w' => e = .returned (.bool true) ∧ W = w' := fun W => hp ▸ sPrime_c p W
    have HP' := Lib.hid HP; clear HP
    have hpc := primeB_bd hp
    by_cases h4 : n ≤ 4
    · have hd4 : decide (4 < (n : Int)) = false := decide_eq_false (by omega)
      go_enter Try.func47, Try.ntmps47
      go_wp2_with (go_at_call 76; refine (HP'.out _).mono ?_; rintro e w' ⟨rfl, rfl⟩)
      go_loopg [3] n (fun g i wr => ∃ k : Nat, k ≤ n ∧ g = n - k ∧ i = .int .i64 k ∧ BoxD w p ao n c wr ∧ ∀ j, j < k → inB (s j) 1 (p - 1) = true)
      case atStart => exact ⟨0, Nat.zero_le _, rfl, rfl, ⟨e0, e1, e2, e3⟩, fun j hj => absurd hj (Nat.not_lt_zero _)⟩
      case round =>
        obtain ⟨k, hk, rfl, rfl, ⟨f0, f1, f2, f3⟩, hl⟩ := hrel
        have HL := Lib.hid hl; clear hl e0 e1 e2 e3
        have BX := Lib.hid (show BoxD w p ao n c wr from ⟨f0, f1, f2, f3⟩)
        by_cases hlt : k < n
        · obtain rfl := p4 (by omega)
          have f4 : wr.cell? ⟨b, o + k, none⟩ = some (.int .i64 (s k)) := by rw [f3.cell (p := ⟨b, o + k, none⟩) (lt_of_cell (P5.out k hlt))]; exact P5.out k hlt
          go_wp2
          go_quiet ((go_at_call 77; exact Calls.pure (sIn_c _ _ _ _)))
          go_wp2
          · have ht : (!inB (s k) 1 (p - 1)) = true := by assumption
            go_ret
            exact ⟨ret_bool (dblB_out (inPB_false hlt (by simpa using ht))).symm, Reads.below f3⟩
          · have ht : (!inB (s k) 1 (p - 1)) = false := by assumption
            go_roundg (n - (k + 1))
            case measure => omega
            case rel => exact ⟨k + 1, by omega, rfl, by go_num, boxKeep (W := wr) (below_drewN _ _) BX.out, fun j hj => by
              by_cases e : j = k
              · subst e; simpa using ht
              · exact HL.out j (by omega)⟩
        · obtain rfl : k = n := by omega
          go_wp2
          go_ret
          exact ⟨ret_bool (dblB_yes hp h4 (inPB_true HL.out)).symm, f3⟩
    · have hd4 : decide (4 < (n : Int)) = true := decide_eq_true (by omega)
      go_enter Try.func47, Try.ntmps47
      go_wp2_with (go_at_call 76; refine (HP'.out _).mono ?_; rintro e w' ⟨rfl, rfl⟩)
      go_ret
      exact ⟨ret_bool (dblB_big h4).symm, E⟩

end Go.Proofs.Ytdehfpnlehbdjaa
