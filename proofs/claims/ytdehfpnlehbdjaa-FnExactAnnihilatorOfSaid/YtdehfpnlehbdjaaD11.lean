/-
  Doublings: numbers, the field's numbers and the test of a doubling, in both programs. No condition beside sizes.
-/
import Derived.Test.YtdehfpnlehbdjaaI15
import Derived.Test.YtdehfpnlehbdjaaQP
set_option linter.unusedVariables false
set_option linter.unusedSimpArgs false
namespace Go.Proofs.Ytdehfpnlehbdjaa
open Go.RowKit

theorem iPrime_c (p : Int) (w : World) : Calls Try.prog 79 #[.int .i64 p] w fun e w' => e = .returned (.bool (primeB p)) ∧ w = w' := by
  by_cases h3 : p = 3
  · subst h3
    go_enter Try.func79, Try.ntmps79
    go_wp2
    go_ret
    exact ⟨rfl, rfl⟩
  by_cases h5 : p = 5
  · subst h5
    go_enter Try.func79, Try.ntmps79
    go_wp2
    go_ret
    exact ⟨rfl, rfl⟩
  by_cases h7 : p = 7
  · subst h7
    go_enter Try.func79, Try.ntmps79
    go_wp2
    go_ret
    exact ⟨rfl, rfl⟩
  by_cases h11 : p = 11
  · subst h11
    go_enter Try.func79, Try.ntmps79
    go_wp2
    go_ret
    exact ⟨rfl, rfl⟩
  by_cases h13 : p = 13
  · subst h13
    go_enter Try.func79, Try.ntmps79
    go_wp2
    go_ret
    exact ⟨rfl, rfl⟩
  have e3 : (p == 3) = false := by simpa using h3
  have e5 : (p == 5) = false := by simpa using h5
  have e7 : (p == 7) = false := by simpa using h7
  have e11 : (p == 11) = false := by simpa using h11
  have e13 : (p == 13) = false := by simpa using h13
  have hb : primeB p = false := by unfold primeB; rw [e3, e5, e7, e11, e13]; rfl
  go_enter Try.func79, Try.ntmps79
  go_wp2
  go_ret
  exact ⟨ret_bool hb.symm, rfl⟩

theorem sPrime_c (p : Int) (w : World) : Calls Try.prog 76 #[.int .i64 p] w fun e w' => e = .returned (.bool (primeB p)) ∧ w = w' := by
  by_cases h3 : p = 3
  · subst h3
    go_enter Try.func76, Try.ntmps76
    go_wp2
    go_ret
    exact ⟨rfl, rfl⟩
  by_cases h5 : p = 5
  · subst h5
    go_enter Try.func76, Try.ntmps76
    go_wp2
    go_ret
    exact ⟨rfl, rfl⟩
  by_cases h7 : p = 7
  · subst h7
    go_enter Try.func76, Try.ntmps76
    go_wp2
    go_ret
    exact ⟨rfl, rfl⟩
  by_cases h11 : p = 11
  · subst h11
    go_enter Try.func76, Try.ntmps76
    go_wp2
    go_ret
    exact ⟨rfl, rfl⟩
  by_cases h13 : p = 13
  · subst h13
    go_enter Try.func76, Try.ntmps76
    go_wp2
    go_ret
    exact ⟨rfl, rfl⟩
  have e3 : (p == 3) = false := by simpa using h3
  have e5 : (p == 5) = false := by simpa using h5
  have e7 : (p == 7) = false := by simpa using h7
  have e11 : (p == 11) = false := by simpa using h11
  have e13 : (p == 13) = false := by simpa using h13
  have hb : primeB p = false := by unfold primeB; rw [e3, e5, e7, e11, e13]; rfl
  go_enter Try.func76, Try.ntmps76
  go_wp2
  go_ret
  exact ⟨ret_bool hb.symm, rfl⟩

theorem iNum_c (p n : Int) (w : World) (h1 : 1 ≤ p) (h2 : p ≤ 1000) (h3 : -1099511627776 ≤ n) (h4 : n ≤ 1099511627776) :
    Calls Try.prog 88 #[.int .i64 p, .int .i64 n] w fun e w' => e = .returned (.int .i64 (n % p)) ∧ w = w' := by
  have hb := tmod_bd n p (by omega)
  have hg := go_mod n p (by omega)
  have hp : p ≠ 0 := by omega
  go_enter Try.func88, Try.ntmps88
  go_wp2
  go_ret
  exact ⟨rfl, rfl⟩

theorem sMod_c (p n : Int) (w : World) (h1 : 1 ≤ p) (h2 : p ≤ 1000) (h3 : -1099511627776 ≤ n) (h4 : n ≤ 1099511627776) :
    Calls Try.prog 86 #[.int .i64 p, .int .i64 n] w fun e w' => e = .returned (.int .i64 (n % p)) ∧ w = w' := by
  have hb := tmod_bd n p (by omega)
  have hg := go_mod n p (by omega)
  have hp : p ≠ 0 := by omega
  go_enter Try.func86, Try.ntmps86
  go_wp2
  go_ret
  exact ⟨rfl, rfl⟩

/-- all numbers lie from lo to p - 1 -/
def inPB (lo p : Int) (n : Nat) (X : Nat → Int) : Bool := decide (∀ i, i < n → lo ≤ X i ∧ X i ≤ p - 1)
theorem inPB_true {lo p : Int} {n : Nat} {X : Nat → Int} (h : ∀ i, i < n → inB (X i) lo (p - 1) = true) : inPB lo p n X = true :=
  decide_eq_true fun i hi => of_decide_eq_true (h i hi)
theorem inPB_false {lo p : Int} {n k : Nat} {X : Nat → Int} (hk : k < n) (h : inB (X k) lo (p - 1) = false) : inPB lo p n X = false :=
  decide_eq_false fun h2 => (of_decide_eq_false h) (h2 k hk)
theorem inPB_ok {p : Int} {n : Nat} {X : Nat → Int} (h : inPB 0 p n X = true) : InP p n X := fun i hi => by
  have := of_decide_eq_true h i hi; omega

set_option maxHeartbeats 400000 in
theorem iIs_c (p : Int) (v : Value) (n : Nat) (X : Nat → Int) (w : World) (h : Ints w v n X) (h1 : 1 ≤ p) (h2 : p ≤ 1000) :
    Calls Try.prog 64 #[.int .i64 p, v] w fun e w' => e = .returned (.bool (inPB 0 p n X)) ∧ w = w' := by
  obtain ⟨ao, c, b, o, rfl, p2, p3, p4, p5⟩ := h.out
  clear h
  go_enter Try.func64, Try.ntmps64
  go_wp2
  go_loopg [9] n (fun g i wr => w = wr ∧ ∃ k : Nat, k ≤ n ∧ g = n - k ∧ i = .int .i64 k ∧ ∀ j, j < k → inB (X j) 0 (p - 1) = true)
  case atStart => exact ⟨rfl, 0, Nat.zero_le _, rfl, rfl, fun j hj => absurd hj (Nat.not_lt_zero _)⟩
  case round =>
    obtain ⟨rfl, k, hk, rfl, rfl, hl⟩ := hrel
    have HL := Lib.hid hl; clear hl
    by_cases hlt : k < n
    · obtain rfl := p4 (by omega)
      go_wp2_with (go_at_call 91; refine (iIn_c _ _ _ _).mono ?_; rintro e w' ⟨rfl, rfl⟩)
      · have ht : (!inB (X k) 0 (p - 1)) = true := by assumption
        go_ret
        exact ⟨ret_bool (inPB_false hlt (by simpa using ht)).symm, rfl⟩
      · have ht : (!inB (X k) 0 (p - 1)) = false := by assumption
        go_roundg (n - (k + 1))
        case measure => omega
        case rel => exact ⟨rfl, k + 1, by omega, rfl, by go_num, fun j hj => by
          by_cases e : j = k
          · subst e; simpa using ht
          · exact HL.out j (by omega)⟩
    · obtain rfl : k = n := by omega
      go_wp2
      go_ret
      exact ⟨ret_bool (inPB_true HL.out).symm, rfl⟩

/-- the test of a doubling -/
def dblB (p : Int) (n : Nat) (s : Nat → Int) : Bool := primeB p && decide (n ≤ 4) && inPB 1 p n s
structure DblOk (p : Int) (n : Nat) (s : Nat → Int) : Prop where
  prime : primeB p = true
  le : n ≤ 4
  step : ∀ i, i < n → 1 ≤ s i ∧ s i ≤ p - 1
theorem dblB_ok {p : Int} {n : Nat} {s : Nat → Int} (h : dblB p n s = true) : DblOk p n s := by
  unfold dblB at h
  simp only [Bool.and_eq_true] at h
  exact ⟨h.1.1, of_decide_eq_true h.1.2, of_decide_eq_true h.2⟩

theorem iContains_c (v : Value) (n : Nat) (X : Nat → Int) (x : Int) (w : World) (h : Ints w v n X) :
    Calls Try.prog 80 #[v, .int .i64 x] w fun e w' => e = .returned (.bool (decide (0 ≤ idx X x n))) ∧ w = w' := by
  go_enter Try.func80, Try.ntmps80
  go_wp2_with fail
  refine (iIndex_c _ _ _ _ _ h).mono ?_
  rintro e w' ⟨rfl, rfl⟩
  go_wp2
  go_ret
  exact ⟨rfl, rfl⟩

/-- a doubling's value -/
abbrev dbl (p : Int) (sv : Value) : Value := .agg #[.int .i64 p, sv]

theorem iField_c (p : Int) (sv : Value) (w : World) : Calls Try.prog 35 #[dbl p sv] w fun e w' => Makes w w' e (.int .i64 p) := by
  go_enter Try.func35, Try.ntmps35
  go_wp2
  go_ret
  exact ⟨rfl, (Below.refl _ _).alloc (Nat.le_refl _) _⟩

theorem iSize_c (p : Int) (ao : Option Addr) (n c : Nat) (w : World) (hn : n ≤ 4) : Calls Try.prog 56 #[dbl p (.slice ao n c)] w fun e w' => Makes w w' e (.int .i64 ((2 ^ n : Nat) : Int)) := by
  have hc : n = 0 ∨ n = 1 ∨ n = 2 ∨ n = 3 ∨ n = 4 := by omega
  rcases hc with rfl | rfl | rfl | rfl | rfl
  all_goals
    go_enter Try.func56, Try.ntmps56
    go_wp2
    go_ret
    exact ⟨rfl, (Below.refl _ _).alloc (Nat.le_refl _) _⟩

theorem sSize_c (p : Int) (ao : Option Addr) (n c : Nat) (w : World) (hn : n ≤ 4) : Calls Try.prog 69 #[dbl p (.slice ao n c)] w fun e w' => Makes w w' e (.int .i64 ((2 ^ n : Nat) : Int)) := by
  have hc : n = 0 ∨ n = 1 ∨ n = 2 ∨ n = 3 ∨ n = 4 := by omega
  rcases hc with rfl | rfl | rfl | rfl | rfl
  all_goals
    go_enter Try.func69, Try.ntmps69
    go_wp2
    go_ret
    exact ⟨rfl, (Below.refl _ _).alloc (Nat.le_refl _) _⟩

end Go.Proofs.Ytdehfpnlehbdjaa
