/-
  Doublings: numbers, the field's numbers and the test of a doubling, in both programs. No condition beside sizes.
-/
import Derived.Test.YtnnacligfoonbaaTJ
import Derived.Test.YtnnacligfoonbaaQNJ
import Derived.Deep.RegionWith
import Derived.Deep.RegionLaw
import Derived.Deep.RegionHeld3
set_option linter.unusedVariables false
set_option linter.unusedSimpArgs false
namespace Go.Proofs.Ytnnacligfoonbaa
open Go.RowKit

theorem iPrime_c (p : Int) (w : World) : Calls Try.prog 94 #[.int .i64 p] w fun e w' => e = .returned (.bool (primeB p)) ∧ w = w' := by
  by_cases h3 : p = 3
  · subst h3
    go_enter Try.func94, Try.ntmps94
    go_wp2
    go_ret
    exact ⟨rfl, rfl⟩
  by_cases h5 : p = 5
  · subst h5
    go_enter Try.func94, Try.ntmps94
    go_wp2
    go_ret
    exact ⟨rfl, rfl⟩
  by_cases h7 : p = 7
  · subst h7
    go_enter Try.func94, Try.ntmps94
    go_wp2
    go_ret
    exact ⟨rfl, rfl⟩
  by_cases h11 : p = 11
  · subst h11
    go_enter Try.func94, Try.ntmps94
    go_wp2
    go_ret
    exact ⟨rfl, rfl⟩
  by_cases h13 : p = 13
  · subst h13
    go_enter Try.func94, Try.ntmps94
    go_wp2
    go_ret
    exact ⟨rfl, rfl⟩
  have e3 : (p == 3) = false := by simpa using h3
  have e5 : (p == 5) = false := by simpa using h5
  have e7 : (p == 7) = false := by simpa using h7
  have e11 : (p == 11) = false := by simpa using h11
  have e13 : (p == 13) = false := by simpa using h13
  have hb : primeB p = false := by unfold primeB; rw [e3, e5, e7, e11, e13]; rfl
  go_enter Try.func94, Try.ntmps94
  go_wp2
  go_ret
  exact ⟨ret_bool hb.symm, rfl⟩

theorem sPrime_c (p : Int) (w : World) : Calls Try.prog 133 #[.int .i64 p] w fun e w' => e = .returned (.bool (primeB p)) ∧ w = w' := by
  by_cases h3 : p = 3
  · subst h3
    go_enter Try.func133, Try.ntmps133
    go_wp2
    go_ret
    exact ⟨rfl, rfl⟩
  by_cases h5 : p = 5
  · subst h5
    go_enter Try.func133, Try.ntmps133
    go_wp2
    go_ret
    exact ⟨rfl, rfl⟩
  by_cases h7 : p = 7
  · subst h7
    go_enter Try.func133, Try.ntmps133
    go_wp2
    go_ret
    exact ⟨rfl, rfl⟩
  by_cases h11 : p = 11
  · subst h11
    go_enter Try.func133, Try.ntmps133
    go_wp2
    go_ret
    exact ⟨rfl, rfl⟩
  by_cases h13 : p = 13
  · subst h13
    go_enter Try.func133, Try.ntmps133
    go_wp2
    go_ret
    exact ⟨rfl, rfl⟩
  have e3 : (p == 3) = false := by simpa using h3
  have e5 : (p == 5) = false := by simpa using h5
  have e7 : (p == 7) = false := by simpa using h7
  have e11 : (p == 11) = false := by simpa using h11
  have e13 : (p == 13) = false := by simpa using h13
  have hb : primeB p = false := by unfold primeB; rw [e3, e5, e7, e11, e13]; rfl
  go_enter Try.func133, Try.ntmps133
  go_wp2
  go_ret
  exact ⟨ret_bool hb.symm, rfl⟩

theorem iNum_c (p n : Int) (w : World) (h1 : 1 ≤ p) (h2 : p ≤ 1000) (h3 : -1099511627776 ≤ n) (h4 : n ≤ 1099511627776) :
    Calls Try.prog 81 #[.int .i64 p, .int .i64 n] w fun e w' => e = .returned (.int .i64 (n % p)) ∧ w = w' := by
  have hb := tmod_bd n p (by omega)
  have hg := go_mod n p (by omega)
  have hp : p ≠ 0 := by omega
  go_enter Try.func81, Try.ntmps81
  go_wp2
  go_ret
  exact ⟨rfl, rfl⟩

theorem sMod_c (p n : Int) (w : World) (h1 : 1 ≤ p) (h2 : p ≤ 1000) (h3 : -1099511627776 ≤ n) (h4 : n ≤ 1099511627776) :
    Calls Try.prog 82 #[.int .i64 p, .int .i64 n] w fun e w' => e = .returned (.int .i64 (n % p)) ∧ w = w' := by
  have hb := tmod_bd n p (by omega)
  have hg := go_mod n p (by omega)
  have hp : p ≠ 0 := by omega
  go_enter Try.func82, Try.ntmps82
  go_wp2
  go_ret
  exact ⟨rfl, rfl⟩

/-- all numbers lie from lo to p - 1 -/
def inPB (lo p : Int) (n : Nat) (X : Nat → Int) : Bool := decide (∀ i, i < n → lo ≤ X i ∧ X i ≤ p - 1)
theorem inPB_true {lo p : Int} {n : Nat} {X : Nat → Int} (h : ∀ i, i < n → inB (X i) lo (p - 1) = true) : inPB lo p n X = true :=
  decide_eq_true fun i hi => of_decide_eq_true (h i hi)
theorem inPB_false {lo p : Int} {n k : Nat} {X : Nat → Int} (hk : k < n) (h : inB (X k) lo (p - 1) = false) : inPB lo p n X = false :=
  decide_eq_false fun h2 => (of_decide_eq_false h) (h2 k hk)
theorem inPB_ok {p : Int} {n : Nat} {X : Nat → Int} (h : inPB 0 p n X = true) : InP p n X := fun i hi => by
  have := of_decide_eq_true h i hi; omega

set_option maxHeartbeats 400000 in
theorem iIs_c (p : Int) (v : Value) (n : Nat) (X : Nat → Int) (w : World) (h : Ints w v n X) (h1 : 1 ≤ p) (h2 : p ≤ 1000) :
    Calls Try.prog 95 #[.int .i64 p, v] w fun e w' => e = .returned (.bool (inPB 0 p n X)) ∧ w = w' := by
  obtain ⟨ao, c, b, o, rfl, p2, p3, p4, p5⟩ := h.out
  clear h
  go_enter Try.func95, Try.ntmps95
  go_wp2
  go_loopg [9] n (fun g i wr => w = wr ∧ ∃ k : Nat, k ≤ n ∧ g = n - k ∧ i = .int .i64 k ∧ ∀ j, j < k → inB (X j) 0 (p - 1) = true)
  case atStart => exact ⟨rfl, 0, Nat.zero_le _, rfl, rfl, fun j hj => absurd hj (Nat.not_lt_zero _)⟩
  case round =>
    obtain ⟨rfl, k, hk, rfl, rfl, hl⟩ := hrel
    have HL := Lib.hid hl; clear hl
    by_cases hlt : k < n
    · obtain rfl := p4 (by omega)
      go_wp2_with (go_at_call 100; refine (iIn_c _ _ _ _).mono ?_; rintro e w' ⟨rfl, rfl⟩)
      · have ht : (!inB (X k) 0 (p - 1)) = true := by assumption
        go_ret
        exact ⟨ret_bool (inPB_false hlt (by simpa using ht)).symm, rfl⟩
      · have ht : (!inB (X k) 0 (p - 1)) = false := by assumption
        go_roundg (n - (k + 1))
        case measure => omega
        case rel => exact ⟨rfl, k + 1, by omega, rfl, by go_num, fun j hj => by
          by_cases e : j = k
          · subst e; simpa using ht
          · exact HL.out j (by omega)⟩
    · obtain rfl : k = n := by omega
      go_wp2
      go_ret
      exact ⟨ret_bool (inPB_true HL.out).symm, rfl⟩

/-- the test of a doubling -/
def dblB (p : Int) (n : Nat) (s : Nat → Int) : Bool := primeB p && decide (n ≤ 4) && inPB 1 p n s
structure DblOk (p : Int) (n : Nat) (s : Nat → Int) : Prop where
  prime : primeB p = true
  le : n ≤ 4
  step : ∀ i, i < n → 1 ≤ s i ∧ s i ≤ p - 1
theorem dblB_ok {p : Int} {n : Nat} {s : Nat → Int} (h : dblB p n s = true) : DblOk p n s := by
  unfold dblB at h
  simp only [Bool.and_eq_true] at h
  exact ⟨h.1.1, of_decide_eq_true h.1.2, of_decide_eq_true h.2⟩

theorem iContains_c (v : Value) (n : Nat) (X : Nat → Int) (x : Int) (w : World) (h : Ints w v n X) :
    Calls Try.prog 96 #[v, .int .i64 x] w fun e w' => e = .returned (.bool (decide (0 ≤ idx X x n))) ∧ w = w' := by
  go_enter Try.func96, Try.ntmps96
  go_wp2_with fail
  refine (iIndex_c _ _ _ _ _ h).mono ?_
  rintro e w' ⟨rfl, rfl⟩
  go_wp2
  go_ret
  exact ⟨rfl, rfl⟩

/-- a doubling's value -/
abbrev dbl (p : Int) (sv : Value) : Value := .agg #[.int .i64 p, sv]

theorem iField_c (p : Int) (sv : Value) (w : World) : Calls Try.prog 80 #[dbl p sv] w fun e w' => Makes w w' e (.int .i64 p) := by
  go_enter Try.func80, Try.ntmps80
  go_wp2
  go_ret
  exact ⟨rfl, (Below.refl _ _).alloc (Nat.le_refl _) _⟩

theorem iSize_c (p : Int) (ao : Option Addr) (n c : Nat) (w : World) (hn : n ≤ 4) : Calls Try.prog 88 #[dbl p (.slice ao n c)] w fun e w' => Makes w w' e (.int .i64 ((2 ^ n : Nat) : Int)) := by
  have hc : n = 0 ∨ n = 1 ∨ n = 2 ∨ n = 3 ∨ n = 4 := by omega
  rcases hc with rfl | rfl | rfl | rfl | rfl
  all_goals
    go_enter Try.func88, Try.ntmps88
    go_wp2
    go_ret
    exact ⟨rfl, (Below.refl _ _).alloc (Nat.le_refl _) _⟩

theorem sSize_c (p : Int) (ao : Option Addr) (n c : Nat) (w : World) (hn : n ≤ 4) : Calls Try.prog 124 #[dbl p (.slice ao n c)] w fun e w' => Makes w w' e (.int .i64 ((2 ^ n : Nat) : Int)) := by
  have hc : n = 0 ∨ n = 1 ∨ n = 2 ∨ n = 3 ∨ n = 4 := by omega
  rcases hc with rfl | rfl | rfl | rfl | rfl
  all_goals
    go_enter Try.func124, Try.ntmps124
    go_wp2
    go_ret
    exact ⟨rfl, (Below.refl _ _).alloc (Nat.le_refl _) _⟩

end Go.Proofs.Ytnnacligfoonbaa

/-
  Lists of the field's numbers: sums, multiples, conjugates, in both programs. No condition beside sizes.
-/
set_option linter.unusedVariables false
set_option linter.unusedSimpArgs false
namespace Go.Proofs.Ytnnacligfoonbaa
open Go.RowKit

theorem mul_bd {a b : Int} (h1 : -1000 ≤ a ∧ a ≤ 1000) (h2 : -1000 ≤ b ∧ b ≤ 1000) : -1000000 ≤ a * b ∧ a * b ≤ 1000000 := by
  have h := Nat.mul_le_mul (show a.natAbs ≤ 1000 by omega) (show b.natAbs ≤ 1000 by omega)
  rw [← Int.natAbs_mul] at h
  omega
/-- Append of one value, as a step of a region that draws its order. -/
theorem step_push {P : Program} {ops : Array Oper} {o : Oper} {a : Act} {w : World} {K : Act → World → Prop} {Q : Exit → Act → World → Prop} {E : Prop} (hgd : o.guard = none) (s x : Operand) (t e : TypeId) {z : Value} {bytes : Nat} (el : Elem P t e z bytes)
    (ho : o.op = .call { callee := .builtin .append, args := #[s, x], argTypes := #[t, t] })
    {g cap n : Nat} {V : Nat → Value} (hown : Own w e g cap n V) (u : Value) (hs : a.eval s = .slice (some ⟨g, 0, none⟩) n cap)
    (hx : a.eval x = .slice (some ⟨w.heap.size, 0, none⟩) 1 1) (h1 : u.oneCell' = true)
    (h63 : n + 1 ≤ 9223372036854775807) (hbytes : (n + 1) * bytes ≤ 140737488355328)
    (h : ∀ g' cap' w', Own w' e g' cap' (n + 1) (fun j => if j = n then u else V j) → (g' = g ∨ w.heap.size ≤ g') → w.grownBy w' (some g) → K (a.put o.dst (.slice (some ⟨g', 0, none⟩) (n + 1) cap')) w') :
    if Region.wanted o (yielded ops a.tmps) = true then Oper.wp P o a (w.alloc (.cells #[u] e)) K Q else E := by
  have hw : Region.wanted o (yielded ops a.tmps) = true := by simp [Region.wanted, hgd]
  rw [if_pos hw]
  have hone : ∀ j, j < 1 → (w.alloc (.cells #[u] e)).cell? ⟨w.heap.size, 0 + j, none⟩ = some ((fun _ => u) j) := fun j hj => by
    obtain rfl : j = 0 := by omega
    simp
  obtain ⟨g', cap', w', hr, h2, h3, h4⟩ := run_app (P := P) (w.alloc (.cells #[u] e)) el o.type (hown.alloc _) w.heap.size 0 1 1 (fun _ => u) hone (fun _ _ => h1) h63 hbytes
  unfold Oper.wp execOp
  simp only [ho, resolve, invoke, builtin, Sem.run_bind, Sem.run_pure, Result.andThen_ok, List.map_toArray, List.map_cons, List.map_nil, hs, hx, hr, Oper.upon_value]
  refine h g' cap' w' (h2.congr fun j hj => ?_) ?_ ⟨h4.os, h4.tape, h4.output, Nat.le_trans (by simp) h4.size, fun k hk hne => (h4.block k (by simp; omega) hne).trans (Below.heap_alloc _ _ _ hk)⟩
  · by_cases e2 : j = n
    · subst e2; simp
    · rw [if_pos (by omega), if_neg e2]
  · rcases h3 with h3 | h3
    · exact Or.inl h3
    · right; rw [h3]; simp

theorem wrap_in (n : Int) (h : -9223372036854775808 ≤ n ∧ n ≤ 9223372036854775807) : IntKind.i64.wrap n = n := by rw [IntKind.wrap_i64]; omega
/-- small numbers -/
def Sm (n : Nat) (X : Nat → Int) : Prop := ∀ i, i < n → -1000 ≤ X i ∧ X i ≤ 1000
theorem InP.sm {p : Int} {n : Nat} {X : Nat → Int} (h : InP p n X) (hp : p ≤ 1000) : Sm n X := fun i hi => by have := h i hi; omega

theorem CopyI.ints {w w' : World} {e : Ending} {n : Nat} {X : Nat → Int} (h : CopyI w w' e n X) : ∃ v, e = .returned v ∧ Below w.heap.size w w' ∧ Ints w' v n X := by
  obtain ⟨g, c, rfl, _, hb, hO⟩ := h.out
  exact ⟨_, rfl, hb, hO.ints⟩
theorem CopyI.congr {w w' : World} {e : Ending} {n : Nat} {X Y : Nat → Int} (h : CopyI w w' e n X) (he : ∀ i, i < n → X i = Y i) : CopyI w w' e n Y := by
  obtain ⟨g, c, rfl, hg, hb, hO⟩ := h.out
  exact ⟨g, c, rfl, hg, hb, hO.congr fun i hi => by rw [he i hi]⟩

set_option maxHeartbeats 1000000 in
theorem iScaled_c (p : Int) (v : Value) (n : Nat) (X : Nat → Int) (k : Int) (w : World) (h : Ints w v n X) (hn : n ≤ 1048576) (h1 : 1 ≤ p) (h2 : p ≤ 1000) (hX : Sm n X) (hk : -1000 ≤ k ∧ k ≤ 1000) :
    Calls Try.prog 101 #[.int .i64 p, v, .int .i64 k] w fun e w' => CopyI w w' e n (fun i => (X i * k) % p) := by
  obtain ⟨ao, c, b, o, rfl, p2, p3, p4, p5⟩ := h.out
  have P5 := Lib.hid p5
  have HX := Lib.hid hX
  clear h p5 hX
  go_enter Try.func101, Try.ntmps101
  go_wp2
  go_loopg [7, 13] n (fun gg s i wr => ∃ j : Nat, j ≤ n ∧ gg = n - j ∧ i = .int .i64 j ∧ ∃ g2 c2, s = .slice (some ⟨g2, 0, none⟩) j c2 ∧ w.heap.size ≤ g2 ∧ Below w.heap.size w wr ∧ Own wr 2 g2 c2 j (fun i => .int .i64 ((X i * k) % p)))
  case atStart => exact ⟨0, Nat.zero_le _, rfl, rfl, _, _, rfl, Nat.le_refl _, (Below.refl _ _).alloc (Nat.le_refl _) _, Own.empty _ _ _⟩
  case round =>
    obtain ⟨j, hj, rfl, rfl, g2, c2, rfl, hg2, hb2, hO⟩ := hrel
    by_cases hlt : j < n
    · obtain rfl := p4 (by omega)
      have hm := mul_bd (HX.out j hlt) hk
      have e1 : wr.cell? ⟨b, o + j, none⟩ = some (.int .i64 (X j)) := by
        rw [hb2.cell (p := ⟨b, o + j, none⟩) (lt_of_cell (P5.out j hlt))]; exact P5.out j hlt
      go_wp2_with (first | (go_at_call 81; refine (iNum_c _ _ _ h1 h2 (by omega) (by omega)).mono ?_; rintro e w' ⟨rfl, rfl⟩) | (at_builtin; refine wpList_push _ rfl _ _ _ _ elI rfl hO (.int .i64 ((X j * k) % p)) rfl rfl rfl (by omega) (by omega) ?_; rotate_right; intro g3 c3 w3 hO3 hg3 hgr3))
      go_roundg (n - (j + 1))
      case measure => omega
      case rel =>
        have hlt4 := hb2.size
        refine ⟨j + 1, by omega, rfl, by go_num, g3, c3, rfl, by omega, hb2.grown hgr3 hlt4 (fun k e => by injection e with e; omega), hO3.congr fun i hi => ?_⟩
        by_cases e2 : i = j
        · subst e2; simp
        · simp [e2]
    · obtain rfl : j = n := by omega
      go_wp2
      go_ret
      exact ⟨g2, c2, rfl, hg2, hb2, hO⟩

set_option maxHeartbeats 1000000 in
theorem sScale_c (p : Int) (v : Value) (n : Nat) (X : Nat → Int) (k : Int) (w : World) (h : Ints w v n X) (hn : n ≤ 1048576) (h1 : 1 ≤ p) (h2 : p ≤ 1000) (hX : Sm n X) (hk : -1000 ≤ k ∧ k ≤ 1000) :
    Calls Try.prog 134 #[.int .i64 p, .int .i64 k, v] w fun e w' => CopyI w w' e n (fun i => (k * X i) % p) := by
  obtain ⟨ao, c, b, o, rfl, p2, p3, p4, p5⟩ := h.out
  have P5 := Lib.hid p5
  have HX := Lib.hid hX
  clear h p5 hX
  go_enter Try.func134, Try.ntmps134
  go_wp2
  go_loopg [7, 8] n (fun gg s i wr => ∃ j : Nat, j ≤ n ∧ gg = n - j ∧ i = .int .i64 j ∧ ∃ g2 c2, s = .slice (some ⟨g2, 0, none⟩) j c2 ∧ w.heap.size ≤ g2 ∧ Below w.heap.size w wr ∧ Own wr 2 g2 c2 j (fun i => .int .i64 ((k * X i) % p)))
  case atStart => exact ⟨0, Nat.zero_le _, rfl, rfl, _, _, rfl, Nat.le_refl _, (Below.refl _ _).alloc (Nat.le_refl _) _, Own.empty _ _ _⟩
  case round =>
    obtain ⟨j, hj, rfl, rfl, g2, c2, rfl, hg2, hb2, hO⟩ := hrel
    by_cases hlt : j < n
    · obtain rfl := p4 (by omega)
      have hm := mul_bd hk (HX.out j hlt)
      have e1 : wr.cell? ⟨b, o + j, none⟩ = some (.int .i64 (X j)) := by
        rw [hb2.cell (p := ⟨b, o + j, none⟩) (lt_of_cell (P5.out j hlt))]; exact P5.out j hlt
      go_wp2_with (first | (go_at_call 82; refine (sMod_c _ _ _ h1 h2 (by omega) (by omega)).mono ?_; rintro e w' ⟨rfl, rfl⟩) | (at_builtin; refine wpList_push _ rfl _ _ _ _ elI rfl hO (.int .i64 ((k * X j) % p)) rfl rfl rfl (by omega) (by omega) ?_; rotate_right; intro g3 c3 w3 hO3 hg3 hgr3))
      go_roundg (n - (j + 1))
      case measure => omega
      case rel =>
        have hlt4 := hb2.size
        refine ⟨j + 1, by omega, rfl, by go_num, g3, c3, rfl, by omega, hb2.grown hgr3 hlt4 (fun k e => by injection e with e; omega), hO3.congr fun i hi => ?_⟩
        by_cases e2 : i = j
        · subst e2; simp
        · simp [e2]
    · obtain rfl : j = n := by omega
      go_wp2
      go_ret
      exact ⟨g2, c2, rfl, hg2, hb2, hO⟩

set_option maxHeartbeats 1000000 in
theorem iPlus_c (p : Int) (v1 v2 : Value) (n m : Nat) (X Y : Nat → Int) (k : Int) (w : World) (h : Ints w v1 n X) (h' : Ints w v2 m Y) (hnm : n ≤ m) (hn : n ≤ 1048576) (h1 : 1 ≤ p) (h2 : p ≤ 1000) (hX : Sm n X) (hY : Sm m Y) (hk : -1000 ≤ k ∧ k ≤ 1000) :
    Calls Try.prog 110 #[.int .i64 p, v1, v2, .int .i64 k] w fun e w' => CopyI w w' e n (fun i => (X i + k * Y i) % p) := by
  obtain ⟨ao, c, b, o, rfl, p2, p3, p4, p5⟩ := h.out
  obtain ⟨ao', c', b', o', rfl, p2', p3', p4', p5'⟩ := h'.out
  have P5 := Lib.hid p5
  have P5' := Lib.hid p5'
  have HX := Lib.hid hX
  have HY := Lib.hid hY
  clear h p5 hX h' p5' hY
  go_enter Try.func110, Try.ntmps110
  go_wp2
  go_loopg [9, 15] n (fun gg s i wr => ∃ j : Nat, j ≤ n ∧ gg = n - j ∧ i = .int .i64 j ∧ ∃ g2 c2, s = .slice (some ⟨g2, 0, none⟩) j c2 ∧ w.heap.size ≤ g2 ∧ Below w.heap.size w wr ∧ Own wr 2 g2 c2 j (fun i => .int .i64 ((X i + k * Y i) % p)))
  case atStart => exact ⟨0, Nat.zero_le _, rfl, rfl, _, _, rfl, Nat.le_refl _, (Below.refl _ _).alloc (Nat.le_refl _) _, Own.empty _ _ _⟩
  case round =>
    obtain ⟨j, hj, rfl, rfl, g2, c2, rfl, hg2, hb2, hO⟩ := hrel
    by_cases hlt : j < n
    · obtain rfl := p4 (by omega)
      obtain rfl := p4' (by omega)
      have hm := mul_bd hk (HY.out j (by omega))
      have hx := HX.out j hlt
      have hjm : j < m := by omega
      have e1 : wr.cell? ⟨b, o + j, none⟩ = some (.int .i64 (X j)) := by
        rw [hb2.cell (p := ⟨b, o + j, none⟩) (lt_of_cell (P5.out j hlt))]; exact P5.out j hlt
      have e2 : wr.cell? ⟨b', o' + j, none⟩ = some (.int .i64 (Y j)) := by
        rw [hb2.cell (p := ⟨b', o' + j, none⟩) (lt_of_cell (P5'.out j hjm))]; exact P5'.out j hjm
      go_wp2_with (first | (go_at_call 81; refine (iNum_c _ _ _ h1 h2 (by omega) (by omega)).mono ?_; rintro e w' ⟨rfl, rfl⟩) | (at_builtin; refine wpList_push _ rfl _ _ _ _ elI rfl hO (.int .i64 ((X j + k * Y j) % p)) rfl rfl rfl (by omega) (by omega) ?_; rotate_right; intro g3 c3 w3 hO3 hg3 hgr3))
      go_roundg (n - (j + 1))
      case measure => omega
      case rel =>
        have hlt4 := hb2.size
        refine ⟨j + 1, by omega, rfl, by go_num, g3, c3, rfl, by omega, hb2.grown hgr3 hlt4 (fun k e => by injection e with e; omega), hO3.congr fun i hi => ?_⟩
        by_cases e2 : i = j
        · subst e2; simp
        · simp [e2]
    · obtain rfl : j = n := by omega
      go_wp2
      go_ret
      exact ⟨g2, c2, rfl, hg2, hb2, hO⟩

set_option maxRecDepth 100000 in
set_option maxHeartbeats 1000000 in
theorem sAdd_c (p : Int) (v1 v2 : Value) (n m : Nat) (X Y : Nat → Int) (w : World) (h : Ints w v1 n X) (h' : Ints w v2 m Y) (hnm : n ≤ m) (hn : n ≤ 1048576) (h1 : 1 ≤ p) (h2 : p ≤ 1000) (hX : Sm n X) (hY : Sm m Y) :
    Calls Try.prog 148 #[.int .i64 p, v1, v2] w fun e w' => CopyI w w' e n (fun i => (X i + Y i) % p) := by
  obtain ⟨ao, c, b, o, rfl, p2, p3, p4, p5⟩ := h.out
  obtain ⟨ao', c', b', o', rfl, p2', p3', p4', p5'⟩ := h'.out
  have P5 := Lib.hid p5
  have P5' := Lib.hid p5'
  have HX := Lib.hid hX
  have HY := Lib.hid hY
  clear h p5 hX h' p5' hY
  go_enter Try.func148, Try.ntmps148
  go_wp2
  go_loopg [7, 8] n (fun gg s i wr => ∃ j : Nat, j ≤ n ∧ gg = n - j ∧ i = .int .i64 j ∧ ∃ g2 c2, s = .slice (some ⟨g2, 0, none⟩) j c2 ∧ w.heap.size ≤ g2 ∧ Below w.heap.size w wr ∧ Own wr 2 g2 c2 j (fun i => .int .i64 ((X i + Y i) % p)))
  case atStart => exact ⟨0, Nat.zero_le _, rfl, rfl, _, _, rfl, Nat.le_refl _, (Below.refl _ _).alloc (Nat.le_refl _) _, Own.empty _ _ _⟩
  case round =>
    obtain ⟨j, hj, rfl, rfl, g2, c2, rfl, hg2, hb2, hO⟩ := hrel
    by_cases hlt : j < n
    · obtain rfl := p4 (by omega)
      obtain rfl := p4' (by omega)
      have hy := HY.out j (by omega)
      have hx := HX.out j hlt
      have hjm : j < m := by omega
      have e1 : wr.cell? ⟨b, o + j, none⟩ = some (.int .i64 (X j)) := by
        rw [hb2.cell (p := ⟨b, o + j, none⟩) (lt_of_cell (P5.out j hlt))]; exact P5.out j hlt
      have e2 : wr.cell? ⟨b', o' + j, none⟩ = some (.int .i64 (Y j)) := by
        rw [hb2.cell (p := ⟨b', o' + j, none⟩) (lt_of_cell (P5'.out j hjm))]; exact P5'.out j hjm
      go_wp2
      have hwr : IntKind.i64.wrap (X j + Y j) = X j + Y j := wrap_in _ (by omega)
      go_region_law (first | (go_simp; go_at_call 82; refine (sMod_c _ _ _ h1 h2 (by omega) (by omega)).mono ?_; rintro e w' ⟨rfl, rfl⟩) | (refine step_push rfl _ _ _ _ elI rfl (Own.drew hO) (.int .i64 ((X j + Y j) % p)) rfl rfl rfl (by omega) (by omega) ?_; intro g3 c3 w3 hO3 hg3 hgr3))
      all_goals go_wp2
      all_goals go_roundg (n - (j + 1))
      all_goals first
        | omega
        | (have hlt4 := hb2.size
           have hgr4 : wr.grownBy w3 (some g2) := ⟨hgr3.os, hgr3.tape, hgr3.output, hgr3.size, hgr3.block⟩
           have hg4 : g3 = g2 ∨ wr.heap.size ≤ g3 := hg3
           refine ⟨j + 1, by omega, rfl, by go_num, g3, c3, rfl, by omega, hb2.grown hgr4 hlt4 (fun k e => by injection e with e; omega), hO3.congr fun i hi => ?_⟩
           by_cases e2 : i = j
           · subst e2; simp
           · simp [e2])
    · obtain rfl : j = n := by omega
      go_wp2
      go_ret
      exact ⟨g2, c2, rfl, hg2, hb2, hO⟩

theorem sMinus_c (p : Int) (v1 v2 : Value) (n : Nat) (X Y : Nat → Int) (w : World) (h : Ints w v1 n X) (h' : Ints w v2 n Y) (hn : n ≤ 1048576) (h1 : 1 ≤ p) (h2 : p ≤ 1000) (hX : Sm n X) (hY : Sm n Y) :
    Calls Try.prog 111 #[.int .i64 p, v1, v2] w fun e w' => CopyI w w' e n (fun i => (X i + -1 * Y i) % p) := by
  go_enter Try.func111, Try.ntmps111
  go_wp2_with fail
  refine (sScale_c _ _ _ _ _ _ h' hn h1 h2 hY (by omega)).mono ?_
  rintro e w1 ⟨g1, c1, rfl, hg1, hb1, hO1⟩
  have hs : Sm n (fun i => ((p - 1) * Y i) % p) := fun i _ => by have := mod_bd ((p - 1) * Y i) p (by omega); dsimp only; omega
  go_wp2_with fail
  refine (sAdd_c _ _ _ _ _ _ _ _ (h.below hb1) hO1.ints (Nat.le_refl _) hn h1 h2 hX hs).mono ?_
  rintro e w2 h2'
  obtain ⟨g2, c2, rfl, hg2, hb2, hO2⟩ := (h2'.congr (Y := fun i => (X i + -1 * Y i) % p) fun i _ => by
    rw [mod_mod_add, show X i + (p - 1) * Y i = (X i + -1 * Y i) + p * Y i by rw [Int.sub_mul]; omega, Int.add_mul_emod_self_left]).out
  go_wp2
  go_ret
  exact ⟨g2, c2, rfl, by have := hb1.size; omega, hb1.trans (hb2.mono hb1.size), hO2⟩

theorem iConj_c (p : Int) (v : Value) (n : Nat) (X : Nat → Int) (w : World) (h : Ints w v n X) (h0 : 0 < n) (hn : n ≤ 1048576) (h1 : 1 ≤ p) (h2 : p ≤ 1000) (hX : Sm n X) :
    Calls Try.prog 97 #[.int .i64 p, v] w fun e w' => CopyI w w' e n (conjF p X) := by
  have H := h
  obtain ⟨ao, c, b, o, rfl, p2, p3, p4, p5⟩ := h.out
  obtain rfl := p4 h0
  have e0 : w.cell? ⟨b, o, none⟩ = some (.int .i64 (X 0)) := p5 0 h0
  have hl := lt_of_cell e0
  clear h p5
  go_enter Try.func97, Try.ntmps97
  go_wp2_with fail
  refine (iScaled_c _ _ _ _ _ _ H hn h1 h2 hX (by omega)).mono ?_
  rintro e w1 ⟨g1, c1, rfl, hg1, hb1, hO1⟩
  have e1 : w1.cell? ⟨b, o, none⟩ = some (.int .i64 (X 0)) := by rw [hb1.cell (p := ⟨b, o, none⟩) hl]; exact e0
  have e2 := hO1.cell h0
  have hf := hO1.frozen 0
  clear H
  go_wp2
  go_ret
  exact ⟨g1, c1, rfl, hg1, hb1.setCell hg1 _, (hO1.set 0 _).congr fun i hi => by
    unfold conjF
    by_cases e : i = 0
    · simp [e]
    · rw [if_neg e, if_neg e, show X i * -1 = -(X i) by omega]⟩

theorem sStar_c (p : Int) (v : Value) (n : Nat) (X : Nat → Int) (w : World) (h : Ints w v n X) (h0 : 0 < n) (hn : n ≤ 1048576) (h1 : 1 ≤ p) (h2 : p ≤ 1000) (hX : Sm n X) :
    Calls Try.prog 157 #[.int .i64 p, v] w fun e w' => CopyI w w' e n (conjF p X) := by
  have H := h
  obtain ⟨ao, c, b, o, rfl, p2, p3, p4, p5⟩ := h.out
  obtain rfl := p4 h0
  have e0 : w.cell? ⟨b, o, none⟩ = some (.int .i64 (X 0)) := p5 0 h0
  have hl := lt_of_cell e0
  clear h p5
  go_enter Try.func157, Try.ntmps157
  go_wp2_with fail
  refine (sScale_c _ _ _ _ _ _ H hn h1 h2 hX (by omega)).mono ?_
  rintro e w1 ⟨g1, c1, rfl, hg1, hb1, hO1⟩
  have e1 : w1.cell? ⟨b, o, none⟩ = some (.int .i64 (X 0)) := by rw [hb1.cell (p := ⟨b, o, none⟩) hl]; exact e0
  have e2 := hO1.cell h0
  have hf := hO1.frozen 0
  clear H
  go_wp2
  go_ret
  exact ⟨g1, c1, rfl, hg1, hb1.setCell hg1 _, (hO1.set 0 _).congr fun i hi => by
    rw [conjF_spec]
    by_cases e : i = 0
    · simp [e]
    · rw [if_neg e, if_neg e]⟩

end Go.Proofs.Ytnnacligfoonbaa

/-
  The product of a doubling, in both programs. No condition beside sizes.
-/
set_option linter.unusedVariables false
set_option linter.unusedSimpArgs false
namespace Go.Proofs.Ytnnacligfoonbaa
open Go.RowKit

theorem heldD {w W W' : World} {a : Addr} {v : Value} (ha : a.block < w.heap.size) (hb : Below W.heap.size W W') (h : W.cell? a = some v ∧ Below w.heap.size w W) : W'.cell? a = some v ∧ Below w.heap.size w W' :=
  ⟨by rw [hb.cell (p := a) (by have := h.2.size; omega)]; exact h.1, h.2.trans (hb.mono h.2.size)⟩
theorem heldD0 {w : World} {a : Addr} {v : Value} (h : w.cell? a = some v) : w.drew.cell? a = some v ∧ Below w.heap.size w w.drew := ⟨by simpa using h, ⟨rfl, rfl, rfl, Nat.le_refl _, fun _ _ => rfl⟩⟩

theorem mulF_succ (p : Int) (s : Nat → Int) (k : Nat) (X Y : Nat → Int) (i : Nat) : mulF p s (k + 1) X Y i =
    if i < 2 ^ k then (mulF p s k X Y i + s k * mulF p s k (conjF p fun j => Y (2 ^ k + j)) (fun j => X (2 ^ k + j)) i) % p
    else (mulF p s k (fun j => Y (2 ^ k + j)) X (i - 2 ^ k) + mulF p s k (fun j => X (2 ^ k + j)) (conjF p Y) (i - 2 ^ k)) % p := rfl
theorem Own.cells0 {w : World} {e : TypeId} {g cap n : Nat} {V : Nat → Value} (h : Own w e g cap n V) : ∀ j, j < n → w.cell? ⟨g, 0 + j, none⟩ = some (V j) := fun j hj => by rw [Nat.zero_add]; exact h.cell hj
theorem ints_cut {w : World} {b o n m c l : Nat} {X : Nat → Int} (hl : l ≤ n) (hn : n ≤ c) (hc : c ≤ 9223372036854775807) (h : ∀ i, i < n → w.cell? ⟨b, o + i, none⟩ = some (.int .i64 (X i))) : Ints w (.slice (some ⟨b, o, none⟩) l c) l X :=
  ⟨_, c, b, o, rfl, by omega, hc, fun _ => rfl, fun i hi => h i (by omega)⟩
theorem ints_tail {w : World} {b o n c l : Nat} {X : Nat → Int} (hl : l ≤ n) (hn : n ≤ c) (hc : c ≤ 9223372036854775807) (h : ∀ i, i < n → w.cell? ⟨b, o + i, none⟩ = some (.int .i64 (X i))) : Ints w (.slice (some ⟨b, o + l, none⟩) (n - l) (c - l)) (n - l) (fun i => X (l + i)) :=
  ⟨_, c - l, b, o + l, rfl, by omega, by omega, fun _ => rfl, fun i hi => by rw [Nat.add_assoc]; exact h (l + i) (by omega)⟩

theorem InP.conj {p : Int} (hp : 0 < p) {n : Nat} {X : Nat → Int} (h : InP p n X) : InP p n (conjF p X) := conjF_in hp h

theorem sum_bd {p a b k : Int} (hp : 1 ≤ p) : 0 ≤ (a + k * b) % p ∧ (a + k * b) % p < p := mod_bd _ _ (by omega)

set_option maxRecDepth 100000 in
set_option maxHeartbeats 4000000 in
theorem iDouble0_c (p : Int) (sv xv yv : Value) (s X Y : Nat → Int) (w : World) (h1 : 1 ≤ p) (h2 : p ≤ 1000) (hs : Ints w sv 0 s) (hx : Ints w xv 1 X) (hy : Ints w yv 1 Y) (iX : InP p 1 X) (iY : InP p 1 Y) :
    Calls Try.prog 137 #[.int .i64 p, sv, xv, yv] w fun e w' => CopyI w w' e 1 (mulF p s 0 X Y) := by
  obtain ⟨sa, sc, sb, so, rfl, s2, s3, s4, s5⟩ := hs.out
  obtain ⟨xa, xc, xb, xo, rfl, x2, x3, x4, x5⟩ := hx.out
  obtain ⟨ya, yc, yb, yo, rfl, y2, y3, y4, y5⟩ := hy.out
  obtain rfl := x4 (by omega)
  obtain rfl := y4 (by omega)
  have e1 : w.cell? ⟨xb, xo, none⟩ = some (.int .i64 (X 0)) := x5 0 (by omega)
  have e2 : w.cell? ⟨yb, yo, none⟩ = some (.int .i64 (Y 0)) := y5 0 (by omega)
  have hb := mul_bd (iX.sm h2 0 (by omega)) (iY.sm h2 0 (by omega))
  have hwr : IntKind.i64.wrap (X 0 * Y 0) = X 0 * Y 0 := wrap_in _ (by omega)
  have hres : CopyI w (w.drew.alloc (.cells #[.int .i64 ((X 0 * Y 0) % p)] 2)) (.returned (.slice (some ⟨w.heap.size, 0, none⟩) 1 1)) 1 (mulF p s 0 X Y) :=
    ⟨⟨w.heap.size, 1, rfl, Nat.le_refl _, (heldD0 e1).2.alloc (Nat.le_refl _) _, Own.new w.drew _ #[.int .i64 ((X 0 * Y 0) % p)] _ (by simp) (fun i hi => by
      obtain rfl : i = 0 := by simp at hi; omega
      rfl)⟩⟩
  have HR := Lib.hid hres
  clear s4 s5 x4 x5 y4 y5 hs hx hy iX iY hres
  go_enter Try.func137, Try.ntmps137
  go_wp2
  go_region_law (go_simp; go_at_call 81; refine (iNum_c _ _ _ h1 h2 (by omega) (by omega)).mono ?_; rintro e w' ⟨rfl, rfl⟩)
  all_goals go_wp2
  all_goals go_ret
  all_goals exact HR.out

set_option maxRecDepth 100000 in
set_option maxHeartbeats 4000000 in
theorem sMul0_c (p : Int) (sv xv yv : Value) (s X Y : Nat → Int) (w : World) (h1 : 1 ≤ p) (h2 : p ≤ 1000) (hs : Ints w sv 0 s) (hx : Ints w xv 1 X) (hy : Ints w yv 1 Y) (iX : InP p 1 X) (iY : InP p 1 Y) :
    Calls Try.prog 138 #[.int .i64 p, sv, xv, yv] w fun e w' => CopyI w w' e 1 (mulF p s 0 X Y) := by
  obtain ⟨sa, sc, sb, so, rfl, s2, s3, s4, s5⟩ := hs.out
  obtain ⟨xa, xc, xb, xo, rfl, x2, x3, x4, x5⟩ := hx.out
  obtain ⟨ya, yc, yb, yo, rfl, y2, y3, y4, y5⟩ := hy.out
  obtain rfl := x4 (by omega)
  obtain rfl := y4 (by omega)
  have e1 : w.cell? ⟨xb, xo, none⟩ = some (.int .i64 (X 0)) := x5 0 (by omega)
  have e2 : w.cell? ⟨yb, yo, none⟩ = some (.int .i64 (Y 0)) := y5 0 (by omega)
  have hb := mul_bd (iX.sm h2 0 (by omega)) (iY.sm h2 0 (by omega))
  have hwr : IntKind.i64.wrap (X 0 * Y 0) = X 0 * Y 0 := wrap_in _ (by omega)
  have hres : CopyI w (w.drew.alloc (.cells #[.int .i64 ((X 0 * Y 0) % p)] 2)) (.returned (.slice (some ⟨w.heap.size, 0, none⟩) 1 1)) 1 (mulF p s 0 X Y) :=
    ⟨⟨w.heap.size, 1, rfl, Nat.le_refl _, (heldD0 e1).2.alloc (Nat.le_refl _) _, Own.new w.drew _ #[.int .i64 ((X 0 * Y 0) % p)] _ (by simp) (fun i hi => by
      obtain rfl : i = 0 := by simp at hi; omega
      rfl)⟩⟩
  have HR := Lib.hid hres
  clear s4 s5 x4 x5 y4 y5 hs hx hy iX iY hres
  go_enter Try.func138, Try.ntmps138
  go_wp2
  go_region_law (go_simp; go_at_call 82; refine (sMod_c _ _ _ h1 h2 (by omega) (by omega)).mono ?_; rintro e w' ⟨rfl, rfl⟩)
  all_goals go_wp2
  all_goals go_ret
  all_goals exact HR.out

set_option maxRecDepth 100000 in
set_option maxHeartbeats 4000000 in
theorem iDoubleS_c (p : Int) (k H : Nat) (s : Nat → Int) (hk : k ≤ 3) (hH : H = 1 ∨ H = 2 ∨ H = 4 ∨ H = 8) (hpow : 2 ^ k = H) (h1 : 1 ≤ p) (h2 : p ≤ 1000) (hsk : -1000 ≤ s k ∧ s k ≤ 1000)
    (IH : ∀ sv xv yv X Y w, Ints w sv k s → Ints w xv H X → Ints w yv H Y → InP p H X → InP p H Y → Calls Try.prog 137 #[.int .i64 p, sv, xv, yv] w fun e w' => CopyI w w' e H (mulF p s k X Y))
    (sv xv yv : Value) (X Y : Nat → Int) (w : World) (hs : Ints w sv (k + 1) s) (hx : Ints w xv (H + H) X) (hy : Ints w yv (H + H) Y) (iX : InP p (H + H) X) (iY : InP p (H + H) Y) :
    Calls Try.prog 137 #[.int .i64 p, sv, xv, yv] w fun e w' => CopyI w w' e (H + H) (mulF p s (k + 1) X Y) := by
  have hp0 : 0 < p := by omega
  obtain ⟨sa, sc, sb, so, rfl, s2, s3, s4, s5⟩ := hs.out
  obtain ⟨xa, xc, xb, xo, rfl, x2, x3, x4, x5⟩ := hx.out
  obtain ⟨ya, yc, yb, yo, rfl, y2, y3, y4, y5⟩ := hy.out
  have hH0 : 0 < H := by omega
  have hH8 : H ≤ 8 := by omega
  obtain rfl := s4 (by omega)
  obtain rfl := x4 (by omega)
  obtain rfl := y4 (by omega)
  have es : w.cell? ⟨sb, so + k, none⟩ = some (.int .i64 (s k)) := s5 k (by omega)
  have hsl := lt_of_cell es
  have rv : ∀ W, Below w.heap.size w W → Ints W (.slice (some ⟨sb, so, none⟩) k sc) k s := fun W hb => Ints.below (ints_cut (n := k + 1) (m := 0) (by omega) s2 s3 s5) hb
  have av : ∀ W, Below w.heap.size w W → Ints W (.slice (some ⟨xb, xo, none⟩) H xc) H X := fun W hb => Ints.below (ints_cut (n := H + H) (m := 0) (by omega) x2 x3 x5) hb
  have cv : ∀ W, Below w.heap.size w W → Ints W (.slice (some ⟨yb, yo, none⟩) H yc) H Y := fun W hb => Ints.below (ints_cut (n := H + H) (m := 0) (by omega) y2 y3 y5) hb
  have bv : ∀ W, Below w.heap.size w W → Ints W (.slice (some ⟨xb, xo + H, none⟩) H (xc - H)) H (fun i => X (2 ^ k + i)) := fun W hb => by
    have h := ints_tail (w := w) (l := H) (by omega) x2 x3 x5
    rw [show H + H - H = H by omega] at h
    rw [hpow]; exact h.below hb
  have dv : ∀ W, Below w.heap.size w W → Ints W (.slice (some ⟨yb, yo + H, none⟩) H (yc - H)) H (fun i => Y (2 ^ k + i)) := fun W hb => by
    have h := ints_tail (w := w) (l := H) (by omega) y2 y3 y5
    rw [show H + H - H = H by omega] at h
    rw [hpow]; exact h.below hb
  have RV := Lib.hid rv
  have AV := Lib.hid av
  have BV := Lib.hid bv
  have CV := Lib.hid cv
  have DV := Lib.hid dv
  have ia : InP p H X := iX.mono (by omega)
  have ic : InP p H Y := iY.mono (by omega)
  have ib : InP p H (fun i => X (2 ^ k + i)) := by rw [hpow]; exact iX.drop (by omega)
  have id : InP p H (fun i => Y (2 ^ k + i)) := by rw [hpow]; exact iY.drop (by omega)
  have IA := Lib.hid ia
  have IB := Lib.hid ib
  have IC := Lib.hid ic
  have ID := Lib.hid id
  have HI := Lib.hid IH
  have HP := Lib.hid hpow
  have hq : Int.tdiv (((H + H : Nat) : Int)) 2 = (H : Int) := by rcases hH with rfl | rfl | rfl | rfl <;> rfl
  have hq' : Int.tdiv ((H : Int) + (H : Int)) 2 = (H : Int) := by rcases hH with rfl | rfl | rfl | rfl <;> rfl
  have HH := Lib.hid hH
  have i0 : (0 : Int) ≤ (k : Int) := by omega
  have i1 : (k : Int) < (k : Int) + 1 := by omega
  have i2 : (k : Int) < ((k + 1 : Nat) : Int) := by omega
  clear s4 s5 x4 x5 y4 y5 hs hx hy iX iY rv av bv cv dv ia ib ic id IH hpow hH
  go_enter Try.func137, Try.ntmps137
  go_wp2
  go_quiet (fail)
  go_wp2
  go_region_held3 (fun W => W.cell? ⟨sb, so + k, none⟩ = some (.int .i64 (s k)) ∧ Below w.heap.size w W)
    ((first | assumption | exact ⟨by simpa using es, ⟨rfl, rfl, rfl, Nat.le_refl _, fun _ _ => rfl⟩⟩ | exact heldD hsl (by assumption) (by assumption)))
    ((first
      | (go_at_call 110; refine (iPlus_c _ _ _ _ _ _ _ _ _ ((hO1.kept hb2).kept hb3).ints hO3.ints (Nat.le_refl _) (by omega) h1 h2 ((mulF_in hp0 _ _ _ _ _).sm h2) ((mulF_in hp0 _ _ _ _ _).sm h2) hsk).mono ?_; rintro e w4 ⟨g4, c4, rfl, hg4, hb4, hO4⟩)
      | (go_at_call 137; have hx := hO2; refine (HI.out _ _ _ _ _ _ (RV.out _ (And.right (by assumption))) hO2.ints (BV.out _ (And.right (by assumption))) (conjF_in hp0 ID.out) IB.out).mono ?_; rintro e w3 ⟨g3, c3, rfl, hg3, hb3, hO3⟩)
      | (go_at_call 137; refine (HI.out _ _ _ _ _ _ (RV.out _ (And.right (by assumption))) (AV.out _ (And.right (by assumption))) (CV.out _ (And.right (by assumption))) IA.out IC.out).mono ?_; rintro e w1 ⟨g1, c1, rfl, hg1, hb1, hO1⟩)
      | (go_at_call 97; refine (iConj_c _ _ _ _ _ (DV.out _ (And.right (by assumption))) hH0 (by omega) h1 h2 (ID.out.sm h2)).mono ?_; rintro e w2 ⟨g2, c2, rfl, hg2, hb2, hO2⟩)))
  have b4 : Below w.heap.size w w4 := And.right (a := w4.cell? ⟨sb, so + k, none⟩ = some (.int .i64 (s k))) (by assumption)
  have hz1 := (hb1.size : w.heap.size ≤ _)
  have hz4 : w.heap.size ≤ g4 := by have := hb1.size; have := hb2.size; have := hb3.size; have : (w.drewN (nq + 1)).heap.size = w.heap.size := rfl; have : (w.drewN nq).drew.heap.size = w.heap.size := rfl; omega
  go_wp2_with fail
  refine (HI.out _ _ _ _ _ _ (RV.out _ b4) (DV.out _ b4) (AV.out _ b4) ID.out IA.out).mono ?_
  rintro e w5 ⟨g5, c5, rfl, hg5, hb5, hO5⟩
  have b5 := b4.trans (hb5.mono b4.size)
  go_wp2_with fail
  refine (iConj_c _ _ _ _ _ (CV.out _ b5) hH0 (by omega) h1 h2 (IC.out.sm h2)).mono ?_
  rintro e w6 ⟨g6, c6, rfl, hg6, hb6, hO6⟩
  have b6 := b5.trans (hb6.mono b5.size)
  go_wp2_with fail
  refine (HI.out _ _ _ _ _ _ (RV.out _ b6) (BV.out _ b6) hO6.ints IB.out (conjF_in hp0 IC.out)).mono ?_
  rintro e w7 ⟨g7, c7, rfl, hg7, hb7, hO7⟩
  have b7 := b6.trans (hb7.mono b6.size)
  go_wp2_with fail
  refine (iPlus_c _ _ _ _ _ _ _ _ _ ((hO5.kept hb6).kept hb7).ints hO7.ints (Nat.le_refl _) (by omega) h1 h2 ((mulF_in hp0 _ _ _ _ _).sm h2) ((mulF_in hp0 _ _ _ _ _).sm h2) (by omega)).mono ?_
  rintro e w8 ⟨g8, c8, rfl, hg8, hb8, hO8⟩
  have b8 := b7.trans (hb8.mono b7.size)
  have hA := (((hO4.kept hb5).kept hb6).kept hb7).kept hb8
  have hcells := hO8.cells0
  go_wp2_with (at_builtin; refine wpList_app _ rfl _ _ _ _ elI rfl hA rfl g8 0 H c8 _ rfl hcells (fun _ _ => rfl) (by omega) (by omega) ?_; intro g9 c9 w9 hO9 hg9 hgr9)
  go_ret
  refine ⟨g9, c9, rfl, by have := b8.size; omega, b8.grown hgr9 b8.size (fun k e => by injection e with e; omega), hO9.congr fun i hi => ?_⟩
  have e := HP.out
  show _ = Value.int .i64 (mulF p s (k + 1) X Y i)
  rw [mulF_succ]
  by_cases e2 : i < H
  · rw [if_pos e2, if_pos (show i < 2 ^ k by rw [e]; exact e2)]
  · rw [if_neg e2, if_neg (show ¬ i < 2 ^ k by rw [e]; exact e2), show i - 2 ^ k = i - H by rw [e], Int.one_mul]

set_option maxRecDepth 100000 in
set_option maxHeartbeats 4000000 in
theorem sMulS_c (p : Int) (k H : Nat) (s : Nat → Int) (hk : k ≤ 3) (hH : H = 1 ∨ H = 2 ∨ H = 4 ∨ H = 8) (hpow : 2 ^ k = H) (h1 : 1 ≤ p) (h2 : p ≤ 1000) (hsk : -1000 ≤ s k ∧ s k ≤ 1000)
    (IH : ∀ sv xv yv X Y w, Ints w sv k s → Ints w xv H X → Ints w yv H Y → InP p H X → InP p H Y → Calls Try.prog 138 #[.int .i64 p, sv, xv, yv] w fun e w' => CopyI w w' e H (mulF p s k X Y))
    (sv xv yv : Value) (X Y : Nat → Int) (w : World) (hs : Ints w sv (k + 1) s) (hx : Ints w xv (H + H) X) (hy : Ints w yv (H + H) Y) (iX : InP p (H + H) X) (iY : InP p (H + H) Y) :
    Calls Try.prog 138 #[.int .i64 p, sv, xv, yv] w fun e w' => CopyI w w' e (H + H) (mulF p s (k + 1) X Y) := by
  have hp0 : 0 < p := by omega
  obtain ⟨sa, sc, sb, so, rfl, s2, s3, s4, s5⟩ := hs.out
  obtain ⟨xa, xc, xb, xo, rfl, x2, x3, x4, x5⟩ := hx.out
  obtain ⟨ya, yc, yb, yo, rfl, y2, y3, y4, y5⟩ := hy.out
  have hH0 : 0 < H := by omega
  have hH8 : H ≤ 8 := by omega
  obtain rfl := s4 (by omega)
  obtain rfl := x4 (by omega)
  obtain rfl := y4 (by omega)
  have es : w.cell? ⟨sb, so + k, none⟩ = some (.int .i64 (s k)) := s5 k (by omega)
  have hsl := lt_of_cell es
  have rv : ∀ W, Below w.heap.size w W → Ints W (.slice (some ⟨sb, so, none⟩) k sc) k s := fun W hb => Ints.below (ints_cut (n := k + 1) (m := 0) (by omega) s2 s3 s5) hb
  have av : ∀ W, Below w.heap.size w W → Ints W (.slice (some ⟨xb, xo, none⟩) H xc) H X := fun W hb => Ints.below (ints_cut (n := H + H) (m := 0) (by omega) x2 x3 x5) hb
  have cv : ∀ W, Below w.heap.size w W → Ints W (.slice (some ⟨yb, yo, none⟩) H yc) H Y := fun W hb => Ints.below (ints_cut (n := H + H) (m := 0) (by omega) y2 y3 y5) hb
  have bv : ∀ W, Below w.heap.size w W → Ints W (.slice (some ⟨xb, xo + H, none⟩) H (xc - H)) H (fun i => X (2 ^ k + i)) := fun W hb => by
    have h := ints_tail (w := w) (l := H) (by omega) x2 x3 x5
    rw [show H + H - H = H by omega] at h
    rw [hpow]; exact h.below hb
  have dv : ∀ W, Below w.heap.size w W → Ints W (.slice (some ⟨yb, yo + H, none⟩) H (yc - H)) H (fun i => Y (2 ^ k + i)) := fun W hb => by
    have h := ints_tail (w := w) (l := H) (by omega) y2 y3 y5
    rw [show H + H - H = H by omega] at h
    rw [hpow]; exact h.below hb
  have RV := Lib.hid rv
  have AV := Lib.hid av
  have BV := Lib.hid bv
  have CV := Lib.hid cv
  have DV := Lib.hid dv
  have ia : InP p H X := iX.mono (by omega)
  have ic : InP p H Y := iY.mono (by omega)
  have ib : InP p H (fun i => X (2 ^ k + i)) := by rw [hpow]; exact iX.drop (by omega)
  have id : InP p H (fun i => Y (2 ^ k + i)) := by rw [hpow]; exact iY.drop (by omega)
  have IA := Lib.hid ia
  have IB := Lib.hid ib
  have IC := Lib.hid ic
  have ID := Lib.hid id
  have HI := Lib.hid IH
  have HP := Lib.hid hpow
  have hq : Int.tdiv (((H + H : Nat) : Int)) 2 = (H : Int) := by rcases hH with rfl | rfl | rfl | rfl <;> rfl
  have hq' : Int.tdiv ((H : Int) + (H : Int)) 2 = (H : Int) := by rcases hH with rfl | rfl | rfl | rfl <;> rfl
  have HH := Lib.hid hH
  have i0 : (0 : Int) ≤ (k : Int) := by omega
  have i1 : (k : Int) < (k : Int) + 1 := by omega
  have i2 : (k : Int) < ((k + 1 : Nat) : Int) := by omega
  clear s4 s5 x4 x5 y4 y5 hs hx hy iX iY rv av bv cv dv ia ib ic id IH hpow hH
  go_enter Try.func138, Try.ntmps138
  go_wp2
  go_quiet (fail)
  go_wp2
  go_quiet (fail)
  have bz : ∀ q q', Below w.heap.size w ((w.drewN q).drewN q') := fun q q' => ⟨rfl, rfl, rfl, Nat.le_refl _, fun _ _ => rfl⟩
  go_wp2_with fail
  refine (HI.out _ _ _ _ _ _ (RV.out _ (below_drewN _ _)) (AV.out _ (below_drewN _ _)) (CV.out _ (below_drewN _ _)) IA.out IC.out).mono ?_
  rintro e w1 ⟨g1, c1, rfl, hg1, hb1, hO1⟩
  have b1 : Below w.heap.size w w1 := ⟨hb1.os, hb1.tape, hb1.output, hb1.size, hb1.block⟩
  go_wp2_with fail
  refine (sStar_c _ _ _ _ _ (DV.out _ b1) hH0 (by omega) h1 h2 (ID.out.sm h2)).mono ?_
  rintro e w2 ⟨g2, c2, rfl, hg2, hb2, hO2⟩
  have b2 := b1.trans (hb2.mono b1.size)
  go_wp2_with fail
  refine (HI.out _ _ _ _ _ _ (RV.out _ b2) hO2.ints (BV.out _ b2) (conjF_in hp0 ID.out) IB.out).mono ?_
  rintro e w3 ⟨g3, c3, rfl, hg3, hb3, hO3⟩
  have b3 := b2.trans (hb3.mono b2.size)
  go_wp2_with fail
  refine (sScale_c _ _ _ _ _ _ hO3.ints (by omega) h1 h2 ((mulF_in hp0 _ _ _ _ _).sm h2) hsk).mono ?_
  rintro e w3' ⟨g3', c3', rfl, hg3', hb3', hO3'⟩
  have b3' := b3.trans (hb3'.mono b3.size)
  have hsm : Sm H (fun i => (s k * mulF p s k (conjF p fun i => Y (2 ^ k + i)) (fun i => X (2 ^ k + i)) i) % p) := InP.sm (fun i _ => mod_bd _ _ hp0) h2
  go_wp2_with fail
  refine (sAdd_c _ _ _ _ _ _ _ _ (((hO1.kept hb2).kept hb3).kept hb3').ints hO3'.ints (Nat.le_refl _) (by omega) h1 h2 ((mulF_in hp0 _ _ _ _ _).sm h2) hsm).mono ?_
  rintro e w4 ⟨g4, c4, rfl, hg4, hb4, hO4⟩
  have b4 := b3'.trans (hb4.mono b3'.size)
  have hz4 : w.heap.size ≤ g4 := by have := b3'.size; omega
  go_wp2_with fail
  refine (HI.out _ _ _ _ _ _ (RV.out _ b4) (DV.out _ b4) (AV.out _ b4) ID.out IA.out).mono ?_
  rintro e w5 ⟨g5, c5, rfl, hg5, hb5, hO5⟩
  have b5 := b4.trans (hb5.mono b4.size)
  go_wp2_with fail
  refine (sStar_c _ _ _ _ _ (CV.out _ b5) hH0 (by omega) h1 h2 (IC.out.sm h2)).mono ?_
  rintro e w6 ⟨g6, c6, rfl, hg6, hb6, hO6⟩
  have b6 := b5.trans (hb6.mono b5.size)
  go_wp2_with fail
  refine (HI.out _ _ _ _ _ _ (RV.out _ b6) (BV.out _ b6) hO6.ints IB.out (conjF_in hp0 IC.out)).mono ?_
  rintro e w7 ⟨g7, c7, rfl, hg7, hb7, hO7⟩
  have b7 := b6.trans (hb7.mono b6.size)
  go_wp2_with fail
  refine (sAdd_c _ _ _ _ _ _ _ _ ((hO5.kept hb6).kept hb7).ints hO7.ints (Nat.le_refl _) (by omega) h1 h2 ((mulF_in hp0 _ _ _ _ _).sm h2) ((mulF_in hp0 _ _ _ _ _).sm h2)).mono ?_
  rintro e w8 ⟨g8, c8, rfl, hg8, hb8, hO8⟩
  have b8 := b7.trans (hb8.mono b7.size)
  have hA := (((hO4.kept hb5).kept hb6).kept hb7).kept hb8
  have hcells := hO8.cells0
  go_wp2_with (at_builtin; refine wpList_app _ rfl _ _ _ _ elI rfl hA rfl g8 0 H c8 _ rfl hcells (fun _ _ => rfl) (by omega) (by omega) ?_; intro g9 c9 w9 hO9 hg9 hgr9)
  go_ret
  refine ⟨g9, c9, rfl, by have := b8.size; omega, b8.grown hgr9 b8.size (fun k e => by injection e with e; omega), hO9.congr fun i hi => ?_⟩
  have e := HP.out
  show _ = Value.int .i64 (mulF p s (k + 1) X Y i)
  rw [mulF_succ]
  by_cases e2 : i < H
  · rw [if_pos e2, if_pos (show i < 2 ^ k by rw [e]; exact e2), mod_mod_add]
  · rw [if_neg e2, if_neg (show ¬ i < 2 ^ k by rw [e]; exact e2), show i - 2 ^ k = i - H by rw [e]]

theorem iDouble_c (p : Int) (h1 : 1 ≤ p) (h2 : p ≤ 1000) (s : Nat → Int) : ∀ (k : Nat), k ≤ 4 → Sm k s → ∀ (sv xv yv : Value) (X Y : Nat → Int) (w : World), Ints w sv k s → Ints w xv (2 ^ k) X → Ints w yv (2 ^ k) Y → InP p (2 ^ k) X → InP p (2 ^ k) Y →
    Calls Try.prog 137 #[.int .i64 p, sv, xv, yv] w fun e w' => CopyI w w' e (2 ^ k) (mulF p s k X Y) := by
  intro k
  induction k with
  | zero => intro _ _ sv xv yv X Y w hs hx hy iX iY; exact iDouble0_c p sv xv yv s X Y w h1 h2 hs hx hy iX iY
  | succ k ih =>
    intro hk hsm sv xv yv X Y w hs hx hy iX iY
    have hH : 2 ^ k = 1 ∨ 2 ^ k = 2 ∨ 2 ^ k = 4 ∨ 2 ^ k = 8 := by
      have : k = 0 ∨ k = 1 ∨ k = 2 ∨ k = 3 := by omega
      rcases this with rfl | rfl | rfl | rfl <;> simp
    have e : 2 ^ (k + 1) = 2 ^ k + 2 ^ k := by rw [Nat.pow_succ]; omega
    rw [e] at hx hy iX iY ⊢
    exact iDoubleS_c p k (2 ^ k) s (by omega) hH rfl h1 h2 (hsm k (by omega)) (ih (by omega) (fun i hi => hsm i (by omega))) sv xv yv X Y w hs hx hy iX iY

theorem sMul_c (p : Int) (h1 : 1 ≤ p) (h2 : p ≤ 1000) (s : Nat → Int) : ∀ (k : Nat), k ≤ 4 → Sm k s → ∀ (sv xv yv : Value) (X Y : Nat → Int) (w : World), Ints w sv k s → Ints w xv (2 ^ k) X → Ints w yv (2 ^ k) Y → InP p (2 ^ k) X → InP p (2 ^ k) Y →
    Calls Try.prog 138 #[.int .i64 p, sv, xv, yv] w fun e w' => CopyI w w' e (2 ^ k) (mulF p s k X Y) := by
  intro k
  induction k with
  | zero => intro _ _ sv xv yv X Y w hs hx hy iX iY; exact sMul0_c p sv xv yv s X Y w h1 h2 hs hx hy iX iY
  | succ k ih =>
    intro hk hsm sv xv yv X Y w hs hx hy iX iY
    have hH : 2 ^ k = 1 ∨ 2 ^ k = 2 ∨ 2 ^ k = 4 ∨ 2 ^ k = 8 := by
      have : k = 0 ∨ k = 1 ∨ k = 2 ∨ k = 3 := by omega
      rcases this with rfl | rfl | rfl | rfl <;> simp
    have e : 2 ^ (k + 1) = 2 ^ k + 2 ^ k := by rw [Nat.pow_succ]; omega
    rw [e] at hx hy iX iY ⊢
    exact sMulS_c p k (2 ^ k) s (by omega) hH rfl h1 h2 (hsm k (by omega)) (ih (by omega) (fun i hi => hsm i (by omega))) sv xv yv X Y w hs hx hy iX iY

end Go.Proofs.Ytnnacligfoonbaa

/-
  Doublings: the test of a doubling and the code of elements, in both programs. No condition beside sizes.
-/
set_option linter.unusedVariables false
set_option linter.unusedSimpArgs false
namespace Go.Proofs.Ytnnacligfoonbaa
open Go.RowKit

/-- a box that holds a doubling, behind w -/
abbrev BoxD (w : World) (p : Int) (ao : Option Addr) (n c : Nat) (W : World) : Prop :=
  W.cell? ⟨w.heap.size, 0, none⟩ = some (.int .i64 p) ∧ W.cell? ⟨w.heap.size, 1, none⟩ = some (.slice ao n c) ∧ w.heap.size < W.heap.size ∧ Below w.heap.size w W
theorem boxKeep {w W W' : World} {p : Int} {ao : Option Addr} {n c : Nat} (hb : Below W.heap.size W W') (h : BoxD w p ao n c W) : BoxD w p ao n c W' :=
  ⟨by rw [hb.cell (p := ⟨w.heap.size, 0, none⟩) h.2.2.1]; exact h.1, by rw [hb.cell (p := ⟨w.heap.size, 1, none⟩) h.2.2.1]; exact h.2.1, by have := hb.size; have := h.2.2.1; omega, h.2.2.2.trans (hb.mono h.2.2.2.size)⟩
theorem box0 (w : World) (p : Int) (ao : Option Addr) (n c : Nat) (t : TypeId) : BoxD w p ao n c (w.alloc (.cells #[.int .i64 p, .slice ao n c] t)) :=
  ⟨by simp, by simp, by simp, (Below.refl _ _).alloc (Nat.le_refl _) _⟩
theorem boxDrew {w W : World} {p : Int} {ao : Option Addr} {n c : Nat} (h : BoxD w p ao n c W) : BoxD w p ao n c W.drew :=
  boxKeep (W := W) ⟨rfl, rfl, rfl, Nat.le_refl _, fun _ _ => rfl⟩ h

theorem idx_neg {f : Nat → Int} {x : Int} : ∀ {n : Nat}, ¬ 0 ≤ idx f x n → ∀ j, j < n → f j ≠ x
  | 0, _, j, hj => absurd hj (Nat.not_lt_zero _)
  | n + 1, h, j, hj => by
    simp only [idx] at h
    by_cases h0 : 0 ≤ idx f x n
    · rw [if_pos h0] at h; exact absurd h0 h
    · rw [if_neg h0] at h
      by_cases h1 : f n = x
      · rw [if_pos h1] at h; omega
      · by_cases e : j = n
        · subst e; exact h1
        · exact idx_neg h0 j (by omega)

theorem dblB_noPrime {p : Int} {n : Nat} {s : Nat → Int} (h : primeB p = false) : dblB p n s = false := by unfold dblB; rw [h]; rfl
theorem dblB_big {p : Int} {n : Nat} {s : Nat → Int} (h : ¬ n ≤ 4) : dblB p n s = false := by unfold dblB; rw [decide_eq_false h]; simp
theorem dblB_out {p : Int} {n : Nat} {s : Nat → Int} (h : inPB 1 p n s = false) : dblB p n s = false := by unfold dblB; rw [h]; simp
theorem dblB_yes {p : Int} {n : Nat} {s : Nat → Int} (h1 : primeB p = true) (h2 : n ≤ 4) (h3 : inPB 1 p n s = true) : dblB p n s = true := by unfold dblB; rw [h1, h3, decide_eq_true h2]; rfl
theorem inPB_step {p : Int} {n : Nat} {s : Nat → Int} : inPB 1 p n s = (inPB 0 p n s && !decide (0 ≤ idx s 0 n)) := by
  cases h : inPB 1 p n s
  · cases h0 : inPB 0 p n s
    · rfl
    · by_cases hc : 0 ≤ idx s 0 n
      · rw [decide_eq_true hc]; rfl
      · exfalso
        have h1 := of_decide_eq_true h0
        have h2 := idx_neg hc
        exact (of_decide_eq_false h) fun i hi => by have := h1 i hi; have := h2 i hi; omega
  · have h1 := of_decide_eq_true h
    rw [show inPB 0 p n s = true from decide_eq_true fun i hi => by have := h1 i hi; omega, idx_none (f := s) (x := 0) fun j hj => by have := h1 j hj; omega]
    rfl

theorem Calls.pure {P : Program} {f : FuncId} {args : Array Value} {w : World} {n : Nat} {v : Value}
    (h : Calls P f args (w.drewN n) fun e w' => e = .returned v ∧ w.drewN n = w') : Calls P f args (w.drewN n) fun e w'' => e = .returned v ∧ ∃ m, w'' = w.drewN m :=
  Calls.reads (h.mono fun e w' h => ⟨h.1, 0, h.2.symm⟩)

set_option maxRecDepth 100000 in
set_option maxHeartbeats 4000000 in
theorem iIsDbl_c (p : Int) (sv : Value) (n : Nat) (s : Nat → Int) (w : World) (h : Ints w sv n s) :
    Calls Try.prog 35 #[dbl p sv] w fun e w' => Makes w w' e (.bool (dblB p n s)) := by
  have hi : ∀ W, Below w.heap.size w W → Ints W sv n s := fun W hb => h.below hb
  obtain ⟨ao, c, b, o, rfl, p2, p3, p4, p5⟩ := h.out
  have HI := Lib.hid hi
  clear h p5 hi p4
  obtain ⟨e0, e1, e2, e3⟩ := box0 w p ao n c 26
  cases hp : primeB p
  · have HP : ∀ W, Calls Try.prog 94 #[.int .i64 p] W fun e w' => e = .returned (.bool false) ∧ W = w' := fun W => hp ▸ iPrime_c p W
    have HP' := Lib.hid HP; clear HP
    have hres : ∀ W, Below w.heap.size w W → Makes w W (.returned (.bool false)) (.bool (dblB p n s)) := fun W hb => ⟨ret_bool (dblB_noPrime hp).symm, hb⟩
    have HR := Lib.hid hres; clear hres
    go_enter Try.func35, Try.ntmps35
    go_wp2
    go_quiet ((go_at_call 94; exact Calls.pure (HP'.out _)))
    go_wp2
    go_ret
    exact HR.out _ (Reads.below e3)
  · have HP : ∀ W, Calls Try.prog 94 #[.int .i64 p] W fun e w' => e = .returned (.bool true) ∧ W = w' := fun W => hp ▸ iPrime_c p W
    have HP' := Lib.hid HP; clear HP
    have hpc := primeB_bd hp
    by_cases h4 : n ≤ 4
    · have hd4 : decide ((n : Int) ≤ 4) = true := decide_eq_true (by omega)
      have hfield : ∀ W, Calls Try.prog 80 #[dbl p (.slice ao n c)] W fun e w' => Makes W w' e (.int .i64 p) := fun W => iField_c p _ W
      have HF := Lib.hid hfield; clear hfield
      cases h0 : inPB 0 p n s
      · have his : ∀ W, Below w.heap.size w W → Calls Try.prog 95 #[.int .i64 p, .slice ao n c] W fun e w' => e = .returned (.bool false) ∧ W = w' := fun W hb => h0 ▸ iIs_c p _ n s W (HI.out W hb) (by omega) (by omega)
        have HIS := Lib.hid his; clear his
        have hres : ∀ W, Below w.heap.size w W → Makes w W (.returned (.bool false)) (.bool (dblB p n s)) := fun W hb => ⟨ret_bool (dblB_out (by rw [inPB_step, h0]; rfl)).symm, hb⟩
        have HR := Lib.hid hres; clear hres h0
        go_enter Try.func35, Try.ntmps35
        go_wp2
        first
          | (go_region_law (first
              | (go_simp; go_at_call 94; refine (HP'.out _).mono ?_; rintro e w' ⟨rfl, rfl⟩)
              | (go_simp; go_at_call 80; refine Calls.makes' (HF.out _) _ fun w1 hb1 => ?_; have hbx := boxKeep hb1 (boxDrew ⟨e0, e1, e2, e3⟩); obtain ⟨f0, f1, f2, f3⟩ := hbx)
              | (go_simp; go_at_call 95; refine (HIS.out _ f3).mono ?_; rintro e w' ⟨rfl, rfl⟩)))
          | fail
        all_goals go_wp2
        all_goals go_ret
        all_goals exact HR.out _ f3
      · have his : ∀ W, Below w.heap.size w W → Calls Try.prog 95 #[.int .i64 p, .slice ao n c] W fun e w' => e = .returned (.bool true) ∧ W = w' := fun W hb => h0 ▸ iIs_c p _ n s W (HI.out W hb) (by omega) (by omega)
        have HIS := Lib.hid his; clear his
        have hcn : ∀ W, Below w.heap.size w W → Calls Try.prog 96 #[.slice ao n c, .int .i64 0] W fun e w' => e = .returned (.bool (decide (0 ≤ idx s 0 n))) ∧ W = w' := fun W hb => iContains_c _ n s 0 W (HI.out W hb)
        have HC := Lib.hid hcn; clear hcn
        have hres : ∀ W, Below w.heap.size w W → Makes w W (.returned (.bool (!decide (0 ≤ idx s 0 n)))) (.bool (dblB p n s)) := fun W hb => ⟨ret_bool (by
          unfold dblB; rw [inPB_step, h0, hp, decide_eq_true h4]; rfl), hb⟩
        have HR := Lib.hid hres; clear hres h0
        obtain ⟨bb, hbb⟩ : ∃ bb, decide (0 ≤ idx s 0 n) = bb := ⟨_, rfl⟩
        rw [hbb] at HC HR
        go_enter Try.func35, Try.ntmps35
        go_wp2
        first
          | (go_region_law (first
              | (go_simp; go_at_call 94; refine (HP'.out _).mono ?_; rintro e w' ⟨rfl, rfl⟩)
              | (go_simp; go_at_call 80; refine Calls.makes' (HF.out _) _ fun w1 hb1 => ?_; have hbx := boxKeep hb1 (boxDrew ⟨e0, e1, e2, e3⟩); obtain ⟨f0, f1, f2, f3⟩ := hbx)
              | (go_simp; go_at_call 95; refine (HIS.out _ f3).mono ?_; rintro e w' ⟨rfl, rfl⟩)
              | (go_simp; go_at_call 96; refine (HC.out _ f3).mono ?_; rintro e w' ⟨rfl, rfl⟩)))
          | fail
        all_goals go_wp2
        all_goals go_ret
        all_goals exact HR.out _ f3
    · have hd4 : decide ((n : Int) ≤ 4) = false := decide_eq_false (by omega)
      have hres : ∀ W, Below w.heap.size w W → Makes w W (.returned (.bool false)) (.bool (dblB p n s)) := fun W hb => ⟨ret_bool (dblB_big h4).symm, hb⟩
      have HR := Lib.hid hres; clear hres
      go_enter Try.func35, Try.ntmps35
      go_wp2
      go_quiet ((go_at_call 94; exact Calls.pure (HP'.out _)))
      go_wp2
      go_ret
      exact HR.out _ (Reads.below e3)

set_option maxRecDepth 100000 in
set_option maxHeartbeats 4000000 in
theorem sIsDbl_c (p : Int) (sv : Value) (n : Nat) (s : Nat → Int) (w : World) (h : Ints w sv n s) :
    Calls Try.prog 75 #[dbl p sv] w fun e w' => Makes w w' e (.bool (dblB p n s)) := by
  obtain ⟨ao, c, b, o, rfl, p2, p3, p4, p5⟩ := h.out
  have P5 := Lib.hid p5
  clear h p5
  obtain ⟨e0, e1, e2, e3⟩ := box0 w p ao n c 26
  have E := e3
  cases hp : primeB p
  · have HP : ∀ W, Calls Try.prog 133 #[.int .i64 p] W fun e w' => e = .returned (.bool false) ∧ W = w' := fun W => hp ▸ sPrime_c p W
    have HP' := Lib.hid HP; clear HP
    go_enter Try.func75, Try.ntmps75
    go_wp2_with (go_at_call 133; refine (HP'.out _).mono ?_; rintro e w' ⟨rfl, rfl⟩)
    go_ret
    exact ⟨ret_bool (dblB_noPrime hp).symm, E⟩
  · have HP : ∀ W, Calls Try.prog 133 #[.int .i64 p] W fun e w' => e = .returned (.bool true) ∧ W = w' := fun W => hp ▸ sPrime_c p W
    have HP' := Lib.hid HP; clear HP
    have hpc := primeB_bd hp
    by_cases h4 : n ≤ 4
    · have hd4 : decide (4 < (n : Int)) = false := decide_eq_false (by omega)
      go_enter Try.func75, Try.ntmps75
      go_wp2_with (go_at_call 133; refine (HP'.out _).mono ?_; rintro e w' ⟨rfl, rfl⟩)
      go_loopg [3] n (fun g i wr => ∃ k : Nat, k ≤ n ∧ g = n - k ∧ i = .int .i64 k ∧ BoxD w p ao n c wr ∧ ∀ j, j < k → inB (s j) 1 (p - 1) = true)
      case atStart => exact ⟨0, Nat.zero_le _, rfl, rfl, ⟨e0, e1, e2, e3⟩, fun j hj => absurd hj (Nat.not_lt_zero _)⟩
      case round =>
        obtain ⟨k, hk, rfl, rfl, ⟨f0, f1, f2, f3⟩, hl⟩ := hrel
        have HL := Lib.hid hl; clear hl e0 e1 e2 e3
        have BX := Lib.hid (show BoxD w p ao n c wr from ⟨f0, f1, f2, f3⟩)
        by_cases hlt : k < n
        · obtain rfl := p4 (by omega)
          have f4 : wr.cell? ⟨b, o + k, none⟩ = some (.int .i64 (s k)) := by rw [f3.cell (p := ⟨b, o + k, none⟩) (lt_of_cell (P5.out k hlt))]; exact P5.out k hlt
          go_wp2
          go_quiet ((go_at_call 76; exact Calls.pure (sIn_c _ _ _ _)))
          go_wp2
          · have ht : (!inB (s k) 1 (p - 1)) = true := by assumption
            go_ret
            exact ⟨ret_bool (dblB_out (inPB_false hlt (by simpa using ht))).symm, Reads.below f3⟩
          · have ht : (!inB (s k) 1 (p - 1)) = false := by assumption
            go_roundg (n - (k + 1))
            case measure => omega
            case rel => exact ⟨k + 1, by omega, rfl, by go_num, boxKeep (W := wr) (below_drewN _ _) BX.out, fun j hj => by
              by_cases e : j = k
              · subst e; simpa using ht
              · exact HL.out j (by omega)⟩
        · obtain rfl : k = n := by omega
          go_wp2
          go_ret
          exact ⟨ret_bool (dblB_yes hp h4 (inPB_true HL.out)).symm, f3⟩
    · have hd4 : decide (4 < (n : Int)) = true := decide_eq_true (by omega)
      go_enter Try.func75, Try.ntmps75
      go_wp2_with (go_at_call 133; refine (HP'.out _).mono ?_; rintro e w' ⟨rfl, rfl⟩)
      go_ret
      exact ⟨ret_bool (dblB_big h4).symm, E⟩

end Go.Proofs.Ytnnacligfoonbaa
