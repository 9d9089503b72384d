/-
  Doublings: numbers, the field's numbers and the test of a doubling, in both programs. No condition beside sizes.
-/
import Derived.Test.YtnkflgigbielgaaTJ
import Derived.Test.YtnkflgigbielgaaQNJ
import Derived.Deep.RegionWith
import Derived.Deep.RegionLaw
import Derived.Deep.RegionHeld3
set_option linter.unusedVariables false
set_option linter.unusedSimpArgs false
namespace Go.Proofs.Ytnkflgigbielgaa
open Go.RowKit

theorem iPrime_c (p : Int) (w : World) : Calls Try.prog 68 #[.int .i64 p] w fun e w' => e = .returned (.bool (primeB p)) ∧ w = w' := by
  by_cases h3 : p = 3
  · subst h3
    go_enter Try.func68, Try.ntmps68
    go_wp2
    go_ret
    exact ⟨rfl, rfl⟩
  by_cases h5 : p = 5
  · subst h5
    go_enter Try.func68, Try.ntmps68
    go_wp2
    go_ret
    exact ⟨rfl, rfl⟩
  by_cases h7 : p = 7
  · subst h7
    go_enter Try.func68, Try.ntmps68
    go_wp2
    go_ret
    exact ⟨rfl, rfl⟩
  by_cases h11 : p = 11
  · subst h11
    go_enter Try.func68, Try.ntmps68
    go_wp2
    go_ret
    exact ⟨rfl, rfl⟩
  by_cases h13 : p = 13
  · subst h13
    go_enter Try.func68, Try.ntmps68
    go_wp2
    go_ret
    exact ⟨rfl, rfl⟩
  have e3 : (p == 3) = false := by simpa using h3
  have e5 : (p == 5) = false := by simpa using h5
  have e7 : (p == 7) = false := by simpa using h7
  have e11 : (p == 11) = false := by simpa using h11
  have e13 : (p == 13) = false := by simpa using h13
  have hb : primeB p = false := by unfold primeB; rw [e3, e5, e7, e11, e13]; rfl
  go_enter Try.func68, Try.ntmps68
  go_wp2
  go_ret
  exact ⟨ret_bool hb.symm, rfl⟩

theorem sPrime_c (p : Int) (w : World) : Calls Try.prog 130 #[.int .i64 p] w fun e w' => e = .returned (.bool (primeB p)) ∧ w = w' := by
  by_cases h3 : p = 3
  · subst h3
    go_enter Try.func130, Try.ntmps130
    go_wp2
    go_ret
    exact ⟨rfl, rfl⟩
  by_cases h5 : p = 5
  · subst h5
    go_enter Try.func130, Try.ntmps130
    go_wp2
    go_ret
    exact ⟨rfl, rfl⟩
  by_cases h7 : p = 7
  · subst h7
    go_enter Try.func130, Try.ntmps130
    go_wp2
    go_ret
    exact ⟨rfl, rfl⟩
  by_cases h11 : p = 11
  · subst h11
    go_enter Try.func130, Try.ntmps130
    go_wp2
    go_ret
    exact ⟨rfl, rfl⟩
  by_cases h13 : p = 13
  · subst h13
    go_enter Try.func130, Try.ntmps130
    go_wp2
    go_ret
    exact ⟨rfl, rfl⟩
  have e3 : (p == 3) = false := by simpa using h3
  have e5 : (p == 5) = false := by simpa using h5
  have e7 : (p == 7) = false := by simpa using h7
  have e11 : (p == 11) = false := by simpa using h11
  have e13 : (p == 13) = false := by simpa using h13
  have hb : primeB p = false := by unfold primeB; rw [e3, e5, e7, e11, e13]; rfl
  go_enter Try.func130, Try.ntmps130
  go_wp2
  go_ret
  exact ⟨ret_bool hb.symm, rfl⟩

theorem iNum_c (p n : Int) (w : World) (h1 : 1 ≤ p) (h2 : p ≤ 1000) (h3 : -1099511627776 ≤ n) (h4 : n ≤ 1099511627776) :
    Calls Try.prog 86 #[.int .i64 p, .int .i64 n] w fun e w' => e = .returned (.int .i64 (n % p)) ∧ w = w' := by
  have hb := tmod_bd n p (by omega)
  have hg := go_mod n p (by omega)
  have hp : p ≠ 0 := by omega
  go_enter Try.func86, Try.ntmps86
  go_wp2
  go_ret
  exact ⟨rfl, rfl⟩

/-- all numbers lie from lo to p - 1 -/
def inPB (lo p : Int) (n : Nat) (X : Nat → Int) : Bool := decide (∀ i, i < n → lo ≤ X i ∧ X i ≤ p - 1)
theorem inPB_true {lo p : Int} {n : Nat} {X : Nat → Int} (h : ∀ i, i < n → inB (X i) lo (p - 1) = true) : inPB lo p n X = true :=
  decide_eq_true fun i hi => of_decide_eq_true (h i hi)
theorem inPB_false {lo p : Int} {n k : Nat} {X : Nat → Int} (hk : k < n) (h : inB (X k) lo (p - 1) = false) : inPB lo p n X = false :=
  decide_eq_false fun h2 => (of_decide_eq_false h) (h2 k hk)
theorem inPB_ok {p : Int} {n : Nat} {X : Nat → Int} (h : inPB 0 p n X = true) : InP p n X := fun i hi => by
  have := of_decide_eq_true h i hi; omega

set_option maxHeartbeats 400000 in
theorem iIs_c (p : Int) (v : Value) (n : Nat) (X : Nat → Int) (w : World) (h : Ints w v n X) (h1 : 1 ≤ p) (h2 : p ≤ 1000) :
    Calls Try.prog 72 #[.int .i64 p, v] w fun e w' => e = .returned (.bool (inPB 0 p n X)) ∧ w = w' := by
  obtain ⟨ao, c, b, o, rfl, p2, p3, p4, p5⟩ := h.out
  clear h
  go_enter Try.func72, Try.ntmps72
  go_wp2
  go_loopg [9] n (fun g i wr => w = wr ∧ ∃ k : Nat, k ≤ n ∧ g = n - k ∧ i = .int .i64 k ∧ ∀ j, j < k → inB (X j) 0 (p - 1) = true)
  case atStart => exact ⟨rfl, 0, Nat.zero_le _, rfl, rfl, fun j hj => absurd hj (Nat.not_lt_zero _)⟩
  case round =>
    obtain ⟨rfl, k, hk, rfl, rfl, hl⟩ := hrel
    have HL := Lib.hid hl; clear hl
    by_cases hlt : k < n
    · obtain rfl := p4 (by omega)
      go_wp2_with (go_at_call 69; refine (iIn_c _ _ _ _).mono ?_; rintro e w' ⟨rfl, rfl⟩)
      · have ht : (!inB (X k) 0 (p - 1)) = true := by assumption
        go_ret
        exact ⟨ret_bool (inPB_false hlt (by simpa using ht)).symm, rfl⟩
      · have ht : (!inB (X k) 0 (p - 1)) = false := by assumption
        go_roundg (n - (k + 1))
        case measure => omega
        case rel => exact ⟨rfl, k + 1, by omega, rfl, by go_num, fun j hj => by
          by_cases e : j = k
          · subst e; simpa using ht
          · exact HL.out j (by omega)⟩
    · obtain rfl : k = n := by omega
      go_wp2
      go_ret
      exact ⟨ret_bool (inPB_true HL.out).symm, rfl⟩

/-- the test of a doubling -/
def dblB (p : Int) (n : Nat) (s : Nat → Int) : Bool := primeB p && decide (n ≤ 4) && inPB 1 p n s
structure DblOk (p : Int) (n : Nat) (s : Nat → Int) : Prop where
  prime : primeB p = true
  le : n ≤ 4
  step : ∀ i, i < n → 1 ≤ s i ∧ s i ≤ p - 1
theorem dblB_ok {p : Int} {n : Nat} {s : Nat → Int} (h : dblB p n s = true) : DblOk p n s := by
  unfold dblB at h
  simp only [Bool.and_eq_true] at h
  exact ⟨h.1.1, of_decide_eq_true h.1.2, of_decide_eq_true h.2⟩

theorem iContains_c (v : Value) (n : Nat) (X : Nat → Int) (x : Int) (w : World) (h : Ints w v n X) :
    Calls Try.prog 134 #[v, .int .i64 x] w fun e w' => e = .returned (.bool (decide (0 ≤ idx X x n))) ∧ w = w' := by
  go_enter Try.func134, Try.ntmps134
  go_wp2_with fail
  refine (iIndex_c _ _ _ _ _ h).mono ?_
  rintro e w' ⟨rfl, rfl⟩
  go_wp2
  go_ret
  exact ⟨rfl, rfl⟩

/-- a doubling's value -/
abbrev dbl (p : Int) (sv : Value) : Value := .agg #[.int .i64 p, sv]

end Go.Proofs.Ytnkflgigbielgaa

/-
  Lists of the field's numbers: sums, multiples, conjugates, in both programs. No condition beside sizes.
-/
set_option linter.unusedVariables false
set_option linter.unusedSimpArgs false
namespace Go.Proofs.Ytnkflgigbielgaa
open Go.RowKit

theorem mul_bd {a b : Int} (h1 : -1000 ≤ a ∧ a ≤ 1000) (h2 : -1000 ≤ b ∧ b ≤ 1000) : -1000000 ≤ a * b ∧ a * b ≤ 1000000 := by
  have h := Nat.mul_le_mul (show a.natAbs ≤ 1000 by omega) (show b.natAbs ≤ 1000 by omega)
  rw [← Int.natAbs_mul] at h
  omega
/-- Append of one value, as a step of a region that draws its order. -/
theorem step_push {P : Program} {ops : Array Oper} {o : Oper} {a : Act} {w : World} {K : Act → World → Prop} {Q : Exit → Act → World → Prop} {E : Prop} (hgd : o.guard = none) (s x : Operand) (t e : TypeId) {z : Value} {bytes : Nat} (el : Elem P t e z bytes)
    (ho : o.op = .call { callee := .builtin .append, args := #[s, x], argTypes := #[t, t] })
    {g cap n : Nat} {V : Nat → Value} (hown : Own w e g cap n V) (u : Value) (hs : a.eval s = .slice (some ⟨g, 0, none⟩) n cap)
    (hx : a.eval x = .slice (some ⟨w.heap.size, 0, none⟩) 1 1) (h1 : u.oneCell' = true)
    (h63 : n + 1 ≤ 9223372036854775807) (hbytes : (n + 1) * bytes ≤ 140737488355328)
    (h : ∀ g' cap' w', Own w' e g' cap' (n + 1) (fun j => if j = n then u else V j) → (g' = g ∨ w.heap.size ≤ g') → w.grownBy w' (some g) → K (a.put o.dst (.slice (some ⟨g', 0, none⟩) (n + 1) cap')) w') :
    if Region.wanted o (yielded ops a.tmps) = true then Oper.wp P o a (w.alloc (.cells #[u] e)) K Q else E := by
  have hw : Region.wanted o (yielded ops a.tmps) = true := by simp [Region.wanted, hgd]
  rw [if_pos hw]
  have hone : ∀ j, j < 1 → (w.alloc (.cells #[u] e)).cell? ⟨w.heap.size, 0 + j, none⟩ = some ((fun _ => u) j) := fun j hj => by
    obtain rfl : j = 0 := by omega
    simp
  obtain ⟨g', cap', w', hr, h2, h3, h4⟩ := run_app (P := P) (w.alloc (.cells #[u] e)) el o.type (hown.alloc _) w.heap.size 0 1 1 (fun _ => u) hone (fun _ _ => h1) h63 hbytes
  unfold Oper.wp execOp
  simp only [ho, resolve, invoke, builtin, Sem.run_bind, Sem.run_pure, Result.andThen_ok, List.map_toArray, List.map_cons, List.map_nil, hs, hx, hr, Oper.upon_value]
  refine h g' cap' w' (h2.congr fun j hj => ?_) ?_ ⟨h4.os, h4.tape, h4.output, Nat.le_trans (by simp) h4.size, fun k hk hne => (h4.block k (by simp; omega) hne).trans (Below.heap_alloc _ _ _ hk)⟩
  · by_cases e2 : j = n
    · subst e2; simp
    · rw [if_pos (by omega), if_neg e2]
  · rcases h3 with h3 | h3
    · exact Or.inl h3
    · right; rw [h3]; simp

theorem wrap_in (n : Int) (h : -9223372036854775808 ≤ n ∧ n ≤ 9223372036854775807) : IntKind.i64.wrap n = n := by rw [IntKind.wrap_i64]; omega
/-- small numbers -/
def Sm (n : Nat) (X : Nat → Int) : Prop := ∀ i, i < n → -1000 ≤ X i ∧ X i ≤ 1000
theorem InP.sm {p : Int} {n : Nat} {X : Nat → Int} (h : InP p n X) (hp : p ≤ 1000) : Sm n X := fun i hi => by have := h i hi; omega

theorem CopyI.ints {w w' : World} {e : Ending} {n : Nat} {X : Nat → Int} (h : CopyI w w' e n X) : ∃ v, e = .returned v ∧ Below w.heap.size w w' ∧ Ints w' v n X := by
  obtain ⟨g, c, rfl, _, hb, hO⟩ := h.out
  exact ⟨_, rfl, hb, hO.ints⟩
theorem CopyI.congr {w w' : World} {e : Ending} {n : Nat} {X Y : Nat → Int} (h : CopyI w w' e n X) (he : ∀ i, i < n → X i = Y i) : CopyI w w' e n Y := by
  obtain ⟨g, c, rfl, hg, hb, hO⟩ := h.out
  exact ⟨g, c, rfl, hg, hb, hO.congr fun i hi => by rw [he i hi]⟩

set_option maxHeartbeats 1000000 in
theorem iScaled_c (p : Int) (v : Value) (n : Nat) (X : Nat → Int) (k : Int) (w : World) (h : Ints w v n X) (hn : n ≤ 1048576) (h1 : 1 ≤ p) (h2 : p ≤ 1000) (hX : Sm n X) (hk : -1000 ≤ k ∧ k ≤ 1000) :
    Calls Try.prog 141 #[.int .i64 p, v, .int .i64 k] w fun e w' => CopyI w w' e n (fun i => (X i * k) % p) := by
  obtain ⟨ao, c, b, o, rfl, p2, p3, p4, p5⟩ := h.out
  have P5 := Lib.hid p5
  have HX := Lib.hid hX
  clear h p5 hX
  go_enter Try.func141, Try.ntmps141
  go_wp2
  go_loopg [7, 13] n (fun gg s i wr => ∃ j : Nat, j ≤ n ∧ gg = n - j ∧ i = .int .i64 j ∧ ∃ g2 c2, s = .slice (some ⟨g2, 0, none⟩) j c2 ∧ w.heap.size ≤ g2 ∧ Below w.heap.size w wr ∧ Own wr 2 g2 c2 j (fun i => .int .i64 ((X i * k) % p)))
  case atStart => exact ⟨0, Nat.zero_le _, rfl, rfl, _, _, rfl, Nat.le_refl _, (Below.refl _ _).alloc (Nat.le_refl _) _, Own.empty _ _ _⟩
  case round =>
    obtain ⟨j, hj, rfl, rfl, g2, c2, rfl, hg2, hb2, hO⟩ := hrel
    by_cases hlt : j < n
    · obtain rfl := p4 (by omega)
      have hm := mul_bd (HX.out j hlt) hk
      have e1 : wr.cell? ⟨b, o + j, none⟩ = some (.int .i64 (X j)) := by
        rw [hb2.cell (p := ⟨b, o + j, none⟩) (lt_of_cell (P5.out j hlt))]; exact P5.out j hlt
      go_wp2_with (first | (go_at_call 86; refine (iNum_c _ _ _ h1 h2 (by omega) (by omega)).mono ?_; rintro e w' ⟨rfl, rfl⟩) | (at_builtin; refine wpList_push _ rfl _ _ _ _ elI rfl hO (.int .i64 ((X j * k) % p)) rfl rfl rfl (by omega) (by omega) ?_; rotate_right; intro g3 c3 w3 hO3 hg3 hgr3))
      go_roundg (n - (j + 1))
      case measure => omega
      case rel =>
        have hlt4 := hb2.size
        refine ⟨j + 1, by omega, rfl, by go_num, g3, c3, rfl, by omega, hb2.grown hgr3 hlt4 (fun k e => by injection e with e; omega), hO3.congr fun i hi => ?_⟩
        by_cases e2 : i = j
        · subst e2; simp
        · simp [e2]
    · obtain rfl : j = n := by omega
      go_wp2
      go_ret
      exact ⟨g2, c2, rfl, hg2, hb2, hO⟩

set_option maxHeartbeats 1000000 in
theorem iPlus_c (p : Int) (v1 v2 : Value) (n m : Nat) (X Y : Nat → Int) (k : Int) (w : World) (h : Ints w v1 n X) (h' : Ints w v2 m Y) (hnm : n ≤ m) (hn : n ≤ 1048576) (h1 : 1 ≤ p) (h2 : p ≤ 1000) (hX : Sm n X) (hY : Sm m Y) (hk : -1000 ≤ k ∧ k ≤ 1000) :
    Calls Try.prog 143 #[.int .i64 p, v1, v2, .int .i64 k] w fun e w' => CopyI w w' e n (fun i => (X i + k * Y i) % p) := by
  obtain ⟨ao, c, b, o, rfl, p2, p3, p4, p5⟩ := h.out
  obtain ⟨ao', c', b', o', rfl, p2', p3', p4', p5'⟩ := h'.out
  have P5 := Lib.hid p5
  have P5' := Lib.hid p5'
  have HX := Lib.hid hX
  have HY := Lib.hid hY
  clear h p5 hX h' p5' hY
  go_enter Try.func143, Try.ntmps143
  go_wp2
  go_loopg [9, 15] n (fun gg s i wr => ∃ j : Nat, j ≤ n ∧ gg = n - j ∧ i = .int .i64 j ∧ ∃ g2 c2, s = .slice (some ⟨g2, 0, none⟩) j c2 ∧ w.heap.size ≤ g2 ∧ Below w.heap.size w wr ∧ Own wr 2 g2 c2 j (fun i => .int .i64 ((X i + k * Y i) % p)))
  case atStart => exact ⟨0, Nat.zero_le _, rfl, rfl, _, _, rfl, Nat.le_refl _, (Below.refl _ _).alloc (Nat.le_refl _) _, Own.empty _ _ _⟩
  case round =>
    obtain ⟨j, hj, rfl, rfl, g2, c2, rfl, hg2, hb2, hO⟩ := hrel
    by_cases hlt : j < n
    · obtain rfl := p4 (by omega)
      obtain rfl := p4' (by omega)
      have hm := mul_bd hk (HY.out j (by omega))
      have hx := HX.out j hlt
      have hjm : j < m := by omega
      have e1 : wr.cell? ⟨b, o + j, none⟩ = some (.int .i64 (X j)) := by
        rw [hb2.cell (p := ⟨b, o + j, none⟩) (lt_of_cell (P5.out j hlt))]; exact P5.out j hlt
      have e2 : wr.cell? ⟨b', o' + j, none⟩ = some (.int .i64 (Y j)) := by
        rw [hb2.cell (p := ⟨b', o' + j, none⟩) (lt_of_cell (P5'.out j hjm))]; exact P5'.out j hjm
      go_wp2_with (first | (go_at_call 86; refine (iNum_c _ _ _ h1 h2 (by omega) (by omega)).mono ?_; rintro e w' ⟨rfl, rfl⟩) | (at_builtin; refine wpList_push _ rfl _ _ _ _ elI rfl hO (.int .i64 ((X j + k * Y j) % p)) rfl rfl rfl (by omega) (by omega) ?_; rotate_right; intro g3 c3 w3 hO3 hg3 hgr3))
      go_roundg (n - (j + 1))
      case measure => omega
      case rel =>
        have hlt4 := hb2.size
        refine ⟨j + 1, by omega, rfl, by go_num, g3, c3, rfl, by omega, hb2.grown hgr3 hlt4 (fun k e => by injection e with e; omega), hO3.congr fun i hi => ?_⟩
        by_cases e2 : i = j
        · subst e2; simp
        · simp [e2]
    · obtain rfl : j = n := by omega
      go_wp2
      go_ret
      exact ⟨g2, c2, rfl, hg2, hb2, hO⟩

end Go.Proofs.Ytnkflgigbielgaa

/-
  The product of a doubling, in both programs. No condition beside sizes.
-/
set_option linter.unusedVariables false
set_option linter.unusedSimpArgs false
namespace Go.Proofs.Ytnkflgigbielgaa
open Go.RowKit

theorem heldD {w W W' : World} {a : Addr} {v : Value} (ha : a.block < w.heap.size) (hb : Below W.heap.size W W') (h : W.cell? a = some v ∧ Below w.heap.size w W) : W'.cell? a = some v ∧ Below w.heap.size w W' :=
  ⟨by rw [hb.cell (p := a) (by have := h.2.size; omega)]; exact h.1, h.2.trans (hb.mono h.2.size)⟩
theorem heldD0 {w : World} {a : Addr} {v : Value} (h : w.cell? a = some v) : w.drew.cell? a = some v ∧ Below w.heap.size w w.drew := ⟨by simpa using h, ⟨rfl, rfl, rfl, Nat.le_refl _, fun _ _ => rfl⟩⟩

theorem mulF_succ (p : Int) (s : Nat → Int) (k : Nat) (X Y : Nat → Int) (i : Nat) : mulF p s (k + 1) X Y i =
    if i < 2 ^ k then (mulF p s k X Y i + s k * mulF p s k (conjF p fun j => Y (2 ^ k + j)) (fun j => X (2 ^ k + j)) i) % p
    else (mulF p s k (fun j => Y (2 ^ k + j)) X (i - 2 ^ k) + mulF p s k (fun j => X (2 ^ k + j)) (conjF p Y) (i - 2 ^ k)) % p := rfl
theorem Own.cells0 {w : World} {e : TypeId} {g cap n : Nat} {V : Nat → Value} (h : Own w e g cap n V) : ∀ j, j < n → w.cell? ⟨g, 0 + j, none⟩ = some (V j) := fun j hj => by rw [Nat.zero_add]; exact h.cell hj
theorem ints_cut {w : World} {b o n m c l : Nat} {X : Nat → Int} (hl : l ≤ n) (hn : n ≤ c) (hc : c ≤ 9223372036854775807) (h : ∀ i, i < n → w.cell? ⟨b, o + i, none⟩ = some (.int .i64 (X i))) : Ints w (.slice (some ⟨b, o, none⟩) l c) l X :=
  ⟨_, c, b, o, rfl, by omega, hc, fun _ => rfl, fun i hi => h i (by omega)⟩
theorem ints_tail {w : World} {b o n c l : Nat} {X : Nat → Int} (hl : l ≤ n) (hn : n ≤ c) (hc : c ≤ 9223372036854775807) (h : ∀ i, i < n → w.cell? ⟨b, o + i, none⟩ = some (.int .i64 (X i))) : Ints w (.slice (some ⟨b, o + l, none⟩) (n - l) (c - l)) (n - l) (fun i => X (l + i)) :=
  ⟨_, c - l, b, o + l, rfl, by omega, by omega, fun _ => rfl, fun i hi => by rw [Nat.add_assoc]; exact h (l + i) (by omega)⟩

theorem InP.conj {p : Int} (hp : 0 < p) {n : Nat} {X : Nat → Int} (h : InP p n X) : InP p n (conjF p X) := conjF_in hp h

theorem sum_bd {p a b k : Int} (hp : 1 ≤ p) : 0 ≤ (a + k * b) % p ∧ (a + k * b) % p < p := mod_bd _ _ (by omega)

end Go.Proofs.Ytnkflgigbielgaa

/-
  Doublings: the test of a doubling and the code of elements, in both programs. No condition beside sizes.
-/
set_option linter.unusedVariables false
set_option linter.unusedSimpArgs false
namespace Go.Proofs.Ytnkflgigbielgaa
open Go.RowKit

/-- a box that holds a doubling, behind w -/
abbrev BoxD (w : World) (p : Int) (ao : Option Addr) (n c : Nat) (W : World) : Prop :=
  W.cell? ⟨w.heap.size, 0, none⟩ = some (.int .i64 p) ∧ W.cell? ⟨w.heap.size, 1, none⟩ = some (.slice ao n c) ∧ w.heap.size < W.heap.size ∧ Below w.heap.size w W
theorem boxKeep {w W W' : World} {p : Int} {ao : Option Addr} {n c : Nat} (hb : Below W.heap.size W W') (h : BoxD w p ao n c W) : BoxD w p ao n c W' :=
  ⟨by rw [hb.cell (p := ⟨w.heap.size, 0, none⟩) h.2.2.1]; exact h.1, by rw [hb.cell (p := ⟨w.heap.size, 1, none⟩) h.2.2.1]; exact h.2.1, by have := hb.size; have := h.2.2.1; omega, h.2.2.2.trans (hb.mono h.2.2.2.size)⟩
theorem box0 (w : World) (p : Int) (ao : Option Addr) (n c : Nat) (t : TypeId) : BoxD w p ao n c (w.alloc (.cells #[.int .i64 p, .slice ao n c] t)) :=
  ⟨by simp, by simp, by simp, (Below.refl _ _).alloc (Nat.le_refl _) _⟩
theorem boxDrew {w W : World} {p : Int} {ao : Option Addr} {n c : Nat} (h : BoxD w p ao n c W) : BoxD w p ao n c W.drew :=
  boxKeep (W := W) ⟨rfl, rfl, rfl, Nat.le_refl _, fun _ _ => rfl⟩ h

theorem idx_neg {f : Nat → Int} {x : Int} : ∀ {n : Nat}, ¬ 0 ≤ idx f x n → ∀ j, j < n → f j ≠ x
  | 0, _, j, hj => absurd hj (Nat.not_lt_zero _)
  | n + 1, h, j, hj => by
    simp only [idx] at h
    by_cases h0 : 0 ≤ idx f x n
    · rw [if_pos h0] at h; exact absurd h0 h
    · rw [if_neg h0] at h
      by_cases h1 : f n = x
      · rw [if_pos h1] at h; omega
      · by_cases e : j = n
        · subst e; exact h1
        · exact idx_neg h0 j (by omega)

theorem dblB_noPrime {p : Int} {n : Nat} {s : Nat → Int} (h : primeB p = false) : dblB p n s = false := by unfold dblB; rw [h]; rfl
theorem dblB_big {p : Int} {n : Nat} {s : Nat → Int} (h : ¬ n ≤ 4) : dblB p n s = false := by unfold dblB; rw [decide_eq_false h]; simp
theorem dblB_out {p : Int} {n : Nat} {s : Nat → Int} (h : inPB 1 p n s = false) : dblB p n s = false := by unfold dblB; rw [h]; simp
theorem dblB_yes {p : Int} {n : Nat} {s : Nat → Int} (h1 : primeB p = true) (h2 : n ≤ 4) (h3 : inPB 1 p n s = true) : dblB p n s = true := by unfold dblB; rw [h1, h3, decide_eq_true h2]; rfl
theorem inPB_step {p : Int} {n : Nat} {s : Nat → Int} : inPB 1 p n s = (inPB 0 p n s && !decide (0 ≤ idx s 0 n)) := by
  cases h : inPB 1 p n s
  · cases h0 : inPB 0 p n s
    · rfl
    · by_cases hc : 0 ≤ idx s 0 n
      · rw [decide_eq_true hc]; rfl
      · exfalso
        have h1 := of_decide_eq_true h0
        have h2 := idx_neg hc
        exact (of_decide_eq_false h) fun i hi => by have := h1 i hi; have := h2 i hi; omega
  · have h1 := of_decide_eq_true h
    rw [show inPB 0 p n s = true from decide_eq_true fun i hi => by have := h1 i hi; omega, idx_none (f := s) (x := 0) fun j hj => by have := h1 j hj; omega]
    rfl

theorem Calls.pure {P : Program} {f : FuncId} {args : Array Value} {w : World} {n : Nat} {v : Value}
    (h : Calls P f args (w.drewN n) fun e w' => e = .returned v ∧ w.drewN n = w') : Calls P f args (w.drewN n) fun e w'' => e = .returned v ∧ ∃ m, w'' = w.drewN m :=
  Calls.reads (h.mono fun e w' h => ⟨h.1, 0, h.2.symm⟩)

end Go.Proofs.Ytnkflgigbielgaa
