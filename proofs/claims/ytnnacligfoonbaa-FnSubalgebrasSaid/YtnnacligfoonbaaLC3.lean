/-
  Lists of numbers in the laws: zero9, add9, scale9. No condition beside sizes.
-/
import Derived.Test.YtnnacligfoonbaaLC2
import Derived.Test.YtnnacligfoonbaaDJ
set_option linter.unusedVariables false
set_option linter.unusedSimpArgs false
namespace Go.Proofs.Ytnnacligfoonbaa
open Go.RowKit

/-- every number of a list is 0 -/
def zeroB (n : Nat) (X : Nat → Int) : Bool := decide (∀ i, i < n → X i = 0)

set_option maxHeartbeats 400000 in
theorem zero9_c (v : Value) (n : Nat) (X : Nat → Int) (w : World) (h : Ints w v n X) :
    Calls Try.prog 42 #[v] w fun e w' => e = .returned (.bool (zeroB n X)) ∧ w = w' := by
  obtain ⟨ao, c, b, o, rfl, p2, p3, p4, p5⟩ := h.out
  have P5 := Lib.hid p5
  clear h p5
  go_enter Try.func42, Try.ntmps42
  go_wp2
  go_loopg [3] n (fun g i wr => w = wr ∧ ∃ k : Nat, k ≤ n ∧ g = n - k ∧ i = .int .i64 k ∧ ∀ j, j < k → X j = 0)
  case atStart => exact ⟨rfl, 0, Nat.zero_le _, rfl, rfl, fun j hj => absurd hj (Nat.not_lt_zero _)⟩
  case round =>
    obtain ⟨rfl, k, hk, rfl, rfl, hall⟩ := hrel
    have H := Lib.hid hall; clear hall
    by_cases hlt : k < n
    · obtain rfl := p4 (by omega)
      have e1 := P5.out k hlt
      by_cases hz : X k = 0
      · rw [hz] at e1
        go_wp2
        go_roundg (n - (k + 1))
        case measure => omega
        case rel => exact ⟨rfl, k + 1, by omega, rfl, by go_num, fun j hj => by
          by_cases e : j = k
          · subst e; exact hz
          · exact H.out j (by omega)⟩
      · have hne : (X k != 0) = true := by simpa using hz
        go_wp2
        go_ret
        exact ⟨ret_bool (decide_eq_false fun h => hz (h k hlt)).symm, rfl⟩
    · obtain rfl : k = n := by omega
      go_wp2
      go_ret
      exact ⟨ret_bool (decide_eq_true H.out).symm, rfl⟩

set_option maxRecDepth 100000 in
set_option maxHeartbeats 1000000 in
theorem add9_c (p : Int) (v1 v2 : Value) (n : Nat) (X Y : Nat → Int) (w : World) (h : Ints w v1 n X) (h' : Ints w v2 n Y) (hn : n ≤ 1048576) (h1 : 1 ≤ p) (h2 : p ≤ 1000) (hX : InP p n X) (hY : InP p n Y) :
    Calls Try.prog 43 #[.int .i64 p, v1, v2] w fun e w' => CopyI w w' e n (fun i => (X i + Y i) % p) := by
  obtain ⟨ao, c, b, o, rfl, p2, p3, p4, p5⟩ := h.out
  obtain ⟨ao', c', b', o', rfl, p2', p3', p4', p5'⟩ := h'.out
  have P5 := Lib.hid p5
  have P5' := Lib.hid p5'
  have HX := Lib.hid hX
  have HY := Lib.hid hY
  clear h p5 hX h' p5' hY
  go_enter Try.func43, Try.ntmps43
  go_wp2
  go_loopg [7, 8] n (fun gg s i wr => ∃ j : Nat, j ≤ n ∧ gg = n - j ∧ i = .int .i64 j ∧ ∃ g2 c2, s = .slice (some ⟨g2, 0, none⟩) j c2 ∧ w.heap.size ≤ g2 ∧ Below w.heap.size w wr ∧ Own wr 2 g2 c2 j (fun i => .int .i64 ((X i + Y i) % p)))
  case atStart => exact ⟨0, Nat.zero_le _, rfl, rfl, _, _, rfl, Nat.le_refl _, (Below.refl _ _).alloc (Nat.le_refl _) _, Own.empty _ _ _⟩
  case round =>
    obtain ⟨j, hj, rfl, rfl, g2, c2, rfl, hg2, hb2, hO⟩ := hrel
    by_cases hlt : j < n
    · obtain rfl := p4 (by omega)
      obtain rfl := p4' (by omega)
      have hy := HY.out j hlt
      have hx := HX.out j hlt
      have e1 : wr.cell? ⟨b, o + j, none⟩ = some (.int .i64 (X j)) := by
        rw [hb2.cell (p := ⟨b, o + j, none⟩) (lt_of_cell (P5.out j hlt))]; exact P5.out j hlt
      have e2 : wr.cell? ⟨b', o' + j, none⟩ = some (.int .i64 (Y j)) := by
        rw [hb2.cell (p := ⟨b', o' + j, none⟩) (lt_of_cell (P5'.out j hlt))]; exact P5'.out j hlt
      have hp0 : p ≠ 0 := by omega
      obtain ⟨z, hz⟩ : ∃ z, (X j + Y j) % p = z := ⟨_, rfl⟩
      obtain ⟨y, hy0⟩ : ∃ y, X j + Y j = y := ⟨_, rfl⟩
      have hwr : IntKind.i64.wrap (X j + Y j) = y := by rw [hy0]; exact wrap_in' _ (by omega)
      have ht : Int.tmod y p = z := by rw [← hz, hy0]; exact Int.tmod_eq_emod_of_nonneg (by omega)
      have hzb := mod_bd (X j + Y j) p (by omega)
      rw [hz] at hzb
      have hwz : IntKind.i64.wrap z = z := wrap_in' _ (by omega)
      have HZ := Lib.hid hz
      clear hz hy0
      go_wp2
      go_region_law (refine step_push rfl _ _ _ _ elI rfl (Own.drew hO) (.int .i64 z) rfl rfl rfl (by omega) (by omega) ?_; intro g3 c3 w3 hO3 hg3 hgr3)
      all_goals go_wp2
      all_goals go_roundg (n - (j + 1))
      all_goals first
        | omega
        | (have hlt4 := hb2.size
           have hgr4 : wr.grownBy w3 (some g2) := ⟨hgr3.os, hgr3.tape, hgr3.output, hgr3.size, hgr3.block⟩
           have hg4 : g3 = g2 ∨ wr.heap.size ≤ g3 := hg3
           refine ⟨j + 1, by omega, rfl, by go_num, g3, c3, rfl, by omega, hb2.grown hgr4 hlt4 (fun k e => by injection e with e; omega), hO3.congr fun i hi => ?_⟩
           by_cases e2 : i = j
           · subst e2; simp [HZ.out]
           · simp [e2])
    · obtain rfl : j = n := by omega
      go_wp2
      go_ret
      exact ⟨g2, c2, rfl, hg2, hb2, hO⟩

theorem tmod_neg_in {a p : Int} (hp : 1 ≤ p) : -p < a.tmod p ∧ a.tmod p < p ∧ (a.tmod p + p) % p = a % p := by
  have h1 := Int.tmod_lt_of_pos a (show 0 < p by omega)
  have h2 := Int.tmod_lt_of_pos (-a) (show 0 < p by omega)
  rw [Int.neg_tmod] at h2
  refine ⟨by omega, h1, ?_⟩
  have h3 : a = a.tmod p + p * a.tdiv p := (Int.tmod_add_mul_tdiv a p).symm
  rw [Int.add_emod_right]
  conv => rhs; rw [h3]
  rw [Int.add_mul_emod_self_left]

set_option maxRecDepth 100000 in
set_option maxHeartbeats 1000000 in
theorem scale9_c (p k : Int) (v1 : Value) (n : Nat) (X : Nat → Int) (w : World) (h : Ints w v1 n X) (hn : n ≤ 1048576) (h1 : 1 ≤ p) (h2 : p ≤ 1000) (hk : -1000 ≤ k ∧ k ≤ 1000) (hX : InP p n X) :
    Calls Try.prog 44 #[.int .i64 p, .int .i64 k, v1] w fun e w' => CopyI w w' e n (fun i => (k * X i) % p) := by
  obtain ⟨ao, c, b, o, rfl, p2, p3, p4, p5⟩ := h.out
  have P5 := Lib.hid p5
  have HX := Lib.hid hX
  clear h p5 hX
  go_enter Try.func44, Try.ntmps44
  go_wp2
  go_loopg [7, 8] n (fun gg s i wr => ∃ j : Nat, j ≤ n ∧ gg = n - j ∧ i = .int .i64 j ∧ ∃ g2 c2, s = .slice (some ⟨g2, 0, none⟩) j c2 ∧ w.heap.size ≤ g2 ∧ Below w.heap.size w wr ∧ Own wr 2 g2 c2 j (fun i => .int .i64 ((k * X i) % p)))
  case atStart => exact ⟨0, Nat.zero_le _, rfl, rfl, _, _, rfl, Nat.le_refl _, (Below.refl _ _).alloc (Nat.le_refl _) _, Own.empty _ _ _⟩
  case round =>
    obtain ⟨j, hj, rfl, rfl, g2, c2, rfl, hg2, hb2, hO⟩ := hrel
    by_cases hlt : j < n
    · obtain rfl := p4 (by omega)
      have hx := HX.out j hlt
      have e1 : wr.cell? ⟨b, o + j, none⟩ = some (.int .i64 (X j)) := by
        rw [hb2.cell (p := ⟨b, o + j, none⟩) (lt_of_cell (P5.out j hlt))]; exact P5.out j hlt
      have hp0 : p ≠ 0 := by omega
      have hm := mul_bd (a := k) (b := X j) (by omega) (by omega)
      obtain ⟨z, hz⟩ : ∃ z, (k * X j) % p = z := ⟨_, rfl⟩
      have hzb := mod_bd (k * X j) p (by omega)
      rw [hz] at hzb
      obtain ⟨y, hy0⟩ : ∃ y, k * X j = y := ⟨_, rfl⟩
      have hwr : IntKind.i64.wrap (k * X j) = y := by rw [hy0]; exact wrap_in' _ (by omega)
      obtain ⟨t1, t2, t3⟩ := tmod_neg_in (a := y) h1
      rw [hy0] at hz
      rw [hz] at t3
      obtain ⟨t, ht⟩ : ∃ t, y.tmod p = t := ⟨_, rfl⟩
      rw [ht] at t1 t2 t3
      obtain ⟨u, hu⟩ : ∃ u, t + p = u := ⟨_, rfl⟩
      have hwt : IntKind.i64.wrap t = t := wrap_in' _ (by omega)
      have hwu : IntKind.i64.wrap (t + p) = u := by rw [hu]; exact wrap_in' _ (by omega)
      rw [hu] at t3
      have hu0 : 0 ≤ u := by omega
      have hm2 : u.tmod p = z := by rw [Int.tmod_eq_emod_of_nonneg hu0]; exact t3
      have hwz : IntKind.i64.wrap z = z := wrap_in' _ (by omega)
      have HZ : Hid ((k * X j) % p = z) := by rw [hy0]; exact hz
      clear hz hy0 hu t3
      go_wp2_with (at_builtin; refine wpList_push _ rfl _ _ _ _ elI rfl hO (.int .i64 z) rfl rfl rfl (by omega) (by omega) ?_; intro g3 c3 w3 hO3 hg3 hgr3)
      go_roundg (n - (j + 1))
      case measure => omega
      case rel =>
        have hlt4 := hb2.size
        refine ⟨j + 1, by omega, rfl, by go_num, g3, c3, rfl, by omega, hb2.grown hgr3 hlt4 (fun k e => by injection e with e; omega), hO3.congr fun i hi => ?_⟩
        by_cases e2 : i = j
        · subst e2; simp [HZ.out]
        · simp [e2]
    · obtain rfl : j = n := by omega
      go_wp2
      go_ret
      exact ⟨g2, c2, rfl, hg2, hb2, hO⟩

end Go.Proofs.Ytnnacligfoonbaa
