/-
  The dice of the laws: roll, below. No condition beside sizes.
-/
import Derived.Test.YtnkflgigbielgaaLD2
set_option linter.unusedVariables false
set_option linter.unusedSimpArgs false
namespace Go.Proofs.Ytnkflgigbielgaa
open Go.RowKit

/-- the source at block g -/
structure Dce (w : World) (g : Nat) (cv : Value) (n : Nat) : Prop where
  out : ∃ (k : Nat) (h : Int), k ≤ n ∧ Own w 91 g 3 3 (fun i => if i = 0 then cv else if i = 1 then .int .i64 k else .int .u64 h)
theorem Dce.lt {w : World} {g : Nat} {cv : Value} {n : Nat} (h : Dce w g cv n) : g < w.heap.size := by
  obtain ⟨k, x, h1, h2⟩ := h.out
  exact h2.lt
theorem Dce.kept {w w' : World} {g : Nat} {cv : Value} {n : Nat} (h : Dce w g cv n) (hb : Below w.heap.size w w') : Dce w' g cv n := by
  obtain ⟨k, x, h1, h2⟩ := h.out
  exact ⟨k, x, h1, h2.kept hb⟩
/-- a call that draws -/
structure Rolled (w w' : World) (g : Nat) (cv : Value) (n : Nat) : Prop where
  src : Dce w' g cv n
  chg : Chg w w' (· = g)

set_option maxRecDepth 100000 in
set_option maxHeartbeats 4000000 in
theorem below9_c (g n : Nat) (cv : Value) (B : Nat → Int) (m : Int) (w : World) (hs : Dce w g cv n) (hB : Byt w cv n B) (hm : -9223372036854775808 ≤ m ∧ m ≤ 9223372036854775807) :
    Calls Try.prog 18 #[.pointer (some ⟨g, 0, none⟩), .int .i64 m] w fun e w' => ∃ x : Int, e = .returned (.int .i64 x) ∧ (1 ≤ m → 0 ≤ x ∧ x < m) ∧ (m < 1 → x = 0) ∧ Rolled w w' g cv n := by
  obtain ⟨k, h, hk, hO⟩ := hs.out
  obtain ⟨ao, c, b, o, rfl, p2, p3, p4, p5⟩ := hB.out
  by_cases hm1 : m < 1
  · go_enter Try.func18, Try.ntmps18
    go_wp2
    go_ret
    exact ⟨0, rfl, fun h => absurd h (by omega), fun _ => rfl, ⟨k, h, hk, hO⟩, Chg.refl _ _⟩
  · have z0 := hO.cell (show 0 < 3 by omega)
    have z1 := hO.cell (show 1 < 3 by omega)
    have z2 := hO.cell (show 2 < 3 by omega)
    have zf := hO.frozen 2
    simp at z0 z1 z2
    go_enter Try.func18, Try.ntmps18
    go_wp2
    generalize IntKind.u64.wrap (IntKind.u64.wrap (h * 6364136223846793005) + 1442695040888963407) = hh
    have hx := and24 (hh / 8589934592)
    generalize bits .and .u64 (hh / 8589934592) 16777215 = x0 at hx ⊢
    have hw0 : wrap64 x0 = x0 := wrap64_in _ (by omega)
    rw [hw0]
    obtain ⟨w1, hw1⟩ : ∃ w1, w.setCell ⟨g, 2, none⟩ (.int .u64 hh) = w1 := ⟨_, rfl⟩
    have hO1 := hO.set 2 (.int .u64 hh)
    rw [hw1] at hO1 ⊢
    have z0 := hO1.cell (show 0 < 3 by omega)
    have z1 := hO1.cell (show 1 < 3 by omega)
    simp at z0 z1
    have hc1 : Chg w w1 (· = g) := by rw [← hw1]; exact (Chg.refl w (· = g)).setCell (a := ⟨g, 2, none⟩) rfl (.int .u64 hh)
    have hm0 : m ≠ 0 := by omega
    have hwx : IntKind.i64.wrap x0 = x0 := wrap_in' _ (by omega)
    clear hw1 z2 zf hw0 hs hB
    by_cases hkn : k < n
    · obtain ⟨y, hy⟩ : ∃ y, B k = y := ⟨_, rfl⟩
      have hb1 := p5 k hkn
      rw [hy] at hb1
      have hne : b ≠ g := src_ne hO (by simp) (by simp) (by simp) hb1.1
      have zb : w1.cell? ⟨b, o + k, none⟩ = some (.int .u8 y) := by rw [World.cell?_of_block (w := w) (hc1.block b (lt_of_cell hb1.1) hne)]; exact hb1.1
      obtain ⟨hby0, hby1⟩ := hb1.2
      obtain rfl := p4 (by omega)
      have hwy : IntKind.i64.wrap y = y := wrap_in' _ (by omega)
      have hws : IntKind.i64.wrap (x0 + y) = x0 + y := wrap_in' _ (by omega)
      have hwk : IntKind.i64.wrap ((k : Int) + 1) = (k : Int) + 1 := wrap_in' _ (by omega)
      have i0 : (0 : Int) ≤ (k : Int) := by omega
      have i1 : (k : Int) < (n : Int) := by omega
      have zf1 : ∀ q, (w1.drewN q).frozen? ⟨g, 1, none⟩ = false := fun q => (hO1.drewN q).frozen 1
      clear p5 hb1 hy
      have ht := tmod_in (x := x0 + y) (m := m) (by omega) hm1
      go_quiet (fail)
      go_wp2
      go_quiet (fail)
      go_wp2
      go_ret
      refine ⟨_, rfl, ?_, fun h => absurd h (by omega), ⟨k + 1, hh, by omega, ?_⟩, ?_⟩
      · rw [Int.tmod_eq_emod_of_nonneg (by omega)] at ht
        intros
        exact ht
      · exact ((hO1.drewN _).set 1 (.int .i64 ((k + 1 : Nat) : Int))).congr fun i hi => by
          have h3 : i = 0 ∨ i = 1 ∨ i = 2 := by omega
          rcases h3 with rfl | rfl | rfl <;> simp
      · exact hc1.trans ((Chg.of_below (below_drewN w1 _) (· = g)).setCell (a := ⟨g, 1, none⟩) rfl _)
    · have hkn2 : ¬ ((k : Int) < (n : Int)) := by omega
      have ht := tmod_in (x := x0) (m := m) (by omega) hm1
      clear p5
      go_quiet (fail)
      go_wp2
      go_ret
      refine ⟨_, rfl, ?_, fun h => absurd h (by omega), ⟨k, hh, by omega, ?_⟩, ?_⟩
      · rw [Int.tmod_eq_emod_of_nonneg (by omega)] at ht
        intros
        exact ht
      · exact (hO1.drewN _).congr fun i hi => by
          have h3 : i = 0 ∨ i = 1 ∨ i = 2 := by omega
          rcases h3 with rfl | rfl | rfl <;> simp
      · exact hc1.trans (Chg.of_below (below_drewN w1 _) _)

set_option maxRecDepth 100000 in
set_option maxHeartbeats 4000000 in
theorem roll_c (cv : Value) (n : Nat) (B : Nat → Int) (q : Int) (w : World) (hq : 0 ≤ q ∧ q ≤ 1000000) (hB : Byt w cv n B) :
    Calls Try.prog 16 #[cv, .int .u64 q] w fun e w' => ∃ g, e = .returned (.pointer (some ⟨g, 0, none⟩)) ∧ w.heap.size ≤ g ∧ Below w.heap.size w w' ∧ Dce w' g cv n := by
  obtain ⟨ao, c, b, o, rfl, p2, p3, p4, p5⟩ := hB.out
  have P5 := Lib.hid p5
  clear hB p5
  have hw1 : IntKind.u64.wrap (q * 7681) = q * 7681 := by rw [IntKind.wrap_u64]; omega
  have hw2 : IntKind.u64.wrap (q * 7681 + (n : Int)) = q * 7681 + (n : Int) := by rw [IntKind.wrap_u64]; omega
  have hw3 : IntKind.u64.wrap (n : Int) = (n : Int) := by rw [IntKind.wrap_u64]; omega
  go_enter Try.func16, Try.ntmps16
  go_wp2
  go_loopg [6] n (fun gg i wr => ∃ k : Nat, k ≤ n ∧ gg = n - k ∧ i = .int .i64 k ∧ Below w.heap.size w wr ∧ ∃ h : Int, Own wr 91 w.heap.size 3 3 (fun i => if i = 0 then .slice ao n c else if i = 1 then .int .i64 ((0 : Nat) : Int) else .int .u64 h))
  case atStart =>
    refine ⟨0, Nat.zero_le _, rfl, rfl, (Below.refl _ _).alloc (Nat.le_refl _) _, q * 7681 + (n : Int), Own.new w _ _ (fun i => if i = 0 then .slice ao n c else if i = 1 then .int .i64 ((0 : Nat) : Int) else .int .u64 (q * 7681 + (n : Int))) (by simp) fun i hi => ?_⟩
    have hi : i < 3 := by simpa using hi
    have h3 : i = 0 ∨ i = 1 ∨ i = 2 := by omega
    rcases h3 with rfl | rfl | rfl <;> rfl
  case round =>
    obtain ⟨k, hk, rfl, rfl, hb, h, hO⟩ := hrel
    have HO := Lib.hid hO
    have z2 := hO.cell (show 2 < 3 by omega)
    have zf := hO.frozen 2
    simp at z2
    clear hO
    by_cases hlt : k < n
    · skip
      · obtain ⟨y, hy⟩ : ∃ y, B k = y := ⟨_, rfl⟩
        have hb1 := P5.out k hlt
        rw [hy] at hb1
        obtain rfl := p4 (by omega)
        have zb : wr.cell? ⟨b, o + k, none⟩ = some (.int .u8 y) := by rw [hb.cell (p := ⟨b, o + k, none⟩) (lt_of_cell hb1.1)]; exact hb1.1
        have hwk : IntKind.i64.wrap ((k : Int) + 1) = (k : Int) + 1 := wrap_in' _ (by omega)
        have i0 : (0 : Int) ≤ (k : Int) := by omega
        have i1 : (k : Int) < (n : Int) := by omega
        clear hb1 hy
        go_wp2
        go_region_law (fail)
        all_goals go_wp2
        all_goals go_roundg (n - (k + 1))
        all_goals first
          | omega
          | exact ⟨k + 1, by omega, rfl, by go_num, (hb.setCell (p := ⟨w.heap.size, 2, none⟩) (Nat.le_refl _) _).trans ((drewB _).mono (by have := hb.size; simp [World.setCell]; omega)), _, src_set HO.out _⟩
    · obtain rfl : k = n := by omega
      go_wp2
      go_ret
      exact ⟨_, rfl, Nat.le_refl _, hb, ⟨0, h, Nat.zero_le _, HO.out⟩⟩

end Go.Proofs.Ytnkflgigbielgaa
