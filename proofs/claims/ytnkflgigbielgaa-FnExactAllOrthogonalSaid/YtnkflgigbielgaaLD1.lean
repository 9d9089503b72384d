/-
  The draws' source: numbers that follow from a code. No condition beside sizes.
-/
import Derived.Test.YtnkflgigbielgaaDW
import Derived.Deep.RegionLaw
import Derived.Deep.DeepMust
set_option linter.unusedVariables false
set_option linter.unusedSimpArgs false
namespace Go.Proofs.Ytnkflgigbielgaa
open Go.RowKit

/-- a slice of bytes that is read -/
structure Byt (w : World) (v : Value) (n : Nat) (B : Nat → Int) : Prop where
  out : ∃ ao c b o, v = .slice ao n c ∧ n ≤ c ∧ c ≤ 9223372036854775807 ∧ (0 < n → ao = some ⟨b, o, none⟩) ∧ ∀ i, i < n → w.cell? ⟨b, o + i, none⟩ = some (.int .u8 (B i)) ∧ 0 ≤ B i ∧ B i ≤ 255
theorem Byt.below {w w' : World} {v : Value} {n : Nat} {B : Nat → Int} (h : Byt w v n B) (hb : Below w.heap.size w w') : Byt w' v n B := by
  obtain ⟨ao, c, b, o, h1, h2, h3, h4, h5⟩ := h.out
  exact ⟨ao, c, b, o, h1, h2, h3, h4, fun i hi => ⟨by rw [hb.cell (p := ⟨b, o + i, none⟩) (lt_of_cell (h5 i hi).1)]; exact (h5 i hi).1, (h5 i hi).2⟩⟩
/-- the source at block g -/
structure Src (w : World) (g : Nat) (cv : Value) (n : Nat) : Prop where
  out : ∃ (k : Nat) (h : Int), k ≤ n ∧ Own w 117 g 3 3 (fun i => if i = 0 then cv else if i = 1 then .int .i64 k else .int .u64 h)
theorem Src.lt {w : World} {g : Nat} {cv : Value} {n : Nat} (h : Src w g cv n) : g < w.heap.size := by
  obtain ⟨k, x, h1, h2⟩ := h.out
  exact h2.lt
theorem Src.kept {w w' : World} {g : Nat} {cv : Value} {n : Nat} (h : Src w g cv n) (hb : Below w.heap.size w w') : Src w' g cv n := by
  obtain ⟨k, x, h1, h2⟩ := h.out
  exact ⟨k, x, h1, h2.kept hb⟩
/-- a call that draws -/
structure Drew (w w' : World) (g : Nat) (cv : Value) (n : Nat) : Prop where
  src : Src w' g cv n
  chg : Chg w w' (· = g)

theorem wrap64_in (n : Int) (h : -9223372036854775808 ≤ n ∧ n ≤ 9223372036854775807) : wrap64 n = n := by unfold wrap64; omega
theorem wrap_in' (n : Int) (h : -9223372036854775808 ≤ n ∧ n ≤ 9223372036854775807) : IntKind.i64.wrap n = n := by rw [IntKind.wrap_i64]; omega
theorem and24 (x : Int) : 0 ≤ bits .and .u64 x 16777215 ∧ bits .and .u64 x 16777215 ≤ 16777215 := by
  have hb : IntKind.u64.bits = 64 := rfl
  unfold bits
  simp only
  have h1 : (BitVec.ofInt IntKind.u64.bits x &&& BitVec.ofInt IntKind.u64.bits 16777215).toNat ≤ 16777215 := by
    rw [BitVec.toNat_and]
    refine Nat.le_trans Nat.and_le_right ?_
    decide
  generalize (BitVec.ofInt IntKind.u64.bits x &&& BitVec.ofInt IntKind.u64.bits 16777215).toNat = y at h1
  have h2 : IntKind.u64.wrap (y : Int) = y := by rw [IntKind.wrap_u64]; omega
  rw [h2]; omega
theorem big_c (v : Value) (n : Nat) (B : Nat → Int) (w : World) (h : Byt w v n B) : Calls Try.prog 10 #[v] w fun e w' => e = .returned (.bool (decide (4096 < n))) ∧ w = w' := by
  obtain ⟨ao, c, b, o, rfl, p2, p3, _⟩ := h.out
  go_enter Try.func10, Try.ntmps10
  go_wp2
  go_ret
  exact ⟨ret_bool (by simp; omega), rfl⟩

theorem src_ne {w : World} {e : TypeId} {g b i : Nat} {v0 v1 v2 : Value} {x : Int} (hO : Own w e g 3 3 (fun i => if i = 0 then v0 else if i = 1 then v1 else v2)) (h0 : v0 ≠ .int .u8 x) (h1 : v1 ≠ .int .u8 x) (h2 : v2 ≠ .int .u8 x) (hc : w.cell? ⟨b, i, none⟩ = some (.int .u8 x)) : b ≠ g := by
  rintro rfl
  obtain ⟨cur, q1, q2, q3⟩ := hO.out
  have hi : i < 3 := by
    by_cases e : i < 3
    · exact e
    · have h5 : cur[i]? = none := Array.getElem?_eq_none (by omega)
      simp [World.cell?, q1, h5] at hc
  have := hO.cell hi
  rw [hc] at this
  injection this with this
  have h3 : i = 0 ∨ i = 1 ∨ i = 2 := by omega
  rcases h3 with rfl | rfl | rfl
  · exact h0 this.symm
  · exact h1 this.symm
  · exact h2 this.symm
theorem tmod_in {x m : Int} (hx : 0 ≤ x) (hm : 1 ≤ m) : 0 ≤ x.tmod m ∧ x.tmod m < m := by
  rw [Int.tmod_eq_emod_of_nonneg hx]
  exact ⟨Int.emod_nonneg _ (by omega), Int.emod_lt_of_pos _ (by omega)⟩

set_option maxRecDepth 100000 in
set_option maxHeartbeats 4000000 in
theorem sNext_c (g n : Nat) (cv : Value) (B : Nat → Int) (m : Int) (w : World) (hs : Src w g cv n) (hB : Byt w cv n B) (hm : -9223372036854775808 ≤ m ∧ m ≤ 9223372036854775807) :
    Calls Try.prog 124 #[.pointer (some ⟨g, 0, none⟩), .int .i64 m] w fun e w' => ∃ x : Int, e = .returned (.int .i64 x) ∧ (1 ≤ m → 0 ≤ x ∧ x < m) ∧ (m < 1 → x = 0) ∧ Drew w w' g cv n := by
  obtain ⟨k, h, hk, hO⟩ := hs.out
  obtain ⟨ao, c, b, o, rfl, p2, p3, p4, p5⟩ := hB.out
  by_cases hm1 : m < 1
  · go_enter Try.func124, Try.ntmps124
    go_wp2
    go_ret
    exact ⟨0, rfl, fun h => absurd h (by omega), fun _ => rfl, ⟨k, h, hk, hO⟩, Chg.refl _ _⟩
  · have z0 := hO.cell (show 0 < 3 by omega)
    have z1 := hO.cell (show 1 < 3 by omega)
    have z2 := hO.cell (show 2 < 3 by omega)
    have zf := hO.frozen 2
    simp at z0 z1 z2
    go_enter Try.func124, Try.ntmps124
    go_wp2
    generalize IntKind.u64.wrap (IntKind.u64.wrap (h * 6364136223846793005) + 1442695040888963407) = hh
    have hx := and24 (hh / 8589934592)
    generalize bits .and .u64 (hh / 8589934592) 16777215 = x0 at hx ⊢
    have hw0 : wrap64 x0 = x0 := wrap64_in _ (by omega)
    rw [hw0]
    obtain ⟨w1, hw1⟩ : ∃ w1, w.setCell ⟨g, 2, none⟩ (.int .u64 hh) = w1 := ⟨_, rfl⟩
    have hO1 := hO.set 2 (.int .u64 hh)
    rw [hw1] at hO1 ⊢
    have z0 := hO1.cell (show 0 < 3 by omega)
    have z1 := hO1.cell (show 1 < 3 by omega)
    simp at z0 z1
    have hc1 : Chg w w1 (· = g) := by rw [← hw1]; exact (Chg.refl w (· = g)).setCell (a := ⟨g, 2, none⟩) rfl (.int .u64 hh)
    have hm0 : m ≠ 0 := by omega
    have hwx : IntKind.i64.wrap x0 = x0 := wrap_in' _ (by omega)
    clear hw1 z2 zf hw0 hs hB
    by_cases hkn : k < n
    · obtain ⟨y, hy⟩ : ∃ y, B k = y := ⟨_, rfl⟩
      have hb1 := p5 k hkn
      rw [hy] at hb1
      have hne : b ≠ g := src_ne hO (by simp) (by simp) (by simp) hb1.1
      have zb : w1.cell? ⟨b, o + k, none⟩ = some (.int .u8 y) := by rw [World.cell?_of_block (w := w) (hc1.block b (lt_of_cell hb1.1) hne)]; exact hb1.1
      obtain ⟨hby0, hby1⟩ := hb1.2
      obtain rfl := p4 (by omega)
      have hwy : IntKind.i64.wrap y = y := wrap_in' _ (by omega)
      have hws : IntKind.i64.wrap (x0 + y) = x0 + y := wrap_in' _ (by omega)
      have hwk : IntKind.i64.wrap ((k : Int) + 1) = (k : Int) + 1 := wrap_in' _ (by omega)
      have i0 : (0 : Int) ≤ (k : Int) := by omega
      have i1 : (k : Int) < (n : Int) := by omega
      have zf1 : ∀ q, (w1.drewN q).frozen? ⟨g, 1, none⟩ = false := fun q => (hO1.drewN q).frozen 1
      clear p5 hb1 hy
      have ht := tmod_in (x := x0 + y) (m := m) (by omega) hm1
      go_quiet (fail)
      go_wp2
      go_quiet (fail)
      go_wp2
      go_ret
      refine ⟨_, rfl, ?_, fun h => absurd h (by omega), ⟨k + 1, hh, by omega, ?_⟩, ?_⟩
      · rw [Int.tmod_eq_emod_of_nonneg (by omega)] at ht
        intros
        exact ht
      · exact ((hO1.drewN _).set 1 (.int .i64 ((k + 1 : Nat) : Int))).congr fun i hi => by
          have h3 : i = 0 ∨ i = 1 ∨ i = 2 := by omega
          rcases h3 with rfl | rfl | rfl <;> simp
      · exact hc1.trans ((Chg.of_below (below_drewN w1 _) (· = g)).setCell (a := ⟨g, 1, none⟩) rfl _)
    · have hkn2 : ¬ ((k : Int) < (n : Int)) := by omega
      have ht := tmod_in (x := x0) (m := m) (by omega) hm1
      clear p5
      go_quiet (fail)
      go_wp2
      go_ret
      refine ⟨_, rfl, ?_, fun h => absurd h (by omega), ⟨k, hh, by omega, ?_⟩, ?_⟩
      · rw [Int.tmod_eq_emod_of_nonneg (by omega)] at ht
        intros
        exact ht
      · exact (hO1.drewN _).congr fun i hi => by
          have h3 : i = 0 ∨ i = 1 ∨ i = 2 := by omega
          rcases h3 with rfl | rfl | rfl <;> simp
      · exact hc1.trans (Chg.of_below (below_drewN w1 _) _)

end Go.Proofs.Ytnkflgigbielgaa
