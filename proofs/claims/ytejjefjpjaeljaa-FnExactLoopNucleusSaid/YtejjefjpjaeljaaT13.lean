/-
  A loop's table in memory; what the reference's functions compute of it. No condition beside sizes.
-/
import Derived.Test.YtejjefjpjaeljaaS13
set_option linter.unusedVariables false
set_option linter.unusedSimpArgs false
namespace Go.Proofs.Ytejjefjpjaeljaa
open Go.RowKit

structure LT (w : World) (v : Value) (G : Nat) (N : Nat → Nat → Nat) : Prop where
  out : ∃ (c b o : Nat) (C RB RO : Nat → Nat), v = .slice (some ⟨b, o, none⟩) G c ∧ G ≤ c ∧ c ≤ 9223372036854775807 ∧ (∀ i, i < G → w.cell? ⟨b, o + i, none⟩ = some (.slice (some ⟨RB i, RO i, none⟩) G (C i))) ∧ (∀ i, i < G → G ≤ C i ∧ C i ≤ 9223372036854775807) ∧
    (∀ i j, i < G → j < G → w.cell? ⟨RB i, RO i + j, none⟩ = some (.int .i64 (N i j))) ∧ 1 ≤ G ∧ G ≤ 128 ∧ ∀ i j, N i j < G

theorem Tab.lt {w : World} {v : Value} {G : Nat} {L : Nat → Nat} {T : Nat → Nat → Int} (h : Tab w v G L T) (hl : LoopOk G L T) : LT w v G (NT G T) := by
  obtain ⟨ao, c, b, o, A, C, RB, RO, rfl, p2, p3, p4, p5, p6, p7, p8⟩ := h.out
  have h1 := hl.pos
  obtain rfl := p4 (by omega)
  refine ⟨c, b, o, C, RB, RO, rfl, p2, p3, fun i hi => ?_, fun i hi => ?_, fun i j hi hj => ?_, h1, hl.max, fun i j => NT_lt h1 T i j⟩
  · rw [p5 i hi, hl.len i hi, p7 i hi (by rw [hl.len i hi]; omega)]
  · have := p6 i hi; rw [hl.len i hi] at this; exact this
  · rw [p8 i j hi (by rw [hl.len i hi]; exact hj), hl.nt hi hj]

theorem LT.drewN {w : World} {v : Value} {G : Nat} {N : Nat → Nat → Nat} (h : LT w v G N) (q : Nat) : LT (w.drewN q) v G N := by
  obtain ⟨c, b, o, C, RB, RO, p1, p2, p3, p4, p5, p6, p7⟩ := h.out
  exact ⟨c, b, o, C, RB, RO, p1, p2, p3, fun i hi => by simpa using p4 i hi, p5, fun i j hi hj => by simpa using p6 i j hi hj, p7⟩
theorem LT.below {w w' : World} {v : Value} {G : Nat} {N : Nat → Nat → Nat} (h : LT w v G N) (hb : Below w.heap.size w w') : LT w' v G N := by
  obtain ⟨c, b, o, C, RB, RO, p1, p2, p3, p4, p5, p6, p7⟩ := h.out
  exact ⟨c, b, o, C, RB, RO, p1, p2, p3, fun i hi => by rw [hb.cell (p := ⟨b, o + i, none⟩) (lt_of_cell (p4 i hi))]; exact p4 i hi, p5, fun i j hi hj => by rw [hb.cell (p := ⟨RB i, RO i + j, none⟩) (lt_of_cell (p6 i j hi hj))]; exact p6 i j hi hj, p7⟩
theorem LT.pos {w : World} {v : Value} {G : Nat} {N : Nat → Nat → Nat} (h : LT w v G N) : 1 ≤ G ∧ G ≤ 128 ∧ ∀ i j, N i j < G := by
  obtain ⟨c, b, o, C, RB, RO, p1, p2, p3, p4, p5, p6, p7⟩ := h.out
  exact p7

set_option maxHeartbeats 400000 in
theorem sAss_c (v : Value) (G : Nat) (N : Nat → Nat → Nat) (w : World) (h : LT w v G N) (x y z : Nat) (hx : x < G) (hy : y < G) (hz : z < G) :
    Calls Try.prog 65 #[v, .int .i64 x, .int .i64 y, .int .i64 z] w fun e w' => Reads w w' e (.bool (assB N x y z)) := by
  obtain ⟨c, b, o, C, RB, RO, rfl, p2, p3, p4, p5, p6, p7, p8, p9⟩ := h.out
  clear h p5
  go_enter Try.func65, Try.ntmps65
  go_wp2
  go_quiet (fail)
  go_wp2
  go_ret
  exact ⟨rfl, _, rfl⟩

set_option maxHeartbeats 400000 in
theorem sPairs_c (v : Value) (G : Nat) (N : Nat → Nat → Nat) (w : World) (h : LT w v G N) :
    Calls Try.prog 44 #[v] w fun e w' => Reads w w' e (.int .i64 (cnt2 G (comB N) G)) := by
  obtain ⟨c, b, o, C, RB, RO, rfl, p2, p3, p4, p5, p6, p7, p8, p9⟩ := h.out
  clear h p5
  go_enter Try.func44, Try.ntmps44
  go_wp2
  go_loopg [3, 4] G (fun g m i wr => ∃ x : Nat, x ≤ G ∧ g = G - x ∧ i = .int .i64 x ∧ m = .int .i64 (cnt2 G (comB N) x) ∧ ∃ q, wr = w.drewN q)
  case atStart => exact ⟨0, Nat.zero_le _, rfl, rfl, rfl, 0, rfl⟩
  case round =>
    obtain ⟨x, hx, rfl, rfl, rfl, q, rfl⟩ := hrel
    have c2 := cnt2_le G (comB N) x
    have c2' : x * G ≤ 128 * 128 := Nat.mul_le_mul (by omega) p8
    by_cases hlt : x < G
    · go_wp2
      go_loopg [3, 5] G (fun g m i wr => ∃ y : Nat, y ≤ G ∧ g = G - y ∧ i = .int .i64 y ∧ m = .int .i64 ((cnt2 G (comB N) x + cnt (comB N x) y : Nat) : Int) ∧ ∃ q, wr = w.drewN q)
      case atStart => exact ⟨0, Nat.zero_le _, rfl, rfl, rfl, q, rfl⟩
      case round =>
        obtain ⟨y, hy, rfl, rfl, rfl, q2, rfl⟩ := hrel
        have c1 := cnt_le (comB N x) y
        by_cases hlt2 : y < G
        · have hs : Hid (cnt (comB N x) (y + 1) = cnt (comB N x) y + if comB N x y then 1 else 0) := rfl
          go_wp2
          go_quiet (fail)
          cases hc : comB N x y
          · have hc' : ((N x y : Int) == (N y x : Int)) = false := hc
            go_wp2
            go_roundg (G - (y + 1))
            case measure => omega
            case rel => exact ⟨y + 1, by omega, rfl, by go_num, by rw [hs.out, hc]; simp, by first | exact ⟨_, rfl⟩ | exact ⟨_, World.drewN_drewN _ _ _⟩⟩
          · have hc' : ((N x y : Int) == (N y x : Int)) = true := hc
            go_wp2
            go_roundg (G - (y + 1))
            case measure => omega
            case rel => exact ⟨y + 1, by omega, rfl, by go_num, by rw [hs.out, hc]; simp; omega, by first | exact ⟨_, rfl⟩ | exact ⟨_, World.drewN_drewN _ _ _⟩⟩
        · obtain rfl : y = G := by omega
          have hs : Hid (cnt2 y (comB N) (x + 1) = cnt2 y (comB N) x + cnt (comB N x) y) := rfl
          go_wp2
          go_roundg (y - (x + 1))
          case measure => omega
          case rel => exact ⟨x + 1, by omega, rfl, by go_num, by rw [hs.out], by first | exact ⟨_, rfl⟩ | exact ⟨_, World.drewN_drewN _ _ _⟩⟩
    · obtain rfl : x = G := by omega
      go_wp2
      go_ret
      exact ⟨rfl, _, rfl⟩

end Go.Proofs.Ytejjefjpjaeljaa
