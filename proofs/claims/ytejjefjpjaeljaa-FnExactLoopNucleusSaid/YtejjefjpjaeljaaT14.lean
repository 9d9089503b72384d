/-
  What the reference's functions on loops compute: triples, order, inverse, nucleus. No condition beside sizes.
-/
import Derived.Test.YtejjefjpjaeljaaT13
set_option linter.unusedVariables false
set_option linter.unusedSimpArgs false
namespace Go.Proofs.Ytejjefjpjaeljaa
open Go.RowKit

theorem Calls.reads' {P : Program} {f : FuncId} {args : Array Value} {w wr : World} {v : Value} (h : Calls P f args w fun e w' => Reads w w' e v) (R : Ending → World → Prop) (hR : ∀ q, R (.returned v) (w.drewN q)) : Calls P f args w R :=
  h.mono fun e w' h => by obtain ⟨rfl, q, rfl⟩ := h.out; exact hR q

set_option maxHeartbeats 800000 in
theorem sTriples_c (v : Value) (G : Nat) (N : Nat → Nat → Nat) (w : World) (h : LT w v G N) :
    Calls Try.prog 52 #[v] w fun e w' => Reads w w' e (.int .i64 (cnt3 G (assB N) G)) := by
  have hLT := fun q => h.drewN q
  obtain ⟨c, b, o, C, RB, RO, rfl, p2, p3, p4, p5, p6, p7, p8, p9⟩ := h.out
  have H := Lib.hid hLT
  clear h p5 p4 p6 p9 hLT
  go_enter Try.func52, Try.ntmps52
  go_wp2
  go_loopg [4, 5] G (fun g m i wr => ∃ x : Nat, x ≤ G ∧ g = G - x ∧ i = .int .i64 x ∧ m = .int .i64 (cnt3 G (assB N) x) ∧ ∃ q, wr = w.drewN q)
  case atStart => exact ⟨0, Nat.zero_le _, rfl, rfl, rfl, 0, rfl⟩
  case round =>
    obtain ⟨x, hx, rfl, rfl, rfl, q, rfl⟩ := hrel
    have c3 := cnt3_le G (assB N) x
    have c0' : G * G ≤ 128 * 128 := Nat.mul_le_mul p8 p8
    have c3' : x * (G * G) ≤ 128 * (128 * 128) := Nat.mul_le_mul (by omega) c0'
    by_cases hlt : x < G
    · go_wp2
      go_loopg [4, 6] G (fun g m i wr => ∃ y : Nat, y ≤ G ∧ g = G - y ∧ i = .int .i64 y ∧ m = .int .i64 ((cnt3 G (assB N) x + cnt2 G (assB N x) y : Nat) : Int) ∧ ∃ q, wr = w.drewN q)
      case atStart => exact ⟨0, Nat.zero_le _, rfl, rfl, rfl, q, rfl⟩
      case round =>
        obtain ⟨y, hy, rfl, rfl, rfl, q2, rfl⟩ := hrel
        have c2 := cnt2_le G (assB N x) y
        have c2' : y * G ≤ 128 * 128 := Nat.mul_le_mul (by omega) p8
        by_cases hlt2 : y < G
        · go_wp2
          go_loopg [4, 7] G (fun g m i wr => ∃ z : Nat, z ≤ G ∧ g = G - z ∧ i = .int .i64 z ∧ m = .int .i64 ((cnt3 G (assB N) x + cnt2 G (assB N x) y + cnt (assB N x y) z : Nat) : Int) ∧ ∃ q, wr = w.drewN q)
          case atStart => exact ⟨0, Nat.zero_le _, rfl, rfl, rfl, q2, rfl⟩
          case round =>
            obtain ⟨z, hz, rfl, rfl, rfl, q3, rfl⟩ := hrel
            have c1 := cnt_le (assB N x y) z
            by_cases hlt3 : z < G
            · have hs : Hid (cnt (assB N x y) (z + 1) = cnt (assB N x y) z + if assB N x y z then 1 else 0) := rfl
              go_wp2_with fail
              refine Calls.reads' (wr := w) (sAss_c _ _ _ _ (H.out _) x y z hlt hlt2 hlt3) _ fun q4 => ?_
              cases hc : assB N x y z
              · go_wp2
                go_roundg (G - (z + 1))
                case measure => omega
                case rel => exact ⟨z + 1, by omega, rfl, by go_num, by rw [hs.out, hc]; simp, by first | exact ⟨_, rfl⟩ | exact ⟨_, World.drewN_drewN _ _ _⟩⟩
              · go_wp2
                go_roundg (G - (z + 1))
                case measure => omega
                case rel => exact ⟨z + 1, by omega, rfl, by go_num, by rw [hs.out, hc]; simp; omega, by first | exact ⟨_, rfl⟩ | exact ⟨_, World.drewN_drewN _ _ _⟩⟩
            · obtain rfl : z = G := by omega
              have hs : Hid (cnt2 z (assB N x) (y + 1) = cnt2 z (assB N x) y + cnt (assB N x y) z) := rfl
              go_wp2
              go_roundg (z - (y + 1))
              case measure => omega
              case rel => exact ⟨y + 1, by omega, rfl, by go_num, by rw [hs.out]; simp; omega, by first | exact ⟨_, rfl⟩ | exact ⟨_, World.drewN_drewN _ _ _⟩⟩
        · obtain rfl : y = G := by omega
          have hs : Hid (cnt3 y (assB N) (x + 1) = cnt3 y (assB N) x + cnt2 y (assB N x) y) := rfl
          go_wp2
          go_roundg (y - (x + 1))
          case measure => omega
          case rel => exact ⟨x + 1, by omega, rfl, by go_num, by rw [hs.out], by first | exact ⟨_, rfl⟩ | exact ⟨_, World.drewN_drewN _ _ _⟩⟩
    · obtain rfl : x = G := by omega
      go_wp2
      go_ret
      exact ⟨rfl, _, rfl⟩

/-- a number and a code -/
def rI (ok : Bool) (x : Int) : Value := if ok then .tuple #[.int .i64 x, .int .i64 0] else .tuple #[.int .i64 0, .int .i64 1]
/-- a bool and a code -/
def rB (ok : Bool) (x : Bool) : Value := if ok then .tuple #[.bool x, .int .i64 0] else .tuple #[.bool false, .int .i64 1]

theorem ret_v {a b : Value} (h : a = b) : Ending.returned a = .returned b := by rw [h]

theorem Calls.makes' {P : Program} {f : FuncId} {args : Array Value} {w : World} {v : Value} (h : Calls P f args w fun e w' => Makes w w' e v) (R : Ending → World → Prop) (hR : ∀ w', Below w.heap.size w w' → R (.returned v) w') : Calls P f args w R :=
  h.mono fun e w' h => by obtain ⟨rfl, hb⟩ := h.out; exact hR w' hb

theorem Reads.below {w w' : World} {q : Nat} (h : Below w.heap.size w w') : Below w.heap.size w (w'.drewN q) := ⟨h.os, h.tape, h.output, h.size, h.block⟩

set_option maxHeartbeats 400000 in
theorem sCountComm_c (v : Value) (G : Nat) (L : Nat → Nat) (T : Nat → Nat → Int) (w : World) (h : Tab w v G L T) :
    Calls Try.prog 17 #[v] w fun e w' => Makes w w' e (rI (loopB G L T) (cnt2 G (comB (NT G T)) G)) := by
  cases hl : loopB G L T
  · go_enter Try.func17, Try.ntmps17
    go_wp2_with fail
    refine Calls.makes' (sIs_c _ _ _ _ _ h) _ fun w1 hb => ?_
    rw [hl]
    go_wp2
    go_ret2
    exact ⟨rfl, hb⟩
  · have hlt := h.lt (loopB_ok hl)
    go_enter Try.func17, Try.ntmps17
    go_wp2_with fail
    refine Calls.makes' (sIs_c _ _ _ _ _ h) _ fun w1 hb => ?_
    rw [hl]
    go_wp2_with fail
    refine Calls.reads' (wr := w) (sPairs_c _ _ _ _ (hlt.below hb)) _ fun q => ?_
    go_wp2
    go_ret2
    exact ⟨rfl, Reads.below hb⟩

set_option maxHeartbeats 400000 in
theorem sCountAss_c (v : Value) (G : Nat) (L : Nat → Nat) (T : Nat → Nat → Int) (w : World) (h : Tab w v G L T) :
    Calls Try.prog 27 #[v] w fun e w' => Makes w w' e (rI (loopB G L T) (cnt3 G (assB (NT G T)) G)) := by
  cases hl : loopB G L T
  · go_enter Try.func27, Try.ntmps27
    go_wp2_with fail
    refine Calls.makes' (sIs_c _ _ _ _ _ h) _ fun w1 hb => ?_
    rw [hl]
    go_wp2
    go_ret2
    exact ⟨rfl, hb⟩
  · have hlt := h.lt (loopB_ok hl)
    go_enter Try.func27, Try.ntmps27
    go_wp2_with fail
    refine Calls.makes' (sIs_c _ _ _ _ _ h) _ fun w1 hb => ?_
    rw [hl]
    go_wp2_with fail
    refine Calls.reads' (wr := w) (sTriples_c _ _ _ _ (hlt.below hb)) _ fun q => ?_
    go_wp2
    go_ret2
    exact ⟨rfl, Reads.below hb⟩

end Go.Proofs.Ytejjefjpjaeljaa
