/-
  What the program's functions on loops compute: triples. No condition beside sizes.
-/
import Derived.Test.YtejjefjpjaeljaaI15
set_option linter.unusedVariables false
set_option linter.unusedSimpArgs false
namespace Go.Proofs.Ytejjefjpjaeljaa
open Go.RowKit

set_option maxHeartbeats 1000000 in
/-- loopTriples with a test that makes memory and turns none. -/
theorem iTriples_c (f : FuncId) (hcf : ∀ (a : Array Value) (W : World), (callFunc f a).run Try.prog W = .ok (.enter f a) W) (cp : Value) (ao : Option Addr) (G c : Nat) (hG : G ≤ 128) (p : Nat → Nat → Nat → Bool) (w : World)
    (hf : ∀ x y z : Nat, x < G → y < G → z < G → ∀ W, Below w.heap.size w W → Calls Try.prog f #[.int .i64 x, .int .i64 y, .int .i64 z, cp] W fun e W' => Makes W W' e (.bool (p x y z))) :
    Calls Try.prog 46 #[.slice ao G c, .func (.func f) #[] #[cp]] w fun e w' => Makes w w' e (.bool (all3 G p)) := by
  have HF := Lib.hid hf
  clear hf
  go_enter Try.func46, Try.ntmps46
  go_wp2_with (go_at_call 49; refine (iLenR_c _ _ _ _ (by omega)).mono ?_; rintro e w' ⟨rfl, rfl⟩)
  go_loopg [10] G (fun g i wr => ∃ x : Nat, x ≤ G ∧ g = G - x ∧ i = .int .i64 x ∧ Below w.heap.size w wr ∧ ∀ x' y z, x' < x → y < G → z < G → p x' y z = true)
  case atStart => exact ⟨0, Nat.zero_le _, rfl, rfl, Below.refl _ _, fun x' _ _ h => absurd h (Nat.not_lt_zero _)⟩
  case round =>
    obtain ⟨x, hx, rfl, rfl, hb, hall⟩ := hrel
    have HX := Lib.hid hall; clear hall
    by_cases hlt1 : x < G
    · go_wp2_with (go_at_call 49; refine (iLenR_c _ _ _ _ (by omega)).mono ?_; rintro e w' ⟨rfl, rfl⟩)
      go_loopg [15] G (fun g i wr => ∃ y : Nat, y ≤ G ∧ g = G - y ∧ i = .int .i64 y ∧ Below w.heap.size w wr ∧ ∀ y' z, y' < y → z < G → p x y' z = true)
      case atStart => exact ⟨0, Nat.zero_le _, rfl, rfl, hb, fun x' _ h => absurd h (Nat.not_lt_zero _)⟩
      case round =>
        obtain ⟨y, hy, rfl, rfl, hb, hall⟩ := hrel
        have HY := Lib.hid hall; clear hall
        by_cases hlt2 : y < G
        · go_wp2_with (go_at_call 49; refine (iLenR_c _ _ _ _ (by omega)).mono ?_; rintro e w' ⟨rfl, rfl⟩)
          go_loopg [20] G (fun g i wr => ∃ z : Nat, z ≤ G ∧ g = G - z ∧ i = .int .i64 z ∧ Below w.heap.size w wr ∧ ∀ z', z' < z → p x y z' = true)
          case atStart => exact ⟨0, Nat.zero_le _, rfl, rfl, hb, fun x' h => absurd h (Nat.not_lt_zero _)⟩
          case round =>
            obtain ⟨z, hz, rfl, rfl, hb, hall⟩ := hrel
            have HZ := Lib.hid hall; clear hall
            by_cases hlt3 : z < G
            · have hbs := hb.size
              go_wp2_with fail
              refine Calls.makes' (HF.out x y z hlt1 hlt2 hlt3 _ hb) _ fun w1 hb1 => ?_
              have hb2 := hb.trans (hb1.mono hbs)
              cases hc : p x y z
              · go_wp2
                go_ret
                exact ⟨ret_bool (all3_false hlt1 hlt2 hlt3 hc).symm, hb2⟩
              · go_wp2
                go_roundg (G - (z + 1))
                case measure => omega
                case rel => exact ⟨z + 1, by omega, rfl, by go_num, hb2, fun z' hz' => by
                  by_cases e : z' = z
                  · subst e; exact hc
                  · exact HZ.out z' (by omega)⟩
            · obtain rfl : z = G := by omega
              go_wp2
              go_roundg (z - (y + 1))
              case measure => omega
              case rel => exact ⟨y + 1, by omega, rfl, by go_num, hb, fun y' z' hy' hz' => by
                by_cases e : y' = y
                · subst e; exact HZ.out z' hz'
                · exact HY.out y' z' (by omega) hz'⟩
        · obtain rfl : y = G := by omega
          go_wp2
          go_roundg (y - (x + 1))
          case measure => omega
          case rel => exact ⟨x + 1, by omega, rfl, by go_num, hb, fun x' y' z' hx' hy' hz' => by
            by_cases e : x' = x
            · subst e; exact HY.out y' z' hy' hz'
            · exact HX.out x' y' z' (by omega) hy' hz'⟩
    · obtain rfl : x = G := by omega
      go_wp2
      go_ret
      exact ⟨ret_bool (all3_true HX.out).symm, hb⟩

set_option maxHeartbeats 1000000 in
/-- loopTriples with a test that is always true, and that counts. -/
theorem iTriplesCount_c (f : FuncId) (hcf : ∀ (a : Array Value) (W : World), (callFunc f a).run Try.prog W = .ok (.enter f a) W) (c1 c2 : Value) (ao : Option Addr) (G c : Nat) (hG : G ≤ 128) (p : Nat → Nat → Nat → Bool) (I : Nat → World → Prop) (w : World) (hI : I 0 w)
    (hf : ∀ x y z m : Nat, x < G → y < G → z < G → m ≤ 4194304 → ∀ W, I m W → Calls Try.prog f #[.int .i64 x, .int .i64 y, .int .i64 z, c1, c2] W fun e W' => e = .returned (.bool true) ∧ I (m + if p x y z then 1 else 0) W') :
    Calls Try.prog 46 #[.slice ao G c, .func (.func f) #[] #[c1, c2]] w fun e w' => e = .returned (.bool true) ∧ I (cnt3 G p G) w' := by
  have HF := Lib.hid hf
  have c0' : G * G ≤ 128 * 128 := Nat.mul_le_mul hG hG
  clear hf
  go_enter Try.func46, Try.ntmps46
  go_wp2_with (go_at_call 49; refine (iLenR_c _ _ _ _ (by omega)).mono ?_; rintro e w' ⟨rfl, rfl⟩)
  go_loopg [10] G (fun g i wr => ∃ x : Nat, x ≤ G ∧ g = G - x ∧ i = .int .i64 x ∧ I (cnt3 G p x) wr)
  case atStart => exact ⟨0, Nat.zero_le _, rfl, rfl, hI⟩
  case round =>
    obtain ⟨x, hx, rfl, rfl, hI1⟩ := hrel
    have c3 := cnt3_le G p x
    have c3' : x * (G * G) ≤ 128 * (128 * 128) := Nat.mul_le_mul (by omega) c0'
    by_cases hlt1 : x < G
    · go_wp2_with (go_at_call 49; refine (iLenR_c _ _ _ _ (by omega)).mono ?_; rintro e w' ⟨rfl, rfl⟩)
      go_loopg [15] G (fun g i wr => ∃ y : Nat, y ≤ G ∧ g = G - y ∧ i = .int .i64 y ∧ I (cnt3 G p x + cnt2 G (p x) y) wr)
      case atStart => exact ⟨0, Nat.zero_le _, rfl, rfl, hI1⟩
      case round =>
        obtain ⟨y, hy, rfl, rfl, hI2⟩ := hrel
        have c2' := cnt2_le G (p x) y
        have c2'' : y * G ≤ 128 * 128 := Nat.mul_le_mul (by omega) hG
        by_cases hlt2 : y < G
        · go_wp2_with (go_at_call 49; refine (iLenR_c _ _ _ _ (by omega)).mono ?_; rintro e w' ⟨rfl, rfl⟩)
          go_loopg [20] G (fun g i wr => ∃ z : Nat, z ≤ G ∧ g = G - z ∧ i = .int .i64 z ∧ I (cnt3 G p x + cnt2 G (p x) y + cnt (p x y) z) wr)
          case atStart => exact ⟨0, Nat.zero_le _, rfl, rfl, hI2⟩
          case round =>
            obtain ⟨z, hz, rfl, rfl, hI3⟩ := hrel
            have c1' := cnt_le (p x y) z
            by_cases hlt3 : z < G
            · go_wp2_with fail
              refine (HF.out x y z _ hlt1 hlt2 hlt3 (by omega) _ hI3).mono ?_
              rintro e w1 ⟨rfl, hI4⟩
              go_wp2
              go_roundg (G - (z + 1))
              case measure => omega
              case rel => exact ⟨z + 1, by omega, rfl, by go_num, by rw [show cnt (p x y) (z + 1) = cnt (p x y) z + (if p x y z then 1 else 0) from rfl, ← Nat.add_assoc]; exact hI4⟩
            · obtain rfl : z = G := by omega
              go_wp2
              go_roundg (z - (y + 1))
              case measure => omega
              case rel => exact ⟨y + 1, by omega, rfl, by go_num, by simpa [cnt2, sumN, Nat.add_assoc] using hI3⟩
        · obtain rfl : y = G := by omega
          go_wp2
          go_roundg (y - (x + 1))
          case measure => omega
          case rel => exact ⟨x + 1, by omega, rfl, by go_num, by simpa [cnt3, sumN, Nat.add_assoc] using hI2⟩
    · obtain rfl : x = G := by omega
      go_wp2
      go_ret
      exact ⟨rfl, hI1⟩

theorem iAss1_c (v : Value) (G : Nat) (N : Nat → Nat → Nat) (bb : Nat) (W : World) (h : LT W v G N) (hbox : W.cell? ⟨bb, 0, none⟩ = some v) (x y z : Nat) (hx : x < G) (hy : y < G) (hz : z < G) :
    Calls Try.prog 53 #[.int .i64 x, .int .i64 y, .int .i64 z, .pointer (some ⟨bb, 0, none⟩)] W fun e W' => Makes W W' e (.bool (assB N x y z)) := by
  go_enter Try.func53, Try.ntmps53
  go_wp2_with fail
  refine Calls.reads' (wr := W) (iAss_c _ _ _ _ h x y z hx hy hz) _ fun q => ?_
  go_wp2
  go_ret
  exact ⟨rfl, below_drewN _ _⟩

set_option maxHeartbeats 800000 in
theorem iMou1_c (v : Value) (G : Nat) (N : Nat → Nat → Nat) (bb : Nat) (W : World) (h : LT W v G N) (hbox : W.cell? ⟨bb, 0, none⟩ = some v) (x y z : Nat) (hx : x < G) (hy : y < G) (hz : z < G) :
    Calls Try.prog 47 #[.int .i64 x, .int .i64 y, .int .i64 z, .pointer (some ⟨bb, 0, none⟩)] W fun e W' => Makes W W' e (.bool (mouB N x y z)) := by
  obtain ⟨c, b, o, C, RB, RO, rfl, p2, p3, p4, p5, p6, p7, p8, p9⟩ := h.out
  clear h p5
  go_enter Try.func47, Try.ntmps47
  go_wp2
  go_quiet (fail)
  go_wp2
  go_ret
  exact ⟨rfl, below_drewN _ _⟩

/-- the count so far, in a block of one cell -/
structure Cnt (w : World) (mb : Nat) (m : Nat) (W : World) : Prop where
  box : W.heap[mb]? = some (.cells #[.int .i64 m] 2 (0, 0))
  chg : Chg w W (· = mb)

theorem iCount1_c (v : Value) (G : Nat) (N : Nat → Nat → Nat) (w : World) (bb mb : Nat) (hne : bb ≠ mb) (h : ∀ W, Chg w W (· = mb) → LT W v G N) (hbox : w.cell? ⟨bb, 0, none⟩ = some v) (x y z m : Nat) (hx : x < G) (hy : y < G) (hz : z < G) (hm : m ≤ 4194304) (W : World) (hI : Cnt w mb m W) :
    Calls Try.prog 55 #[.int .i64 x, .int .i64 y, .int .i64 z, .pointer (some ⟨bb, 0, none⟩), .pointer (some ⟨mb, 0, none⟩)] W fun e W' => e = .returned (.bool true) ∧ Cnt w mb (m + if assB N x y z then 1 else 0) W' := by
  obtain ⟨hb1, hc⟩ := hI
  have hlt := h W hc
  have hx1 : W.cell? ⟨bb, 0, none⟩ = some v := by rw [World.cell?_of_block (w := w) (hc.block bb (lt_of_cell hbox) hne)]; exact hbox
  have hcm := cell_of_one hb1
  have hfm := free_of_one hb1
  cases ha : assB N x y z
  · go_enter Try.func55, Try.ntmps55
    go_wp2_with fail
    refine Calls.reads' (wr := W) (iAss_c _ _ _ _ hlt x y z hx hy hz) _ fun q => ?_
    rw [ha]
    go_wp2
    go_ret
    exact ⟨rfl, hb1, hc.trans (Chg.of_below (below_drewN _ _) _)⟩
  · go_enter Try.func55, Try.ntmps55
    go_wp2_with fail
    refine Calls.reads' (wr := W) (iAss_c _ _ _ _ hlt x y z hx hy hz) _ fun q => ?_
    rw [ha]
    go_wp2
    go_ret
    refine ⟨rfl, ?_, (hc.trans (Chg.of_below (below_drewN _ q) _)).setCell rfl _⟩
    have := one_setCell (w := W.drewN q) (u := .int .i64 ((m + 1 : Nat) : Int)) hb1
    simpa using this

end Go.Proofs.Ytejjefjpjaeljaa
