/-
  What the reference's functions on loops compute: tests, order, inverse, nucleus. No condition beside sizes.
-/
import Derived.Test.YtejjefjpjaeljaaT14
set_option linter.unusedVariables false
set_option linter.unusedSimpArgs false
namespace Go.Proofs.Ytejjefjpjaeljaa
open Go.RowKit

theorem natB (a b : Nat) : ((a : Int) == (b : Int)) = decide (a = b) := by
  by_cases e : a = b
  · subst e; simp
  · rw [decide_eq_false e]; exact beq_eq_false_iff_ne.2 (by omega)
set_option maxHeartbeats 400000 in
theorem sIsAss_c (v : Value) (G : Nat) (L : Nat → Nat) (T : Nat → Nat → Int) (w : World) (h : Tab w v G L T) :
    Calls Try.prog 25 #[v] w fun e w' => Makes w w' e (rB (loopB G L T) (all3 G (assB (NT G T)))) := by
  cases hl : loopB G L T
  · go_enter Try.func25, Try.ntmps25
    go_wp2_with fail
    refine Calls.makes' (sIs_c _ _ _ _ _ h) _ fun w1 hb => ?_
    rw [hl]
    go_wp2
    go_ret2
    exact ⟨rfl, hb⟩
  · have hlt := h.lt (loopB_ok hl)
    have hpos := hlt.pos
    obtain ⟨hp1, hp2, _⟩ := hpos
    have m1 : G * G ≤ 128 * 128 := Nat.mul_le_mul hp2 hp2
    have m2 : G * (G * G) ≤ 128 * (128 * 128) := Nat.mul_le_mul hp2 m1
    have k1 : IntKind.i64.wrap ((G : Int) * (G : Int)) = ((G * G : Nat) : Int) := by rw [← Int.natCast_mul]; exact IntWalk.i64_in _ (by omega)
    have k2 : IntKind.i64.wrap (((G * G : Nat) : Int) * (G : Int)) = ((G * (G * G) : Nat) : Int) := by rw [← Int.natCast_mul, Nat.mul_comm]; exact IntWalk.i64_in _ (by omega)
    have K1 := Lib.hid k1
    have K2 := Lib.hid k2
    clear k1 k2
    obtain ⟨c, b, o, C, RB, RO, rfl, p2, p3, p4, p5, p6, p7, p8, p9⟩ := hlt.out
    clear p4 p5 p6 p9
    go_enter Try.func25, Try.ntmps25
    go_wp2_with fail
    refine Calls.makes' (sIs_c _ _ _ _ _ h) _ fun w1 hb => ?_
    rw [hl]
    go_wp2_with fail
    refine Calls.reads' (wr := w) (sTriples_c _ _ _ _ (hlt.below hb)) _ fun q => ?_
    have k1 := K1.out
    have k2 := K2.out
    go_wp2
    go_ret2
    refine ⟨?_, Reads.below hb⟩
    have e0 : ((G * (G * G) : Nat) : Int) = (G : Int) * (G : Int) * (G : Int) := by simp [Int.mul_assoc]
    have e1 : wrap64 ((G : Int) * (G : Int) * (G : Int)) = ((G * (G * G) : Nat) : Int) := by rw [IntWalk.wrap64_in _ (by omega)]; omega
    rw [e1]
    rw [natB]
    rfl

set_option maxHeartbeats 400000 in
theorem sIsCom_c (v : Value) (G : Nat) (L : Nat → Nat) (T : Nat → Nat → Int) (w : World) (h : Tab w v G L T) :
    Calls Try.prog 29 #[v] w fun e w' => Makes w w' e (rB (loopB G L T) (all2 G (comB (NT G T)))) := by
  cases hl : loopB G L T
  · go_enter Try.func29, Try.ntmps29
    go_wp2_with fail
    refine Calls.makes' (sIs_c _ _ _ _ _ h) _ fun w1 hb => ?_
    rw [hl]
    go_wp2
    go_ret2
    exact ⟨rfl, hb⟩
  · have hlt := h.lt (loopB_ok hl)
    have hpos := hlt.pos
    obtain ⟨hp1, hp2, _⟩ := hpos
    have m1 : G * G ≤ 128 * 128 := Nat.mul_le_mul hp2 hp2
    have k1 : IntKind.i64.wrap ((G : Int) * (G : Int)) = ((G * G : Nat) : Int) := by rw [← Int.natCast_mul]; exact IntWalk.i64_in _ (by omega)
    have K1 := Lib.hid k1
    clear k1
    obtain ⟨c, b, o, C, RB, RO, rfl, p2, p3, p4, p5, p6, p7, p8, p9⟩ := hlt.out
    clear p4 p5 p6 p9
    go_enter Try.func29, Try.ntmps29
    go_wp2_with fail
    refine Calls.makes' (sIs_c _ _ _ _ _ h) _ fun w1 hb => ?_
    rw [hl]
    go_wp2_with fail
    refine Calls.reads' (wr := w) (sPairs_c _ _ _ _ (hlt.below hb)) _ fun q => ?_
    have k1 := K1.out
    go_wp2
    go_ret2
    refine ⟨?_, Reads.below hb⟩
    rw [show ((G : Int) * (G : Int)) = ((G * G : Nat) : Int) by simp, natB]
    rfl

set_option maxHeartbeats 800000 in
theorem sIsMou_c (v : Value) (G : Nat) (L : Nat → Nat) (T : Nat → Nat → Int) (w : World) (h : Tab w v G L T) :
    Calls Try.prog 19 #[v] w fun e w' => Makes w w' e (rB (loopB G L T) (all3 G (mouB (NT G T)))) := by
  cases hl : loopB G L T
  · go_enter Try.func19, Try.ntmps19
    go_wp2_with fail
    refine Calls.makes' (sIs_c _ _ _ _ _ h) _ fun w1 hb => ?_
    rw [hl]
    go_wp2
    go_ret2
    exact ⟨rfl, hb⟩
  · have hlt := h.lt (loopB_ok hl)
    obtain ⟨N, hN⟩ : ∃ N, NT G T = N := ⟨_, rfl⟩
    rw [hN] at hlt ⊢
    clear hN
    have hpos := hlt.pos
    obtain ⟨hp1, hp2, _⟩ := hpos
    obtain ⟨c, b, o, C, RB, RO, rfl, p2, p3, p4, p5, p6, p7, p8, p9⟩ := hlt.out
    clear p5
    have P4 := Lib.hid p4
    have P6 := Lib.hid p6
    clear p4 p6
    go_enter Try.func19, Try.ntmps19
    go_wp2_with fail
    refine Calls.makes' (sIs_c _ _ _ _ _ h) _ fun w1 hb => ?_
    rw [hl]
    clear hlt
    have p4 : ∀ i, i < G → w1.cell? ⟨b, o + i, none⟩ = some (.slice (some ⟨RB i, RO i, none⟩) G (C i)) := fun i hi => by rw [hb.cell (p := ⟨b, o + i, none⟩) (lt_of_cell (P4.out i hi))]; exact P4.out i hi
    have p6 : ∀ i j, i < G → j < G → w1.cell? ⟨RB i, RO i + j, none⟩ = some (.int .i64 (N i j)) := fun i j hi hj => by rw [hb.cell (p := ⟨RB i, RO i + j, none⟩) (lt_of_cell (P6.out i j hi hj))]; exact P6.out i j hi hj
    go_wp2
    go_loopg [4] G (fun g i wr => ∃ x : Nat, x ≤ G ∧ g = G - x ∧ i = .int .i64 x ∧ (∃ q, wr = w1.drewN q) ∧ ∀ x' y z, x' < x → y < G → z < G → mouB N x' y z = true)
    case atStart => exact ⟨0, Nat.zero_le _, rfl, rfl, ⟨0, rfl⟩, fun x' _ _ h => absurd h (Nat.not_lt_zero _)⟩
    case round =>
      obtain ⟨x, hx, rfl, rfl, ⟨q, rfl⟩, hall⟩ := hrel
      have HX := Lib.hid hall; clear hall
      by_cases hlt1 : x < G
      · go_wp2
        go_loopg [5] G (fun g i wr => ∃ y : Nat, y ≤ G ∧ g = G - y ∧ i = .int .i64 y ∧ (∃ q, wr = w1.drewN q) ∧ ∀ y' z, y' < y → z < G → mouB N x y' z = true)
        case atStart => exact ⟨0, Nat.zero_le _, rfl, rfl, ⟨q, rfl⟩, fun x' _ h => absurd h (Nat.not_lt_zero _)⟩
        case round =>
          obtain ⟨y, hy, rfl, rfl, ⟨q2, rfl⟩, hall⟩ := hrel
          have HY := Lib.hid hall; clear hall
          by_cases hlt2 : y < G
          · go_wp2
            go_loopg [6] G (fun g i wr => ∃ z : Nat, z ≤ G ∧ g = G - z ∧ i = .int .i64 z ∧ (∃ q, wr = w1.drewN q) ∧ ∀ z', z' < z → mouB N x y z' = true)
            case atStart => exact ⟨0, Nat.zero_le _, rfl, rfl, ⟨q2, rfl⟩, fun x' h => absurd h (Nat.not_lt_zero _)⟩
            case round =>
              obtain ⟨z, hz, rfl, rfl, ⟨q3, rfl⟩, hall⟩ := hrel
              have HZ := Lib.hid hall; clear hall
              by_cases hlt3 : z < G
              · go_wp2
                go_quiet (fail)
                cases hc : mouB N x y z
                · have hc' : ((N (N x (N y z)) x : Int) != (N (N x y) (N z x) : Int)) = true := by simpa [mouB] using hc
                  go_wp2
                  go_ret2
                  exact ⟨by rw [all3_false hlt1 hlt2 hlt3 hc]; rfl, by first | exact Reads.below hb | exact Reads.below (Reads.below hb) | exact Reads.below (Reads.below (Reads.below hb))⟩
                · have hc' : ((N (N x (N y z)) x : Int) != (N (N x y) (N z x) : Int)) = false := by simpa [mouB] using hc
                  go_wp2
                  go_roundg (G - (z + 1))
                  case measure => omega
                  case rel => exact ⟨z + 1, by omega, rfl, by go_num, by first | exact ⟨_, rfl⟩ | exact ⟨_, World.drewN_drewN _ _ _⟩, fun z' hz' => by
                    by_cases e : z' = z
                    · subst e; exact hc
                    · exact HZ.out z' (by omega)⟩
              · obtain rfl : z = G := by omega
                go_wp2
                go_roundg (z - (y + 1))
                case measure => omega
                case rel => exact ⟨y + 1, by omega, rfl, by go_num, by first | exact ⟨_, rfl⟩ | exact ⟨_, World.drewN_drewN _ _ _⟩, fun y' z' hy' hz' => by
                  by_cases e : y' = y
                  · subst e; exact HZ.out z' hz'
                  · exact HY.out y' z' (by omega) hz'⟩
          · obtain rfl : y = G := by omega
            go_wp2
            go_roundg (y - (x + 1))
            case measure => omega
            case rel => exact ⟨x + 1, by omega, rfl, by go_num, by first | exact ⟨_, rfl⟩ | exact ⟨_, World.drewN_drewN _ _ _⟩, fun x' y' z' hx' hy' hz' => by
              by_cases e : x' = x
              · subst e; exact HY.out y' z' hy' hz'
              · exact HX.out x' y' z' (by omega) hy' hz'⟩
      · obtain rfl : x = G := by omega
        go_wp2
        go_ret2
        exact ⟨by rw [all3_true HX.out]; rfl, Reads.below hb⟩

/-- The code of a loop and an element. -/
def codeV (ok : Bool) (G : Nat) (x : Int) : Int := if ok then (if inB x 0 ((G : Int) - 1) then 0 else 2) else 1

set_option maxHeartbeats 400000 in
theorem sCode_c (v : Value) (G : Nat) (L : Nat → Nat) (T : Nat → Nat → Int) (w : World) (h : Tab w v G L T) (x : Int) :
    Calls Try.prog 48 #[v, .int .i64 x] w fun e w' => Makes w w' e (.int .i64 (codeV (loopB G L T) G x)) := by
  cases hl : loopB G L T
  · go_enter Try.func48, Try.ntmps48
    go_wp2_with fail
    refine Calls.makes' (sIs_c _ _ _ _ _ h) _ fun w1 hb => ?_
    rw [hl]
    go_wp2
    go_ret
    exact ⟨rfl, hb⟩
  · have hlt := h.lt (loopB_ok hl)
    obtain ⟨hp1, hp2, _⟩ := hlt.pos
    obtain ⟨c, b, o, C, RB, RO, rfl, p2, p3, p4, p5, p6, p7, p8, p9⟩ := hlt.out
    clear p4 p5 p6 p9
    cases hx : inB x 0 ((G : Int) - 1)
    all_goals
      go_enter Try.func48, Try.ntmps48
      go_wp2_with fail
      refine Calls.makes' (sIs_c _ _ _ _ _ h) _ fun w1 hb => ?_
      rw [hl]
      go_wp2_with (go_at_call 59; refine (sIn_c _ _ _ _).mono ?_; rintro e w' ⟨rfl, rfl⟩)
      go_ret
      exact ⟨by simp [codeV, hx], hb⟩

set_option maxHeartbeats 400000 in
theorem sIndex_c (v : Value) (n : Nat) (X : Nat → Int) (x : Int) (w : World) (h : Ints w v n X) :
    Calls Try.prog 50 #[v, .int .i64 x] w fun e w' => e = .returned (.int .i64 (idx X x n)) ∧ w = w' := by
  obtain ⟨ao, c, b, o, rfl, p2, p3, p4, p5⟩ := h.out
  clear h
  go_enter Try.func50, Try.ntmps50
  go_wp2
  go_loopg [5] n (fun g i wr => w = wr ∧ ∃ k : Nat, k ≤ n ∧ g = n - k ∧ i = .int .i64 k ∧ ∀ j, j < k → X j ≠ x)
  case atStart => exact ⟨rfl, 0, Nat.zero_le _, rfl, rfl, fun j hj => absurd hj (Nat.not_lt_zero _)⟩
  case round =>
    obtain ⟨rfl, k, hk, rfl, rfl, hall⟩ := hrel
    have H := Lib.hid hall; clear hall
    by_cases hlt : k < n
    · obtain rfl := p4 (by omega)
      by_cases hx : X k = x
      · have ht : (X k == x) = true := by simpa using hx
        have HX := Lib.hid hx; clear hx
        go_wp2
        go_ret
        exact ⟨ret_i64 (idx_at hlt H.out HX.out).symm, rfl⟩
      · have ht : (X k == x) = false := by simpa using hx
        go_wp2
        go_roundg (n - (k + 1))
        case measure => omega
        case rel => exact ⟨rfl, k + 1, by omega, rfl, by go_num, fun j hj => by
          by_cases e : j = k
          · subst e; exact hx
          · exact H.out j (by omega)⟩
    · obtain rfl : k = n := by omega
      go_wp2
      go_ret
      exact ⟨ret_i64 (idx_none H.out).symm, rfl⟩

/-- a number and a code: the code where it is not 0 -/
def rC (code : Int) (x : Int) : Value := if code = 0 then .tuple #[.int .i64 x, .int .i64 0] else .tuple #[.int .i64 0, .int .i64 code]

theorem LT.row {w : World} {v : Value} {G : Nat} {N : Nat → Nat → Nat} (h : LT w v G N) {x : Nat} (hx : x < G) : ∃ (c b o : Nat) (u : Value), v = .slice (some ⟨b, o, none⟩) G c ∧ w.cell? ⟨b, o + x, none⟩ = some u ∧ Ints w u G (fun j => N x j) := by
  obtain ⟨c, b, o, C, RB, RO, p1, p2, p3, p4, p5, p6, p7⟩ := h.out
  exact ⟨c, b, o, _, p1, p4 x hx, ⟨_, C x, RB x, RO x, rfl, (p5 x hx).1, (p5 x hx).2, fun _ => rfl, fun j hj => p6 x j hx hj⟩⟩

theorem codeV_ok {ok : Bool} {G : Nat} {x : Int} (h : codeV ok G x = 0) : ok = true ∧ 0 ≤ x ∧ x < G := by
  unfold codeV at h
  cases ok
  · simp at h
  · cases hx : inB x 0 ((G : Int) - 1)
    · simp [hx] at h
    · unfold inB at hx; have := of_decide_eq_true hx; exact ⟨rfl, by omega, by omega⟩

set_option maxHeartbeats 400000 in
theorem sInverse_c (v : Value) (G : Nat) (L : Nat → Nat) (T : Nat → Nat → Int) (w : World) (h : Tab w v G L T) (x : Int) :
    Calls Try.prog 23 #[v, .int .i64 x] w fun e w' => Makes w w' e (rC (codeV (loopB G L T) G x) (idx (fun j => NT G T x.toNat j) 0 G)) := by
  by_cases hc : codeV (loopB G L T) G x = 0
  · obtain ⟨hl, hx0, hx1⟩ := codeV_ok hc
    have hlt := h.lt (loopB_ok hl)
    obtain ⟨n, rfl⟩ := Int.eq_ofNat_of_zero_le hx0
    have hn : n < G := by omega
    obtain ⟨c, b, o, u, rfl, hu, hI⟩ := hlt.row hn
    have HL := Lib.hid hlt
    clear hlt
    go_enter Try.func23, Try.ntmps23
    go_wp2_with fail
    refine Calls.makes' (sCode_c _ _ _ _ _ h _) _ fun w1 hb => ?_
    have hu1 : w1.cell? ⟨b, o + n, none⟩ = some u := by rw [hb.cell (p := ⟨b, o + n, none⟩) (lt_of_cell hu)]; exact hu
    have hI1 := hI.below hb
    rw [hc]
    go_wp2_with fail
    refine (sIndex_c _ _ _ _ _ hI1).mono ?_
    rintro e w' ⟨rfl, rfl⟩
    go_wp2
    go_ret2
    rw [show rC (codeV (loopB G L T) G n) (idx (fun j => NT G T (n : Int).toNat j) 0 G) = .tuple #[.int .i64 (idx (fun j => NT G T n j) 0 G), .int .i64 0] from if_pos hc]
    exact ⟨rfl, hb⟩
  · have hc' : (codeV (loopB G L T) G x != 0) = true := by simpa using hc
    go_enter Try.func23, Try.ntmps23
    go_wp2_with fail
    refine Calls.makes' (sCode_c _ _ _ _ _ h _) _ fun w1 hb => ?_
    go_wp2
    go_ret2
    rw [show rC (codeV (loopB G L T) G x) (idx (fun j => NT G T x.toNat j) 0 G) = .tuple #[.int .i64 0, .int .i64 (codeV (loopB G L T) G x)] from if_neg hc]
    exact ⟨rfl, hb⟩

end Go.Proofs.Ytejjefjpjaeljaa
