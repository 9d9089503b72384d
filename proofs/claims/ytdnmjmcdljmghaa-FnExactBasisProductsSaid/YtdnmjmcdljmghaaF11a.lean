/-
  The law on IsDivisionDoubling returns true. No condition.
-/
import Derived.Test.YtdnmjmcdljmghaaD15
import Derived.Test.YtdnmjmcdljmghaaF13a
set_option linter.unusedVariables false
set_option linter.unusedSimpArgs false
namespace Go.Proofs.Ytdnmjmcdljmghaa
open Go.RowKit

theorem shapeB (ok : Bool) (x : Bool) : ∃ a b, rB ok x = .tuple #[.bool a, .int .i64 b] := by cases ok <;> exact ⟨_, _, rfl⟩
theorem shapeI (ok : Bool) (x : Int) : ∃ a b, rI ok x = .tuple #[.int .i64 a, .int .i64 b] := by cases ok <;> exact ⟨_, _, rfl⟩
theorem cellKeep {W W' : World} {b o : Nat} {v : Value} (hb : Below W.heap.size W W') (h : W.cell? ⟨b, o, none⟩ = some v) : W'.cell? ⟨b, o, none⟩ = some v := by
  rw [hb.cell (p := ⟨b, o, none⟩) (lt_of_cell h)]; exact h
/-- two boxes, behind w -/
theorem box2Keep {w W W' : World} {b1 b2 : Nat} {v1 v2 v3 v4 : Value} (hb : Below W.heap.size W W')
    (h : W.cell? ⟨b1, 0, none⟩ = some v1 ∧ W.cell? ⟨b1, 1, none⟩ = some v2 ∧ W.cell? ⟨b2, 0, none⟩ = some v3 ∧ W.cell? ⟨b2, 1, none⟩ = some v4 ∧ Below w.heap.size w W) :
    W'.cell? ⟨b1, 0, none⟩ = some v1 ∧ W'.cell? ⟨b1, 1, none⟩ = some v2 ∧ W'.cell? ⟨b2, 0, none⟩ = some v3 ∧ W'.cell? ⟨b2, 1, none⟩ = some v4 ∧ Below w.heap.size w W' :=
  ⟨cellKeep hb h.1, cellKeep hb h.2.1, cellKeep hb h.2.2.1, cellKeep hb h.2.2.2.1, h.2.2.2.2.trans (hb.mono h.2.2.2.2.size)⟩
theorem box2Below {w W : World} {b1 b2 : Nat} {v1 v2 v3 v4 : Value}
    (h : W.cell? ⟨b1, 0, none⟩ = some v1 ∧ W.cell? ⟨b1, 1, none⟩ = some v2 ∧ W.cell? ⟨b2, 0, none⟩ = some v3 ∧ W.cell? ⟨b2, 1, none⟩ = some v4 ∧ Below w.heap.size w W) : Below w.heap.size w W := h.2.2.2.2
theorem drewBelow (W : World) : Below W.heap.size W W.drew := ⟨rfl, rfl, rfl, Nat.le_refl _, fun _ _ => rfl⟩

set_option maxRecDepth 100000 in
set_option maxHeartbeats 4000000 in
theorem lawIsDivisionDoubling_c (p : Int) (sv : Value) (n : Nat) (s : Nat → Int) (w : World) (h : Ints w sv n s) :
    Calls Try.prog 3 #[dbl p sv] w fun e w' => Law w w' e := by
  have hi : ∀ W, Below w.heap.size w W → Ints W sv n s := fun W hb => h.below hb
  obtain ⟨ao, c, b, o, rfl, p2, p3, p4, p5⟩ := h.out
  have HI := Lib.hid hi
  obtain ⟨e0, e1, e2, e3⟩ := box0 w p ao n c 24
  have BX := Lib.hid (box0 w p ao n c 24)
  clear h p5 hi p4
  by_cases hs : n ≤ 1048576
  · have h0 := szP_ok hs
    obtain ⟨r1, r2, er⟩ := shapeB (dblB p n s) (divB p n s)
    have cs : ∀ W u, Ints W u n s → Calls Try.prog 16 #[dbl p u] W fun e w' => Makes W w' e (.tuple #[.bool r1, .int .i64 r2]) := fun W u h => er ▸ sDiv_c p u n s W h
    have ci : ∀ W u, Ints W u n s → Calls Try.prog 18 #[dbl p u] W fun e w' => Makes W w' e (.tuple #[.bool r1, .int .i64 r2]) := fun W u h => er ▸ iDiv_c p u n s W h
    have CS := Lib.hid cs
    have CI := Lib.hid ci
    clear cs ci er
    go_enter Try.func3, Try.ntmps3
    go_wp2_with fail
    refine Calls.makes' (szD_c _ _ _ _ _ (HI.out _ e3)) _ fun w1 hb1 => ?_
    obtain ⟨f0, f1, f2, f3⟩ := boxKeep hb1 BX.out
    clear e0 e1 e2
    go_wp2_with fail
    refine (toD_c _ _ _ _ _ (HI.out _ f3) hs).mono ?_
    rintro e w2 ⟨g2, c2, rfl, hg2, hb2, hO2⟩
    obtain ⟨f0, f1, f2, f3⟩ := boxKeep hb2 ⟨f0, f1, f2, f3⟩
    go_wp2_with fail
    refine Calls.makes' (CS.out _ _ hO2.ints) _ fun w3 hb3 => ?_
    obtain ⟨f0, f1, f2, f3⟩ := boxKeep hb3 ⟨f0, f1, f2, f3⟩
    go_wp2_with fail
    refine (toD_c _ _ _ _ _ (HI.out _ f3) hs).mono ?_
    rintro e w4 ⟨g4, c4, rfl, hg4, hb4, hO4⟩
    obtain ⟨f0, f1, f2, f3⟩ := boxKeep hb4 ⟨f0, f1, f2, f3⟩
    go_wp2_with fail
    refine Calls.makes' (CI.out _ _ (hO4.alloc _).ints) _ fun w5 hb5 => ?_
    have a4 : Below w4.heap.size w4 (w4.alloc (.cells #[.int .i64 p, .slice (some ⟨g4, 0, none⟩) n c4] 28)) := (Below.refl _ _).alloc (Nat.le_refl _) _
    obtain ⟨f0, f1, f2, f3⟩ := boxKeep hb5 (boxKeep a4 ⟨f0, f1, f2, f3⟩)
    obtain ⟨d0, d1, d2, d3⟩ := boxKeep hb5 (box0 w4 p (some ⟨g4, 0, none⟩) n c4 28)
    have hO5 := (hO4.alloc _).kept hb5
    clear a4 hb5 hb4 hb3 hb2 hb1 hO2 hO4
    go_wp2
    go_region_held3 (fun W => W.cell? ⟨w.heap.size, 0, none⟩ = some (.int .i64 p) ∧ W.cell? ⟨w.heap.size, 1, none⟩ = some (.slice ao n c) ∧ W.cell? ⟨w4.heap.size, 0, none⟩ = some (.int .i64 p) ∧ W.cell? ⟨w4.heap.size, 1, none⟩ = some (.slice (some ⟨g4, 0, none⟩) n c4) ∧ Below w.heap.size w W)
      ((first | assumption | exact box2Keep (drewBelow _) ⟨f0, f1, d0, d1, f3⟩ | exact box2Keep (by assumption) (by assumption)))
      ((first
        | (go_at_call 17; refine (toD_c _ _ _ _ _ (HI.out _ (box2Below (by assumption))) hs).mono ?_; rintro e w7 ⟨g7, c7, rfl, hg7, hb7, hO7⟩)
        | (go_at_call 19; refine Calls.makes' (eqD_c _ _ _ _ _ _ ((hO5.drew).kept hb7).ints hO7.ints) _ fun w8 hb8 => ?_)))
    have b8 : Below w.heap.size w w8 := box2Below (by assumption)
    go_wp2
    go_ret
    exact ⟨rfl, b8⟩
  · have h0 := szP_big hs
    go_enter Try.func3, Try.ntmps3
    go_wp2_with fail
    refine Calls.makes' (szD_c _ _ _ _ _ (HI.out _ e3)) _ fun w1 hb1 => ?_
    rw [h0]
    go_wp2
    go_ret
    exact ⟨rfl, e3.trans (hb1.mono e3.size)⟩

end Go.Proofs.Ytdnmjmcdljmghaa
