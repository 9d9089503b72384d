/-
  The law on CyclicForm returns true. No condition.
-/
import Derived.Test.YtdnmjmcdljmghaaD19
set_option linter.unusedVariables false
set_option linter.unusedSimpArgs false
namespace Go.Proofs.Ytdnmjmcdljmghaa
open Go.RowKit

theorem shapeC (c : Int) (x : Int) : ∃ a b, rC c x = .tuple #[.int .i64 a, .int .i64 b] := by unfold rC; split <;> exact ⟨_, _, rfl⟩

set_option maxRecDepth 100000 in
set_option maxHeartbeats 4000000 in
theorem lawCyclicForm_c (p : Int) (sv : Value) (n : Nat) (s : Nat → Int) (xv : Value) (nx : Nat) (X : Nat → Int) (yv : Value) (ny : Nat) (Y : Nat → Int) (zv : Value) (nz : Nat) (Z : Nat → Int) (w : World)
    (h : Ints w sv n s) (hx : Ints w xv nx X) (hy : Ints w yv ny Y) (hz : Ints w zv nz Z) :
    Calls Try.prog 4 #[dbl p sv, xv, yv, zv] w fun e w' => Law w w' e := by
  have hi : Hid (∀ W, Below w.heap.size w W → Ints W sv n s) := fun W hb => h.below hb
  have hxi : Hid (∀ W, Below w.heap.size w W → Ints W xv nx X) := fun W hb => hx.below hb
  have hyi : Hid (∀ W, Below w.heap.size w W → Ints W yv ny Y) := fun W hb => hy.below hb
  have hzi : Hid (∀ W, Below w.heap.size w W → Ints W zv nz Z) := fun W hb => hz.below hb
  obtain ⟨ao, c, b, o, rfl, p2, p3, _⟩ := h.out
  obtain ⟨xa, xc, _, _, rfl, px2, px3, _⟩ := hx.out
  obtain ⟨ya, yc, _, _, rfl, py2, py3, _⟩ := hy.out
  obtain ⟨za, zc, _, _, rfl, pz2, pz3, _⟩ := hz.out
  obtain ⟨e0, e1, e2, e3⟩ := box0 w p ao n c 24
  have BX := Lib.hid (box0 w p ao n c 24)
  have E3 := Lib.hid e3
  clear h hx hy hz
  by_cases lx : nx ≤ 1048576
  · by_cases ly : ny ≤ 1048576
    · by_cases lz : nz ≤ 1048576
      · by_cases hs : n ≤ 1048576
        · have h0 := szP_ok hs
          obtain ⟨r1, r2, er⟩ := shapeC (codeE (dblB p n s) p n 3 (pick3 nx ny nz) (pick3 X Y Z)) (cycV p n s X Y Z)
          have CS : Hid (∀ W u a b c, Ints W u n s → Ints W a nx X → Ints W b ny Y → Ints W c nz Z → Calls Try.prog 20 #[dbl p u, a, b, c] W fun e w' => Makes W w' e (.tuple #[.int .i64 r1, .int .i64 r2])) :=
            fun W u a b c h1 h2 h3 h4 => er ▸ sCyclic_c p u n s a nx X b ny Y c nz Z W h1 h2 h3 h4
          have CI : Hid (∀ W u a b c, Ints W u n s → Ints W a nx X → Ints W b ny Y → Ints W c nz Z → Calls Try.prog 22 #[dbl p u, a, b, c] W fun e w' => Makes W w' e (.tuple #[.int .i64 r1, .int .i64 r2])) :=
            fun W u a b c h1 h2 h3 h4 => er ▸ iCyclic_c p u n s a nx X b ny Y c nz Z W h1 h2 h3 h4
          clear er
          go_enter Try.func4, Try.ntmps4
          go_wp2_with fail
          go_at_call 15
          refine Calls.makes' (szD_c _ _ _ _ _ (hi.out _ E3.out)) _ fun w1 hb1 => ?_
          obtain ⟨f0, f1, f2, f3⟩ := boxKeep hb1 BX.out
          clear e0 e1 e2 e3
          go_wp2_with fail
          go_at_call 17
          refine (toD_c _ _ _ _ _ (hi.out _ f3) hs).mono ?_
          rintro e w2 ⟨g2, c2, rfl, hg2, hb2, hO2⟩
          obtain ⟨f0, f1, f2, f3⟩ := boxKeep hb2 ⟨f0, f1, f2, f3⟩
          go_wp2_with fail
          refine (toInt64S_c _ _ _ _ (hxi.out _ f3) lx).mono ?_
          rintro e w3 ⟨g3, c3, rfl, hg3, hb3, hO3⟩
          obtain ⟨f0, f1, f2, f3⟩ := boxKeep hb3 ⟨f0, f1, f2, f3⟩
          go_wp2_with fail
          refine (toInt64S_c _ _ _ _ (hyi.out _ f3) ly).mono ?_
          rintro e w4 ⟨g4, c4, rfl, hg4, hb4, hO4⟩
          obtain ⟨f0, f1, f2, f3⟩ := boxKeep hb4 ⟨f0, f1, f2, f3⟩
          go_wp2_with fail
          refine (toInt64S_c _ _ _ _ (hzi.out _ f3) lz).mono ?_
          rintro e w5 ⟨g5, c5, rfl, hg5, hb5, hO5⟩
          obtain ⟨f0, f1, f2, f3⟩ := boxKeep hb5 ⟨f0, f1, f2, f3⟩
          go_wp2_with fail
          go_at_call 20
          refine Calls.makes' (CS.out _ _ _ _ _ (((hO2.kept hb3).kept hb4).kept hb5).ints ((hO3.kept hb4).kept hb5).ints (hO4.kept hb5).ints hO5.ints) _ fun w6 hb6 => ?_
          obtain ⟨f0, f1, f2, f3⟩ := boxKeep hb6 ⟨f0, f1, f2, f3⟩
          clear hO2 hO3 hO4 hO5 hb1 hb2 hb3 hb4 hb5 hb6 hg2 hg3 hg4 hg5
          go_wp2_with fail
          go_at_call 17
          refine (toD_c _ _ _ _ _ (hi.out _ f3) hs).mono ?_
          rintro e w7 ⟨g7, c7, rfl, hg7, hb7, hO7⟩
          obtain ⟨f0, f1, f2, f3⟩ := boxKeep hb7 ⟨f0, f1, f2, f3⟩
          have a7 : Below w7.heap.size w7 (w7.alloc (.cells #[.int .i64 p, .slice (some ⟨g7, 0, none⟩) n c7] 28)) := (Below.refl _ _).alloc (Nat.le_refl _) _
          have A7 := Lib.hid a7
          have F7 := Lib.hid (boxKeep a7 ⟨f0, f1, f2, f3⟩)
          have D7 := Lib.hid (box0 w7 p (some ⟨g7, 0, none⟩) n c7 28)
          have hO7' := hO7.alloc (.cells #[.int .i64 p, .slice (some ⟨g7, 0, none⟩) n c7] 28)
          clear a7 hO7 hb7
          go_wp2_with fail
          refine (toInt64S_c _ _ _ _ (hxi.out _ F7.out.2.2.2) lx).mono ?_
          rintro e w8 ⟨g8, c8, rfl, hg8, hb8, hO8⟩
          clear f0 f1 f2 f3
          obtain ⟨f0, f1, f2, f3⟩ := boxKeep hb8 F7.out
          obtain ⟨d0, d1, d2, d3⟩ := boxKeep hb8 D7.out
          go_wp2_with fail
          refine (toInt64S_c _ _ _ _ (hyi.out _ f3) ly).mono ?_
          rintro e w9 ⟨g9, c9, rfl, hg9, hb9, hO9⟩
          obtain ⟨f0, f1, f2, f3⟩ := boxKeep hb9 ⟨f0, f1, f2, f3⟩
          obtain ⟨d0, d1, d2, d3⟩ := boxKeep hb9 ⟨d0, d1, d2, d3⟩
          go_wp2_with fail
          refine (toInt64S_c _ _ _ _ (hzi.out _ f3) lz).mono ?_
          rintro e wa ⟨ga, ca, rfl, hga, hba, hOa⟩
          obtain ⟨f0, f1, f2, f3⟩ := boxKeep hba ⟨f0, f1, f2, f3⟩
          obtain ⟨d0, d1, d2, d3⟩ := boxKeep hba ⟨d0, d1, d2, d3⟩
          go_wp2_with fail
          go_at_call 22
          refine Calls.makes' (CI.out _ _ _ _ _ (((hO7'.kept hb8).kept hb9).kept hba).ints ((hO8.kept hb9).kept hba).ints (hO9.kept hba).ints hOa.ints) _ fun wb hbb => ?_
          obtain ⟨f0, f1, f2, f3⟩ := boxKeep hbb ⟨f0, f1, f2, f3⟩
          obtain ⟨d0, d1, d2, d3⟩ := boxKeep hbb ⟨d0, d1, d2, d3⟩
          have oD := (((hO7'.kept hb8).kept hb9).kept hba).kept hbb
          have oX := ((hO8.kept hb9).kept hba).kept hbb
          have oY := (hO9.kept hba).kept hbb
          have oZ := hOa.kept hbb
          clear hO7' hO8 hO9 hOa hb8 hb9 hba hbb hg7 hg8 hg9 hga A7 F7 D7
          go_wp2
          go_region_held3 (fun W => W.cell? ⟨w.heap.size, 0, none⟩ = some (.int .i64 p) ∧ W.cell? ⟨w.heap.size, 1, none⟩ = some (.slice ao n c) ∧ W.cell? ⟨w7.heap.size, 0, none⟩ = some (.int .i64 p) ∧ W.cell? ⟨w7.heap.size, 1, none⟩ = some (.slice (some ⟨g7, 0, none⟩) n c7) ∧ Below w.heap.size w W)
            ((first | assumption | exact box2Keep (drewBelow _) ⟨f0, f1, d0, d1, f3⟩ | exact box2Keep (by assumption) (by assumption)))
            ((first
              | (go_at_call 17; refine (toD_c _ _ _ _ _ (hi.out _ (box2Below (by assumption))) hs).mono ?_; rintro e wc ⟨gc, cc, rfl, hgc, hbc, hOc⟩)
              | (go_at_call 19; refine Calls.makes' (eqD_c _ _ _ _ _ _ ((oD.drew).kept hbc).ints hOc.ints) _ fun wd hbd => ?_)))
          have bd : Below w.heap.size w wd := box2Below (by assumption)
          have oX := ((oX.drew).kept hbc).kept hbd
          have oY := ((oY.drew).kept hbc).kept hbd
          have oZ := ((oZ.drew).kept hbc).kept hbd
          clear oD hbc hbd hOc
          go_wp2_with fail
          refine (toInt64S_c _ _ _ _ (hxi.out _ bd) lx).mono ?_
          rintro e we ⟨ge, ce, rfl, hge, hbe, hOe⟩
          have be := bd.trans (hbe.mono bd.size)
          go_wp2_with fail
          refine Calls.reads' (wr := w) (eqInt64S_c _ _ _ _ _ _ _ (oX.kept hbe).ints hOe.ints) _ fun q => ?_
          rw [eqB_refl]
          have be' : Below w.heap.size w (we.drewN q) := Reads.below be
          go_wp2_with fail
          refine (toInt64S_c _ _ _ _ (hyi.out _ be') ly).mono ?_
          rintro e wf ⟨gf, cf, rfl, hgf, hbf, hOf⟩
          have bf := be'.trans (hbf.mono be'.size)
          go_wp2_with fail
          refine Calls.reads' (wr := w) (eqInt64S_c _ _ _ _ _ _ _ (((oY.kept hbe).kept (below_drewN _ q)).kept hbf).ints hOf.ints) _ fun q2 => ?_
          rw [eqB_refl]
          have bf' : Below w.heap.size w (wf.drewN q2) := Reads.below bf
          go_wp2_with fail
          refine (toInt64S_c _ _ _ _ (hzi.out _ bf') lz).mono ?_
          rintro e wg ⟨gg, cg, rfl, hgg, hbg, hOg⟩
          have bg := bf'.trans (hbg.mono bf'.size)
          go_wp2_with fail
          refine Calls.reads' (wr := w) (eqInt64S_c _ _ _ _ _ _ _ (((((oZ.kept hbe).kept (below_drewN _ q)).kept hbf).kept (below_drewN _ q2)).kept hbg).ints hOg.ints) _ fun q3 => ?_
          rw [eqB_refl]
          go_wp2
          go_ret
          exact ⟨rfl, Reads.below bg⟩
        · have h0 := szP_big hs
          go_enter Try.func4, Try.ntmps4
          go_wp2_with fail
          go_at_call 15
          refine Calls.makes' (szD_c _ _ _ _ _ (hi.out _ E3.out)) _ fun w1 hb1 => ?_
          rw [h0]
          go_wp2
          go_ret
          exact ⟨rfl, E3.out.trans (hb1.mono E3.out.size)⟩
      · go_enter Try.func4, Try.ntmps4
        go_wp2
        go_ret
        exact ⟨rfl, E3.out⟩
    · go_enter Try.func4, Try.ntmps4
      go_wp2
      go_ret
      exact ⟨rfl, E3.out⟩
  · go_enter Try.func4, Try.ntmps4
    go_wp2
    go_ret
    exact ⟨rfl, E3.out⟩

end Go.Proofs.Ytdnmjmcdljmghaa
