/-
  The law on CompositionGap returns true. No condition.
-/
import Derived.Test.YtdnmjmcdljmghaaD25
import Derived.Test.YtdnmjmcdljmghaaF11b
set_option linter.unusedVariables false
set_option linter.unusedSimpArgs false
namespace Go.Proofs.Ytdnmjmcdljmghaa
open Go.RowKit

theorem CompositionGap_o (pd : Int) (nd : Nat) (sd : Nat → Int) (nx : Nat) (X : Nat → Int) (ny : Nat) (Y : Nat → Int) :
    ∃ r1 r2 : Int, 
    (∀ (W : World) (dv xv yv : Value), Ints W dv nd sd → Ints W xv nx X → Ints W yv ny Y → Calls Try.prog 24 #[dbl pd dv, xv, yv] W fun e w' => Makes W w' e (.tuple #[.int .i64 r1, .int .i64 r2])) ∧
    (∀ (W : World) (dv xv yv : Value), Ints W dv nd sd → Ints W xv nx X → Ints W yv ny Y → Calls Try.prog 25 #[dbl pd dv, xv, yv] W fun e w' => Makes W w' e (.tuple #[.int .i64 r1, .int .i64 r2])) := by
  obtain ⟨r1, r2, er⟩ := shapeC (codeE (dblB pd nd sd) pd nd 2 (pick3 nx ny ny) (pick3 X Y Y)) (gapV pd nd sd X Y)
  exact ⟨r1, r2, fun W dv xv yv h1 h2 h3 => er ▸ sCompositionGap_c pd dv nd sd xv nx X yv ny Y W h1 h2 h3, fun W dv xv yv h1 h2 h3 => er ▸ iCompositionGap_c pd dv nd sd xv nx X yv ny Y W h1 h2 h3⟩

set_option maxRecDepth 100000 in
set_option maxHeartbeats 8000000 in
theorem lawCompositionGap_c (pd : Int) (dv : Value) (nd : Nat) (sd : Nat → Int) (xv : Value) (nx : Nat) (X : Nat → Int) (yv : Value) (ny : Nat) (Y : Nat → Int) (w : World) (hd : Ints w dv nd sd) (hx : Ints w xv nx X) (hy : Ints w yv ny Y) :
    Calls Try.prog 5 #[dbl pd dv, xv, yv] w fun e w' => Law w w' e := by
  have id : Hid (∀ W, Below w.heap.size w W → Ints W dv nd sd) := fun W hb => hd.below hb
  have ix : Hid (∀ W, Below w.heap.size w W → Ints W xv nx X) := fun W hb => hx.below hb
  have iy : Hid (∀ W, Below w.heap.size w W → Ints W yv ny Y) := fun W hb => hy.below hb
  obtain ⟨ad, cd, _, _, rfl, pd2, pd3, _⟩ := hd.out
  obtain ⟨ax, cx, _, _, rfl, px2, px3, _⟩ := hx.out
  obtain ⟨ay, cy, _, _, rfl, py2, py3, _⟩ := hy.out
  obtain ⟨e0, e1, e2, e3⟩ := box0 w pd ad nd cd 24
  have BX := Lib.hid (box0 w pd ad nd cd 24)
  have E3 := Lib.hid e3
  clear hd hx hy
  obtain ⟨r1, r2, CS0, CI0⟩ := CompositionGap_o pd nd sd nx X ny Y
  have CS := Lib.hid CS0
  have CI := Lib.hid CI0
  clear CS0 CI0
  by_cases lx : nx ≤ 1048576
  rotate_left
  · go_enter Try.func5, Try.ntmps5
    go_wp2
    go_ret
    exact ⟨rfl, E3.out⟩
  by_cases ly : ny ≤ 1048576
  rotate_left
  · go_enter Try.func5, Try.ntmps5
    go_wp2
    go_ret
    exact ⟨rfl, E3.out⟩
  by_cases hs : nd ≤ 1048576
  rotate_left
  · have h0 := szP_big hs
    go_enter Try.func5, Try.ntmps5
    go_wp2_with fail
    go_at_call 15
    refine Calls.makes' (szD_c _ _ _ _ _ (id.out _ E3.out)) _ fun w1 hb1 => ?_
    rw [h0]
    go_wp2
    go_ret
    exact ⟨rfl, E3.out.trans (hb1.mono E3.out.size)⟩
  have h0 := szP_ok hs
  go_enter Try.func5, Try.ntmps5
  go_wp2_with fail
  go_at_call 15
  refine Calls.makes' (szD_c _ _ _ _ _ (id.out _ E3.out)) _ fun w1 hb1 => ?_
  obtain ⟨f0, f1, _, bb⟩ := boxKeep hb1 BX.out
  have hu : Hid (w.heap.size + 1 ≤ w1.heap.size) := Lib.hid (lt_of_cell f0)
  clear e0 e1 e2 e3 hb1 BX E3
  go_wp2_with fail
  refine (toD_o _ _ _ _ _ (id.out _ bb) hs).mono ?_
  rintro e w2 ⟨a2, c2, rfl, hb2, nsd⟩
  have d_sd := hu
  have s_sd := Lib.hid hb2.size
  have g_sd := Lib.hid (Nat.succ_le_of_lt (lt_of_cell f0))
  have f0 := cellKp hb2 f0
  have f1 := cellKp hb2 f1
  have bb := bb.trans (hb2.mono bb.size)
  have hu := Lib.hid (Nat.le_trans hu.out hb2.size)
  have sd := nsd
  clear nsd hb2 hu
  have hu := Lib.hid (Nat.le_refl w2.heap.size)
  go_wp2_with fail
  refine (toI_o _ _ _ _ (ix.out _ bb) lx).mono ?_
  rintro e w3 ⟨a3, c3, rfl, hb3, nsx⟩
  have d_sx := hu
  have s_sx := Lib.hid hb3.size
  have g_sx := Lib.hid (Nat.succ_le_of_lt (lt_of_cell f0))
  have sd := sd.kept hb3
  have f0 := cellKp hb3 f0
  have f1 := cellKp hb3 f1
  have bb := bb.trans (hb3.mono bb.size)
  have hu := Lib.hid (Nat.le_trans hu.out hb3.size)
  have sx := nsx
  clear nsx hb3 hu
  have hu := Lib.hid (Nat.le_refl w3.heap.size)
  go_wp2_with fail
  refine (toI_o _ _ _ _ (iy.out _ bb) ly).mono ?_
  rintro e w4 ⟨a4, c4, rfl, hb4, nsy⟩
  have d_sy := hu
  have s_sy := Lib.hid hb4.size
  have g_sy := Lib.hid (Nat.succ_le_of_lt (lt_of_cell f0))
  have sd := sd.kept hb4
  have sx := sx.kept hb4
  have f0 := cellKp hb4 f0
  have f1 := cellKp hb4 f1
  have bb := bb.trans (hb4.mono bb.size)
  have hu := Lib.hid (Nat.le_trans hu.out hb4.size)
  have sy := nsy
  clear nsy hb4 hu
  have hu := Lib.hid (Nat.le_refl w4.heap.size)
  go_wp2_with fail
  go_at_call 24
  refine Calls.makes' (CS.out _ _ _ _ sd.ints sx.ints sy.ints) _ fun w5 hb5 => ?_
  have sd := sd.kept hb5
  have sx := sx.kept hb5
  have sy := sy.kept hb5
  have f0 := cellKp hb5 f0
  have f1 := cellKp hb5 f1
  have bb := bb.trans (hb5.mono bb.size)
  have hu := Lib.hid (Nat.le_trans hu.out hb5.size)
  clear hb5
  clear sd
  clear sx
  clear sy
  clear d_sd s_sd g_sd d_sx s_sx g_sx d_sy s_sy g_sy
  go_wp2_with fail
  refine (toD_o _ _ _ _ _ (id.out _ bb) hs).mono ?_
  rintro e w6 ⟨a6, c6, rfl, hb6, nxd⟩
  have d_xd := hu
  have s_xd := Lib.hid hb6.size
  have g_xd := Lib.hid (Nat.succ_le_of_lt (lt_of_cell f0))
  have f0 := cellKp hb6 f0
  have f1 := cellKp hb6 f1
  have bb := bb.trans (hb6.mono bb.size)
  have hu := Lib.hid (Nat.le_trans hu.out hb6.size)
  have xd := nxd
  clear nxd hb6 hu
  have hu := Lib.hid (Nat.le_refl w6.heap.size)
  have ha7 : Below w6.heap.size w6 (w6.alloc (.cells #[.int .i64 pd, .slice a6 nd c6] 28)) := (Below.refl _ _).alloc (Nat.le_refl _) _
  have D7 := box0 w6 pd a6 nd c6 28
  have d0 := D7.1
  have d1 := D7.2.1
  have lw7 := bb.size
  have xd := xd.kept ha7
  have f0 := cellKp ha7 f0
  have f1 := cellKp ha7 f1
  have bb := bb.trans (ha7.mono bb.size)
  clear ha7 D7 hu
  go_wp2_with fail
  refine (toI_o _ _ _ _ (ix.out _ bb) lx).mono ?_
  rintro e w7 ⟨a7, c7, rfl, hb7, nxx⟩
  have nxx := nxx.low (Nat.le_of_eq (alloc_size _ _).symm)
  have s_xx : Hid (w6.heap.size + 1 ≤ w7.heap.size) := Lib.hid (Nat.le_trans (Nat.le_of_eq (alloc_size _ _).symm) hb7.size)
  have g_xx : Hid (w.heap.size + 1 ≤ w6.heap.size + 1) := Lib.hid (Nat.succ_le_succ lw7)
  clear lw7
  have d_xx : Hid (w6.heap.size + 1 ≤ w6.heap.size + 1) := Lib.hid (Nat.le_refl _)
  have xd := xd.kept hb7
  have f0 := cellKp hb7 f0
  have f1 := cellKp hb7 f1
  have d0 := cellKp hb7 d0
  have d1 := cellKp hb7 d1
  have bb := bb.trans (hb7.mono bb.size)
  have xx := nxx
  clear nxx hb7
  have hu := Lib.hid (Nat.le_refl w7.heap.size)
  go_wp2_with fail
  refine (toI_o _ _ _ _ (iy.out _ bb) ly).mono ?_
  rintro e w8 ⟨a8, c8, rfl, hb8, nxy⟩
  have d_xy := hu
  have s_xy := Lib.hid hb8.size
  have g_xy := Lib.hid (Nat.succ_le_of_lt (lt_of_cell f0))
  have xd := xd.kept hb8
  have xx := xx.kept hb8
  have f0 := cellKp hb8 f0
  have f1 := cellKp hb8 f1
  have d0 := cellKp hb8 d0
  have d1 := cellKp hb8 d1
  have bb := bb.trans (hb8.mono bb.size)
  have hu := Lib.hid (Nat.le_trans hu.out hb8.size)
  have xy := nxy
  clear nxy hb8 hu
  have hu := Lib.hid (Nat.le_refl w8.heap.size)
  go_wp2_with fail
  go_at_call 25
  refine Calls.makes' (CI.out _ _ _ _ xd.ints xx.ints xy.ints) _ fun w9 hb9 => ?_
  have xd := xd.kept hb9
  have xx := xx.kept hb9
  have xy := xy.kept hb9
  have f0 := cellKp hb9 f0
  have f1 := cellKp hb9 f1
  have d0 := cellKp hb9 d0
  have d1 := cellKp hb9 d1
  have bb := bb.trans (hb9.mono bb.size)
  have hu := Lib.hid (Nat.le_trans hu.out hb9.size)
  clear hb9
  go_wp2
  go_region_held3 (fun W => W.cell? ⟨w.heap.size, 0, none⟩ = some (.int .i64 pd) ∧ W.cell? ⟨w.heap.size, 1, none⟩ = some (.slice ad nd cd) ∧ W.cell? ⟨w6.heap.size, 0, none⟩ = some (.int .i64 pd) ∧ W.cell? ⟨w6.heap.size, 1, none⟩ = some (.slice a6 nd c6) ∧ Below w.heap.size w W)
    ((first | assumption | exact box2Keep (drewBelow _) ⟨f0, f1, d0, d1, bb⟩ | exact box2Keep (by assumption) (by assumption)))
    ((first
      | (go_at_call 17; refine (toD_o _ _ _ _ _ (id.out _ (box2Below (by assumption))) hs).mono ?_; rintro e wc ⟨ac', cc', rfl, hbc, hOc⟩)
      | (go_at_call 19; refine Calls.makes' (eqD_c _ _ _ _ _ _ ((xd.kept (drewBelow _)).kept hbc).ints hOc.ints) _ fun wd hbd => ?_)))
  have xd := xd.kept (drewBelow _)
  have xx := xx.kept (drewBelow _)
  have xy := xy.kept (drewBelow _)
  have f0 := cellKp (drewBelow _) f0
  have f1 := cellKp (drewBelow _) f1
  have d0 := cellKp (drewBelow _) d0
  have d1 := cellKp (drewBelow _) d1
  have bb := bb.trans ((drewBelow _).mono bb.size)
  have hu := Lib.hid (Nat.le_trans hu.out (drewBelow _).size)
  have xd := xd.kept hbc
  have xx := xx.kept hbc
  have xy := xy.kept hbc
  have f0 := cellKp hbc f0
  have f1 := cellKp hbc f1
  have d0 := cellKp hbc d0
  have d1 := cellKp hbc d1
  have bb := bb.trans (hbc.mono bb.size)
  have hu := Lib.hid (Nat.le_trans hu.out hbc.size)
  have xd := xd.kept hbd
  have xx := xx.kept hbd
  have xy := xy.kept hbd
  have f0 := cellKp hbd f0
  have f1 := cellKp hbd f1
  have d0 := cellKp hbd d0
  have d1 := cellKp hbd d1
  have bb := bb.trans (hbd.mono bb.size)
  have hu := Lib.hid (Nat.le_trans hu.out hbd.size)
  clear hbc hbd hOc
  go_wp2_with fail
  refine (toI_o _ _ _ _ (ix.out _ bb) lx).mono ?_
  rintro e w10 ⟨a10, c10, rfl, hb10, ntx⟩
  have d_tx := hu
  have s_tx := Lib.hid hb10.size
  have g_tx := Lib.hid (Nat.succ_le_of_lt (lt_of_cell f0))
  have xd := xd.kept hb10
  have xx := xx.kept hb10
  have xy := xy.kept hb10
  have f0 := cellKp hb10 f0
  have f1 := cellKp hb10 f1
  have d0 := cellKp hb10 d0
  have d1 := cellKp hb10 d1
  have bb := bb.trans (hb10.mono bb.size)
  have hu := Lib.hid (Nat.le_trans hu.out hb10.size)
  have tx := ntx
  clear ntx hb10 hu
  have hu := Lib.hid (Nat.le_refl w10.heap.size)
  go_wp2_with fail
  refine Calls.reads' (wr := w) (eqInt64S_c _ _ _ _ _ _ _ xx.ints tx.ints) _ fun q1 => ?_
  rw [eqB_refl]
  have xd := xd.kept (below_drewN _ q1)
  have xx := xx.kept (below_drewN _ q1)
  have xy := xy.kept (below_drewN _ q1)
  have tx := tx.kept (below_drewN _ q1)
  have f0 := cellKp (below_drewN _ q1) f0
  have f1 := cellKp (below_drewN _ q1) f1
  have d0 := cellKp (below_drewN _ q1) d0
  have d1 := cellKp (below_drewN _ q1) d1
  have bb := bb.trans ((below_drewN _ q1).mono bb.size)
  have hu := Lib.hid (Nat.le_trans hu.out (below_drewN _ q1).size)
  clear tx
  clear d_tx s_tx g_tx
  go_wp2_with fail
  refine (toI_o _ _ _ _ (iy.out _ bb) ly).mono ?_
  rintro e w11 ⟨a11, c11, rfl, hb11, nty⟩
  have d_ty := hu
  have s_ty := Lib.hid hb11.size
  have g_ty := Lib.hid (Nat.succ_le_of_lt (lt_of_cell f0))
  have xd := xd.kept hb11
  have xx := xx.kept hb11
  have xy := xy.kept hb11
  have f0 := cellKp hb11 f0
  have f1 := cellKp hb11 f1
  have d0 := cellKp hb11 d0
  have d1 := cellKp hb11 d1
  have bb := bb.trans (hb11.mono bb.size)
  have hu := Lib.hid (Nat.le_trans hu.out hb11.size)
  have ty := nty
  clear nty hb11 hu
  have hu := Lib.hid (Nat.le_refl w11.heap.size)
  go_wp2_with fail
  refine Calls.reads' (wr := w) (eqInt64S_c _ _ _ _ _ _ _ xy.ints ty.ints) _ fun q2 => ?_
  rw [eqB_refl]
  have xd := xd.kept (below_drewN _ q2)
  have xx := xx.kept (below_drewN _ q2)
  have xy := xy.kept (below_drewN _ q2)
  have ty := ty.kept (below_drewN _ q2)
  have f0 := cellKp (below_drewN _ q2) f0
  have f1 := cellKp (below_drewN _ q2) f1
  have d0 := cellKp (below_drewN _ q2) d0
  have d1 := cellKp (below_drewN _ q2) d1
  have bb := bb.trans ((below_drewN _ q2).mono bb.size)
  have hu := Lib.hid (Nat.le_trans hu.out (below_drewN _ q2).size)
  clear ty
  clear d_ty s_ty g_ty
  go_wp2
  go_ret
  exact ⟨rfl, bb⟩

end Go.Proofs.Ytdnmjmcdljmghaa
