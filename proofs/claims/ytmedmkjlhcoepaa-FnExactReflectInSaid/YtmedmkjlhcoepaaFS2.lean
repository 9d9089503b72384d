/-
  The law on ReflectIn returns true. No condition.
-/
import Derived.Test.YtmedmkjlhcoepaaSP6
import Derived.Test.YtmedmkjlhcoepaaDT
set_option linter.unusedVariables false
set_option linter.unusedSimpArgs false
namespace Go.Proofs.Ytmedmkjlhcoepaa
open Go.RowKit

theorem ReflectIn_o (pd : Int) (nd : Nat) (sd : Nat → Int) (nx : Nat) (X : Nat → Int) (ny : Nat) (Y : Nat → Int) :
    ∃ (cc : Int) (M : Nat) (R : Nat → Int), M ≤ 1048576 ∧ 
    (∀ (W : World) (dv xv yv : Value), Ints W dv nd sd → Ints W xv nx X → Ints W yv ny Y → Calls Try.prog 27 #[dbl pd dv, xv, yv] W fun e w' => ResO W w' e cc M R) ∧
    (∀ (W : World) (dv xv yv : Value), Ints W dv nd sd → Ints W xv nx X → Ints W yv ny Y → Calls Try.prog 29 #[dbl pd dv, xv, yv] W fun e w' => ResO W w' e cc M R) :=
  have hsz : ∀ (L : Nat → Nat) (T : Nat → Nat → Int) (b : Bool), (if thenC (codeR pd nd sd 2 L T) b 5 = 0 then nd else 0) ≤ 1048576 := fun L T b => by
    split
    · rename_i h
      have := (spB_ok (codeR_zero (thenC_zero h)).1).n6
      omega
    · omega
  ⟨_, _, _, hsz (pick3 nx ny ny) (pick3 X Y Y) (pairF pd sd nd X X == 0),
    fun W dv xv yv h1 h2 h3 => (sReflectIn_c pd dv nd sd xv nx X yv ny Y W h1 h2 h3).mono fun _ _ h => h.toO,
    fun W dv xv yv h1 h2 h3 => (iReflectIn_c pd dv nd sd xv nx X yv ny Y W h1 h2 h3).mono fun _ _ h => h.toO⟩

set_option maxRecDepth 100000 in
set_option maxHeartbeats 8000000 in
theorem lawReflectIn_c (pd : Int) (dv : Value) (nd : Nat) (sd : Nat → Int) (xv : Value) (nx : Nat) (X : Nat → Int) (yv : Value) (ny : Nat) (Y : Nat → Int) (w : World) (hd : Ints w dv nd sd) (hx : Ints w xv nx X) (hy : Ints w yv ny Y) :
    Calls Try.prog 5 #[dbl pd dv, xv, yv] w fun e w' => Law w w' e := by
  have id : Hid (∀ W, Below w.heap.size w W → Ints W dv nd sd) := fun W hb => hd.below hb
  have ix : Hid (∀ W, Below w.heap.size w W → Ints W xv nx X) := fun W hb => hx.below hb
  have iy : Hid (∀ W, Below w.heap.size w W → Ints W yv ny Y) := fun W hb => hy.below hb
  obtain ⟨ad, cd, _, _, rfl, pd2, pd3, _⟩ := hd.out
  obtain ⟨ax, cx, _, _, rfl, px2, px3, _⟩ := hx.out
  obtain ⟨ay, cy, _, _, rfl, py2, py3, _⟩ := hy.out
  obtain ⟨e0, e1, e2, e3⟩ := box0 w pd ad nd cd 24
  have BX := Lib.hid (box0 w pd ad nd cd 24)
  have E3 := Lib.hid e3
  clear hd hx hy
  obtain ⟨cc, M, R, hM, CS0, CI0⟩ := ReflectIn_o pd nd sd nx X ny Y
  have CS := Lib.hid CS0
  have CI := Lib.hid CI0
  clear CS0 CI0
  by_cases lx : nx ≤ 1048576
  rotate_left
  · go_enter Try.func5, Try.ntmps5
    go_wp2
    go_ret
    exact ⟨rfl, E3.out⟩
  by_cases ly : ny ≤ 1048576
  rotate_left
  · go_enter Try.func5, Try.ntmps5
    go_wp2
    go_ret
    exact ⟨rfl, E3.out⟩
  by_cases hs : nd ≤ 1048576
  rotate_left
  · have h0 := szP_big hs
    go_enter Try.func5, Try.ntmps5
    go_wp2_with fail
    go_at_call 14
    refine Calls.makes' (szSp_c _ _ _ _ _ (id.out _ E3.out)) _ fun w1 hb1 => ?_
    rw [h0]
    go_wp2
    go_ret
    exact ⟨rfl, E3.out.trans (hb1.mono E3.out.size)⟩
  have h0 := szP_ok hs
  go_enter Try.func5, Try.ntmps5
  go_wp2_with fail
  go_at_call 14
  refine Calls.makes' (szSp_c _ _ _ _ _ (id.out _ E3.out)) _ fun w1 hb1 => ?_
  obtain ⟨f0, f1, _, bb⟩ := boxKeep hb1 BX.out
  have hu : Hid (w.heap.size + 1 ≤ w1.heap.size) := Lib.hid (lt_of_cell f0)
  clear e0 e1 e2 e3 hb1 BX E3
  go_wp2_with fail
  refine (toSp_o _ _ _ _ _ (id.out _ bb) hs).mono ?_
  rintro e w2 ⟨a2, c2, rfl, hb2, nsd⟩
  have d_sd := hu
  have s_sd := Lib.hid hb2.size
  have g_sd := Lib.hid (Nat.succ_le_of_lt (lt_of_cell f0))
  have f0 := cellKp hb2 f0
  have f1 := cellKp hb2 f1
  have bb := bb.trans (hb2.mono bb.size)
  have hu := Lib.hid (Nat.le_trans hu.out hb2.size)
  have sd := nsd
  clear nsd hb2 hu
  have hu := Lib.hid (Nat.le_refl w2.heap.size)
  go_wp2_with fail
  refine (toI_o _ _ _ _ (ix.out _ bb) lx).mono ?_
  rintro e w3 ⟨a3, c3, rfl, hb3, nsx⟩
  have d_sx := hu
  have s_sx := Lib.hid hb3.size
  have g_sx := Lib.hid (Nat.succ_le_of_lt (lt_of_cell f0))
  have sd := sd.kept hb3
  have f0 := cellKp hb3 f0
  have f1 := cellKp hb3 f1
  have bb := bb.trans (hb3.mono bb.size)
  have hu := Lib.hid (Nat.le_trans hu.out hb3.size)
  have sx := nsx
  clear nsx hb3 hu
  have hu := Lib.hid (Nat.le_refl w3.heap.size)
  go_wp2_with fail
  refine (toI_o _ _ _ _ (iy.out _ bb) ly).mono ?_
  rintro e w4 ⟨a4, c4, rfl, hb4, nsy⟩
  have d_sy := hu
  have s_sy := Lib.hid hb4.size
  have g_sy := Lib.hid (Nat.succ_le_of_lt (lt_of_cell f0))
  have sd := sd.kept hb4
  have sx := sx.kept hb4
  have f0 := cellKp hb4 f0
  have f1 := cellKp hb4 f1
  have bb := bb.trans (hb4.mono bb.size)
  have hu := Lib.hid (Nat.le_trans hu.out hb4.size)
  have sy := nsy
  clear nsy hb4 hu
  have hu := Lib.hid (Nat.le_refl w4.heap.size)
  go_wp2_with fail
  go_at_call 27
  refine (CS.out _ _ _ _ sd.ints sx.ints sy.ints).mono ?_
  rintro e w5 ⟨a5, c5, rfl, hb5, noW⟩
  have d_oW := hu
  have s_oW := Lib.hid hb5.size
  have g_oW := Lib.hid (Nat.succ_le_of_lt (lt_of_cell f0))
  have sd := sd.kept hb5
  have sx := sx.kept hb5
  have sy := sy.kept hb5
  have f0 := cellKp hb5 f0
  have f1 := cellKp hb5 f1
  have bb := bb.trans (hb5.mono bb.size)
  have hu := Lib.hid (Nat.le_trans hu.out hb5.size)
  have oW := noW
  clear noW hb5 hu
  have hu := Lib.hid (Nat.le_refl w5.heap.size)
  clear sd
  clear sx
  clear sy
  clear d_sd s_sd g_sd d_sx s_sx g_sx d_sy s_sy g_sy
  go_wp2_with fail
  refine (toSp_o _ _ _ _ _ (id.out _ bb) hs).mono ?_
  rintro e w6 ⟨a6, c6, rfl, hb6, nxd⟩
  have d_xd := hu
  have s_xd := Lib.hid hb6.size
  have g_xd := Lib.hid (Nat.succ_le_of_lt (lt_of_cell f0))
  have oW := oW.kept hb6
  have f0 := cellKp hb6 f0
  have f1 := cellKp hb6 f1
  have bb := bb.trans (hb6.mono bb.size)
  have hu := Lib.hid (Nat.le_trans hu.out hb6.size)
  have xd := nxd
  clear nxd hb6 hu
  have hu := Lib.hid (Nat.le_refl w6.heap.size)
  have ha7 : Below w6.heap.size w6 (w6.alloc (.cells #[.int .i64 pd, .slice a6 nd c6] 30)) := (Below.refl _ _).alloc (Nat.le_refl _) _
  have D7 := box0 w6 pd a6 nd c6 30
  have d0 := D7.1
  have d1 := D7.2.1
  have lw7 := bb.size
  have oW := oW.kept ha7
  have xd := xd.kept ha7
  have f0 := cellKp ha7 f0
  have f1 := cellKp ha7 f1
  have bb := bb.trans (ha7.mono bb.size)
  clear ha7 D7 hu
  go_wp2_with fail
  refine (toI_o _ _ _ _ (ix.out _ bb) lx).mono ?_
  rintro e w7 ⟨a7, c7, rfl, hb7, nxx⟩
  have nxx := nxx.low (Nat.le_of_eq (alloc_size _ _).symm)
  have s_xx : Hid (w6.heap.size + 1 ≤ w7.heap.size) := Lib.hid (Nat.le_trans (Nat.le_of_eq (alloc_size _ _).symm) hb7.size)
  have g_xx : Hid (w.heap.size + 1 ≤ w6.heap.size + 1) := Lib.hid (Nat.succ_le_succ lw7)
  clear lw7
  have d_xx : Hid (w6.heap.size + 1 ≤ w6.heap.size + 1) := Lib.hid (Nat.le_refl _)
  have oW := oW.kept hb7
  have xd := xd.kept hb7
  have f0 := cellKp hb7 f0
  have f1 := cellKp hb7 f1
  have d0 := cellKp hb7 d0
  have d1 := cellKp hb7 d1
  have bb := bb.trans (hb7.mono bb.size)
  have xx := nxx
  clear nxx hb7
  have hu := Lib.hid (Nat.le_refl w7.heap.size)
  go_wp2_with fail
  refine (toI_o _ _ _ _ (iy.out _ bb) ly).mono ?_
  rintro e w8 ⟨a8, c8, rfl, hb8, nxy⟩
  have d_xy := hu
  have s_xy := Lib.hid hb8.size
  have g_xy := Lib.hid (Nat.succ_le_of_lt (lt_of_cell f0))
  have oW := oW.kept hb8
  have xd := xd.kept hb8
  have xx := xx.kept hb8
  have f0 := cellKp hb8 f0
  have f1 := cellKp hb8 f1
  have d0 := cellKp hb8 d0
  have d1 := cellKp hb8 d1
  have bb := bb.trans (hb8.mono bb.size)
  have hu := Lib.hid (Nat.le_trans hu.out hb8.size)
  have xy := nxy
  clear nxy hb8 hu
  have hu := Lib.hid (Nat.le_refl w8.heap.size)
  go_wp2_with fail
  go_at_call 29
  refine (CI.out _ _ _ _ xd.ints xx.ints xy.ints).mono ?_
  rintro e w9 ⟨a9, c9, rfl, hb9, noG⟩
  have d_oG := hu
  have s_oG := Lib.hid hb9.size
  have g_oG := Lib.hid (Nat.succ_le_of_lt (lt_of_cell f0))
  have oW := oW.kept hb9
  have xd := xd.kept hb9
  have xx := xx.kept hb9
  have xy := xy.kept hb9
  have f0 := cellKp hb9 f0
  have f1 := cellKp hb9 f1
  have d0 := cellKp hb9 d0
  have d1 := cellKp hb9 d1
  have bb := bb.trans (hb9.mono bb.size)
  have hu := Lib.hid (Nat.le_trans hu.out hb9.size)
  have oG := noG
  clear noG hb9 hu
  have hu := Lib.hid (Nat.le_refl w9.heap.size)
  go_wp2_with fail
  refine Calls.reads' (wr := w) (eqInt64S_c _ _ _ _ _ _ _ oG.ints oW.ints) _ fun q1 => ?_
  rw [eqB_refl]
  have oW := oW.kept (below_drewN _ q1)
  have xd := xd.kept (below_drewN _ q1)
  have xx := xx.kept (below_drewN _ q1)
  have xy := xy.kept (below_drewN _ q1)
  have oG := oG.kept (below_drewN _ q1)
  have f0 := cellKp (below_drewN _ q1) f0
  have f1 := cellKp (below_drewN _ q1) f1
  have d0 := cellKp (below_drewN _ q1) d0
  have d1 := cellKp (below_drewN _ q1) d1
  have bb := bb.trans ((below_drewN _ q1).mono bb.size)
  have hu := Lib.hid (Nat.le_trans hu.out (below_drewN _ q1).size)
  go_wp2
  go_region_held3 (fun W => W.cell? ⟨w.heap.size, 0, none⟩ = some (.int .i64 pd) ∧ W.cell? ⟨w.heap.size, 1, none⟩ = some (.slice ad nd cd) ∧ W.cell? ⟨w6.heap.size, 0, none⟩ = some (.int .i64 pd) ∧ W.cell? ⟨w6.heap.size, 1, none⟩ = some (.slice a6 nd c6) ∧ Below w.heap.size w W)
    ((first | assumption | exact box2Keep (drewBelow _) ⟨f0, f1, d0, d1, bb⟩ | exact box2Keep (by assumption) (by assumption)))
    ((first
      | (go_at_call 17; refine (toSp_o _ _ _ _ _ (id.out _ (box2Below (by assumption))) hs).mono ?_; rintro e wc ⟨ac', cc', rfl, hbc, hOc⟩)
      | (go_at_call 21; refine Calls.makes' (eqSp_c _ _ _ _ _ _ ((xd.kept (drewBelow _)).kept hbc).ints hOc.ints) _ fun wd hbd => ?_)))
  have oW := oW.kept (drewBelow _)
  have xd := xd.kept (drewBelow _)
  have xx := xx.kept (drewBelow _)
  have xy := xy.kept (drewBelow _)
  have oG := oG.kept (drewBelow _)
  have f0 := cellKp (drewBelow _) f0
  have f1 := cellKp (drewBelow _) f1
  have d0 := cellKp (drewBelow _) d0
  have d1 := cellKp (drewBelow _) d1
  have bb := bb.trans ((drewBelow _).mono bb.size)
  have hu := Lib.hid (Nat.le_trans hu.out (drewBelow _).size)
  have oW := oW.kept hbc
  have xd := xd.kept hbc
  have xx := xx.kept hbc
  have xy := xy.kept hbc
  have oG := oG.kept hbc
  have f0 := cellKp hbc f0
  have f1 := cellKp hbc f1
  have d0 := cellKp hbc d0
  have d1 := cellKp hbc d1
  have bb := bb.trans (hbc.mono bb.size)
  have hu := Lib.hid (Nat.le_trans hu.out hbc.size)
  have oW := oW.kept hbd
  have xd := xd.kept hbd
  have xx := xx.kept hbd
  have xy := xy.kept hbd
  have oG := oG.kept hbd
  have f0 := cellKp hbd f0
  have f1 := cellKp hbd f1
  have d0 := cellKp hbd d0
  have d1 := cellKp hbd d1
  have bb := bb.trans (hbd.mono bb.size)
  have hu := Lib.hid (Nat.le_trans hu.out hbd.size)
  clear hbc hbd hOc
  go_wp2_with fail
  refine (toI_o _ _ _ _ (ix.out _ bb) lx).mono ?_
  rintro e w10 ⟨a10, c10, rfl, hb10, ntx⟩
  have d_tx := hu
  have s_tx := Lib.hid hb10.size
  have g_tx := Lib.hid (Nat.succ_le_of_lt (lt_of_cell f0))
  have oW := oW.kept hb10
  have xd := xd.kept hb10
  have xx := xx.kept hb10
  have xy := xy.kept hb10
  have oG := oG.kept hb10
  have f0 := cellKp hb10 f0
  have f1 := cellKp hb10 f1
  have d0 := cellKp hb10 d0
  have d1 := cellKp hb10 d1
  have bb := bb.trans (hb10.mono bb.size)
  have hu := Lib.hid (Nat.le_trans hu.out hb10.size)
  have tx := ntx
  clear ntx hb10 hu
  have hu := Lib.hid (Nat.le_refl w10.heap.size)
  go_wp2_with fail
  refine Calls.reads' (wr := w) (eqInt64S_c _ _ _ _ _ _ _ xx.ints tx.ints) _ fun q2 => ?_
  rw [eqB_refl]
  have oW := oW.kept (below_drewN _ q2)
  have xd := xd.kept (below_drewN _ q2)
  have xx := xx.kept (below_drewN _ q2)
  have xy := xy.kept (below_drewN _ q2)
  have oG := oG.kept (below_drewN _ q2)
  have tx := tx.kept (below_drewN _ q2)
  have f0 := cellKp (below_drewN _ q2) f0
  have f1 := cellKp (below_drewN _ q2) f1
  have d0 := cellKp (below_drewN _ q2) d0
  have d1 := cellKp (below_drewN _ q2) d1
  have bb := bb.trans ((below_drewN _ q2).mono bb.size)
  have hu := Lib.hid (Nat.le_trans hu.out (below_drewN _ q2).size)
  clear tx
  clear d_tx s_tx g_tx
  go_wp2_with fail
  refine (toI_o _ _ _ _ (iy.out _ bb) ly).mono ?_
  rintro e w11 ⟨a11, c11, rfl, hb11, nty⟩
  have d_ty := hu
  have s_ty := Lib.hid hb11.size
  have g_ty := Lib.hid (Nat.succ_le_of_lt (lt_of_cell f0))
  have oW := oW.kept hb11
  have xd := xd.kept hb11
  have xx := xx.kept hb11
  have xy := xy.kept hb11
  have oG := oG.kept hb11
  have f0 := cellKp hb11 f0
  have f1 := cellKp hb11 f1
  have d0 := cellKp hb11 d0
  have d1 := cellKp hb11 d1
  have bb := bb.trans (hb11.mono bb.size)
  have hu := Lib.hid (Nat.le_trans hu.out hb11.size)
  have ty := nty
  clear nty hb11 hu
  have hu := Lib.hid (Nat.le_refl w11.heap.size)
  go_wp2_with fail
  refine Calls.reads' (wr := w) (eqInt64S_c _ _ _ _ _ _ _ xy.ints ty.ints) _ fun q3 => ?_
  rw [eqB_refl]
  have oW := oW.kept (below_drewN _ q3)
  have xd := xd.kept (below_drewN _ q3)
  have xx := xx.kept (below_drewN _ q3)
  have xy := xy.kept (below_drewN _ q3)
  have oG := oG.kept (below_drewN _ q3)
  have ty := ty.kept (below_drewN _ q3)
  have f0 := cellKp (below_drewN _ q3) f0
  have f1 := cellKp (below_drewN _ q3) f1
  have d0 := cellKp (below_drewN _ q3) d0
  have d1 := cellKp (below_drewN _ q3) d1
  have bb := bb.trans ((below_drewN _ q3).mono bb.size)
  have hu := Lib.hid (Nat.le_trans hu.out (below_drewN _ q3).size)
  clear ty
  clear d_ty s_ty g_ty
  go_wp2_with fail
  go_at_call 22
  refine (markSp_o _ _ _ _ _ _ _ _ _ xd (by omega) (by omega) (by omega)).mono ?_
  rintro e m12 ⟨rfl, hc⟩
  have oW := oW.chg hc (by have z0 := d_oW.out; have y0 := s_oW.out; have v0 := g_oW.out; have z1 := d_xd.out; have y1 := s_xd.out; have v1 := g_xd.out; have z2 := d_xx.out; have y2 := s_xx.out; have v2 := g_xx.out; have z3 := d_xy.out; have y3 := s_xy.out; have v3 := g_xy.out; have z4 := d_oG.out; have y4 := s_oG.out; have v4 := g_oG.out; omega)
  have xx := xx.chg hc (by have z0 := d_oW.out; have y0 := s_oW.out; have v0 := g_oW.out; have z1 := d_xd.out; have y1 := s_xd.out; have v1 := g_xd.out; have z2 := d_xx.out; have y2 := s_xx.out; have v2 := g_xx.out; have z3 := d_xy.out; have y3 := s_xy.out; have v3 := g_xy.out; have z4 := d_oG.out; have y4 := s_oG.out; have v4 := g_oG.out; omega)
  have xy := xy.chg hc (by have z0 := d_oW.out; have y0 := s_oW.out; have v0 := g_oW.out; have z1 := d_xd.out; have y1 := s_xd.out; have v1 := g_xd.out; have z2 := d_xx.out; have y2 := s_xx.out; have v2 := g_xx.out; have z3 := d_xy.out; have y3 := s_xy.out; have v3 := g_xy.out; have z4 := d_oG.out; have y4 := s_oG.out; have v4 := g_oG.out; omega)
  have oG := oG.chg hc (by have z0 := d_oW.out; have y0 := s_oW.out; have v0 := g_oW.out; have z1 := d_xd.out; have y1 := s_xd.out; have v1 := g_xd.out; have z2 := d_xx.out; have y2 := s_xx.out; have v2 := g_xx.out; have z3 := d_xy.out; have y3 := s_xy.out; have v3 := g_xy.out; have z4 := d_oG.out; have y4 := s_oG.out; have v4 := g_oG.out; omega)
  have f0 := hc.cellI (by have z0 := d_oW.out; have y0 := s_oW.out; have v0 := g_oW.out; have z1 := d_xd.out; have y1 := s_xd.out; have v1 := g_xd.out; have z2 := d_xx.out; have y2 := s_xx.out; have v2 := g_xx.out; have z3 := d_xy.out; have y3 := s_xy.out; have v3 := g_xy.out; have z4 := d_oG.out; have y4 := s_oG.out; have v4 := g_oG.out; omega) f0
  have f1 := hc.cellI (by have z0 := d_oW.out; have y0 := s_oW.out; have v0 := g_oW.out; have z1 := d_xd.out; have y1 := s_xd.out; have v1 := g_xd.out; have z2 := d_xx.out; have y2 := s_xx.out; have v2 := g_xx.out; have z3 := d_xy.out; have y3 := s_xy.out; have v3 := g_xy.out; have z4 := d_oG.out; have y4 := s_oG.out; have v4 := g_oG.out; omega) f1
  have d0 := hc.cellI (by have z0 := d_oW.out; have y0 := s_oW.out; have v0 := g_oW.out; have z1 := d_xd.out; have y1 := s_xd.out; have v1 := g_xd.out; have z2 := d_xx.out; have y2 := s_xx.out; have v2 := g_xx.out; have z3 := d_xy.out; have y3 := s_xy.out; have v3 := g_xy.out; have z4 := d_oG.out; have y4 := s_oG.out; have v4 := g_oG.out; omega) d0
  have d1 := hc.cellI (by have z0 := d_oW.out; have y0 := s_oW.out; have v0 := g_oW.out; have z1 := d_xd.out; have y1 := s_xd.out; have v1 := g_xd.out; have z2 := d_xx.out; have y2 := s_xx.out; have v2 := g_xx.out; have z3 := d_xy.out; have y3 := s_xy.out; have v3 := g_xy.out; have z4 := d_oG.out; have y4 := s_oG.out; have v4 := g_oG.out; omega) d1
  have bb := bb.trans (hc.belowI bb.size (by have z0 := d_oW.out; have y0 := s_oW.out; have v0 := g_oW.out; have z1 := d_xd.out; have y1 := s_xd.out; have v1 := g_xd.out; have z2 := d_xx.out; have y2 := s_xx.out; have v2 := g_xx.out; have z3 := d_xy.out; have y3 := s_xy.out; have v3 := g_xy.out; have z4 := d_oG.out; have y4 := s_oG.out; have v4 := g_oG.out; omega))
  have hu := Lib.hid (Nat.le_trans hu.out hc.size)
  clear hc
  clear xd
  clear d0 d1
  go_wp2_with fail
  refine (markI_o _ _ _ _ _ _ _ _ xx (by omega) (by omega) (by omega)).mono ?_
  rintro e m13 ⟨rfl, hc, nxx⟩
  have oW := oW.chg hc (by have z0 := d_oW.out; have y0 := s_oW.out; have v0 := g_oW.out; have z1 := d_xd.out; have y1 := s_xd.out; have v1 := g_xd.out; have z2 := d_xx.out; have y2 := s_xx.out; have v2 := g_xx.out; have z3 := d_xy.out; have y3 := s_xy.out; have v3 := g_xy.out; have z4 := d_oG.out; have y4 := s_oG.out; have v4 := g_oG.out; omega)
  have xy := xy.chg hc (by have z0 := d_oW.out; have y0 := s_oW.out; have v0 := g_oW.out; have z1 := d_xd.out; have y1 := s_xd.out; have v1 := g_xd.out; have z2 := d_xx.out; have y2 := s_xx.out; have v2 := g_xx.out; have z3 := d_xy.out; have y3 := s_xy.out; have v3 := g_xy.out; have z4 := d_oG.out; have y4 := s_oG.out; have v4 := g_oG.out; omega)
  have oG := oG.chg hc (by have z0 := d_oW.out; have y0 := s_oW.out; have v0 := g_oW.out; have z1 := d_xd.out; have y1 := s_xd.out; have v1 := g_xd.out; have z2 := d_xx.out; have y2 := s_xx.out; have v2 := g_xx.out; have z3 := d_xy.out; have y3 := s_xy.out; have v3 := g_xy.out; have z4 := d_oG.out; have y4 := s_oG.out; have v4 := g_oG.out; omega)
  have f0 := hc.cellI (by have z0 := d_oW.out; have y0 := s_oW.out; have v0 := g_oW.out; have z1 := d_xd.out; have y1 := s_xd.out; have v1 := g_xd.out; have z2 := d_xx.out; have y2 := s_xx.out; have v2 := g_xx.out; have z3 := d_xy.out; have y3 := s_xy.out; have v3 := g_xy.out; have z4 := d_oG.out; have y4 := s_oG.out; have v4 := g_oG.out; omega) f0
  have f1 := hc.cellI (by have z0 := d_oW.out; have y0 := s_oW.out; have v0 := g_oW.out; have z1 := d_xd.out; have y1 := s_xd.out; have v1 := g_xd.out; have z2 := d_xx.out; have y2 := s_xx.out; have v2 := g_xx.out; have z3 := d_xy.out; have y3 := s_xy.out; have v3 := g_xy.out; have z4 := d_oG.out; have y4 := s_oG.out; have v4 := g_oG.out; omega) f1
  have bb := bb.trans (hc.belowI bb.size (by have z0 := d_oW.out; have y0 := s_oW.out; have v0 := g_oW.out; have z1 := d_xd.out; have y1 := s_xd.out; have v1 := g_xd.out; have z2 := d_xx.out; have y2 := s_xx.out; have v2 := g_xx.out; have z3 := d_xy.out; have y3 := s_xy.out; have v3 := g_xy.out; have z4 := d_oG.out; have y4 := s_oG.out; have v4 := g_oG.out; omega))
  have hu := Lib.hid (Nat.le_trans hu.out hc.size)
  clear hc
  have xx := nxx
  clear nxx
  clear xx
  go_wp2_with fail
  refine (markI_o _ _ _ _ _ _ _ _ xy (by omega) (by omega) (by omega)).mono ?_
  rintro e m14 ⟨rfl, hc, nxy⟩
  have oW := oW.chg hc (by have z0 := d_oW.out; have y0 := s_oW.out; have v0 := g_oW.out; have z1 := d_xd.out; have y1 := s_xd.out; have v1 := g_xd.out; have z2 := d_xx.out; have y2 := s_xx.out; have v2 := g_xx.out; have z3 := d_xy.out; have y3 := s_xy.out; have v3 := g_xy.out; have z4 := d_oG.out; have y4 := s_oG.out; have v4 := g_oG.out; omega)
  have oG := oG.chg hc (by have z0 := d_oW.out; have y0 := s_oW.out; have v0 := g_oW.out; have z1 := d_xd.out; have y1 := s_xd.out; have v1 := g_xd.out; have z2 := d_xx.out; have y2 := s_xx.out; have v2 := g_xx.out; have z3 := d_xy.out; have y3 := s_xy.out; have v3 := g_xy.out; have z4 := d_oG.out; have y4 := s_oG.out; have v4 := g_oG.out; omega)
  have f0 := hc.cellI (by have z0 := d_oW.out; have y0 := s_oW.out; have v0 := g_oW.out; have z1 := d_xd.out; have y1 := s_xd.out; have v1 := g_xd.out; have z2 := d_xx.out; have y2 := s_xx.out; have v2 := g_xx.out; have z3 := d_xy.out; have y3 := s_xy.out; have v3 := g_xy.out; have z4 := d_oG.out; have y4 := s_oG.out; have v4 := g_oG.out; omega) f0
  have f1 := hc.cellI (by have z0 := d_oW.out; have y0 := s_oW.out; have v0 := g_oW.out; have z1 := d_xd.out; have y1 := s_xd.out; have v1 := g_xd.out; have z2 := d_xx.out; have y2 := s_xx.out; have v2 := g_xx.out; have z3 := d_xy.out; have y3 := s_xy.out; have v3 := g_xy.out; have z4 := d_oG.out; have y4 := s_oG.out; have v4 := g_oG.out; omega) f1
  have bb := bb.trans (hc.belowI bb.size (by have z0 := d_oW.out; have y0 := s_oW.out; have v0 := g_oW.out; have z1 := d_xd.out; have y1 := s_xd.out; have v1 := g_xd.out; have z2 := d_xx.out; have y2 := s_xx.out; have v2 := g_xx.out; have z3 := d_xy.out; have y3 := s_xy.out; have v3 := g_xy.out; have z4 := d_oG.out; have y4 := s_oG.out; have v4 := g_oG.out; omega))
  have hu := Lib.hid (Nat.le_trans hu.out hc.size)
  clear hc
  have xy := nxy
  clear nxy
  clear xy
  go_wp2_with fail
  refine Calls.reads' (wr := w) (eqInt64S_c _ _ _ _ _ _ _ oG.ints oW.ints) _ fun q4 => ?_
  rw [eqB_refl]
  have oW := oW.kept (below_drewN _ q4)
  have oG := oG.kept (below_drewN _ q4)
  have f0 := cellKp (below_drewN _ q4) f0
  have f1 := cellKp (below_drewN _ q4) f1
  have bb := bb.trans ((below_drewN _ q4).mono bb.size)
  have hu := Lib.hid (Nat.le_trans hu.out (below_drewN _ q4).size)
  go_wp2_with fail
  refine (markI_o _ _ _ _ _ _ _ _ oG (by omega) (by omega) (by omega)).mono ?_
  rintro e m15 ⟨rfl, hc, noG⟩
  have oW := oW.chg hc (by have z0 := d_oW.out; have y0 := s_oW.out; have v0 := g_oW.out; have z1 := d_xd.out; have y1 := s_xd.out; have v1 := g_xd.out; have z2 := d_xx.out; have y2 := s_xx.out; have v2 := g_xx.out; have z3 := d_xy.out; have y3 := s_xy.out; have v3 := g_xy.out; have z4 := d_oG.out; have y4 := s_oG.out; have v4 := g_oG.out; omega)
  have f0 := hc.cellI (by have z0 := d_oW.out; have y0 := s_oW.out; have v0 := g_oW.out; have z1 := d_xd.out; have y1 := s_xd.out; have v1 := g_xd.out; have z2 := d_xx.out; have y2 := s_xx.out; have v2 := g_xx.out; have z3 := d_xy.out; have y3 := s_xy.out; have v3 := g_xy.out; have z4 := d_oG.out; have y4 := s_oG.out; have v4 := g_oG.out; omega) f0
  have f1 := hc.cellI (by have z0 := d_oW.out; have y0 := s_oW.out; have v0 := g_oW.out; have z1 := d_xd.out; have y1 := s_xd.out; have v1 := g_xd.out; have z2 := d_xx.out; have y2 := s_xx.out; have v2 := g_xx.out; have z3 := d_xy.out; have y3 := s_xy.out; have v3 := g_xy.out; have z4 := d_oG.out; have y4 := s_oG.out; have v4 := g_oG.out; omega) f1
  have bb := bb.trans (hc.belowI bb.size (by have z0 := d_oW.out; have y0 := s_oW.out; have v0 := g_oW.out; have z1 := d_xd.out; have y1 := s_xd.out; have v1 := g_xd.out; have z2 := d_xx.out; have y2 := s_xx.out; have v2 := g_xx.out; have z3 := d_xy.out; have y3 := s_xy.out; have v3 := g_xy.out; have z4 := d_oG.out; have y4 := s_oG.out; have v4 := g_oG.out; omega))
  have hu := Lib.hid (Nat.le_trans hu.out hc.size)
  clear hc
  have oG := noG
  clear noG
  go_wp2_with fail
  refine (heldInt64S_c _ _ _ _ _ oG.ints (by omega) (by omega) (by omega) (fun i _ => rfl)).mono ?_
  rintro e w' ⟨rfl, rfl⟩
  go_wp2_with fail
  refine (toSp_o _ _ _ _ _ (id.out _ bb) hs).mono ?_
  rintro e w16 ⟨a16, c16, rfl, hb16, nud⟩
  have d_ud := hu
  have s_ud := Lib.hid hb16.size
  have g_ud := Lib.hid (Nat.succ_le_of_lt (lt_of_cell f0))
  have oW := oW.kept hb16
  have oG := oG.kept hb16
  have f0 := cellKp hb16 f0
  have f1 := cellKp hb16 f1
  have bb := bb.trans (hb16.mono bb.size)
  have hu := Lib.hid (Nat.le_trans hu.out hb16.size)
  have ud := nud
  clear nud hb16 hu
  have hu := Lib.hid (Nat.le_refl w16.heap.size)
  go_wp2_with fail
  refine (toI_o _ _ _ _ (ix.out _ bb) lx).mono ?_
  rintro e w17 ⟨a17, c17, rfl, hb17, nux⟩
  have d_ux := hu
  have s_ux := Lib.hid hb17.size
  have g_ux := Lib.hid (Nat.succ_le_of_lt (lt_of_cell f0))
  have oW := oW.kept hb17
  have oG := oG.kept hb17
  have ud := ud.kept hb17
  have f0 := cellKp hb17 f0
  have f1 := cellKp hb17 f1
  have bb := bb.trans (hb17.mono bb.size)
  have hu := Lib.hid (Nat.le_trans hu.out hb17.size)
  have ux := nux
  clear nux hb17 hu
  have hu := Lib.hid (Nat.le_refl w17.heap.size)
  go_wp2_with fail
  refine (toI_o _ _ _ _ (iy.out _ bb) ly).mono ?_
  rintro e w18 ⟨a18, c18, rfl, hb18, nuy⟩
  have d_uy := hu
  have s_uy := Lib.hid hb18.size
  have g_uy := Lib.hid (Nat.succ_le_of_lt (lt_of_cell f0))
  have oW := oW.kept hb18
  have oG := oG.kept hb18
  have ud := ud.kept hb18
  have ux := ux.kept hb18
  have f0 := cellKp hb18 f0
  have f1 := cellKp hb18 f1
  have bb := bb.trans (hb18.mono bb.size)
  have hu := Lib.hid (Nat.le_trans hu.out hb18.size)
  have uy := nuy
  clear nuy hb18 hu
  have hu := Lib.hid (Nat.le_refl w18.heap.size)
  go_wp2_with fail
  go_at_call 29
  refine (CI.out _ _ _ _ ud.ints ux.ints uy.ints).mono ?_
  rintro e w19 ⟨a19, c19, rfl, hb19, noH⟩
  have d_oH := hu
  have s_oH := Lib.hid hb19.size
  have g_oH := Lib.hid (Nat.succ_le_of_lt (lt_of_cell f0))
  have oW := oW.kept hb19
  have oG := oG.kept hb19
  have ud := ud.kept hb19
  have ux := ux.kept hb19
  have uy := uy.kept hb19
  have f0 := cellKp hb19 f0
  have f1 := cellKp hb19 f1
  have bb := bb.trans (hb19.mono bb.size)
  have hu := Lib.hid (Nat.le_trans hu.out hb19.size)
  have oH := noH
  clear noH hb19 hu
  have hu := Lib.hid (Nat.le_refl w19.heap.size)
  go_wp2_with fail
  refine Calls.reads' (wr := w) (eqInt64S_c _ _ _ _ _ _ _ oH.ints oW.ints) _ fun q5 => ?_
  rw [eqB_refl]
  have oW := oW.kept (below_drewN _ q5)
  have oG := oG.kept (below_drewN _ q5)
  have ud := ud.kept (below_drewN _ q5)
  have ux := ux.kept (below_drewN _ q5)
  have uy := uy.kept (below_drewN _ q5)
  have oH := oH.kept (below_drewN _ q5)
  have f0 := cellKp (below_drewN _ q5) f0
  have f1 := cellKp (below_drewN _ q5) f1
  have bb := bb.trans ((below_drewN _ q5).mono bb.size)
  have hu := Lib.hid (Nat.le_trans hu.out (below_drewN _ q5).size)
  go_wp2_with fail
  refine (heldInt64S_c _ _ _ _ _ oG.ints (by omega) (by omega) (by omega) (fun i _ => rfl)).mono ?_
  rintro e w' ⟨rfl, rfl⟩
  go_wp2
  go_ret
  exact ⟨rfl, bb⟩

end Go.Proofs.Ytmedmkjlhcoepaa
