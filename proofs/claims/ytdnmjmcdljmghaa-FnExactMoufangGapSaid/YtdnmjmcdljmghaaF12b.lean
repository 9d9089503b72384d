/-
  The law on MoufangGap returns true. No condition.
-/
import Derived.Test.YtdnmjmcdljmghaaD23
set_option linter.unusedVariables false
set_option linter.unusedSimpArgs false
namespace Go.Proofs.Ytdnmjmcdljmghaa
open Go.RowKit

theorem MoufangGap_o (pd : Int) (nd : Nat) (sd : Nat → Int) (nx : Nat) (X : Nat → Int) (ny : Nat) (Y : Nat → Int) (nz : Nat) (Z : Nat → Int) :
    ∃ (cc : Int) (M : Nat) (R : Nat → Int), M ≤ 1048576 ∧ 
    (∀ (W : World) (dv xv yv zv : Value), Ints W dv nd sd → Ints W xv nx X → Ints W yv ny Y → Ints W zv nz Z → Calls Try.prog 26 #[dbl pd dv, xv, yv, zv] W fun e w' => ResO W w' e cc M R) ∧
    (∀ (W : World) (dv xv yv zv : Value), Ints W dv nd sd → Ints W xv nx X → Ints W yv ny Y → Ints W zv nz Z → Calls Try.prog 27 #[dbl pd dv, xv, yv, zv] W fun e w' => ResO W w' e cc M R) :=
  ⟨_, _, _, lenC_le (p := pd) (n := nd) (s := sd) (m := 3) (L := (pick3 nx ny nz)) (T := (pick3 X Y Z)),
    fun W dv xv yv zv h1 h2 h3 h4 => (sMoufangGap_c pd dv nd sd xv nx X yv ny Y zv nz Z W h1 h2 h3 h4).mono fun _ _ h => h.toO,
    fun W dv xv yv zv h1 h2 h3 h4 => (iMoufangGap_c pd dv nd sd xv nx X yv ny Y zv nz Z W h1 h2 h3 h4).mono fun _ _ h => h.toO⟩

set_option maxRecDepth 100000 in
set_option maxHeartbeats 8000000 in
theorem lawMoufangGap_c (pd : Int) (dv : Value) (nd : Nat) (sd : Nat → Int) (xv : Value) (nx : Nat) (X : Nat → Int) (yv : Value) (ny : Nat) (Y : Nat → Int) (zv : Value) (nz : Nat) (Z : Nat → Int) (w : World) (hd : Ints w dv nd sd) (hx : Ints w xv nx X) (hy : Ints w yv ny Y) (hz : Ints w zv nz Z) :
    Calls Try.prog 6 #[dbl pd dv, xv, yv, zv] w fun e w' => Law w w' e := by
  have id : Hid (∀ W, Below w.heap.size w W → Ints W dv nd sd) := fun W hb => hd.below hb
  have ix : Hid (∀ W, Below w.heap.size w W → Ints W xv nx X) := fun W hb => hx.below hb
  have iy : Hid (∀ W, Below w.heap.size w W → Ints W yv ny Y) := fun W hb => hy.below hb
  have iz : Hid (∀ W, Below w.heap.size w W → Ints W zv nz Z) := fun W hb => hz.below hb
  obtain ⟨ad, cd, _, _, rfl, pd2, pd3, _⟩ := hd.out
  obtain ⟨ax, cx, _, _, rfl, px2, px3, _⟩ := hx.out
  obtain ⟨ay, cy, _, _, rfl, py2, py3, _⟩ := hy.out
  obtain ⟨az, cz, _, _, rfl, pz2, pz3, _⟩ := hz.out
  obtain ⟨e0, e1, e2, e3⟩ := box0 w pd ad nd cd 24
  have BX := Lib.hid (box0 w pd ad nd cd 24)
  have E3 := Lib.hid e3
  clear hd hx hy hz
  obtain ⟨cc, M, R, hM, CS0, CI0⟩ := MoufangGap_o pd nd sd nx X ny Y nz Z
  have CS := Lib.hid CS0
  have CI := Lib.hid CI0
  clear CS0 CI0
  by_cases lx : nx ≤ 1048576
  rotate_left
  · go_enter Try.func6, Try.ntmps6
    go_wp2
    go_ret
    exact ⟨rfl, E3.out⟩
  by_cases ly : ny ≤ 1048576
  rotate_left
  · go_enter Try.func6, Try.ntmps6
    go_wp2
    go_ret
    exact ⟨rfl, E3.out⟩
  by_cases lz : nz ≤ 1048576
  rotate_left
  · go_enter Try.func6, Try.ntmps6
    go_wp2
    go_ret
    exact ⟨rfl, E3.out⟩
  by_cases hs : nd ≤ 1048576
  rotate_left
  · have h0 := szP_big hs
    go_enter Try.func6, Try.ntmps6
    go_wp2_with fail
    go_at_call 15
    refine Calls.makes' (szD_c _ _ _ _ _ (id.out _ E3.out)) _ fun w1 hb1 => ?_
    rw [h0]
    go_wp2
    go_ret
    exact ⟨rfl, E3.out.trans (hb1.mono E3.out.size)⟩
  have h0 := szP_ok hs
  go_enter Try.func6, Try.ntmps6
  go_wp2_with fail
  go_at_call 15
  refine Calls.makes' (szD_c _ _ _ _ _ (id.out _ E3.out)) _ fun w1 hb1 => ?_
  obtain ⟨f0, f1, _, bb⟩ := boxKeep hb1 BX.out
  have hu : Hid (w.heap.size + 1 ≤ w1.heap.size) := Lib.hid (lt_of_cell f0)
  clear e0 e1 e2 e3 hb1 BX E3
  go_wp2_with fail
  refine (toD_o _ _ _ _ _ (id.out _ bb) hs).mono ?_
  rintro e w2 ⟨a2, c2, rfl, hb2, nsd⟩
  have d_sd := hu
  have s_sd := Lib.hid hb2.size
  have g_sd := Lib.hid (Nat.succ_le_of_lt (lt_of_cell f0))
  have f0 := cellKp hb2 f0
  have f1 := cellKp hb2 f1
  have bb := bb.trans (hb2.mono bb.size)
  have hu := Lib.hid (Nat.le_trans hu.out hb2.size)
  have sd := nsd
  clear nsd hb2 hu
  have hu := Lib.hid (Nat.le_refl w2.heap.size)
  go_wp2_with fail
  refine (toI_o _ _ _ _ (ix.out _ bb) lx).mono ?_
  rintro e w3 ⟨a3, c3, rfl, hb3, nsx⟩
  have d_sx := hu
  have s_sx := Lib.hid hb3.size
  have g_sx := Lib.hid (Nat.succ_le_of_lt (lt_of_cell f0))
  have sd := sd.kept hb3
  have f0 := cellKp hb3 f0
  have f1 := cellKp hb3 f1
  have bb := bb.trans (hb3.mono bb.size)
  have hu := Lib.hid (Nat.le_trans hu.out hb3.size)
  have sx := nsx
  clear nsx hb3 hu
  have hu := Lib.hid (Nat.le_refl w3.heap.size)
  go_wp2_with fail
  refine (toI_o _ _ _ _ (iy.out _ bb) ly).mono ?_
  rintro e w4 ⟨a4, c4, rfl, hb4, nsy⟩
  have d_sy := hu
  have s_sy := Lib.hid hb4.size
  have g_sy := Lib.hid (Nat.succ_le_of_lt (lt_of_cell f0))
  have sd := sd.kept hb4
  have sx := sx.kept hb4
  have f0 := cellKp hb4 f0
  have f1 := cellKp hb4 f1
  have bb := bb.trans (hb4.mono bb.size)
  have hu := Lib.hid (Nat.le_trans hu.out hb4.size)
  have sy := nsy
  clear nsy hb4 hu
  have hu := Lib.hid (Nat.le_refl w4.heap.size)
  go_wp2_with fail
  refine (toI_o _ _ _ _ (iz.out _ bb) lz).mono ?_
  rintro e w5 ⟨a5, c5, rfl, hb5, nsz⟩
  have d_sz := hu
  have s_sz := Lib.hid hb5.size
  have g_sz := Lib.hid (Nat.succ_le_of_lt (lt_of_cell f0))
  have sd := sd.kept hb5
  have sx := sx.kept hb5
  have sy := sy.kept hb5
  have f0 := cellKp hb5 f0
  have f1 := cellKp hb5 f1
  have bb := bb.trans (hb5.mono bb.size)
  have hu := Lib.hid (Nat.le_trans hu.out hb5.size)
  have sz := nsz
  clear nsz hb5 hu
  have hu := Lib.hid (Nat.le_refl w5.heap.size)
  go_wp2_with fail
  go_at_call 26
  refine (CS.out _ _ _ _ _ sd.ints sx.ints sy.ints sz.ints).mono ?_
  rintro e w6 ⟨a6, c6, rfl, hb6, noW⟩
  have d_oW := hu
  have s_oW := Lib.hid hb6.size
  have g_oW := Lib.hid (Nat.succ_le_of_lt (lt_of_cell f0))
  have sd := sd.kept hb6
  have sx := sx.kept hb6
  have sy := sy.kept hb6
  have sz := sz.kept hb6
  have f0 := cellKp hb6 f0
  have f1 := cellKp hb6 f1
  have bb := bb.trans (hb6.mono bb.size)
  have hu := Lib.hid (Nat.le_trans hu.out hb6.size)
  have oW := noW
  clear noW hb6 hu
  have hu := Lib.hid (Nat.le_refl w6.heap.size)
  clear sd
  clear sx
  clear sy
  clear sz
  clear d_sd s_sd g_sd d_sx s_sx g_sx d_sy s_sy g_sy d_sz s_sz g_sz
  go_wp2_with fail
  refine (toD_o _ _ _ _ _ (id.out _ bb) hs).mono ?_
  rintro e w7 ⟨a7, c7, rfl, hb7, nxd⟩
  have d_xd := hu
  have s_xd := Lib.hid hb7.size
  have g_xd := Lib.hid (Nat.succ_le_of_lt (lt_of_cell f0))
  have oW := oW.kept hb7
  have f0 := cellKp hb7 f0
  have f1 := cellKp hb7 f1
  have bb := bb.trans (hb7.mono bb.size)
  have hu := Lib.hid (Nat.le_trans hu.out hb7.size)
  have xd := nxd
  clear nxd hb7 hu
  have hu := Lib.hid (Nat.le_refl w7.heap.size)
  have ha7 : Below w7.heap.size w7 (w7.alloc (.cells #[.int .i64 pd, .slice a7 nd c7] 28)) := (Below.refl _ _).alloc (Nat.le_refl _) _
  have D7 := box0 w7 pd a7 nd c7 28
  have d0 := D7.1
  have d1 := D7.2.1
  have lw7 := bb.size
  have oW := oW.kept ha7
  have xd := xd.kept ha7
  have f0 := cellKp ha7 f0
  have f1 := cellKp ha7 f1
  have bb := bb.trans (ha7.mono bb.size)
  clear ha7 D7 hu
  go_wp2_with fail
  refine (toI_o _ _ _ _ (ix.out _ bb) lx).mono ?_
  rintro e w8 ⟨a8, c8, rfl, hb8, nxx⟩
  have nxx := nxx.low (Nat.le_of_eq (alloc_size _ _).symm)
  have s_xx : Hid (w7.heap.size + 1 ≤ w8.heap.size) := Lib.hid (Nat.le_trans (Nat.le_of_eq (alloc_size _ _).symm) hb8.size)
  have g_xx : Hid (w.heap.size + 1 ≤ w7.heap.size + 1) := Lib.hid (Nat.succ_le_succ lw7)
  clear lw7
  have d_xx : Hid (w7.heap.size + 1 ≤ w7.heap.size + 1) := Lib.hid (Nat.le_refl _)
  have oW := oW.kept hb8
  have xd := xd.kept hb8
  have f0 := cellKp hb8 f0
  have f1 := cellKp hb8 f1
  have d0 := cellKp hb8 d0
  have d1 := cellKp hb8 d1
  have bb := bb.trans (hb8.mono bb.size)
  have xx := nxx
  clear nxx hb8
  have hu := Lib.hid (Nat.le_refl w8.heap.size)
  go_wp2_with fail
  refine (toI_o _ _ _ _ (iy.out _ bb) ly).mono ?_
  rintro e w9 ⟨a9, c9, rfl, hb9, nxy⟩
  have d_xy := hu
  have s_xy := Lib.hid hb9.size
  have g_xy := Lib.hid (Nat.succ_le_of_lt (lt_of_cell f0))
  have oW := oW.kept hb9
  have xd := xd.kept hb9
  have xx := xx.kept hb9
  have f0 := cellKp hb9 f0
  have f1 := cellKp hb9 f1
  have d0 := cellKp hb9 d0
  have d1 := cellKp hb9 d1
  have bb := bb.trans (hb9.mono bb.size)
  have hu := Lib.hid (Nat.le_trans hu.out hb9.size)
  have xy := nxy
  clear nxy hb9 hu
  have hu := Lib.hid (Nat.le_refl w9.heap.size)
  go_wp2_with fail
  refine (toI_o _ _ _ _ (iz.out _ bb) lz).mono ?_
  rintro e w10 ⟨a10, c10, rfl, hb10, nxz⟩
  have d_xz := hu
  have s_xz := Lib.hid hb10.size
  have g_xz := Lib.hid (Nat.succ_le_of_lt (lt_of_cell f0))
  have oW := oW.kept hb10
  have xd := xd.kept hb10
  have xx := xx.kept hb10
  have xy := xy.kept hb10
  have f0 := cellKp hb10 f0
  have f1 := cellKp hb10 f1
  have d0 := cellKp hb10 d0
  have d1 := cellKp hb10 d1
  have bb := bb.trans (hb10.mono bb.size)
  have hu := Lib.hid (Nat.le_trans hu.out hb10.size)
  have xz := nxz
  clear nxz hb10 hu
  have hu := Lib.hid (Nat.le_refl w10.heap.size)
  go_wp2_with fail
  go_at_call 27
  refine (CI.out _ _ _ _ _ xd.ints xx.ints xy.ints xz.ints).mono ?_
  rintro e w11 ⟨a11, c11, rfl, hb11, noG⟩
  have d_oG := hu
  have s_oG := Lib.hid hb11.size
  have g_oG := Lib.hid (Nat.succ_le_of_lt (lt_of_cell f0))
  have oW := oW.kept hb11
  have xd := xd.kept hb11
  have xx := xx.kept hb11
  have xy := xy.kept hb11
  have xz := xz.kept hb11
  have f0 := cellKp hb11 f0
  have f1 := cellKp hb11 f1
  have d0 := cellKp hb11 d0
  have d1 := cellKp hb11 d1
  have bb := bb.trans (hb11.mono bb.size)
  have hu := Lib.hid (Nat.le_trans hu.out hb11.size)
  have oG := noG
  clear noG hb11 hu
  have hu := Lib.hid (Nat.le_refl w11.heap.size)
  go_wp2_with fail
  refine Calls.reads' (wr := w) (eqInt64S_c _ _ _ _ _ _ _ oG.ints oW.ints) _ fun q1 => ?_
  rw [eqB_refl]
  have oW := oW.kept (below_drewN _ q1)
  have xd := xd.kept (below_drewN _ q1)
  have xx := xx.kept (below_drewN _ q1)
  have xy := xy.kept (below_drewN _ q1)
  have xz := xz.kept (below_drewN _ q1)
  have oG := oG.kept (below_drewN _ q1)
  have f0 := cellKp (below_drewN _ q1) f0
  have f1 := cellKp (below_drewN _ q1) f1
  have d0 := cellKp (below_drewN _ q1) d0
  have d1 := cellKp (below_drewN _ q1) d1
  have bb := bb.trans ((below_drewN _ q1).mono bb.size)
  have hu := Lib.hid (Nat.le_trans hu.out (below_drewN _ q1).size)
  go_wp2
  go_region_held3 (fun W => W.cell? ⟨w.heap.size, 0, none⟩ = some (.int .i64 pd) ∧ W.cell? ⟨w.heap.size, 1, none⟩ = some (.slice ad nd cd) ∧ W.cell? ⟨w7.heap.size, 0, none⟩ = some (.int .i64 pd) ∧ W.cell? ⟨w7.heap.size, 1, none⟩ = some (.slice a7 nd c7) ∧ Below w.heap.size w W)
    ((first | assumption | exact box2Keep (drewBelow _) ⟨f0, f1, d0, d1, bb⟩ | exact box2Keep (by assumption) (by assumption)))
    ((first
      | (go_at_call 17; refine (toD_o _ _ _ _ _ (id.out _ (box2Below (by assumption))) hs).mono ?_; rintro e wc ⟨ac', cc', rfl, hbc, hOc⟩)
      | (go_at_call 19; refine Calls.makes' (eqD_c _ _ _ _ _ _ ((xd.kept (drewBelow _)).kept hbc).ints hOc.ints) _ fun wd hbd => ?_)))
  have oW := oW.kept (drewBelow _)
  have xd := xd.kept (drewBelow _)
  have xx := xx.kept (drewBelow _)
  have xy := xy.kept (drewBelow _)
  have xz := xz.kept (drewBelow _)
  have oG := oG.kept (drewBelow _)
  have f0 := cellKp (drewBelow _) f0
  have f1 := cellKp (drewBelow _) f1
  have d0 := cellKp (drewBelow _) d0
  have d1 := cellKp (drewBelow _) d1
  have bb := bb.trans ((drewBelow _).mono bb.size)
  have hu := Lib.hid (Nat.le_trans hu.out (drewBelow _).size)
  have oW := oW.kept hbc
  have xd := xd.kept hbc
  have xx := xx.kept hbc
  have xy := xy.kept hbc
  have xz := xz.kept hbc
  have oG := oG.kept hbc
  have f0 := cellKp hbc f0
  have f1 := cellKp hbc f1
  have d0 := cellKp hbc d0
  have d1 := cellKp hbc d1
  have bb := bb.trans (hbc.mono bb.size)
  have hu := Lib.hid (Nat.le_trans hu.out hbc.size)
  have oW := oW.kept hbd
  have xd := xd.kept hbd
  have xx := xx.kept hbd
  have xy := xy.kept hbd
  have xz := xz.kept hbd
  have oG := oG.kept hbd
  have f0 := cellKp hbd f0
  have f1 := cellKp hbd f1
  have d0 := cellKp hbd d0
  have d1 := cellKp hbd d1
  have bb := bb.trans (hbd.mono bb.size)
  have hu := Lib.hid (Nat.le_trans hu.out hbd.size)
  clear hbc hbd hOc
  go_wp2_with fail
  refine (toI_o _ _ _ _ (ix.out _ bb) lx).mono ?_
  rintro e w12 ⟨a12, c12, rfl, hb12, ntx⟩
  have d_tx := hu
  have s_tx := Lib.hid hb12.size
  have g_tx := Lib.hid (Nat.succ_le_of_lt (lt_of_cell f0))
  have oW := oW.kept hb12
  have xd := xd.kept hb12
  have xx := xx.kept hb12
  have xy := xy.kept hb12
  have xz := xz.kept hb12
  have oG := oG.kept hb12
  have f0 := cellKp hb12 f0
  have f1 := cellKp hb12 f1
  have d0 := cellKp hb12 d0
  have d1 := cellKp hb12 d1
  have bb := bb.trans (hb12.mono bb.size)
  have hu := Lib.hid (Nat.le_trans hu.out hb12.size)
  have tx := ntx
  clear ntx hb12 hu
  have hu := Lib.hid (Nat.le_refl w12.heap.size)
  go_wp2_with fail
  refine Calls.reads' (wr := w) (eqInt64S_c _ _ _ _ _ _ _ xx.ints tx.ints) _ fun q2 => ?_
  rw [eqB_refl]
  have oW := oW.kept (below_drewN _ q2)
  have xd := xd.kept (below_drewN _ q2)
  have xx := xx.kept (below_drewN _ q2)
  have xy := xy.kept (below_drewN _ q2)
  have xz := xz.kept (below_drewN _ q2)
  have oG := oG.kept (below_drewN _ q2)
  have tx := tx.kept (below_drewN _ q2)
  have f0 := cellKp (below_drewN _ q2) f0
  have f1 := cellKp (below_drewN _ q2) f1
  have d0 := cellKp (below_drewN _ q2) d0
  have d1 := cellKp (below_drewN _ q2) d1
  have bb := bb.trans ((below_drewN _ q2).mono bb.size)
  have hu := Lib.hid (Nat.le_trans hu.out (below_drewN _ q2).size)
  clear tx
  clear d_tx s_tx g_tx
  go_wp2_with fail
  refine (toI_o _ _ _ _ (iy.out _ bb) ly).mono ?_
  rintro e w13 ⟨a13, c13, rfl, hb13, nty⟩
  have d_ty := hu
  have s_ty := Lib.hid hb13.size
  have g_ty := Lib.hid (Nat.succ_le_of_lt (lt_of_cell f0))
  have oW := oW.kept hb13
  have xd := xd.kept hb13
  have xx := xx.kept hb13
  have xy := xy.kept hb13
  have xz := xz.kept hb13
  have oG := oG.kept hb13
  have f0 := cellKp hb13 f0
  have f1 := cellKp hb13 f1
  have d0 := cellKp hb13 d0
  have d1 := cellKp hb13 d1
  have bb := bb.trans (hb13.mono bb.size)
  have hu := Lib.hid (Nat.le_trans hu.out hb13.size)
  have ty := nty
  clear nty hb13 hu
  have hu := Lib.hid (Nat.le_refl w13.heap.size)
  go_wp2_with fail
  refine Calls.reads' (wr := w) (eqInt64S_c _ _ _ _ _ _ _ xy.ints ty.ints) _ fun q3 => ?_
  rw [eqB_refl]
  have oW := oW.kept (below_drewN _ q3)
  have xd := xd.kept (below_drewN _ q3)
  have xx := xx.kept (below_drewN _ q3)
  have xy := xy.kept (below_drewN _ q3)
  have xz := xz.kept (below_drewN _ q3)
  have oG := oG.kept (below_drewN _ q3)
  have ty := ty.kept (below_drewN _ q3)
  have f0 := cellKp (below_drewN _ q3) f0
  have f1 := cellKp (below_drewN _ q3) f1
  have d0 := cellKp (below_drewN _ q3) d0
  have d1 := cellKp (below_drewN _ q3) d1
  have bb := bb.trans ((below_drewN _ q3).mono bb.size)
  have hu := Lib.hid (Nat.le_trans hu.out (below_drewN _ q3).size)
  clear ty
  clear d_ty s_ty g_ty
  go_wp2_with fail
  refine (toI_o _ _ _ _ (iz.out _ bb) lz).mono ?_
  rintro e w14 ⟨a14, c14, rfl, hb14, ntz⟩
  have d_tz := hu
  have s_tz := Lib.hid hb14.size
  have g_tz := Lib.hid (Nat.succ_le_of_lt (lt_of_cell f0))
  have oW := oW.kept hb14
  have xd := xd.kept hb14
  have xx := xx.kept hb14
  have xy := xy.kept hb14
  have xz := xz.kept hb14
  have oG := oG.kept hb14
  have f0 := cellKp hb14 f0
  have f1 := cellKp hb14 f1
  have d0 := cellKp hb14 d0
  have d1 := cellKp hb14 d1
  have bb := bb.trans (hb14.mono bb.size)
  have hu := Lib.hid (Nat.le_trans hu.out hb14.size)
  have tz := ntz
  clear ntz hb14 hu
  have hu := Lib.hid (Nat.le_refl w14.heap.size)
  go_wp2_with fail
  refine Calls.reads' (wr := w) (eqInt64S_c _ _ _ _ _ _ _ xz.ints tz.ints) _ fun q4 => ?_
  rw [eqB_refl]
  have oW := oW.kept (below_drewN _ q4)
  have xd := xd.kept (below_drewN _ q4)
  have xx := xx.kept (below_drewN _ q4)
  have xy := xy.kept (below_drewN _ q4)
  have xz := xz.kept (below_drewN _ q4)
  have oG := oG.kept (below_drewN _ q4)
  have tz := tz.kept (below_drewN _ q4)
  have f0 := cellKp (below_drewN _ q4) f0
  have f1 := cellKp (below_drewN _ q4) f1
  have d0 := cellKp (below_drewN _ q4) d0
  have d1 := cellKp (below_drewN _ q4) d1
  have bb := bb.trans ((below_drewN _ q4).mono bb.size)
  have hu := Lib.hid (Nat.le_trans hu.out (below_drewN _ q4).size)
  clear tz
  clear d_tz s_tz g_tz
  go_wp2_with fail
  go_at_call 28
  refine (markD_o _ _ _ _ _ _ _ _ _ xd (by omega) (by omega) (by omega)).mono ?_
  rintro e m15 ⟨rfl, hc⟩
  have oW := oW.chg hc (by have z0 := d_oW.out; have y0 := s_oW.out; have v0 := g_oW.out; have z1 := d_xd.out; have y1 := s_xd.out; have v1 := g_xd.out; have z2 := d_xx.out; have y2 := s_xx.out; have v2 := g_xx.out; have z3 := d_xy.out; have y3 := s_xy.out; have v3 := g_xy.out; have z4 := d_xz.out; have y4 := s_xz.out; have v4 := g_xz.out; have z5 := d_oG.out; have y5 := s_oG.out; have v5 := g_oG.out; omega)
  have xx := xx.chg hc (by have z0 := d_oW.out; have y0 := s_oW.out; have v0 := g_oW.out; have z1 := d_xd.out; have y1 := s_xd.out; have v1 := g_xd.out; have z2 := d_xx.out; have y2 := s_xx.out; have v2 := g_xx.out; have z3 := d_xy.out; have y3 := s_xy.out; have v3 := g_xy.out; have z4 := d_xz.out; have y4 := s_xz.out; have v4 := g_xz.out; have z5 := d_oG.out; have y5 := s_oG.out; have v5 := g_oG.out; omega)
  have xy := xy.chg hc (by have z0 := d_oW.out; have y0 := s_oW.out; have v0 := g_oW.out; have z1 := d_xd.out; have y1 := s_xd.out; have v1 := g_xd.out; have z2 := d_xx.out; have y2 := s_xx.out; have v2 := g_xx.out; have z3 := d_xy.out; have y3 := s_xy.out; have v3 := g_xy.out; have z4 := d_xz.out; have y4 := s_xz.out; have v4 := g_xz.out; have z5 := d_oG.out; have y5 := s_oG.out; have v5 := g_oG.out; omega)
  have xz := xz.chg hc (by have z0 := d_oW.out; have y0 := s_oW.out; have v0 := g_oW.out; have z1 := d_xd.out; have y1 := s_xd.out; have v1 := g_xd.out; have z2 := d_xx.out; have y2 := s_xx.out; have v2 := g_xx.out; have z3 := d_xy.out; have y3 := s_xy.out; have v3 := g_xy.out; have z4 := d_xz.out; have y4 := s_xz.out; have v4 := g_xz.out; have z5 := d_oG.out; have y5 := s_oG.out; have v5 := g_oG.out; omega)
  have oG := oG.chg hc (by have z0 := d_oW.out; have y0 := s_oW.out; have v0 := g_oW.out; have z1 := d_xd.out; have y1 := s_xd.out; have v1 := g_xd.out; have z2 := d_xx.out; have y2 := s_xx.out; have v2 := g_xx.out; have z3 := d_xy.out; have y3 := s_xy.out; have v3 := g_xy.out; have z4 := d_xz.out; have y4 := s_xz.out; have v4 := g_xz.out; have z5 := d_oG.out; have y5 := s_oG.out; have v5 := g_oG.out; omega)
  have f0 := hc.cellI (by have z0 := d_oW.out; have y0 := s_oW.out; have v0 := g_oW.out; have z1 := d_xd.out; have y1 := s_xd.out; have v1 := g_xd.out; have z2 := d_xx.out; have y2 := s_xx.out; have v2 := g_xx.out; have z3 := d_xy.out; have y3 := s_xy.out; have v3 := g_xy.out; have z4 := d_xz.out; have y4 := s_xz.out; have v4 := g_xz.out; have z5 := d_oG.out; have y5 := s_oG.out; have v5 := g_oG.out; omega) f0
  have f1 := hc.cellI (by have z0 := d_oW.out; have y0 := s_oW.out; have v0 := g_oW.out; have z1 := d_xd.out; have y1 := s_xd.out; have v1 := g_xd.out; have z2 := d_xx.out; have y2 := s_xx.out; have v2 := g_xx.out; have z3 := d_xy.out; have y3 := s_xy.out; have v3 := g_xy.out; have z4 := d_xz.out; have y4 := s_xz.out; have v4 := g_xz.out; have z5 := d_oG.out; have y5 := s_oG.out; have v5 := g_oG.out; omega) f1
  have d0 := hc.cellI (by have z0 := d_oW.out; have y0 := s_oW.out; have v0 := g_oW.out; have z1 := d_xd.out; have y1 := s_xd.out; have v1 := g_xd.out; have z2 := d_xx.out; have y2 := s_xx.out; have v2 := g_xx.out; have z3 := d_xy.out; have y3 := s_xy.out; have v3 := g_xy.out; have z4 := d_xz.out; have y4 := s_xz.out; have v4 := g_xz.out; have z5 := d_oG.out; have y5 := s_oG.out; have v5 := g_oG.out; omega) d0
  have d1 := hc.cellI (by have z0 := d_oW.out; have y0 := s_oW.out; have v0 := g_oW.out; have z1 := d_xd.out; have y1 := s_xd.out; have v1 := g_xd.out; have z2 := d_xx.out; have y2 := s_xx.out; have v2 := g_xx.out; have z3 := d_xy.out; have y3 := s_xy.out; have v3 := g_xy.out; have z4 := d_xz.out; have y4 := s_xz.out; have v4 := g_xz.out; have z5 := d_oG.out; have y5 := s_oG.out; have v5 := g_oG.out; omega) d1
  have bb := bb.trans (hc.belowI bb.size (by have z0 := d_oW.out; have y0 := s_oW.out; have v0 := g_oW.out; have z1 := d_xd.out; have y1 := s_xd.out; have v1 := g_xd.out; have z2 := d_xx.out; have y2 := s_xx.out; have v2 := g_xx.out; have z3 := d_xy.out; have y3 := s_xy.out; have v3 := g_xy.out; have z4 := d_xz.out; have y4 := s_xz.out; have v4 := g_xz.out; have z5 := d_oG.out; have y5 := s_oG.out; have v5 := g_oG.out; omega))
  have hu := Lib.hid (Nat.le_trans hu.out hc.size)
  clear hc
  clear xd
  clear d0 d1
  go_wp2_with fail
  refine (markI_o _ _ _ _ _ _ _ _ xx (by omega) (by omega) (by omega)).mono ?_
  rintro e m16 ⟨rfl, hc, nxx⟩
  have oW := oW.chg hc (by have z0 := d_oW.out; have y0 := s_oW.out; have v0 := g_oW.out; have z1 := d_xd.out; have y1 := s_xd.out; have v1 := g_xd.out; have z2 := d_xx.out; have y2 := s_xx.out; have v2 := g_xx.out; have z3 := d_xy.out; have y3 := s_xy.out; have v3 := g_xy.out; have z4 := d_xz.out; have y4 := s_xz.out; have v4 := g_xz.out; have z5 := d_oG.out; have y5 := s_oG.out; have v5 := g_oG.out; omega)
  have xy := xy.chg hc (by have z0 := d_oW.out; have y0 := s_oW.out; have v0 := g_oW.out; have z1 := d_xd.out; have y1 := s_xd.out; have v1 := g_xd.out; have z2 := d_xx.out; have y2 := s_xx.out; have v2 := g_xx.out; have z3 := d_xy.out; have y3 := s_xy.out; have v3 := g_xy.out; have z4 := d_xz.out; have y4 := s_xz.out; have v4 := g_xz.out; have z5 := d_oG.out; have y5 := s_oG.out; have v5 := g_oG.out; omega)
  have xz := xz.chg hc (by have z0 := d_oW.out; have y0 := s_oW.out; have v0 := g_oW.out; have z1 := d_xd.out; have y1 := s_xd.out; have v1 := g_xd.out; have z2 := d_xx.out; have y2 := s_xx.out; have v2 := g_xx.out; have z3 := d_xy.out; have y3 := s_xy.out; have v3 := g_xy.out; have z4 := d_xz.out; have y4 := s_xz.out; have v4 := g_xz.out; have z5 := d_oG.out; have y5 := s_oG.out; have v5 := g_oG.out; omega)
  have oG := oG.chg hc (by have z0 := d_oW.out; have y0 := s_oW.out; have v0 := g_oW.out; have z1 := d_xd.out; have y1 := s_xd.out; have v1 := g_xd.out; have z2 := d_xx.out; have y2 := s_xx.out; have v2 := g_xx.out; have z3 := d_xy.out; have y3 := s_xy.out; have v3 := g_xy.out; have z4 := d_xz.out; have y4 := s_xz.out; have v4 := g_xz.out; have z5 := d_oG.out; have y5 := s_oG.out; have v5 := g_oG.out; omega)
  have f0 := hc.cellI (by have z0 := d_oW.out; have y0 := s_oW.out; have v0 := g_oW.out; have z1 := d_xd.out; have y1 := s_xd.out; have v1 := g_xd.out; have z2 := d_xx.out; have y2 := s_xx.out; have v2 := g_xx.out; have z3 := d_xy.out; have y3 := s_xy.out; have v3 := g_xy.out; have z4 := d_xz.out; have y4 := s_xz.out; have v4 := g_xz.out; have z5 := d_oG.out; have y5 := s_oG.out; have v5 := g_oG.out; omega) f0
  have f1 := hc.cellI (by have z0 := d_oW.out; have y0 := s_oW.out; have v0 := g_oW.out; have z1 := d_xd.out; have y1 := s_xd.out; have v1 := g_xd.out; have z2 := d_xx.out; have y2 := s_xx.out; have v2 := g_xx.out; have z3 := d_xy.out; have y3 := s_xy.out; have v3 := g_xy.out; have z4 := d_xz.out; have y4 := s_xz.out; have v4 := g_xz.out; have z5 := d_oG.out; have y5 := s_oG.out; have v5 := g_oG.out; omega) f1
  have bb := bb.trans (hc.belowI bb.size (by have z0 := d_oW.out; have y0 := s_oW.out; have v0 := g_oW.out; have z1 := d_xd.out; have y1 := s_xd.out; have v1 := g_xd.out; have z2 := d_xx.out; have y2 := s_xx.out; have v2 := g_xx.out; have z3 := d_xy.out; have y3 := s_xy.out; have v3 := g_xy.out; have z4 := d_xz.out; have y4 := s_xz.out; have v4 := g_xz.out; have z5 := d_oG.out; have y5 := s_oG.out; have v5 := g_oG.out; omega))
  have hu := Lib.hid (Nat.le_trans hu.out hc.size)
  clear hc
  have xx := nxx
  clear nxx
  clear xx
  go_wp2_with fail
  refine (markI_o _ _ _ _ _ _ _ _ xy (by omega) (by omega) (by omega)).mono ?_
  rintro e m17 ⟨rfl, hc, nxy⟩
  have oW := oW.chg hc (by have z0 := d_oW.out; have y0 := s_oW.out; have v0 := g_oW.out; have z1 := d_xd.out; have y1 := s_xd.out; have v1 := g_xd.out; have z2 := d_xx.out; have y2 := s_xx.out; have v2 := g_xx.out; have z3 := d_xy.out; have y3 := s_xy.out; have v3 := g_xy.out; have z4 := d_xz.out; have y4 := s_xz.out; have v4 := g_xz.out; have z5 := d_oG.out; have y5 := s_oG.out; have v5 := g_oG.out; omega)
  have xz := xz.chg hc (by have z0 := d_oW.out; have y0 := s_oW.out; have v0 := g_oW.out; have z1 := d_xd.out; have y1 := s_xd.out; have v1 := g_xd.out; have z2 := d_xx.out; have y2 := s_xx.out; have v2 := g_xx.out; have z3 := d_xy.out; have y3 := s_xy.out; have v3 := g_xy.out; have z4 := d_xz.out; have y4 := s_xz.out; have v4 := g_xz.out; have z5 := d_oG.out; have y5 := s_oG.out; have v5 := g_oG.out; omega)
  have oG := oG.chg hc (by have z0 := d_oW.out; have y0 := s_oW.out; have v0 := g_oW.out; have z1 := d_xd.out; have y1 := s_xd.out; have v1 := g_xd.out; have z2 := d_xx.out; have y2 := s_xx.out; have v2 := g_xx.out; have z3 := d_xy.out; have y3 := s_xy.out; have v3 := g_xy.out; have z4 := d_xz.out; have y4 := s_xz.out; have v4 := g_xz.out; have z5 := d_oG.out; have y5 := s_oG.out; have v5 := g_oG.out; omega)
  have f0 := hc.cellI (by have z0 := d_oW.out; have y0 := s_oW.out; have v0 := g_oW.out; have z1 := d_xd.out; have y1 := s_xd.out; have v1 := g_xd.out; have z2 := d_xx.out; have y2 := s_xx.out; have v2 := g_xx.out; have z3 := d_xy.out; have y3 := s_xy.out; have v3 := g_xy.out; have z4 := d_xz.out; have y4 := s_xz.out; have v4 := g_xz.out; have z5 := d_oG.out; have y5 := s_oG.out; have v5 := g_oG.out; omega) f0
  have f1 := hc.cellI (by have z0 := d_oW.out; have y0 := s_oW.out; have v0 := g_oW.out; have z1 := d_xd.out; have y1 := s_xd.out; have v1 := g_xd.out; have z2 := d_xx.out; have y2 := s_xx.out; have v2 := g_xx.out; have z3 := d_xy.out; have y3 := s_xy.out; have v3 := g_xy.out; have z4 := d_xz.out; have y4 := s_xz.out; have v4 := g_xz.out; have z5 := d_oG.out; have y5 := s_oG.out; have v5 := g_oG.out; omega) f1
  have bb := bb.trans (hc.belowI bb.size (by have z0 := d_oW.out; have y0 := s_oW.out; have v0 := g_oW.out; have z1 := d_xd.out; have y1 := s_xd.out; have v1 := g_xd.out; have z2 := d_xx.out; have y2 := s_xx.out; have v2 := g_xx.out; have z3 := d_xy.out; have y3 := s_xy.out; have v3 := g_xy.out; have z4 := d_xz.out; have y4 := s_xz.out; have v4 := g_xz.out; have z5 := d_oG.out; have y5 := s_oG.out; have v5 := g_oG.out; omega))
  have hu := Lib.hid (Nat.le_trans hu.out hc.size)
  clear hc
  have xy := nxy
  clear nxy
  clear xy
  go_wp2_with fail
  refine (markI_o _ _ _ _ _ _ _ _ xz (by omega) (by omega) (by omega)).mono ?_
  rintro e m18 ⟨rfl, hc, nxz⟩
  have oW := oW.chg hc (by have z0 := d_oW.out; have y0 := s_oW.out; have v0 := g_oW.out; have z1 := d_xd.out; have y1 := s_xd.out; have v1 := g_xd.out; have z2 := d_xx.out; have y2 := s_xx.out; have v2 := g_xx.out; have z3 := d_xy.out; have y3 := s_xy.out; have v3 := g_xy.out; have z4 := d_xz.out; have y4 := s_xz.out; have v4 := g_xz.out; have z5 := d_oG.out; have y5 := s_oG.out; have v5 := g_oG.out; omega)
  have oG := oG.chg hc (by have z0 := d_oW.out; have y0 := s_oW.out; have v0 := g_oW.out; have z1 := d_xd.out; have y1 := s_xd.out; have v1 := g_xd.out; have z2 := d_xx.out; have y2 := s_xx.out; have v2 := g_xx.out; have z3 := d_xy.out; have y3 := s_xy.out; have v3 := g_xy.out; have z4 := d_xz.out; have y4 := s_xz.out; have v4 := g_xz.out; have z5 := d_oG.out; have y5 := s_oG.out; have v5 := g_oG.out; omega)
  have f0 := hc.cellI (by have z0 := d_oW.out; have y0 := s_oW.out; have v0 := g_oW.out; have z1 := d_xd.out; have y1 := s_xd.out; have v1 := g_xd.out; have z2 := d_xx.out; have y2 := s_xx.out; have v2 := g_xx.out; have z3 := d_xy.out; have y3 := s_xy.out; have v3 := g_xy.out; have z4 := d_xz.out; have y4 := s_xz.out; have v4 := g_xz.out; have z5 := d_oG.out; have y5 := s_oG.out; have v5 := g_oG.out; omega) f0
  have f1 := hc.cellI (by have z0 := d_oW.out; have y0 := s_oW.out; have v0 := g_oW.out; have z1 := d_xd.out; have y1 := s_xd.out; have v1 := g_xd.out; have z2 := d_xx.out; have y2 := s_xx.out; have v2 := g_xx.out; have z3 := d_xy.out; have y3 := s_xy.out; have v3 := g_xy.out; have z4 := d_xz.out; have y4 := s_xz.out; have v4 := g_xz.out; have z5 := d_oG.out; have y5 := s_oG.out; have v5 := g_oG.out; omega) f1
  have bb := bb.trans (hc.belowI bb.size (by have z0 := d_oW.out; have y0 := s_oW.out; have v0 := g_oW.out; have z1 := d_xd.out; have y1 := s_xd.out; have v1 := g_xd.out; have z2 := d_xx.out; have y2 := s_xx.out; have v2 := g_xx.out; have z3 := d_xy.out; have y3 := s_xy.out; have v3 := g_xy.out; have z4 := d_xz.out; have y4 := s_xz.out; have v4 := g_xz.out; have z5 := d_oG.out; have y5 := s_oG.out; have v5 := g_oG.out; omega))
  have hu := Lib.hid (Nat.le_trans hu.out hc.size)
  clear hc
  have xz := nxz
  clear nxz
  clear xz
  go_wp2_with fail
  refine Calls.reads' (wr := w) (eqInt64S_c _ _ _ _ _ _ _ oG.ints oW.ints) _ fun q5 => ?_
  rw [eqB_refl]
  have oW := oW.kept (below_drewN _ q5)
  have oG := oG.kept (below_drewN _ q5)
  have f0 := cellKp (below_drewN _ q5) f0
  have f1 := cellKp (below_drewN _ q5) f1
  have bb := bb.trans ((below_drewN _ q5).mono bb.size)
  have hu := Lib.hid (Nat.le_trans hu.out (below_drewN _ q5).size)
  go_wp2_with fail
  refine (markI_o _ _ _ _ _ _ _ _ oG (by omega) (by omega) (by omega)).mono ?_
  rintro e m19 ⟨rfl, hc, noG⟩
  have oW := oW.chg hc (by have z0 := d_oW.out; have y0 := s_oW.out; have v0 := g_oW.out; have z1 := d_xd.out; have y1 := s_xd.out; have v1 := g_xd.out; have z2 := d_xx.out; have y2 := s_xx.out; have v2 := g_xx.out; have z3 := d_xy.out; have y3 := s_xy.out; have v3 := g_xy.out; have z4 := d_xz.out; have y4 := s_xz.out; have v4 := g_xz.out; have z5 := d_oG.out; have y5 := s_oG.out; have v5 := g_oG.out; omega)
  have f0 := hc.cellI (by have z0 := d_oW.out; have y0 := s_oW.out; have v0 := g_oW.out; have z1 := d_xd.out; have y1 := s_xd.out; have v1 := g_xd.out; have z2 := d_xx.out; have y2 := s_xx.out; have v2 := g_xx.out; have z3 := d_xy.out; have y3 := s_xy.out; have v3 := g_xy.out; have z4 := d_xz.out; have y4 := s_xz.out; have v4 := g_xz.out; have z5 := d_oG.out; have y5 := s_oG.out; have v5 := g_oG.out; omega) f0
  have f1 := hc.cellI (by have z0 := d_oW.out; have y0 := s_oW.out; have v0 := g_oW.out; have z1 := d_xd.out; have y1 := s_xd.out; have v1 := g_xd.out; have z2 := d_xx.out; have y2 := s_xx.out; have v2 := g_xx.out; have z3 := d_xy.out; have y3 := s_xy.out; have v3 := g_xy.out; have z4 := d_xz.out; have y4 := s_xz.out; have v4 := g_xz.out; have z5 := d_oG.out; have y5 := s_oG.out; have v5 := g_oG.out; omega) f1
  have bb := bb.trans (hc.belowI bb.size (by have z0 := d_oW.out; have y0 := s_oW.out; have v0 := g_oW.out; have z1 := d_xd.out; have y1 := s_xd.out; have v1 := g_xd.out; have z2 := d_xx.out; have y2 := s_xx.out; have v2 := g_xx.out; have z3 := d_xy.out; have y3 := s_xy.out; have v3 := g_xy.out; have z4 := d_xz.out; have y4 := s_xz.out; have v4 := g_xz.out; have z5 := d_oG.out; have y5 := s_oG.out; have v5 := g_oG.out; omega))
  have hu := Lib.hid (Nat.le_trans hu.out hc.size)
  clear hc
  have oG := noG
  clear noG
  go_wp2_with fail
  refine (heldInt64S_c _ _ _ _ _ oG.ints (by omega) (by omega) (by omega) (fun i _ => rfl)).mono ?_
  rintro e w' ⟨rfl, rfl⟩
  go_wp2_with fail
  refine (toD_o _ _ _ _ _ (id.out _ bb) hs).mono ?_
  rintro e w20 ⟨a20, c20, rfl, hb20, nud⟩
  have d_ud := hu
  have s_ud := Lib.hid hb20.size
  have g_ud := Lib.hid (Nat.succ_le_of_lt (lt_of_cell f0))
  have oW := oW.kept hb20
  have oG := oG.kept hb20
  have f0 := cellKp hb20 f0
  have f1 := cellKp hb20 f1
  have bb := bb.trans (hb20.mono bb.size)
  have hu := Lib.hid (Nat.le_trans hu.out hb20.size)
  have ud := nud
  clear nud hb20 hu
  have hu := Lib.hid (Nat.le_refl w20.heap.size)
  go_wp2_with fail
  refine (toI_o _ _ _ _ (ix.out _ bb) lx).mono ?_
  rintro e w21 ⟨a21, c21, rfl, hb21, nux⟩
  have d_ux := hu
  have s_ux := Lib.hid hb21.size
  have g_ux := Lib.hid (Nat.succ_le_of_lt (lt_of_cell f0))
  have oW := oW.kept hb21
  have oG := oG.kept hb21
  have ud := ud.kept hb21
  have f0 := cellKp hb21 f0
  have f1 := cellKp hb21 f1
  have bb := bb.trans (hb21.mono bb.size)
  have hu := Lib.hid (Nat.le_trans hu.out hb21.size)
  have ux := nux
  clear nux hb21 hu
  have hu := Lib.hid (Nat.le_refl w21.heap.size)
  go_wp2_with fail
  refine (toI_o _ _ _ _ (iy.out _ bb) ly).mono ?_
  rintro e w22 ⟨a22, c22, rfl, hb22, nuy⟩
  have d_uy := hu
  have s_uy := Lib.hid hb22.size
  have g_uy := Lib.hid (Nat.succ_le_of_lt (lt_of_cell f0))
  have oW := oW.kept hb22
  have oG := oG.kept hb22
  have ud := ud.kept hb22
  have ux := ux.kept hb22
  have f0 := cellKp hb22 f0
  have f1 := cellKp hb22 f1
  have bb := bb.trans (hb22.mono bb.size)
  have hu := Lib.hid (Nat.le_trans hu.out hb22.size)
  have uy := nuy
  clear nuy hb22 hu
  have hu := Lib.hid (Nat.le_refl w22.heap.size)
  go_wp2_with fail
  refine (toI_o _ _ _ _ (iz.out _ bb) lz).mono ?_
  rintro e w23 ⟨a23, c23, rfl, hb23, nuz⟩
  have d_uz := hu
  have s_uz := Lib.hid hb23.size
  have g_uz := Lib.hid (Nat.succ_le_of_lt (lt_of_cell f0))
  have oW := oW.kept hb23
  have oG := oG.kept hb23
  have ud := ud.kept hb23
  have ux := ux.kept hb23
  have uy := uy.kept hb23
  have f0 := cellKp hb23 f0
  have f1 := cellKp hb23 f1
  have bb := bb.trans (hb23.mono bb.size)
  have hu := Lib.hid (Nat.le_trans hu.out hb23.size)
  have uz := nuz
  clear nuz hb23 hu
  have hu := Lib.hid (Nat.le_refl w23.heap.size)
  go_wp2_with fail
  go_at_call 27
  refine (CI.out _ _ _ _ _ ud.ints ux.ints uy.ints uz.ints).mono ?_
  rintro e w24 ⟨a24, c24, rfl, hb24, noH⟩
  have d_oH := hu
  have s_oH := Lib.hid hb24.size
  have g_oH := Lib.hid (Nat.succ_le_of_lt (lt_of_cell f0))
  have oW := oW.kept hb24
  have oG := oG.kept hb24
  have ud := ud.kept hb24
  have ux := ux.kept hb24
  have uy := uy.kept hb24
  have uz := uz.kept hb24
  have f0 := cellKp hb24 f0
  have f1 := cellKp hb24 f1
  have bb := bb.trans (hb24.mono bb.size)
  have hu := Lib.hid (Nat.le_trans hu.out hb24.size)
  have oH := noH
  clear noH hb24 hu
  have hu := Lib.hid (Nat.le_refl w24.heap.size)
  go_wp2_with fail
  refine Calls.reads' (wr := w) (eqInt64S_c _ _ _ _ _ _ _ oH.ints oW.ints) _ fun q6 => ?_
  rw [eqB_refl]
  have oW := oW.kept (below_drewN _ q6)
  have oG := oG.kept (below_drewN _ q6)
  have ud := ud.kept (below_drewN _ q6)
  have ux := ux.kept (below_drewN _ q6)
  have uy := uy.kept (below_drewN _ q6)
  have uz := uz.kept (below_drewN _ q6)
  have oH := oH.kept (below_drewN _ q6)
  have f0 := cellKp (below_drewN _ q6) f0
  have f1 := cellKp (below_drewN _ q6) f1
  have bb := bb.trans ((below_drewN _ q6).mono bb.size)
  have hu := Lib.hid (Nat.le_trans hu.out (below_drewN _ q6).size)
  go_wp2_with fail
  refine (heldInt64S_c _ _ _ _ _ oG.ints (by omega) (by omega) (by omega) (fun i _ => rfl)).mono ?_
  rintro e w' ⟨rfl, rfl⟩
  go_wp2
  go_ret
  exact ⟨rfl, bb⟩

end Go.Proofs.Ytdnmjmcdljmghaa
