/-
  The law on VectorIdempotent returns true. No condition.
-/
import Derived.Test.YtmedmkjlhcoepaaMG13
import Derived.Test.YtmedmkjlhcoepaaDT
import Derived.Test.YtmedmkjlhcoepaaDX
set_option linter.unusedVariables false
set_option linter.unusedSimpArgs false
namespace Go.Proofs.Ytmedmkjlhcoepaa
open Go.RowKit

theorem VectorIdempotent_o (pd : Int) (nd : Nat) (sd : Nat → Int) (nx : Nat) (X : Nat → Int) :
    ∃ (cc : Int) (M : Nat) (R : Nat → Int), M ≤ 1048576 ∧ 
    (∀ (W : World) (dv xv : Value), Ints W dv nd sd → Ints W xv nx X → Calls Try.prog 41 #[dbl pd dv, xv] W fun e w' => ResO W w' e cc M R) ∧
    (∀ (W : World) (dv xv : Value), Ints W dv nd sd → Ints W xv nx X → Calls Try.prog 42 #[dbl pd dv, xv] W fun e w' => ResO W w' e cc M R) :=
  have hsz : lenC (thenC (thenC (codeM (spB pd nd sd) pd nd 1 (fun _ => nx) (fun _ => X)) (decide (4 < nd)) 3) (badI pd nd sd X) 5) nd ≤ 1048576 := by
    unfold lenC; split
    · rename_i h
      have h1 := (spB_ok (codeM_zero (thenC_zero (thenC_zero h))).1).n6
      have := pow_le6 h1
      omega
    · omega
  ⟨_, _, _, hsz, fun W dv xv h1 h2 => (sVecIdem_c pd dv nd sd xv nx X W h1 h2).mono fun _ _ h => h.toO, fun W dv xv h1 h2 => (iVecIdem_c pd dv nd sd xv nx X W h1 h2).mono fun _ _ h => h.toO⟩

set_option maxRecDepth 100000 in
set_option maxHeartbeats 8000000 in
theorem lawVectorIdempotent_c (pd : Int) (dv : Value) (nd : Nat) (sd : Nat → Int) (xv : Value) (nx : Nat) (X : Nat → Int) (w : World) (hd : Ints w dv nd sd) (hx : Ints w xv nx X) :
    Calls Try.prog 10 #[dbl pd dv, xv] w fun e w' => Law w w' e := by
  have id : Hid (∀ W, Below w.heap.size w W → Ints W dv nd sd) := fun W hb => hd.below hb
  have ix : Hid (∀ W, Below w.heap.size w W → Ints W xv nx X) := fun W hb => hx.below hb
  obtain ⟨ad, cd, _, _, rfl, pd2, pd3, _⟩ := hd.out
  obtain ⟨ax, cx, _, _, rfl, px2, px3, _⟩ := hx.out
  obtain ⟨e0, e1, e2, e3⟩ := box0 w pd ad nd cd 24
  have BX := Lib.hid (box0 w pd ad nd cd 24)
  have E3 := Lib.hid e3
  clear hd hx
  obtain ⟨cc, M, R, hM, CS0, CI0⟩ := VectorIdempotent_o pd nd sd nx X
  have CS := Lib.hid CS0
  have CI := Lib.hid CI0
  clear CS0 CI0
  by_cases lx : nx ≤ 1048576
  rotate_left
  · go_enter Try.func10, Try.ntmps10
    go_wp2
    go_ret
    exact ⟨rfl, E3.out⟩
  by_cases hs : nd ≤ 1048576
  rotate_left
  · have h0 := szP_big hs
    go_enter Try.func10, Try.ntmps10
    go_wp2_with fail
    go_at_call 14
    refine Calls.makes' (szSp_c _ _ _ _ _ (id.out _ E3.out)) _ fun w1 hb1 => ?_
    rw [h0]
    go_wp2
    go_ret
    exact ⟨rfl, E3.out.trans (hb1.mono E3.out.size)⟩
  have h0 := szP_ok hs
  go_enter Try.func10, Try.ntmps10
  go_wp2_with fail
  go_at_call 14
  refine Calls.makes' (szSp_c _ _ _ _ _ (id.out _ E3.out)) _ fun w1 hb1 => ?_
  obtain ⟨f0, f1, _, bb⟩ := boxKeep hb1 BX.out
  have hu : Hid (w.heap.size + 1 ≤ w1.heap.size) := Lib.hid (lt_of_cell f0)
  clear e0 e1 e2 e3 hb1 BX E3
  go_wp2_with fail
  refine (toSp_o _ _ _ _ _ (id.out _ bb) hs).mono ?_
  rintro e w2 ⟨a2, c2, rfl, hb2, nsd⟩
  have d_sd := hu
  have s_sd := Lib.hid hb2.size
  have g_sd := Lib.hid (Nat.succ_le_of_lt (lt_of_cell f0))
  have f0 := cellKp hb2 f0
  have f1 := cellKp hb2 f1
  have bb := bb.trans (hb2.mono bb.size)
  have hu := Lib.hid (Nat.le_trans hu.out hb2.size)
  have sd := nsd
  clear nsd hb2 hu
  have hu := Lib.hid (Nat.le_refl w2.heap.size)
  go_wp2_with fail
  refine (toI_o _ _ _ _ (ix.out _ bb) lx).mono ?_
  rintro e w3 ⟨a3, c3, rfl, hb3, nsx⟩
  have d_sx := hu
  have s_sx := Lib.hid hb3.size
  have g_sx := Lib.hid (Nat.succ_le_of_lt (lt_of_cell f0))
  have sd := sd.kept hb3
  have f0 := cellKp hb3 f0
  have f1 := cellKp hb3 f1
  have bb := bb.trans (hb3.mono bb.size)
  have hu := Lib.hid (Nat.le_trans hu.out hb3.size)
  have sx := nsx
  clear nsx hb3 hu
  have hu := Lib.hid (Nat.le_refl w3.heap.size)
  go_wp2_with fail
  go_at_call 41
  refine (CS.out _ _ _ sd.ints sx.ints).mono ?_
  rintro e w4 ⟨a4, c4, rfl, hb4, noW⟩
  have d_oW := hu
  have s_oW := Lib.hid hb4.size
  have g_oW := Lib.hid (Nat.succ_le_of_lt (lt_of_cell f0))
  have sd := sd.kept hb4
  have sx := sx.kept hb4
  have f0 := cellKp hb4 f0
  have f1 := cellKp hb4 f1
  have bb := bb.trans (hb4.mono bb.size)
  have hu := Lib.hid (Nat.le_trans hu.out hb4.size)
  have oW := noW
  clear noW hb4 hu
  have hu := Lib.hid (Nat.le_refl w4.heap.size)
  clear sd
  clear sx
  clear d_sd s_sd g_sd d_sx s_sx g_sx
  go_wp2_with fail
  refine (toSp_o _ _ _ _ _ (id.out _ bb) hs).mono ?_
  rintro e w5 ⟨a5, c5, rfl, hb5, nxd⟩
  have d_xd := hu
  have s_xd := Lib.hid hb5.size
  have g_xd := Lib.hid (Nat.succ_le_of_lt (lt_of_cell f0))
  have oW := oW.kept hb5
  have f0 := cellKp hb5 f0
  have f1 := cellKp hb5 f1
  have bb := bb.trans (hb5.mono bb.size)
  have hu := Lib.hid (Nat.le_trans hu.out hb5.size)
  have xd := nxd
  clear nxd hb5 hu
  have hu := Lib.hid (Nat.le_refl w5.heap.size)
  have ha7 : Below w5.heap.size w5 (w5.alloc (.cells #[.int .i64 pd, .slice a5 nd c5] 30)) := (Below.refl _ _).alloc (Nat.le_refl _) _
  have D7 := box0 w5 pd a5 nd c5 30
  have d0 := D7.1
  have d1 := D7.2.1
  have lw7 := bb.size
  have oW := oW.kept ha7
  have xd := xd.kept ha7
  have f0 := cellKp ha7 f0
  have f1 := cellKp ha7 f1
  have bb := bb.trans (ha7.mono bb.size)
  clear ha7 D7 hu
  go_wp2_with fail
  refine (toI_o _ _ _ _ (ix.out _ bb) lx).mono ?_
  rintro e w6 ⟨a6, c6, rfl, hb6, nxx⟩
  have nxx := nxx.low (Nat.le_of_eq (alloc_size _ _).symm)
  have s_xx : Hid (w5.heap.size + 1 ≤ w6.heap.size) := Lib.hid (Nat.le_trans (Nat.le_of_eq (alloc_size _ _).symm) hb6.size)
  have g_xx : Hid (w.heap.size + 1 ≤ w5.heap.size + 1) := Lib.hid (Nat.succ_le_succ lw7)
  clear lw7
  have d_xx : Hid (w5.heap.size + 1 ≤ w5.heap.size + 1) := Lib.hid (Nat.le_refl _)
  have oW := oW.kept hb6
  have xd := xd.kept hb6
  have f0 := cellKp hb6 f0
  have f1 := cellKp hb6 f1
  have d0 := cellKp hb6 d0
  have d1 := cellKp hb6 d1
  have bb := bb.trans (hb6.mono bb.size)
  have xx := nxx
  clear nxx hb6
  have hu := Lib.hid (Nat.le_refl w6.heap.size)
  go_wp2_with fail
  go_at_call 42
  refine (CI.out _ _ _ xd.ints xx.ints).mono ?_
  rintro e w7 ⟨a7, c7, rfl, hb7, noG⟩
  have d_oG := hu
  have s_oG := Lib.hid hb7.size
  have g_oG := Lib.hid (Nat.succ_le_of_lt (lt_of_cell f0))
  have oW := oW.kept hb7
  have xd := xd.kept hb7
  have xx := xx.kept hb7
  have f0 := cellKp hb7 f0
  have f1 := cellKp hb7 f1
  have d0 := cellKp hb7 d0
  have d1 := cellKp hb7 d1
  have bb := bb.trans (hb7.mono bb.size)
  have hu := Lib.hid (Nat.le_trans hu.out hb7.size)
  have oG := noG
  clear noG hb7 hu
  have hu := Lib.hid (Nat.le_refl w7.heap.size)
  go_wp2_with fail
  refine Calls.reads' (wr := w) (eqInt64S_c _ _ _ _ _ _ _ oG.ints oW.ints) _ fun q1 => ?_
  rw [eqB_refl]
  have oW := oW.kept (below_drewN _ q1)
  have xd := xd.kept (below_drewN _ q1)
  have xx := xx.kept (below_drewN _ q1)
  have oG := oG.kept (below_drewN _ q1)
  have f0 := cellKp (below_drewN _ q1) f0
  have f1 := cellKp (below_drewN _ q1) f1
  have d0 := cellKp (below_drewN _ q1) d0
  have d1 := cellKp (below_drewN _ q1) d1
  have bb := bb.trans ((below_drewN _ q1).mono bb.size)
  have hu := Lib.hid (Nat.le_trans hu.out (below_drewN _ q1).size)
  go_wp2
  go_region_held3 (fun W => W.cell? ⟨w.heap.size, 0, none⟩ = some (.int .i64 pd) ∧ W.cell? ⟨w.heap.size, 1, none⟩ = some (.slice ad nd cd) ∧ W.cell? ⟨w5.heap.size, 0, none⟩ = some (.int .i64 pd) ∧ W.cell? ⟨w5.heap.size, 1, none⟩ = some (.slice a5 nd c5) ∧ Below w.heap.size w W)
    ((first | assumption | exact box2Keep (drewBelow _) ⟨f0, f1, d0, d1, bb⟩ | exact box2Keep (by assumption) (by assumption)))
    ((first
      | (go_at_call 17; refine (toSp_o _ _ _ _ _ (id.out _ (box2Below (by assumption))) hs).mono ?_; rintro e wc ⟨ac', cc', rfl, hbc, hOc⟩)
      | (go_at_call 21; refine Calls.makes' (eqSp_c _ _ _ _ _ _ ((xd.kept (drewBelow _)).kept hbc).ints hOc.ints) _ fun wd hbd => ?_)))
  have oW := oW.kept (drewBelow _)
  have xd := xd.kept (drewBelow _)
  have xx := xx.kept (drewBelow _)
  have oG := oG.kept (drewBelow _)
  have f0 := cellKp (drewBelow _) f0
  have f1 := cellKp (drewBelow _) f1
  have d0 := cellKp (drewBelow _) d0
  have d1 := cellKp (drewBelow _) d1
  have bb := bb.trans ((drewBelow _).mono bb.size)
  have hu := Lib.hid (Nat.le_trans hu.out (drewBelow _).size)
  have oW := oW.kept hbc
  have xd := xd.kept hbc
  have xx := xx.kept hbc
  have oG := oG.kept hbc
  have f0 := cellKp hbc f0
  have f1 := cellKp hbc f1
  have d0 := cellKp hbc d0
  have d1 := cellKp hbc d1
  have bb := bb.trans (hbc.mono bb.size)
  have hu := Lib.hid (Nat.le_trans hu.out hbc.size)
  have oW := oW.kept hbd
  have xd := xd.kept hbd
  have xx := xx.kept hbd
  have oG := oG.kept hbd
  have f0 := cellKp hbd f0
  have f1 := cellKp hbd f1
  have d0 := cellKp hbd d0
  have d1 := cellKp hbd d1
  have bb := bb.trans (hbd.mono bb.size)
  have hu := Lib.hid (Nat.le_trans hu.out hbd.size)
  clear hbc hbd hOc
  go_wp2_with fail
  refine (toI_o _ _ _ _ (ix.out _ bb) lx).mono ?_
  rintro e w8 ⟨a8, c8, rfl, hb8, ntx⟩
  have d_tx := hu
  have s_tx := Lib.hid hb8.size
  have g_tx := Lib.hid (Nat.succ_le_of_lt (lt_of_cell f0))
  have oW := oW.kept hb8
  have xd := xd.kept hb8
  have xx := xx.kept hb8
  have oG := oG.kept hb8
  have f0 := cellKp hb8 f0
  have f1 := cellKp hb8 f1
  have d0 := cellKp hb8 d0
  have d1 := cellKp hb8 d1
  have bb := bb.trans (hb8.mono bb.size)
  have hu := Lib.hid (Nat.le_trans hu.out hb8.size)
  have tx := ntx
  clear ntx hb8 hu
  have hu := Lib.hid (Nat.le_refl w8.heap.size)
  go_wp2_with fail
  refine Calls.reads' (wr := w) (eqInt64S_c _ _ _ _ _ _ _ xx.ints tx.ints) _ fun q2 => ?_
  rw [eqB_refl]
  have oW := oW.kept (below_drewN _ q2)
  have xd := xd.kept (below_drewN _ q2)
  have xx := xx.kept (below_drewN _ q2)
  have oG := oG.kept (below_drewN _ q2)
  have tx := tx.kept (below_drewN _ q2)
  have f0 := cellKp (below_drewN _ q2) f0
  have f1 := cellKp (below_drewN _ q2) f1
  have d0 := cellKp (below_drewN _ q2) d0
  have d1 := cellKp (below_drewN _ q2) d1
  have bb := bb.trans ((below_drewN _ q2).mono bb.size)
  have hu := Lib.hid (Nat.le_trans hu.out (below_drewN _ q2).size)
  clear tx
  clear d_tx s_tx g_tx
  go_wp2_with fail
  go_at_call 22
  refine (markSp_o _ _ _ _ _ _ _ _ _ xd (by omega) (by omega) (by omega)).mono ?_
  rintro e m9 ⟨rfl, hc⟩
  have oW := oW.chg hc (by have z0 := d_oW.out; have y0 := s_oW.out; have v0 := g_oW.out; have z1 := d_xd.out; have y1 := s_xd.out; have v1 := g_xd.out; have z2 := d_xx.out; have y2 := s_xx.out; have v2 := g_xx.out; have z3 := d_oG.out; have y3 := s_oG.out; have v3 := g_oG.out; omega)
  have xx := xx.chg hc (by have z0 := d_oW.out; have y0 := s_oW.out; have v0 := g_oW.out; have z1 := d_xd.out; have y1 := s_xd.out; have v1 := g_xd.out; have z2 := d_xx.out; have y2 := s_xx.out; have v2 := g_xx.out; have z3 := d_oG.out; have y3 := s_oG.out; have v3 := g_oG.out; omega)
  have oG := oG.chg hc (by have z0 := d_oW.out; have y0 := s_oW.out; have v0 := g_oW.out; have z1 := d_xd.out; have y1 := s_xd.out; have v1 := g_xd.out; have z2 := d_xx.out; have y2 := s_xx.out; have v2 := g_xx.out; have z3 := d_oG.out; have y3 := s_oG.out; have v3 := g_oG.out; omega)
  have f0 := hc.cellI (by have z0 := d_oW.out; have y0 := s_oW.out; have v0 := g_oW.out; have z1 := d_xd.out; have y1 := s_xd.out; have v1 := g_xd.out; have z2 := d_xx.out; have y2 := s_xx.out; have v2 := g_xx.out; have z3 := d_oG.out; have y3 := s_oG.out; have v3 := g_oG.out; omega) f0
  have f1 := hc.cellI (by have z0 := d_oW.out; have y0 := s_oW.out; have v0 := g_oW.out; have z1 := d_xd.out; have y1 := s_xd.out; have v1 := g_xd.out; have z2 := d_xx.out; have y2 := s_xx.out; have v2 := g_xx.out; have z3 := d_oG.out; have y3 := s_oG.out; have v3 := g_oG.out; omega) f1
  have d0 := hc.cellI (by have z0 := d_oW.out; have y0 := s_oW.out; have v0 := g_oW.out; have z1 := d_xd.out; have y1 := s_xd.out; have v1 := g_xd.out; have z2 := d_xx.out; have y2 := s_xx.out; have v2 := g_xx.out; have z3 := d_oG.out; have y3 := s_oG.out; have v3 := g_oG.out; omega) d0
  have d1 := hc.cellI (by have z0 := d_oW.out; have y0 := s_oW.out; have v0 := g_oW.out; have z1 := d_xd.out; have y1 := s_xd.out; have v1 := g_xd.out; have z2 := d_xx.out; have y2 := s_xx.out; have v2 := g_xx.out; have z3 := d_oG.out; have y3 := s_oG.out; have v3 := g_oG.out; omega) d1
  have bb := bb.trans (hc.belowI bb.size (by have z0 := d_oW.out; have y0 := s_oW.out; have v0 := g_oW.out; have z1 := d_xd.out; have y1 := s_xd.out; have v1 := g_xd.out; have z2 := d_xx.out; have y2 := s_xx.out; have v2 := g_xx.out; have z3 := d_oG.out; have y3 := s_oG.out; have v3 := g_oG.out; omega))
  have hu := Lib.hid (Nat.le_trans hu.out hc.size)
  clear hc
  clear xd
  clear d0 d1
  go_wp2_with fail
  refine (markI_o _ _ _ _ _ _ _ _ xx (by omega) (by omega) (by omega)).mono ?_
  rintro e m10 ⟨rfl, hc, nxx⟩
  have oW := oW.chg hc (by have z0 := d_oW.out; have y0 := s_oW.out; have v0 := g_oW.out; have z1 := d_xd.out; have y1 := s_xd.out; have v1 := g_xd.out; have z2 := d_xx.out; have y2 := s_xx.out; have v2 := g_xx.out; have z3 := d_oG.out; have y3 := s_oG.out; have v3 := g_oG.out; omega)
  have oG := oG.chg hc (by have z0 := d_oW.out; have y0 := s_oW.out; have v0 := g_oW.out; have z1 := d_xd.out; have y1 := s_xd.out; have v1 := g_xd.out; have z2 := d_xx.out; have y2 := s_xx.out; have v2 := g_xx.out; have z3 := d_oG.out; have y3 := s_oG.out; have v3 := g_oG.out; omega)
  have f0 := hc.cellI (by have z0 := d_oW.out; have y0 := s_oW.out; have v0 := g_oW.out; have z1 := d_xd.out; have y1 := s_xd.out; have v1 := g_xd.out; have z2 := d_xx.out; have y2 := s_xx.out; have v2 := g_xx.out; have z3 := d_oG.out; have y3 := s_oG.out; have v3 := g_oG.out; omega) f0
  have f1 := hc.cellI (by have z0 := d_oW.out; have y0 := s_oW.out; have v0 := g_oW.out; have z1 := d_xd.out; have y1 := s_xd.out; have v1 := g_xd.out; have z2 := d_xx.out; have y2 := s_xx.out; have v2 := g_xx.out; have z3 := d_oG.out; have y3 := s_oG.out; have v3 := g_oG.out; omega) f1
  have bb := bb.trans (hc.belowI bb.size (by have z0 := d_oW.out; have y0 := s_oW.out; have v0 := g_oW.out; have z1 := d_xd.out; have y1 := s_xd.out; have v1 := g_xd.out; have z2 := d_xx.out; have y2 := s_xx.out; have v2 := g_xx.out; have z3 := d_oG.out; have y3 := s_oG.out; have v3 := g_oG.out; omega))
  have hu := Lib.hid (Nat.le_trans hu.out hc.size)
  clear hc
  have xx := nxx
  clear nxx
  clear xx
  go_wp2_with fail
  refine Calls.reads' (wr := w) (eqInt64S_c _ _ _ _ _ _ _ oG.ints oW.ints) _ fun q3 => ?_
  rw [eqB_refl]
  have oW := oW.kept (below_drewN _ q3)
  have oG := oG.kept (below_drewN _ q3)
  have f0 := cellKp (below_drewN _ q3) f0
  have f1 := cellKp (below_drewN _ q3) f1
  have bb := bb.trans ((below_drewN _ q3).mono bb.size)
  have hu := Lib.hid (Nat.le_trans hu.out (below_drewN _ q3).size)
  go_wp2_with fail
  refine (markI_o _ _ _ _ _ _ _ _ oG (by omega) (by omega) (by omega)).mono ?_
  rintro e m11 ⟨rfl, hc, noG⟩
  have oW := oW.chg hc (by have z0 := d_oW.out; have y0 := s_oW.out; have v0 := g_oW.out; have z1 := d_xd.out; have y1 := s_xd.out; have v1 := g_xd.out; have z2 := d_xx.out; have y2 := s_xx.out; have v2 := g_xx.out; have z3 := d_oG.out; have y3 := s_oG.out; have v3 := g_oG.out; omega)
  have f0 := hc.cellI (by have z0 := d_oW.out; have y0 := s_oW.out; have v0 := g_oW.out; have z1 := d_xd.out; have y1 := s_xd.out; have v1 := g_xd.out; have z2 := d_xx.out; have y2 := s_xx.out; have v2 := g_xx.out; have z3 := d_oG.out; have y3 := s_oG.out; have v3 := g_oG.out; omega) f0
  have f1 := hc.cellI (by have z0 := d_oW.out; have y0 := s_oW.out; have v0 := g_oW.out; have z1 := d_xd.out; have y1 := s_xd.out; have v1 := g_xd.out; have z2 := d_xx.out; have y2 := s_xx.out; have v2 := g_xx.out; have z3 := d_oG.out; have y3 := s_oG.out; have v3 := g_oG.out; omega) f1
  have bb := bb.trans (hc.belowI bb.size (by have z0 := d_oW.out; have y0 := s_oW.out; have v0 := g_oW.out; have z1 := d_xd.out; have y1 := s_xd.out; have v1 := g_xd.out; have z2 := d_xx.out; have y2 := s_xx.out; have v2 := g_xx.out; have z3 := d_oG.out; have y3 := s_oG.out; have v3 := g_oG.out; omega))
  have hu := Lib.hid (Nat.le_trans hu.out hc.size)
  clear hc
  have oG := noG
  clear noG
  go_wp2_with fail
  refine (heldInt64S_c _ _ _ _ _ oG.ints (by omega) (by omega) (by omega) (fun i _ => rfl)).mono ?_
  rintro e w' ⟨rfl, rfl⟩
  go_wp2_with fail
  refine (toSp_o _ _ _ _ _ (id.out _ bb) hs).mono ?_
  rintro e w12 ⟨a12, c12, rfl, hb12, nud⟩
  have d_ud := hu
  have s_ud := Lib.hid hb12.size
  have g_ud := Lib.hid (Nat.succ_le_of_lt (lt_of_cell f0))
  have oW := oW.kept hb12
  have oG := oG.kept hb12
  have f0 := cellKp hb12 f0
  have f1 := cellKp hb12 f1
  have bb := bb.trans (hb12.mono bb.size)
  have hu := Lib.hid (Nat.le_trans hu.out hb12.size)
  have ud := nud
  clear nud hb12 hu
  have hu := Lib.hid (Nat.le_refl w12.heap.size)
  go_wp2_with fail
  refine (toI_o _ _ _ _ (ix.out _ bb) lx).mono ?_
  rintro e w13 ⟨a13, c13, rfl, hb13, nux⟩
  have d_ux := hu
  have s_ux := Lib.hid hb13.size
  have g_ux := Lib.hid (Nat.succ_le_of_lt (lt_of_cell f0))
  have oW := oW.kept hb13
  have oG := oG.kept hb13
  have ud := ud.kept hb13
  have f0 := cellKp hb13 f0
  have f1 := cellKp hb13 f1
  have bb := bb.trans (hb13.mono bb.size)
  have hu := Lib.hid (Nat.le_trans hu.out hb13.size)
  have ux := nux
  clear nux hb13 hu
  have hu := Lib.hid (Nat.le_refl w13.heap.size)
  go_wp2_with fail
  go_at_call 42
  refine (CI.out _ _ _ ud.ints ux.ints).mono ?_
  rintro e w14 ⟨a14, c14, rfl, hb14, noH⟩
  have d_oH := hu
  have s_oH := Lib.hid hb14.size
  have g_oH := Lib.hid (Nat.succ_le_of_lt (lt_of_cell f0))
  have oW := oW.kept hb14
  have oG := oG.kept hb14
  have ud := ud.kept hb14
  have ux := ux.kept hb14
  have f0 := cellKp hb14 f0
  have f1 := cellKp hb14 f1
  have bb := bb.trans (hb14.mono bb.size)
  have hu := Lib.hid (Nat.le_trans hu.out hb14.size)
  have oH := noH
  clear noH hb14 hu
  have hu := Lib.hid (Nat.le_refl w14.heap.size)
  go_wp2_with fail
  refine Calls.reads' (wr := w) (eqInt64S_c _ _ _ _ _ _ _ oH.ints oW.ints) _ fun q4 => ?_
  rw [eqB_refl]
  have oW := oW.kept (below_drewN _ q4)
  have oG := oG.kept (below_drewN _ q4)
  have ud := ud.kept (below_drewN _ q4)
  have ux := ux.kept (below_drewN _ q4)
  have oH := oH.kept (below_drewN _ q4)
  have f0 := cellKp (below_drewN _ q4) f0
  have f1 := cellKp (below_drewN _ q4) f1
  have bb := bb.trans ((below_drewN _ q4).mono bb.size)
  have hu := Lib.hid (Nat.le_trans hu.out (below_drewN _ q4).size)
  go_wp2_with fail
  refine (heldInt64S_c _ _ _ _ _ oG.ints (by omega) (by omega) (by omega) (fun i _ => rfl)).mono ?_
  rintro e w' ⟨rfl, rfl⟩
  go_wp2
  go_ret
  exact ⟨rfl, bb⟩

end Go.Proofs.Ytmedmkjlhcoepaa
