/-
  The law on CentreOfDoubling returns true. No condition.
-/
import Derived.Test.YtdehfpnlehbdjaaRN5
import Derived.Test.YtdehfpnlehbdjaaDT
import Derived.Test.YtdehfpnlehbdjaaF11b
set_option linter.unusedVariables false
set_option linter.unusedSimpArgs false
namespace Go.Proofs.Ytdehfpnlehbdjaa
open Go.RowKit

theorem CentreOfDoubling_o (pd : Int) (nd : Nat) (sd : Nat → Int) :
    ∃ (cc : Int) (M : Nat) (LR : Nat → Nat) (R : Nat → Nat → Int), M ≤ 1048576 ∧ sumL LR M ≤ 1048576 ∧ 
    (∀ (W : World) (dv : Value), Ints W dv nd sd → Calls Try.prog 28 #[dbl pd dv] W fun e w' => ResT W w' e cc M LR R) ∧
    (∀ (W : World) (dv : Value), Ints W dv nd sd → Calls Try.prog 29 #[dbl pd dv] W fun e w' => ResT W w' e cc M LR R) :=
  have hsz : ∀ cc : Int, (cc = 0 → (nucQ pd sd nd 4).2 ≤ 16 ∧ 2 ^ nd ≤ 16) → (if cc = 0 then (nucQ pd sd nd 4).2 else 0) ≤ 1048576 ∧ sumL (fun _ => 2 ^ nd) (if cc = 0 then (nucQ pd sd nd 4).2 else 0) ≤ 1048576 := fun cc h => by
    by_cases h0 : cc = 0
    · rw [if_pos h0, sumL_const]
      have h1 := h h0
      have h2 := Nat.mul_le_mul h1.1 h1.2
      omega
    · rw [if_neg h0]; simp [sumL]
  have hb : (if dblB pd nd sd then (0 : Int) else 1) = 0 → (nucQ pd sd nd 4).2 ≤ 16 ∧ 2 ^ nd ≤ 16 := fun h => by
    cases hk : dblB pd nd sd
    · rw [hk] at h; simp at h
    · have h16 := pow_le (dblB_ok hk).le
      exact ⟨Nat.le_trans (nucQ_le (dblB_ok hk).prime sd nd 4) h16, h16⟩
  ⟨_, _, _, _, (hsz _ hb).1, (hsz _ hb).2,
    fun W dv h1 => (sCentreOf_c pd dv nd sd W h1).mono fun _ _ h => h.toT,
    fun W dv h1 => (iCentreOf_c pd dv nd sd W h1).mono fun _ _ h => h.toT⟩

set_option maxRecDepth 100000 in
set_option maxHeartbeats 8000000 in
theorem lawCentreOfDoubling_c (pd : Int) (dv : Value) (nd : Nat) (sd : Nat → Int) (w : World) (hd : Ints w dv nd sd) :
    Calls Try.prog 7 #[dbl pd dv] w fun e w' => Law w w' e := by
  have id : Hid (∀ W, Below w.heap.size w W → Ints W dv nd sd) := fun W hb => hd.below hb
  obtain ⟨ad, cd, _, _, rfl, pd2, pd3, _⟩ := hd.out
  obtain ⟨e0, e1, e2, e3⟩ := box0 w pd ad nd cd 24
  have BX := Lib.hid (box0 w pd ad nd cd 24)
  have E3 := Lib.hid e3
  clear hd
  obtain ⟨cc, M, LR, R, hM, hSum, CS0, CI0⟩ := CentreOfDoubling_o pd nd sd
  have CS := Lib.hid CS0
  have CI := Lib.hid CI0
  clear CS0 CI0
  by_cases hs : nd ≤ 1048576
  rotate_left
  · have h0 := szP_big hs
    go_enter Try.func7, Try.ntmps7
    go_wp2_with fail
    go_at_call 8
    refine Calls.makes' (szD_c _ _ _ _ _ (id.out _ E3.out)) _ fun w1 hb1 => ?_
    rw [h0]
    go_wp2
    go_ret
    exact ⟨rfl, E3.out.trans (hb1.mono E3.out.size)⟩
  have h0 := szP_ok hs
  go_enter Try.func7, Try.ntmps7
  go_wp2_with fail
  go_at_call 8
  refine Calls.makes' (szD_c _ _ _ _ _ (id.out _ E3.out)) _ fun w1 hb1 => ?_
  obtain ⟨f0, f1, _, bb⟩ := boxKeep hb1 BX.out
  have hu : Hid (w.heap.size + 1 ≤ w1.heap.size) := Lib.hid (lt_of_cell f0)
  clear e0 e1 e2 e3 hb1 BX E3
  go_wp2_with fail
  refine (toD_o _ _ _ _ _ (id.out _ bb) hs).mono ?_
  rintro e w2 ⟨a2, c2, rfl, hb2, nsd⟩
  have d_sd := hu
  have s_sd := Lib.hid hb2.size
  have g_sd := Lib.hid (Nat.succ_le_of_lt (lt_of_cell f0))
  have f0 := cellKp hb2 f0
  have f1 := cellKp hb2 f1
  have bb := bb.trans (hb2.mono bb.size)
  have hu := Lib.hid (Nat.le_trans hu.out hb2.size)
  have sd := nsd
  clear nsd hb2 hu
  have hu := Lib.hid (Nat.le_refl w2.heap.size)
  go_wp2_with fail
  go_at_call 28
  refine (CS.out _ _ sd.ints).mono ?_
  rintro e w3 ⟨a3, c3, rfl, hb3, noW⟩
  have d_oW := hu
  have s_oW := Lib.hid hb3.size
  have g_oW := Lib.hid (Nat.succ_le_of_lt (lt_of_cell f0))
  have sd := sd.kept hb3
  have f0 := cellKp hb3 f0
  have f1 := cellKp hb3 f1
  have bb := bb.trans (hb3.mono bb.size)
  have hu := Lib.hid (Nat.le_trans hu.out hb3.size)
  have oW := noW
  clear noW hb3 hu
  have hu := Lib.hid (Nat.le_refl w3.heap.size)
  clear sd
  clear d_sd s_sd g_sd
  go_wp2_with fail
  refine (toD_o _ _ _ _ _ (id.out _ bb) hs).mono ?_
  rintro e w4 ⟨a4, c4, rfl, hb4, nxd⟩
  have d_xd := hu
  have s_xd := Lib.hid hb4.size
  have g_xd := Lib.hid (Nat.succ_le_of_lt (lt_of_cell f0))
  have oW := oW.kept hb4
  have f0 := cellKp hb4 f0
  have f1 := cellKp hb4 f1
  have bb := bb.trans (hb4.mono bb.size)
  have hu := Lib.hid (Nat.le_trans hu.out hb4.size)
  have xd := nxd
  clear nxd hb4 hu
  have hu := Lib.hid (Nat.le_refl w4.heap.size)
  have ha7 : Below w4.heap.size w4 (w4.alloc (.cells #[.int .i64 pd, .slice a4 nd c4] 30)) := (Below.refl _ _).alloc (Nat.le_refl _) _
  have D7 := box0 w4 pd a4 nd c4 30
  have d0 := D7.1
  have d1 := D7.2.1
  have lw7 := bb.size
  have oW := oW.kept ha7
  have xd := xd.kept ha7
  have f0 := cellKp ha7 f0
  have f1 := cellKp ha7 f1
  have bb := bb.trans (ha7.mono bb.size)
  clear ha7 D7 hu
  go_wp2_with fail
  go_at_call 29
  refine (CI.out _ _ xd.ints).mono ?_
  rintro e w5 ⟨a5, c5, rfl, hb5, noG⟩
  have noG := noG.low (Nat.le_of_eq (alloc_size _ _).symm)
  have s_oG : Hid (w4.heap.size + 1 ≤ w5.heap.size) := Lib.hid (Nat.le_trans (Nat.le_of_eq (alloc_size _ _).symm) hb5.size)
  have g_oG : Hid (w.heap.size + 1 ≤ w4.heap.size + 1) := Lib.hid (Nat.succ_le_succ lw7)
  clear lw7
  have d_oG : Hid (w4.heap.size + 1 ≤ w4.heap.size + 1) := Lib.hid (Nat.le_refl _)
  have oW := oW.kept hb5
  have xd := xd.kept hb5
  have f0 := cellKp hb5 f0
  have f1 := cellKp hb5 f1
  have d0 := cellKp hb5 d0
  have d1 := cellKp hb5 d1
  have bb := bb.trans (hb5.mono bb.size)
  have oG := noG
  clear noG hb5
  have hu := Lib.hid (Nat.le_refl w5.heap.size)
  go_wp2_with fail
  refine Calls.reads' (wr := w) (eqInt64SS_c _ _ _ _ _ _ _ _ _ oG.tab oW.tab) _ fun q1 => ?_
  rw [eqTB_refl]
  have oW := oW.kept (below_drewN _ q1)
  have xd := xd.kept (below_drewN _ q1)
  have oG := oG.kept (below_drewN _ q1)
  have f0 := cellKp (below_drewN _ q1) f0
  have f1 := cellKp (below_drewN _ q1) f1
  have d0 := cellKp (below_drewN _ q1) d0
  have d1 := cellKp (below_drewN _ q1) d1
  have bb := bb.trans ((below_drewN _ q1).mono bb.size)
  have hu := Lib.hid (Nat.le_trans hu.out (below_drewN _ q1).size)
  go_wp2
  go_region_held3 (fun W => W.cell? ⟨w.heap.size, 0, none⟩ = some (.int .i64 pd) ∧ W.cell? ⟨w.heap.size, 1, none⟩ = some (.slice ad nd cd) ∧ W.cell? ⟨w4.heap.size, 0, none⟩ = some (.int .i64 pd) ∧ W.cell? ⟨w4.heap.size, 1, none⟩ = some (.slice a4 nd c4) ∧ Below w.heap.size w W)
    ((first | assumption | exact box2Keep (drewBelow _) ⟨f0, f1, d0, d1, bb⟩ | exact box2Keep (by assumption) (by assumption)))
    ((first
      | (go_at_call 11; refine (toD_o _ _ _ _ _ (id.out _ (box2Below (by assumption))) hs).mono ?_; rintro e wc ⟨ac', cc', rfl, hbc, hOc⟩)
      | (go_at_call 14; refine Calls.makes' (eqD_c _ _ _ _ _ _ ((xd.kept (drewBelow _)).kept hbc).ints hOc.ints) _ fun wd hbd => ?_)))
  have oW := oW.kept (drewBelow _)
  have xd := xd.kept (drewBelow _)
  have oG := oG.kept (drewBelow _)
  have f0 := cellKp (drewBelow _) f0
  have f1 := cellKp (drewBelow _) f1
  have d0 := cellKp (drewBelow _) d0
  have d1 := cellKp (drewBelow _) d1
  have bb := bb.trans ((drewBelow _).mono bb.size)
  have hu := Lib.hid (Nat.le_trans hu.out (drewBelow _).size)
  have oW := oW.kept hbc
  have xd := xd.kept hbc
  have oG := oG.kept hbc
  have f0 := cellKp hbc f0
  have f1 := cellKp hbc f1
  have d0 := cellKp hbc d0
  have d1 := cellKp hbc d1
  have bb := bb.trans (hbc.mono bb.size)
  have hu := Lib.hid (Nat.le_trans hu.out hbc.size)
  have oW := oW.kept hbd
  have xd := xd.kept hbd
  have oG := oG.kept hbd
  have f0 := cellKp hbd f0
  have f1 := cellKp hbd f1
  have d0 := cellKp hbd d0
  have d1 := cellKp hbd d1
  have bb := bb.trans (hbd.mono bb.size)
  have hu := Lib.hid (Nat.le_trans hu.out hbd.size)
  clear hbc hbd hOc
  go_wp2_with fail
  go_at_call 18
  refine (markD_o _ _ _ _ _ _ _ _ _ xd (by omega) (by omega) (by omega)).mono ?_
  rintro e m6 ⟨rfl, hc⟩
  have oW := oW.chg hc (by have z0 := d_oW.out; have y0 := s_oW.out; have v0 := g_oW.out; have z1 := d_xd.out; have y1 := s_xd.out; have v1 := g_xd.out; have z2 := d_oG.out; have y2 := s_oG.out; have v2 := g_oG.out; omega)
  have oG := oG.chg hc (by have z0 := d_oW.out; have y0 := s_oW.out; have v0 := g_oW.out; have z1 := d_xd.out; have y1 := s_xd.out; have v1 := g_xd.out; have z2 := d_oG.out; have y2 := s_oG.out; have v2 := g_oG.out; omega)
  have f0 := hc.cellI (by have z0 := d_oW.out; have y0 := s_oW.out; have v0 := g_oW.out; have z1 := d_xd.out; have y1 := s_xd.out; have v1 := g_xd.out; have z2 := d_oG.out; have y2 := s_oG.out; have v2 := g_oG.out; omega) f0
  have f1 := hc.cellI (by have z0 := d_oW.out; have y0 := s_oW.out; have v0 := g_oW.out; have z1 := d_xd.out; have y1 := s_xd.out; have v1 := g_xd.out; have z2 := d_oG.out; have y2 := s_oG.out; have v2 := g_oG.out; omega) f1
  have d0 := hc.cellI (by have z0 := d_oW.out; have y0 := s_oW.out; have v0 := g_oW.out; have z1 := d_xd.out; have y1 := s_xd.out; have v1 := g_xd.out; have z2 := d_oG.out; have y2 := s_oG.out; have v2 := g_oG.out; omega) d0
  have d1 := hc.cellI (by have z0 := d_oW.out; have y0 := s_oW.out; have v0 := g_oW.out; have z1 := d_xd.out; have y1 := s_xd.out; have v1 := g_xd.out; have z2 := d_oG.out; have y2 := s_oG.out; have v2 := g_oG.out; omega) d1
  have bb := bb.trans (hc.belowI bb.size (by have z0 := d_oW.out; have y0 := s_oW.out; have v0 := g_oW.out; have z1 := d_xd.out; have y1 := s_xd.out; have v1 := g_xd.out; have z2 := d_oG.out; have y2 := s_oG.out; have v2 := g_oG.out; omega))
  have hu := Lib.hid (Nat.le_trans hu.out hc.size)
  clear hc
  clear xd
  clear d0 d1
  go_wp2_with fail
  refine Calls.reads' (wr := w) (eqInt64SS_c _ _ _ _ _ _ _ _ _ oG.tab oW.tab) _ fun q2 => ?_
  rw [eqTB_refl]
  have oW := oW.kept (below_drewN _ q2)
  have oG := oG.kept (below_drewN _ q2)
  have f0 := cellKp (below_drewN _ q2) f0
  have f1 := cellKp (below_drewN _ q2) f1
  have bb := bb.trans ((below_drewN _ q2).mono bb.size)
  have hu := Lib.hid (Nat.le_trans hu.out (below_drewN _ q2).size)
  go_wp2_with fail
  refine (markT_o _ _ _ _ _ _ _ _ _ oG (by omega) (by omega) (by omega) (by omega)).mono ?_
  rintro e m7 ⟨rfl, hc, noG⟩
  have oW := oW.chg hc (by have z0 := d_oW.out; have y0 := s_oW.out; have v0 := g_oW.out; have z1 := d_xd.out; have y1 := s_xd.out; have v1 := g_xd.out; have z2 := d_oG.out; have y2 := s_oG.out; have v2 := g_oG.out; omega)
  have f0 := hc.cellI (by have z0 := d_oW.out; have y0 := s_oW.out; have v0 := g_oW.out; have z1 := d_xd.out; have y1 := s_xd.out; have v1 := g_xd.out; have z2 := d_oG.out; have y2 := s_oG.out; have v2 := g_oG.out; omega) f0
  have f1 := hc.cellI (by have z0 := d_oW.out; have y0 := s_oW.out; have v0 := g_oW.out; have z1 := d_xd.out; have y1 := s_xd.out; have v1 := g_xd.out; have z2 := d_oG.out; have y2 := s_oG.out; have v2 := g_oG.out; omega) f1
  have bb := bb.trans (hc.belowI bb.size (by have z0 := d_oW.out; have y0 := s_oW.out; have v0 := g_oW.out; have z1 := d_xd.out; have y1 := s_xd.out; have v1 := g_xd.out; have z2 := d_oG.out; have y2 := s_oG.out; have v2 := g_oG.out; omega))
  have hu := Lib.hid (Nat.le_trans hu.out hc.size)
  clear hc
  have oG := noG
  clear noG
  go_wp2_with fail
  refine (heldT_c _ _ _ _ _ _ oG.tab (by omega) (by omega) (by omega) (by omega) (fun i j _ => rfl)).mono ?_
  rintro e w' ⟨rfl, rfl⟩
  go_wp2_with fail
  refine (toD_o _ _ _ _ _ (id.out _ bb) hs).mono ?_
  rintro e w8 ⟨a8, c8, rfl, hb8, nud⟩
  have d_ud := hu
  have s_ud := Lib.hid hb8.size
  have g_ud := Lib.hid (Nat.succ_le_of_lt (lt_of_cell f0))
  have oW := oW.kept hb8
  have oG := oG.kept hb8
  have f0 := cellKp hb8 f0
  have f1 := cellKp hb8 f1
  have bb := bb.trans (hb8.mono bb.size)
  have hu := Lib.hid (Nat.le_trans hu.out hb8.size)
  have ud := nud
  clear nud hb8 hu
  have hu := Lib.hid (Nat.le_refl w8.heap.size)
  go_wp2_with fail
  go_at_call 29
  refine (CI.out _ _ ud.ints).mono ?_
  rintro e w9 ⟨a9, c9, rfl, hb9, noH⟩
  have d_oH := hu
  have s_oH := Lib.hid hb9.size
  have g_oH := Lib.hid (Nat.succ_le_of_lt (lt_of_cell f0))
  have oW := oW.kept hb9
  have oG := oG.kept hb9
  have ud := ud.kept hb9
  have f0 := cellKp hb9 f0
  have f1 := cellKp hb9 f1
  have bb := bb.trans (hb9.mono bb.size)
  have hu := Lib.hid (Nat.le_trans hu.out hb9.size)
  have oH := noH
  clear noH hb9 hu
  have hu := Lib.hid (Nat.le_refl w9.heap.size)
  go_wp2_with fail
  refine Calls.reads' (wr := w) (eqInt64SS_c _ _ _ _ _ _ _ _ _ oH.tab oW.tab) _ fun q3 => ?_
  rw [eqTB_refl]
  have oW := oW.kept (below_drewN _ q3)
  have oG := oG.kept (below_drewN _ q3)
  have ud := ud.kept (below_drewN _ q3)
  have oH := oH.kept (below_drewN _ q3)
  have f0 := cellKp (below_drewN _ q3) f0
  have f1 := cellKp (below_drewN _ q3) f1
  have bb := bb.trans ((below_drewN _ q3).mono bb.size)
  have hu := Lib.hid (Nat.le_trans hu.out (below_drewN _ q3).size)
  go_wp2_with fail
  refine (heldT_c _ _ _ _ _ _ oG.tab (by omega) (by omega) (by omega) (by omega) (fun i j _ => rfl)).mono ?_
  rintro e w' ⟨rfl, rfl⟩
  go_wp2
  go_ret
  exact ⟨rfl, bb⟩

end Go.Proofs.Ytdehfpnlehbdjaa
