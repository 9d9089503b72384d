/-
  The law on CountOfNorm returns true. No condition.
-/
import Derived.Test.YtfcloojemfencaaD42
import Derived.Test.YtfcloojemfencaaF11b
set_option linter.unusedVariables false
set_option linter.unusedSimpArgs false
namespace Go.Proofs.Ytfcloojemfencaa
open Go.RowKit

theorem CountOfNorm_o (pd : Int) (nd : Nat) (sd : Nat → Int) (K : Int) :
    ∃ r1 r2 : Int, 
    (∀ (W : World) (dv : Value), Ints W dv nd sd → Calls Try.prog 15 #[dbl pd dv, .int .i64 K] W fun e w' => Makes W w' e (.tuple #[.int .i64 r1, .int .i64 r2])) ∧
    (∀ (W : World) (dv : Value), Ints W dv nd sd → Calls Try.prog 17 #[dbl pd dv, .int .i64 K] W fun e w' => Makes W w' e (.tuple #[.int .i64 r1, .int .i64 r2])) := by
  obtain ⟨r1, r2, er⟩ := shapeC (nCode pd nd sd K) (cntV pd nd sd K)
  exact ⟨r1, r2, fun W dv h1 => er ▸ sCountOfNorm_c pd dv nd sd K W h1, fun W dv h1 => er ▸ iCountOfNorm_c pd dv nd sd K W h1⟩

set_option maxRecDepth 100000 in
set_option maxHeartbeats 8000000 in
theorem lawCountOfNorm_c (pd : Int) (dv : Value) (nd : Nat) (sd : Nat → Int) (K : Int) (w : World) (hd : Ints w dv nd sd) :
    Calls Try.prog 3 #[dbl pd dv, .int .i64 K] w fun e w' => Law w w' e := by
  have id : Hid (∀ W, Below w.heap.size w W → Ints W dv nd sd) := fun W hb => hd.below hb
  obtain ⟨ad, cd, _, _, rfl, pd2, pd3, _⟩ := hd.out
  obtain ⟨e0, e1, e2, e3⟩ := box0 w pd ad nd cd 24
  have BX := Lib.hid (box0 w pd ad nd cd 24)
  have E3 := Lib.hid e3
  clear hd
  obtain ⟨r1, r2, CS0, CI0⟩ := CountOfNorm_o pd nd sd K
  have CS := Lib.hid CS0
  have CI := Lib.hid CI0
  clear CS0 CI0
  by_cases hs : nd ≤ 1048576
  rotate_left
  · have h0 := szP_big hs
    go_enter Try.func3, Try.ntmps3
    go_wp2_with fail
    go_at_call 14
    refine Calls.makes' (szD_c _ _ _ _ _ (id.out _ E3.out)) _ fun w1 hb1 => ?_
    rw [h0]
    go_wp2
    go_ret
    exact ⟨rfl, E3.out.trans (hb1.mono E3.out.size)⟩
  have h0 := szP_ok hs
  go_enter Try.func3, Try.ntmps3
  go_wp2_with fail
  go_at_call 14
  refine Calls.makes' (szD_c _ _ _ _ _ (id.out _ E3.out)) _ fun w1 hb1 => ?_
  obtain ⟨f0, f1, _, bb⟩ := boxKeep hb1 BX.out
  have hu : Hid (w.heap.size + 1 ≤ w1.heap.size) := Lib.hid (lt_of_cell f0)
  clear e0 e1 e2 e3 hb1 BX E3
  go_wp2_with fail
  refine (toD_o _ _ _ _ _ (id.out _ bb) hs).mono ?_
  rintro e w2 ⟨a2, c2, rfl, hb2, nsd⟩
  have d_sd := hu
  have s_sd := Lib.hid hb2.size
  have g_sd := Lib.hid (Nat.succ_le_of_lt (lt_of_cell f0))
  have f0 := cellKp hb2 f0
  have f1 := cellKp hb2 f1
  have bb := bb.trans (hb2.mono bb.size)
  have hu := Lib.hid (Nat.le_trans hu.out hb2.size)
  have sd := nsd
  clear nsd hb2 hu
  have hu := Lib.hid (Nat.le_refl w2.heap.size)
  go_wp2_with fail
  go_at_call 15
  refine Calls.makes' (CS.out _ _ sd.ints) _ fun w3 hb3 => ?_
  have sd := sd.kept hb3
  have f0 := cellKp hb3 f0
  have f1 := cellKp hb3 f1
  have bb := bb.trans (hb3.mono bb.size)
  have hu := Lib.hid (Nat.le_trans hu.out hb3.size)
  clear hb3
  clear sd
  clear d_sd s_sd g_sd
  go_wp2_with fail
  refine (toD_o _ _ _ _ _ (id.out _ bb) hs).mono ?_
  rintro e w4 ⟨a4, c4, rfl, hb4, nxd⟩
  have d_xd := hu
  have s_xd := Lib.hid hb4.size
  have g_xd := Lib.hid (Nat.succ_le_of_lt (lt_of_cell f0))
  have f0 := cellKp hb4 f0
  have f1 := cellKp hb4 f1
  have bb := bb.trans (hb4.mono bb.size)
  have hu := Lib.hid (Nat.le_trans hu.out hb4.size)
  have xd := nxd
  clear nxd hb4 hu
  have hu := Lib.hid (Nat.le_refl w4.heap.size)
  have ha7 : Below w4.heap.size w4 (w4.alloc (.cells #[.int .i64 pd, .slice a4 nd c4] 28)) := (Below.refl _ _).alloc (Nat.le_refl _) _
  have D7 := box0 w4 pd a4 nd c4 28
  have d0 := D7.1
  have d1 := D7.2.1
  have lw7 := bb.size
  have xd := xd.kept ha7
  have f0 := cellKp ha7 f0
  have f1 := cellKp ha7 f1
  have bb := bb.trans (ha7.mono bb.size)
  clear ha7 D7 hu
  go_wp2_with fail
  go_at_call 17
  refine Calls.makes' (CI.out _ _ xd.ints) _ fun w5 hb5 => ?_
  clear lw7
  have xd := xd.kept hb5
  have f0 := cellKp hb5 f0
  have f1 := cellKp hb5 f1
  have d0 := cellKp hb5 d0
  have d1 := cellKp hb5 d1
  have bb := bb.trans (hb5.mono bb.size)
  clear hb5
  have hu : Hid (0 ≤ w5.heap.size) := Lib.hid (Nat.zero_le _)
  go_wp2
  go_region_held3 (fun W => W.cell? ⟨w.heap.size, 0, none⟩ = some (.int .i64 pd) ∧ W.cell? ⟨w.heap.size, 1, none⟩ = some (.slice ad nd cd) ∧ W.cell? ⟨w4.heap.size, 0, none⟩ = some (.int .i64 pd) ∧ W.cell? ⟨w4.heap.size, 1, none⟩ = some (.slice a4 nd c4) ∧ Below w.heap.size w W)
    ((first | assumption | exact box2Keep (drewBelow _) ⟨f0, f1, d0, d1, bb⟩ | exact box2Keep (by assumption) (by assumption)))
    ((first
      | (go_at_call 16; refine (toD_o _ _ _ _ _ (id.out _ (box2Below (by assumption))) hs).mono ?_; rintro e wc ⟨ac', cc', rfl, hbc, hOc⟩)
      | (go_at_call 18; refine Calls.makes' (eqD_c _ _ _ _ _ _ ((xd.kept (drewBelow _)).kept hbc).ints hOc.ints) _ fun wd hbd => ?_)))
  have xd := xd.kept (drewBelow _)
  have f0 := cellKp (drewBelow _) f0
  have f1 := cellKp (drewBelow _) f1
  have d0 := cellKp (drewBelow _) d0
  have d1 := cellKp (drewBelow _) d1
  have bb := bb.trans ((drewBelow _).mono bb.size)
  have hu := Lib.hid (Nat.le_trans hu.out (drewBelow _).size)
  have xd := xd.kept hbc
  have f0 := cellKp hbc f0
  have f1 := cellKp hbc f1
  have d0 := cellKp hbc d0
  have d1 := cellKp hbc d1
  have bb := bb.trans (hbc.mono bb.size)
  have hu := Lib.hid (Nat.le_trans hu.out hbc.size)
  have xd := xd.kept hbd
  have f0 := cellKp hbd f0
  have f1 := cellKp hbd f1
  have d0 := cellKp hbd d0
  have d1 := cellKp hbd d1
  have bb := bb.trans (hbd.mono bb.size)
  have hu := Lib.hid (Nat.le_trans hu.out hbd.size)
  clear hbc hbd hOc
  go_wp2
  go_ret
  exact ⟨rfl, bb⟩

end Go.Proofs.Ytfcloojemfencaa
