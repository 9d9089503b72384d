/-
  The law on VolumeOf returns true. No condition.
-/
import Derived.Test.YtnkflgigbielgaaSVO
import Derived.Test.YtnkflgigbielgaaDT
import Derived.Test.YtnkflgigbielgaaF11b
set_option linter.unusedVariables false
set_option linter.unusedSimpArgs false
namespace Go.Proofs.Ytnkflgigbielgaa
open Go.RowKit

theorem VolumeOf_o (pd : Int) (nd : Nat) (sd : Nat → Int) (nl : Nat) (Ll : Nat → Nat) (L : Nat → Nat → Int) :
    ∃ r1 r2 : Int, 
    (∀ (W : World) (dv lv : Value), Ints W dv nd sd → Tab W lv nl Ll L → Calls Try.prog 44 #[dbl pd dv, lv] W fun e w' => Makes W w' e (.tuple #[.int .i64 r1, .int .i64 r2])) ∧
    (∀ (W : World) (dv lv : Value), Ints W dv nd sd → Tab W lv nl Ll L → Calls Try.prog 47 #[dbl pd dv, lv] W fun e w' => Makes W w' e (.tuple #[.int .i64 r1, .int .i64 r2])) :=
  ⟨_, _, fun W dv lv h1 h2 => sVolumeOf_c pd dv lv nd nl sd Ll L W h1 h2, fun W dv lv h1 h2 => iVolumeOf_c pd dv lv nd nl sd Ll L W h1 h2⟩

set_option maxRecDepth 100000 in
set_option maxHeartbeats 8000000 in
theorem lawVolumeOf_c (pd : Int) (dv : Value) (nd : Nat) (sd : Nat → Int) (lv : Value) (nl : Nat) (Ll : Nat → Nat) (L : Nat → Nat → Int) (w : World) (hd : Ints w dv nd sd) (hl : Tab w lv nl Ll L) :
    Calls Try.prog 7 #[dbl pd dv, lv] w fun e w' => Law w w' e := by
  have id : Hid (∀ W, Below w.heap.size w W → Ints W dv nd sd) := fun W hb => hd.below hb
  have il : Hid (∀ W, Below w.heap.size w W → Tab W lv nl Ll L) := fun W hb => hl.below hb
  obtain ⟨ad, cd, _, _, rfl, pd2, pd3, _⟩ := hd.out
  obtain ⟨al, cl, _, _, _, _, _, _, rfl, pl2, pl3, _⟩ := hl.out
  obtain ⟨e0, e1, e2, e3⟩ := box0 w pd ad nd cd 59
  have BX := Lib.hid (box0 w pd ad nd cd 59)
  have E3 := Lib.hid e3
  clear hd hl
  obtain ⟨r1, r2, CS0, CI0⟩ := VolumeOf_o pd nd sd nl Ll L
  have CS := Lib.hid CS0
  have CI := Lib.hid CI0
  clear CS0 CI0
  by_cases hs : nd ≤ 1048576
  rotate_left
  · have h0 := szP_big hs
    go_enter Try.func7, Try.ntmps7
    go_wp2_with fail
    go_at_call 42
    refine Calls.makes' (szSp_c _ _ _ _ _ (id.out _ E3.out)) _ fun w1 hb1 => ?_
    rw [h0]
    go_wp2
    go_ret
    exact ⟨rfl, E3.out.trans (hb1.mono E3.out.size)⟩
  have h0 := szP_ok hs
  have hr0 := szP_range hs
  obtain ⟨left, hleft⟩ : ∃ left, szP 1048576 nd = left := ⟨_, rfl⟩
  rw [hleft] at h0 hr0
  have HLeft := Lib.hid hleft
  clear hleft
  by_cases ht : 0 ≤ szP left (nl + sumL Ll nl)
  rotate_left
  · have ht' : szP left (nl + sumL Ll nl) < 0 := by omega
    go_enter Try.func7, Try.ntmps7
    go_wp2_with fail
    go_at_call 42
    refine Calls.makes' (szSp_c _ _ _ _ _ (id.out _ E3.out)) _ fun w1 hb1 => ?_
    rw [HLeft.out]
    have bb := E3.out.trans (hb1.mono E3.out.size)
    go_wp2_with fail
    go_at_call 43
    refine (szT_c _ _ _ _ _ _ (il.out _ bb) h0 hr0.2).mono ?_
    rintro e w' ⟨rfl, rfl⟩
    go_wp2
    go_ret
    exact ⟨rfl, bb⟩
  have hroom := szP_room hr0.2 ht
  have lGl : nl ≤ 1048576 := by omega
  have lSl : sumL Ll nl ≤ 1048576 := by omega
  have lLl : Hid (∀ i, i < nl → Ll i ≤ 1048576) := fun i hi => by have := sumL_row (L := Ll) hi; omega
  go_enter Try.func7, Try.ntmps7
  go_wp2_with fail
  go_at_call 42
  refine Calls.makes' (szSp_c _ _ _ _ _ (id.out _ E3.out)) _ fun w1 hb1 => ?_
  rw [HLeft.out]
  have bb0 := E3.out.trans (hb1.mono E3.out.size)
  go_wp2_with fail
  go_at_call 43
  refine (szT_c _ _ _ _ _ _ (il.out _ bb0) h0 hr0.2).mono ?_
  rintro e w' ⟨rfl, rfl⟩
  clear bb0
  obtain ⟨f0, f1, _, bb⟩ := boxKeep hb1 BX.out
  have hu : Hid (w.heap.size + 1 ≤ w1.heap.size) := Lib.hid (lt_of_cell f0)
  clear e0 e1 e2 e3 hb1 BX E3
  go_wp2_with fail
  refine (toSp_o _ _ _ _ _ (id.out _ bb) hs).mono ?_
  rintro e w2 ⟨a2, c2, rfl, hb2, nsd⟩
  have d_sd := hu
  have s_sd := Lib.hid hb2.size
  have g_sd := Lib.hid (Nat.succ_le_of_lt (lt_of_cell f0))
  have f0 := cellKp hb2 f0
  have f1 := cellKp hb2 f1
  have bb := bb.trans (hb2.mono bb.size)
  have hu := Lib.hid (Nat.le_trans hu.out hb2.size)
  have sd := nsd
  clear nsd hb2 hu
  have hu := Lib.hid (Nat.le_refl w2.heap.size)
  go_wp2_with fail
  refine (toT_o _ _ _ _ _ (il.out _ bb) lGl lLl.out).mono ?_
  rintro e w3 ⟨a3, c3, rfl, hb3, nsl⟩
  have d_sl := hu
  have s_sl := Lib.hid hb3.size
  have g_sl := Lib.hid (Nat.succ_le_of_lt (lt_of_cell f0))
  have sd := sd.kept hb3
  have f0 := cellKp hb3 f0
  have f1 := cellKp hb3 f1
  have bb := bb.trans (hb3.mono bb.size)
  have hu := Lib.hid (Nat.le_trans hu.out hb3.size)
  have sl := nsl
  clear nsl hb3 hu
  have hu := Lib.hid (Nat.le_refl w3.heap.size)
  go_wp2_with fail
  go_at_call 44
  refine Calls.makes' (CS.out _ _ _ sd.ints sl.tab) _ fun w4 hb4 => ?_
  have sd := sd.kept hb4
  have sl := sl.kept hb4
  have f0 := cellKp hb4 f0
  have f1 := cellKp hb4 f1
  have bb := bb.trans (hb4.mono bb.size)
  have hu := Lib.hid (Nat.le_trans hu.out hb4.size)
  clear hb4
  clear sd
  clear sl
  clear d_sd s_sd g_sd d_sl s_sl g_sl
  go_wp2_with fail
  refine (toSp_o _ _ _ _ _ (id.out _ bb) hs).mono ?_
  rintro e w5 ⟨a5, c5, rfl, hb5, nxd⟩
  have d_xd := hu
  have s_xd := Lib.hid hb5.size
  have g_xd := Lib.hid (Nat.succ_le_of_lt (lt_of_cell f0))
  have f0 := cellKp hb5 f0
  have f1 := cellKp hb5 f1
  have bb := bb.trans (hb5.mono bb.size)
  have hu := Lib.hid (Nat.le_trans hu.out hb5.size)
  have xd := nxd
  clear nxd hb5 hu
  have hu := Lib.hid (Nat.le_refl w5.heap.size)
  have ha7 : Below w5.heap.size w5 (w5.alloc (.cells #[.int .i64 pd, .slice a5 nd c5] 26)) := (Below.refl _ _).alloc (Nat.le_refl _) _
  have D7 := box0 w5 pd a5 nd c5 26
  have d0 := D7.1
  have d1 := D7.2.1
  have lw7 := bb.size
  have xd := xd.kept ha7
  have f0 := cellKp ha7 f0
  have f1 := cellKp ha7 f1
  have bb := bb.trans (ha7.mono bb.size)
  clear ha7 D7 hu
  go_wp2_with fail
  refine (toT_o _ _ _ _ _ (il.out _ bb) lGl lLl.out).mono ?_
  rintro e w6 ⟨a6, c6, rfl, hb6, nxl⟩
  have nxl := nxl.low (Nat.le_of_eq (alloc_size _ _).symm)
  have s_xl : Hid (w5.heap.size + 1 ≤ w6.heap.size) := Lib.hid (Nat.le_trans (Nat.le_of_eq (alloc_size _ _).symm) hb6.size)
  have g_xl : Hid (w.heap.size + 1 ≤ w5.heap.size + 1) := Lib.hid (Nat.succ_le_succ lw7)
  clear lw7
  have d_xl : Hid (w5.heap.size + 1 ≤ w5.heap.size + 1) := Lib.hid (Nat.le_refl _)
  have xd := xd.kept hb6
  have f0 := cellKp hb6 f0
  have f1 := cellKp hb6 f1
  have d0 := cellKp hb6 d0
  have d1 := cellKp hb6 d1
  have bb := bb.trans (hb6.mono bb.size)
  have xl := nxl
  clear nxl hb6
  have hu := Lib.hid (Nat.le_refl w6.heap.size)
  go_wp2_with fail
  go_at_call 47
  refine Calls.makes' (CI.out _ _ _ xd.ints xl.tab) _ fun w7 hb7 => ?_
  have xd := xd.kept hb7
  have xl := xl.kept hb7
  have f0 := cellKp hb7 f0
  have f1 := cellKp hb7 f1
  have d0 := cellKp hb7 d0
  have d1 := cellKp hb7 d1
  have bb := bb.trans (hb7.mono bb.size)
  have hu := Lib.hid (Nat.le_trans hu.out hb7.size)
  clear hb7
  go_wp2
  go_region_held3 (fun W => W.cell? ⟨w.heap.size, 0, none⟩ = some (.int .i64 pd) ∧ W.cell? ⟨w.heap.size, 1, none⟩ = some (.slice ad nd cd) ∧ W.cell? ⟨w5.heap.size, 0, none⟩ = some (.int .i64 pd) ∧ W.cell? ⟨w5.heap.size, 1, none⟩ = some (.slice a5 nd c5) ∧ Below w.heap.size w W)
    ((first | assumption | exact box2Keep (drewBelow _) ⟨f0, f1, d0, d1, bb⟩ | exact box2Keep (by assumption) (by assumption)))
    ((first
      | (go_at_call 45; refine (toSp_o _ _ _ _ _ (id.out _ (box2Below (by assumption))) hs).mono ?_; rintro e wc ⟨ac', cc', rfl, hbc, hOc⟩)
      | (go_at_call 48; refine Calls.makes' (eqSp_c _ _ _ _ _ _ ((xd.kept (drewBelow _)).kept hbc).ints hOc.ints) _ fun wd hbd => ?_)))
  have xd := xd.kept (drewBelow _)
  have xl := xl.kept (drewBelow _)
  have f0 := cellKp (drewBelow _) f0
  have f1 := cellKp (drewBelow _) f1
  have d0 := cellKp (drewBelow _) d0
  have d1 := cellKp (drewBelow _) d1
  have bb := bb.trans ((drewBelow _).mono bb.size)
  have hu := Lib.hid (Nat.le_trans hu.out (drewBelow _).size)
  have xd := xd.kept hbc
  have xl := xl.kept hbc
  have f0 := cellKp hbc f0
  have f1 := cellKp hbc f1
  have d0 := cellKp hbc d0
  have d1 := cellKp hbc d1
  have bb := bb.trans (hbc.mono bb.size)
  have hu := Lib.hid (Nat.le_trans hu.out hbc.size)
  have xd := xd.kept hbd
  have xl := xl.kept hbd
  have f0 := cellKp hbd f0
  have f1 := cellKp hbd f1
  have d0 := cellKp hbd d0
  have d1 := cellKp hbd d1
  have bb := bb.trans (hbd.mono bb.size)
  have hu := Lib.hid (Nat.le_trans hu.out hbd.size)
  clear hbc hbd hOc
  go_wp2_with fail
  refine (toT_o _ _ _ _ _ (il.out _ bb) lGl lLl.out).mono ?_
  rintro e w8 ⟨a8, c8, rfl, hb8, ntl⟩
  have d_tl := hu
  have s_tl := Lib.hid hb8.size
  have g_tl := Lib.hid (Nat.succ_le_of_lt (lt_of_cell f0))
  have xd := xd.kept hb8
  have xl := xl.kept hb8
  have f0 := cellKp hb8 f0
  have f1 := cellKp hb8 f1
  have d0 := cellKp hb8 d0
  have d1 := cellKp hb8 d1
  have bb := bb.trans (hb8.mono bb.size)
  have hu := Lib.hid (Nat.le_trans hu.out hb8.size)
  have tl := ntl
  clear ntl hb8 hu
  have hu := Lib.hid (Nat.le_refl w8.heap.size)
  go_wp2_with fail
  refine Calls.reads' (wr := w) (eqInt64SS_c _ _ _ _ _ _ _ _ _ xl.tab tl.tab) _ fun q1 => ?_
  rw [eqTB_refl]
  have xd := xd.kept (below_drewN _ q1)
  have xl := xl.kept (below_drewN _ q1)
  have tl := tl.kept (below_drewN _ q1)
  have f0 := cellKp (below_drewN _ q1) f0
  have f1 := cellKp (below_drewN _ q1) f1
  have d0 := cellKp (below_drewN _ q1) d0
  have d1 := cellKp (below_drewN _ q1) d1
  have bb := bb.trans ((below_drewN _ q1).mono bb.size)
  have hu := Lib.hid (Nat.le_trans hu.out (below_drewN _ q1).size)
  clear tl
  clear d_tl s_tl g_tl
  go_wp2
  go_ret
  exact ⟨rfl, bb⟩

end Go.Proofs.Ytnkflgigbielgaa
