/-
  The law on SpaceText returns true where the library's table reads as its text lays it. No other condition.
-/
import Derived.Test.YtejbigdebjcomaaDoorTX2
import Derived.Test.YtejbigdebjcomaaDoorF11b
set_option linter.unusedVariables false
set_option linter.unusedSimpArgs false
set_option maxRecDepth 100000
namespace Go.Proofs.YtejbigdebjcomaaDoor
open Go.RowKit


/-- four cells and what a call leaves of them -/
theorem cell4Keep {w W W' : World} {a1 a2 a3 a4 : Nat} {o1 o2 o3 o4 : Nat} {v1 v2 v3 v4 : Value} (hb : Below W.heap.size W W')
    (h : W.cell? ⟨a1, o1, none⟩ = some v1 ∧ W.cell? ⟨a2, o2, none⟩ = some v2 ∧ W.cell? ⟨a3, o3, none⟩ = some v3 ∧ W.cell? ⟨a4, o4, none⟩ = some v4 ∧ Below w.heap.size w W) :
    W'.cell? ⟨a1, o1, none⟩ = some v1 ∧ W'.cell? ⟨a2, o2, none⟩ = some v2 ∧ W'.cell? ⟨a3, o3, none⟩ = some v3 ∧ W'.cell? ⟨a4, o4, none⟩ = some v4 ∧ Below w.heap.size w W' :=
  ⟨cellKp hb h.1, cellKp hb h.2.1, cellKp hb h.2.2.1, cellKp hb h.2.2.2.1, h.2.2.2.2.trans (hb.mono h.2.2.2.2.size)⟩

theorem cell4Below {w W : World} {a1 a2 a3 a4 : Nat} {o1 o2 o3 o4 : Nat} {v1 v2 v3 v4 : Value}
    (h : W.cell? ⟨a1, o1, none⟩ = some v1 ∧ W.cell? ⟨a2, o2, none⟩ = some v2 ∧ W.cell? ⟨a3, o3, none⟩ = some v3 ∧ W.cell? ⟨a4, o4, none⟩ = some v4 ∧ Below w.heap.size w W) : Below w.heap.size w W := h.2.2.2.2


set_option maxHeartbeats 4000000 in
theorem lawSpaceText_c (pd : Int) (dv : Value) (nd : Nat) (sd : Nat → Int) (w : World) (hd : Ints w dv nd sd) (ht : TabW w) :
    Calls Tryd.prog 4 #[dbl pd dv] w fun e w' => Law w w' e := by
  have iD : Hid (∀ W, Below w.heap.size w W → Ints W dv nd sd) := fun W hb => hd.below hb
  have iT : Hid (∀ W, Below w.heap.size w W → TabW W) := fun W hb => ht.below hb
  obtain ⟨ad, cd, _, _, rfl, pd2, pd3, _⟩ := hd.out
  obtain ⟨e0, e1, e2, e3⟩ := box0 w pd ad nd cd 30
  have BX := Lib.hid (box0 w pd ad nd cd 30)
  have E3 := Lib.hid e3
  obtain ⟨S, hS⟩ : ∃ S, stB pd nd sd = S := ⟨_, rfl⟩
  obtain ⟨cc, hcc⟩ : ∃ cc, stC pd nd sd = cc := ⟨_, rfl⟩
  have CS : Hid (∀ W v, Ints W v nd sd → Calls Tryd.prog 12 #[dbl pd v] W fun e w' => Makes W w' e (.tuple #[.string S, .int .i64 cc])) := fun W v h => hS ▸ hcc ▸ sSpaceText_c pd v nd sd W h
  have CI : Hid (∀ W v, Ints W v nd sd → TabW W → Calls Tryd.prog 14 #[dbl pd v] W fun e w' => Makes W w' e (.tuple #[.string S, .int .i64 cc])) := fun W v h h2 => hS ▸ hcc ▸ iSpaceText_c pd v nd sd W h h2
  have hcs : (cc != cc) = false := by simp
  clear hd ht hS hcc
  by_cases hs : nd ≤ 1048576
  rotate_left
  · have h0 := szP_big hs
    go_enter Tryd.func4, Tryd.ntmps4
    go_wp2_with fail
    go_at_call 11
    refine Calls.makes' (szSp_c _ _ _ _ _ (iD.out _ E3.out)) _ fun w1 hb1 => ?_
    rw [h0]
    go_wp2
    go_ret
    exact ⟨rfl, E3.out.trans (hb1.mono E3.out.size)⟩
  have h0 := szP_ok hs
  go_enter Tryd.func4, Tryd.ntmps4
  go_wp2_with fail
  go_at_call 11
  refine Calls.makes' (szSp_c _ _ _ _ _ (iD.out _ E3.out)) _ fun w1 hb1 => ?_
  obtain ⟨f0, f1, _, bb⟩ := boxKeep hb1 BX.out
  clear e0 e1 e2 e3 hb1 BX E3
  go_wp2_with fail
  go_at_call 13
  refine (toSp_o _ _ _ _ _ (iD.out _ bb) hs).mono ?_
  rintro e w2 ⟨a2, c2, rfl, hb2, o2⟩
  have f0 := cellKp hb2 f0
  have f1 := cellKp hb2 f1
  have bb := bb.trans (hb2.mono bb.size)
  clear hb2
  go_wp2_with fail
  go_at_call 12
  refine Calls.makes' (CS.out _ _ o2.ints) _ fun w3 hb3 => ?_
  have f0 := cellKp hb3 f0
  have f1 := cellKp hb3 f1
  have bb := bb.trans (hb3.mono bb.size)
  clear hb3 o2
  go_wp2_with fail
  go_at_call 13
  refine (toSp_o _ _ _ _ _ (iD.out _ bb) hs).mono ?_
  rintro e w4 ⟨a4, c4, rfl, hb4, o4⟩
  have f0 := cellKp hb4 f0
  have f1 := cellKp hb4 f1
  have bb := bb.trans (hb4.mono bb.size)
  have ha7 : Below w4.heap.size w4 (w4.alloc (.cells #[.int .i64 pd, .slice a4 nd c4] 24)) := (Below.refl _ _).alloc (Nat.le_refl _) _
  have D7 := box0 w4 pd a4 nd c4 24
  have d0 := D7.1
  have d1 := D7.2.1
  have f0 := cellKp ha7 f0
  have f1 := cellKp ha7 f1
  have o4 := o4.kept ha7
  have bb := bb.trans (ha7.mono bb.size)
  clear hb4 ha7 D7
  go_wp2_with fail
  go_at_call 14
  refine Calls.makes' (CI.out _ _ o4.ints (iT.out _ bb)) _ fun w5 hb5 => ?_
  have f0 := cellKp hb5 f0
  have f1 := cellKp hb5 f1
  have d0 := cellKp hb5 d0
  have d1 := cellKp hb5 d1
  have o4 := o4.kept hb5
  have bb := bb.trans (hb5.mono bb.size)
  clear hb5
  go_wp2
  go_region_held3 (fun W => W.cell? ⟨w.heap.size, 0, none⟩ = some (.int .i64 pd) ∧ W.cell? ⟨w.heap.size, 1, none⟩ = some (.slice ad nd cd) ∧ W.cell? ⟨w4.heap.size, 0, none⟩ = some (.int .i64 pd) ∧ W.cell? ⟨w4.heap.size, 1, none⟩ = some (.slice a4 nd c4) ∧ Below w.heap.size w W)
    ((first | assumption | exact cell4Keep (drewB _) ⟨f0, f1, d0, d1, bb⟩ | exact cell4Keep (by assumption) (by assumption)))
    ((first
      | (go_at_call 13; refine (toSp_o _ _ _ _ _ (iD.out _ (cell4Below (by assumption))) hs).mono ?_; rintro e w6 ⟨a6, c6, rfl, hb6, o6⟩)
      | (go_at_call 8; refine Calls.makes' (eqSp_c _ _ _ _ _ _ ((o4.kept (drewB _)).kept hb6).ints o6.ints) _ fun w7 hb7 => ?_)))
  rename_i hHeld
  have bf := cell4Below hHeld
  go_wp2
  go_ret
  exact ⟨rfl, bf⟩

end Go.Proofs.YtejbigdebjcomaaDoor
