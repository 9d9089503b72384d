/-
  Commutators and associators, in both programs. No condition beside sizes.
-/
import Derived.Test.YtnnacligfoonbaaD19
set_option linter.unusedVariables false
set_option linter.unusedSimpArgs false
namespace Go.Proofs.Ytnnacligfoonbaa
open Go.RowKit

def subF (p : Int) (X Y : Nat → Int) (i : Nat) : Int := (X i + -1 * Y i) % p

set_option maxRecDepth 100000 in
set_option maxHeartbeats 2000000 in
theorem iComm_c (p : Int) (sv xv yv : Value) (n : Nat) (s X Y : Nat → Int) (w : World) (hd : DV w sv p n s) (hx : El w xv p n X) (hy : El w yv p n Y) :
    Calls Try.prog 108 #[dbl p sv, xv, yv] w fun e w' => MakesE w w' e p n (fun i => (mulF p s n X Y i + -1 * mulF p s n Y X i) % p) := by
  obtain ⟨ao, c, _, _, rfl, _⟩ := hd.ints.out
  obtain ⟨e0, e1, e2, e3⟩ := box0 w p ao n c 26
  have HV : Hid (∀ W, Below w.heap.size w W → DV W (.slice ao n c) p n s) := fun W hb => hd.below hb
  have HX : Hid (∀ W, Below w.heap.size w W → El W xv p n X) := fun W hb => hx.below hb
  have HY : Hid (∀ W, Below w.heap.size w W → El W yv p n Y) := fun W hb => hy.below hb
  obtain ⟨_, hp1, hp2, hn4, _⟩ := hd
  have hp16 := pow_le hn4
  have HF : Hid (InP p (2 ^ n) (fun i => (mulF p s n X Y i + -1 * mulF p s n Y X i) % p)) := fun i _ => mod_bd _ _ (by omega)
  clear hx hy
  go_enter Try.func108, Try.ntmps108
  go_wp2
  go_region_held3 (fun W => W.cell? ⟨w.heap.size, 0, none⟩ = some (.int .i64 p) ∧ W.cell? ⟨w.heap.size, 1, none⟩ = some (.slice ao n c) ∧ w.heap.size < W.heap.size ∧ Below w.heap.size w W)
    ((first | assumption | exact boxDrew ⟨e0, e1, e2, e3⟩ | exact boxKeep (by assumption) (by assumption)))
    ((first
      | (go_at_call 110; have hx := hE2; refine (iPlus_c _ _ _ _ _ _ _ (-1) _ (hE1.below hb2).ints hE2.ints (Nat.le_refl _) (by omega) hp1 hp2 (hE1.inp.sm hp2) (hE2.inp.sm hp2) (by omega)).mono ?_; rintro e vz ⟨gz, cz, rfl, hgz, hbz, hOz⟩)
      | (go_at_call 91; have hx := hE1; refine (iTimes_c p _ _ _ n s Y X _ (HV.out _ (boxBelow (by assumption))) (HY.out _ (boxBelow (by assumption))) (HX.out _ (boxBelow (by assumption)))).mono ?_; rintro e v2 ⟨g2, c2, rfl, hg2, hb2, hO2, hE2⟩)
      | (go_at_call 91; refine (iTimes_c p _ _ _ n s X Y _ (HV.out _ (boxBelow (by assumption))) (HX.out _ (boxBelow (by assumption))) (HY.out _ (boxBelow (by assumption)))).mono ?_; rintro e v1 ⟨g1, c1, rfl, hg1, hb1, hO1, hE1⟩)
      | (go_at_call 80; refine Calls.makes' (iField_c _ _ _) _ fun v0 hb0 => ?_)))
  have b4 : Below w.heap.size w vz := boxBelow (by assumption)
  have t0 := hb0.size
  have t1 := hb1.size
  have t2 := hb2.size
  simp at t0
  go_wp2
  go_ret
  exact ⟨gz, cz, rfl, by omega, b4, hOz, hOz.ints, HF.out⟩

set_option maxRecDepth 100000 in
set_option maxHeartbeats 2000000 in
theorem sComm_c (p : Int) (sv xv yv : Value) (n : Nat) (s X Y : Nat → Int) (w : World) (hd : DV w sv p n s) (hx : El w xv p n X) (hy : El w yv p n Y) :
    Calls Try.prog 146 #[dbl p sv, xv, yv] w fun e w' => MakesE w w' e p n (fun i => (mulF p s n X Y i + -1 * mulF p s n Y X i) % p) := by
  obtain ⟨ao, c, _, _, rfl, _⟩ := hd.ints.out
  obtain ⟨e0, e1, e2, e3⟩ := box0 w p ao n c 26
  have HV : Hid (∀ W, Below w.heap.size w W → DV W (.slice ao n c) p n s) := fun W hb => hd.below hb
  have HX : Hid (∀ W, Below w.heap.size w W → El W xv p n X) := fun W hb => hx.below hb
  have HY : Hid (∀ W, Below w.heap.size w W → El W yv p n Y) := fun W hb => hy.below hb
  obtain ⟨_, hp1, hp2, hn4, _⟩ := hd
  have hp16 := pow_le hn4
  have HF : Hid (InP p (2 ^ n) (fun i => (mulF p s n X Y i + -1 * mulF p s n Y X i) % p)) := fun i _ => mod_bd _ _ (by omega)
  clear hx hy
  go_enter Try.func146, Try.ntmps146
  go_wp2
  go_region_held3 (fun W => W.cell? ⟨w.heap.size, 0, none⟩ = some (.int .i64 p) ∧ W.cell? ⟨w.heap.size, 1, none⟩ = some (.slice ao n c) ∧ w.heap.size < W.heap.size ∧ Below w.heap.size w W)
    ((first | assumption | exact boxDrew ⟨e0, e1, e2, e3⟩ | exact boxKeep (by assumption) (by assumption)))
    ((first
      | (go_at_call 111; have hx := hE2; refine (sMinus_c _ _ _ _ _ _ _ (hE1.below hb2).ints hE2.ints (by omega) hp1 hp2 (hE1.inp.sm hp2) (hE2.inp.sm hp2)).mono ?_; rintro e vz ⟨gz, cz, rfl, hgz, hbz, hOz⟩)
      | (go_at_call 93; have hx := hE1; refine (sTimes_c p _ _ _ n s Y X _ (HV.out _ (boxBelow (by assumption))) (HY.out _ (boxBelow (by assumption))) (HX.out _ (boxBelow (by assumption)))).mono ?_; rintro e v2 ⟨g2, c2, rfl, hg2, hb2, hO2, hE2⟩)
      | (go_at_call 93; refine (sTimes_c p _ _ _ n s X Y _ (HV.out _ (boxBelow (by assumption))) (HX.out _ (boxBelow (by assumption))) (HY.out _ (boxBelow (by assumption)))).mono ?_; rintro e v1 ⟨g1, c1, rfl, hg1, hb1, hO1, hE1⟩)))
  have b4 : Below w.heap.size w vz := boxBelow (by assumption)
  have t1 := hb1.size
  have t2 := hb2.size
  simp at t1
  go_wp2
  go_ret
  exact ⟨gz, cz, rfl, by omega, b4, hOz, hOz.ints, HF.out⟩

set_option maxRecDepth 100000 in
set_option maxHeartbeats 2000000 in
theorem iAssoc_c (p : Int) (sv xv yv zv : Value) (n : Nat) (s X Y Z : Nat → Int) (w : World) (hd : DV w sv p n s) (hx : El w xv p n X) (hy : El w yv p n Y) (hz : El w zv p n Z) :
    Calls Try.prog 113 #[dbl p sv, xv, yv, zv] w fun e w' => MakesE w w' e p n (fun i => (mulF p s n (mulF p s n X Y) Z i + -1 * mulF p s n X (mulF p s n Y Z) i) % p) := by
  obtain ⟨ao, c, _, _, rfl, _⟩ := hd.ints.out
  obtain ⟨e0, e1, e2, e3⟩ := box0 w p ao n c 26
  have HV : Hid (∀ W, Below w.heap.size w W → DV W (.slice ao n c) p n s) := fun W hb => hd.below hb
  have HX : Hid (∀ W, Below w.heap.size w W → El W xv p n X) := fun W hb => hx.below hb
  have HY : Hid (∀ W, Below w.heap.size w W → El W yv p n Y) := fun W hb => hy.below hb
  have HZ : Hid (∀ W, Below w.heap.size w W → El W zv p n Z) := fun W hb => hz.below hb
  obtain ⟨_, hp1, hp2, hn4, _⟩ := hd
  have hp16 := pow_le hn4
  have HF : Hid (InP p (2 ^ n) (fun i => (mulF p s n (mulF p s n X Y) Z i + -1 * mulF p s n X (mulF p s n Y Z) i) % p)) := fun i _ => mod_bd _ _ (by omega)
  clear hx hy hz
  go_enter Try.func113, Try.ntmps113
  go_wp2
  go_region_held3 (fun W => W.cell? ⟨w.heap.size, 0, none⟩ = some (.int .i64 p) ∧ W.cell? ⟨w.heap.size, 1, none⟩ = some (.slice ao n c) ∧ w.heap.size < W.heap.size ∧ Below w.heap.size w W)
    ((first | assumption | exact boxDrew ⟨e0, e1, e2, e3⟩ | exact boxKeep (by assumption) (by assumption)))
    ((first
      | (go_at_call 110; have hx := hE4; refine (iPlus_c _ _ _ _ _ _ _ (-1) _ ((hE2.below hb3).below hb4).ints hE4.ints (Nat.le_refl _) (by omega) hp1 hp2 (hE2.inp.sm hp2) (hE4.inp.sm hp2) (by omega)).mono ?_; rintro e vz ⟨gz, cz, rfl, hgz, hbz, hOz⟩)
      | (go_at_call 91; have hx := hE3; refine (iTimes_c p _ _ _ n s X _ _ (HV.out _ (boxBelow (by assumption))) (HX.out _ (boxBelow (by assumption))) hE3).mono ?_; rintro e v4 ⟨g4, c4, rfl, hg4, hb4, hO4, hE4⟩)
      | (go_at_call 91; have hx := hE2; refine (iTimes_c p _ _ _ n s Y Z _ (HV.out _ (boxBelow (by assumption))) (HY.out _ (boxBelow (by assumption))) (HZ.out _ (boxBelow (by assumption)))).mono ?_; rintro e v3 ⟨g3, c3, rfl, hg3, hb3, hO3, hE3⟩)
      | (go_at_call 91; have hx := hE1; refine (iTimes_c p _ _ _ n s _ Z _ (HV.out _ (boxBelow (by assumption))) hE1 (HZ.out _ (boxBelow (by assumption)))).mono ?_; rintro e v2 ⟨g2, c2, rfl, hg2, hb2, hO2, hE2⟩)
      | (go_at_call 91; refine (iTimes_c p _ _ _ n s X Y _ (HV.out _ (boxBelow (by assumption))) (HX.out _ (boxBelow (by assumption))) (HY.out _ (boxBelow (by assumption)))).mono ?_; rintro e v1 ⟨g1, c1, rfl, hg1, hb1, hO1, hE1⟩)
      | (go_at_call 80; refine Calls.makes' (iField_c _ _ _) _ fun v0 hb0 => ?_)))
  have b4 : Below w.heap.size w vz := boxBelow (by assumption)
  have t0 := hb0.size
  have t1 := hb1.size
  have t2 := hb2.size
  have t3 := hb3.size
  have t4 := hb4.size
  simp at t0
  go_wp2
  go_ret
  exact ⟨gz, cz, rfl, by omega, b4, hOz, hOz.ints, HF.out⟩

set_option maxRecDepth 100000 in
set_option maxHeartbeats 2000000 in
theorem sAssoc_c (p : Int) (sv xv yv zv : Value) (n : Nat) (s X Y Z : Nat → Int) (w : World) (hd : DV w sv p n s) (hx : El w xv p n X) (hy : El w yv p n Y) (hz : El w zv p n Z) :
    Calls Try.prog 145 #[dbl p sv, xv, yv, zv] w fun e w' => MakesE w w' e p n (fun i => (mulF p s n (mulF p s n X Y) Z i + -1 * mulF p s n X (mulF p s n Y Z) i) % p) := by
  obtain ⟨ao, c, _, _, rfl, _⟩ := hd.ints.out
  obtain ⟨e0, e1, e2, e3⟩ := box0 w p ao n c 26
  have HV : Hid (∀ W, Below w.heap.size w W → DV W (.slice ao n c) p n s) := fun W hb => hd.below hb
  have HX : Hid (∀ W, Below w.heap.size w W → El W xv p n X) := fun W hb => hx.below hb
  have HY : Hid (∀ W, Below w.heap.size w W → El W yv p n Y) := fun W hb => hy.below hb
  have HZ : Hid (∀ W, Below w.heap.size w W → El W zv p n Z) := fun W hb => hz.below hb
  obtain ⟨_, hp1, hp2, hn4, _⟩ := hd
  have hp16 := pow_le hn4
  have HF : Hid (InP p (2 ^ n) (fun i => (mulF p s n (mulF p s n X Y) Z i + -1 * mulF p s n X (mulF p s n Y Z) i) % p)) := fun i _ => mod_bd _ _ (by omega)
  clear hx hy hz
  go_enter Try.func145, Try.ntmps145
  go_wp2
  go_region_held3 (fun W => W.cell? ⟨w.heap.size, 0, none⟩ = some (.int .i64 p) ∧ W.cell? ⟨w.heap.size, 1, none⟩ = some (.slice ao n c) ∧ w.heap.size < W.heap.size ∧ Below w.heap.size w W)
    ((first | assumption | exact boxDrew ⟨e0, e1, e2, e3⟩ | exact boxKeep (by assumption) (by assumption)))
    ((first
      | (go_at_call 111; have hx := hE4; refine (sMinus_c _ _ _ _ _ _ _ ((hE2.below hb3).below hb4).ints hE4.ints (by omega) hp1 hp2 (hE2.inp.sm hp2) (hE4.inp.sm hp2)).mono ?_; rintro e vz ⟨gz, cz, rfl, hgz, hbz, hOz⟩)
      | (go_at_call 93; have hx := hE3; refine (sTimes_c p _ _ _ n s X _ _ (HV.out _ (boxBelow (by assumption))) (HX.out _ (boxBelow (by assumption))) hE3).mono ?_; rintro e v4 ⟨g4, c4, rfl, hg4, hb4, hO4, hE4⟩)
      | (go_at_call 93; have hx := hE2; refine (sTimes_c p _ _ _ n s Y Z _ (HV.out _ (boxBelow (by assumption))) (HY.out _ (boxBelow (by assumption))) (HZ.out _ (boxBelow (by assumption)))).mono ?_; rintro e v3 ⟨g3, c3, rfl, hg3, hb3, hO3, hE3⟩)
      | (go_at_call 93; have hx := hE1; refine (sTimes_c p _ _ _ n s _ Z _ (HV.out _ (boxBelow (by assumption))) hE1 (HZ.out _ (boxBelow (by assumption)))).mono ?_; rintro e v2 ⟨g2, c2, rfl, hg2, hb2, hO2, hE2⟩)
      | (go_at_call 93; refine (sTimes_c p _ _ _ n s X Y _ (HV.out _ (boxBelow (by assumption))) (HX.out _ (boxBelow (by assumption))) (HY.out _ (boxBelow (by assumption)))).mono ?_; rintro e v1 ⟨g1, c1, rfl, hg1, hb1, hO1, hE1⟩)))
  have b4 : Below w.heap.size w vz := boxBelow (by assumption)
  have t1 := hb1.size
  have t2 := hb2.size
  have t3 := hb3.size
  have t4 := hb4.size
  simp at t1
  go_wp2
  go_ret
  exact ⟨gz, cz, rfl, by omega, b4, hOz, hOz.ints, HF.out⟩

end Go.Proofs.Ytnnacligfoonbaa
