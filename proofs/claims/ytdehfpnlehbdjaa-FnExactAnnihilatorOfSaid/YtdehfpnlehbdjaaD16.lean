/-
  Doublings: products and the code of elements, in both programs. No condition beside sizes.
-/
import Derived.Test.YtdehfpnlehbdjaaD15
set_option linter.unusedVariables false
set_option linter.unusedSimpArgs false
namespace Go.Proofs.Ytdehfpnlehbdjaa
open Go.RowKit

theorem cellKp {W W' : World} {b o : Nat} {v : Value} (hb : Below W.heap.size W W') (h : W.cell? ⟨b, o, none⟩ = some v) : W'.cell? ⟨b, o, none⟩ = some v := by
  rw [hb.cell (p := ⟨b, o, none⟩) (lt_of_cell h)]; exact h
theorem drewB (W : World) : Below W.heap.size W W.drew := ⟨rfl, rfl, rfl, Nat.le_refl _, fun _ _ => rfl⟩
theorem boxBelow {w W : World} {p : Int} {ao : Option Addr} {n c : Nat} (h : BoxD w p ao n c W) : Below w.heap.size w W := h.2.2.2

/-- an element of a doubling at a world -/
structure El (w : World) (v : Value) (p : Int) (n : Nat) (X : Nat → Int) : Prop where
  ints : Ints w v (2 ^ n) X
  inp : InP p (2 ^ n) X
theorem El.below {w w' : World} {v : Value} {p : Int} {n : Nat} {X : Nat → Int} (h : El w v p n X) (hb : Below w.heap.size w w') : El w' v p n X := ⟨h.ints.below hb, h.inp⟩
theorem El.pos {w : World} {v : Value} {p : Int} {n : Nat} {X : Nat → Int} (h : El w v p n X) : 0 < 2 ^ n := Nat.pos_of_ne_zero (by simp)
theorem pow_le {n : Nat} (h : n ≤ 4) : 2 ^ n ≤ 16 := by
  have : n = 0 ∨ n = 1 ∨ n = 2 ∨ n = 3 ∨ n = 4 := by omega
  rcases this with rfl | rfl | rfl | rfl | rfl <;> decide
/-- A call that makes an element. -/
structure MakesE (w w' : World) (e : Ending) (p : Int) (n : Nat) (X : Nat → Int) : Prop where
  out : ∃ g c, e = .returned (.slice (some ⟨g, 0, none⟩) (2 ^ n) c) ∧ w.heap.size ≤ g ∧ Below w.heap.size w w' ∧ Own w' 2 g c (2 ^ n) (fun i => .int .i64 (X i)) ∧ El w' (.slice (some ⟨g, 0, none⟩) (2 ^ n) c) p n X
theorem CopyI.makesE {w w' : World} {e : Ending} {p : Int} {n : Nat} {X : Nat → Int} (h : CopyI w w' e (2 ^ n) X) (hX : InP p (2 ^ n) X) : MakesE w w' e p n X := by
  obtain ⟨g, c, rfl, hg, hb, hO⟩ := h.out
  exact ⟨g, c, rfl, hg, hb, hO, hO.ints, hX⟩

set_option maxRecDepth 100000 in
set_option maxHeartbeats 4000000 in
theorem iTimes_c (p : Int) (sv xv yv : Value) (n : Nat) (s X Y : Nat → Int) (w : World) (hd : DV w sv p n s) (hx : El w xv p n X) (hy : El w yv p n Y) :
    Calls Try.prog 45 #[dbl p sv, xv, yv] w fun e w' => MakesE w w' e p n (mulF p s n X Y) := by
  have hdb : ∀ W, Below w.heap.size w W → DV W sv p n s := fun W hb => hd.below hb
  have hxb : ∀ W, Below w.heap.size w W → El W xv p n X := fun W hb => hx.below hb
  have hyb : ∀ W, Below w.heap.size w W → El W yv p n Y := fun W hb => hy.below hb
  obtain ⟨ao, c, b, o, rfl, _⟩ := hd.ints.out
  obtain ⟨e0, e1, e2, e3⟩ := box0 w p ao n c 30
  have HD := Lib.hid hdb
  have HX := Lib.hid hxb
  have HY := Lib.hid hyb
  obtain ⟨hints, hp1, hp2, hn4, hsm⟩ := hd
  have HS := Lib.hid hsm
  have hm := mulF_in (p := p) (by omega) s n X Y (2 ^ n)
  have HM := Lib.hid hm
  obtain ⟨M, hM⟩ : ∃ M, M = 2 ^ n := ⟨_, rfl⟩
  clear hdb hxb hyb hx hy hints hsm hm
  go_enter Try.func45, Try.ntmps45
  go_wp2
  go_region_held3 (fun W => W.cell? ⟨w.heap.size, 0, none⟩ = some (.int .i64 p) ∧ W.cell? ⟨w.heap.size, 1, none⟩ = some (.slice ao n c) ∧ w.heap.size < W.heap.size ∧ Below w.heap.size w W)
    ((first | assumption | exact boxDrew ⟨e0, e1, e2, e3⟩ | exact boxKeep (by assumption) (by assumption)))
    ((first
      | (go_at_call 35; refine Calls.makes' (iField_c _ _ _) _ fun w1 hb1 => ?_)
      | (go_at_call 75; refine (iDouble_c p hp1 hp2 s n hn4 HS.out _ _ _ X Y _ (HD.out _ (boxBelow (by assumption))).ints (HX.out _ (boxBelow (by assumption))).ints (HY.out _ (boxBelow (by assumption))).ints (HX.out _ (boxBelow (by assumption))).inp (HY.out _ (boxBelow (by assumption))).inp).mono ?_; rintro e w2 ⟨g2, c2, rfl, hg2, hb2, hO2⟩)))
  have b2 : Below w.heap.size w w2 := boxBelow (by assumption)
  have b1 : w.heap.size ≤ w1.heap.size := by have := hb1.size; simp at this; omega
  go_wp2
  go_ret
  exact ⟨g2, c2, rfl, by omega, b2, hO2, hO2.ints, HM.out⟩

set_option maxRecDepth 100000 in
set_option maxHeartbeats 4000000 in
theorem sTimes_c (p : Int) (sv xv yv : Value) (n : Nat) (s X Y : Nat → Int) (w : World) (hd : DV w sv p n s) (hx : El w xv p n X) (hy : El w yv p n Y) :
    Calls Try.prog 42 #[dbl p sv, xv, yv] w fun e w' => MakesE w w' e p n (mulF p s n X Y) := by
  obtain ⟨ao, c, b, o, rfl, _⟩ := hd.ints.out
  obtain ⟨e0, e1, e2, e3⟩ := box0 w p ao n c 30
  have HD := Lib.hid (hd.below e3)
  have HX := Lib.hid (hx.below e3)
  have HY := Lib.hid (hy.below e3)
  obtain ⟨hints, hp1, hp2, hn4, hsm⟩ := hd
  have HS := Lib.hid hsm
  have HM := Lib.hid (mulF_in (p := p) (by omega) s n X Y (2 ^ n))
  clear hx hy hints hsm
  go_enter Try.func42, Try.ntmps42
  go_wp2_with fail
  refine (sMul_c p hp1 hp2 s n hn4 HS.out _ _ _ X Y _ HD.out.ints HX.out.ints HY.out.ints HX.out.inp HY.out.inp).mono ?_
  rintro e w2 ⟨g2, c2, rfl, hg2, hb2, hO2⟩
  go_wp2
  go_ret
  exact ⟨g2, c2, rfl, by simp at hg2; omega, e3.trans (hb2.mono e3.size), hO2, hO2.ints, HM.out⟩

end Go.Proofs.Ytdehfpnlehbdjaa
