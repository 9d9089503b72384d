/-
  More functions of a doubling as the laws call them: unit, powers, inverses, products with three elements. No condition beside sizes.
-/
import Derived.Test.YtnnacligfoonbaaLW1
import Derived.Test.YtnnacligfoonbaaD29
import Derived.Test.YtnnacligfoonbaaD26
import Derived.Test.YtnnacligfoonbaaD27
import Derived.Test.YtnnacligfoonbaaD23
import Derived.Test.YtnnacligfoonbaaD25
set_option linter.unusedVariables false
set_option linter.unusedSimpArgs false
namespace Go.Proofs.Ytnnacligfoonbaa
open Go.RowKit

/-- an element and the code 0 -/
structure ResE (w w' : World) (e : Ending) (p : Int) (n : Nat) (X : Nat → Int) : Prop where
  out : ∃ g c, e = .returned (.tuple #[.slice (some ⟨g, 0, none⟩) (2 ^ n) c, .int .i64 0]) ∧ Below w.heap.size w w' ∧ El w' (.slice (some ⟨g, 0, none⟩) (2 ^ n) c) p n X
theorem ResC.toE {w w' : World} {e : Ending} {cc p : Int} {n : Nat} {X : Nat → Int} (h : ResC w w' e cc n X) (h0 : cc = 0) (hX : InP p (2 ^ n) X) : ResE w w' e p n X := by
  rcases h.out with ⟨_, g, c, he, hg, hO⟩ | ⟨h1, _⟩
  · exact ⟨g, c, he, h.bel, hO.ints, hX⟩
  · exact absurd h0 h1
theorem powE_in {p : Int} (hp : 2 ≤ p) (s : Nat → Int) (n : Nat) (X : Nat → Int) : ∀ k, InP p (2 ^ n) (powE p s n X k)
  | 0 => dlt_in hp _ _
  | k + 1 => mulF_in (by omega) s n _ _ _
theorem in_mod {p : Int} (hp : 0 < p) (n : Nat) (F : Nat → Int) : InP p n fun i => F i % p := fun i _ => mod_bd _ _ hp

theorem vPower_c (p : Int) (sv : Value) (n : Nat) (s : Nat → Int) (xv : Value) (X : Nat → Int) (k : Int) (w : World) (hok : dblB p n s = true) (h : Ints w sv n s) (hx : El w xv p n X) (hk : 0 ≤ k ∧ k ≤ 1000) :
    Calls Try.prog 40 #[dbl p sv, xv, .int .i64 k] w fun e w' => ResE w w' e p n (powE p s n X k.toNat) :=
  (iDoublePower_c p sv n s xv (2 ^ n) X k w h hx.ints).mono fun e w' hr => hr.toE (by
    rw [codeE_ok (m := 1) (T := fun _ => X) hok (fun i _ => hx.inp), show inB k 0 1000 = true by unfold inB; simp; omega]; rfl) (powE_in (by have := primeB_bd (dblB_ok hok).prime; omega) s n X _)

/-- an inverse, or the code 5 -/
theorem vInverse_c (p : Int) (sv : Value) (n : Nat) (s : Nat → Int) (xv : Value) (X : Nat → Int) (w : World) (hok : dblB p n s = true) (h : Ints w sv n s) (hx : El w xv p n X) :
    Calls Try.prog 41 #[dbl p sv, xv] w fun e w' => ResO w w' e (if normF p s n X = 0 then 5 else 0) (if normF p s n X = 0 then 0 else 2 ^ n) (fun i => (conjF p X i * invM p (normF p s n X)) % p) :=
  (iDoubleInverse_c p sv n s xv (2 ^ n) X w h hx.ints).mono fun e w' hr => by
    have := hr.toO
    rw [codeE_ok (m := 1) (T := fun _ => X) hok (fun i _ => hx.inp)] at this
    by_cases h0 : normF p s n X = 0
    · rw [if_pos h0, if_pos h0]
      rw [show (normF p s n X == 0) = true by simpa using h0] at this
      exact this
    · rw [if_neg h0, if_neg h0]
      rw [show (normF p s n X == 0) = false by simpa using h0] at this
      exact this

set_option maxRecDepth 100000 in
set_option maxHeartbeats 1000000 in
theorem sIsDoubling_c (p : Int) (sv : Value) (n : Nat) (s : Nat → Int) (w : World) (h : Ints w sv n s) :
    Calls Try.prog 36 #[dbl p sv] w fun e w' => Makes w w' e (.bool (dblB p n s)) := by
  have h' := h
  obtain ⟨ao, c, _, _, rfl, qh⟩ := h.out
  clear qh
  have BX := Lib.hid (box0 w p ao n c 26)
  have C1 := Lib.hid (sIsDbl_c p _ n s _ (h'.below BX.out.2.2.2))
  obtain ⟨e0, e1, e2, e3⟩ := BX.out
  have E3 := Lib.hid e3
  clear h h' e3
  go_enter Try.func36, Try.ntmps36
  go_wp2_with fail
  refine Calls.makes' C1.out _ fun w2 hb2 => ?_
  have b4 := E3.out.trans (hb2.mono E3.out.size)
  go_wp2
  go_ret
  exact ⟨rfl, b4⟩

set_option maxRecDepth 100000 in
set_option maxHeartbeats 1000000 in
theorem vUnit_c (p : Int) (sv : Value) (n : Nat) (s : Nat → Int) (w : World) (hok : dblB p n s = true) (h : Ints w sv n s) :
    Calls Try.prog 39 #[dbl p sv] w fun e w' => ResE w w' e p n (dlt 0) := by
  have hv := dv_of h hok
  have h' := h
  obtain ⟨ao, c, _, _, rfl, qh⟩ := h.out
  clear qh
  have hpb := primeB_bd (dblB_ok hok).prime
  have BX := Lib.hid (box0 w p ao n c 26)
  have C1 := Lib.hid (iIsDbl_c p _ n s _ (h'.below BX.out.2.2.2))
  rw [hok] at C1
  have C2 := Lib.hid (fun (W : World) (hb : Below w.heap.size w W) => iElem_c p _ n s 0 W (⟨hv.ints.below hb, hv.p1, hv.p2, hv.le, hv.sm⟩ : DV W (.slice ao n c) p n s) (by omega) (Nat.pos_of_ne_zero (by simp)))
  obtain ⟨e0, e1, e2, e3⟩ := BX.out
  clear h h' hv hok
  go_enter Try.func39, Try.ntmps39
  go_wp2_with fail
  refine Calls.makes' C1.out _ fun w2 hb2 => ?_
  obtain ⟨f0, f1, f2, f3⟩ := boxKeep hb2 BX.out
  clear e0 e1 e2 e3
  go_wp2_with fail
  refine (C2.out w2 f3).mono ?_
  rintro e w3 ⟨g, cg, rfl, hg, hb3, hO, hE⟩
  have b4 := f3.trans (hb3.mono f3.size)
  clear hO
  have HE := Lib.hid hE
  clear hE
  go_wp2
  go_ret2
  exact ⟨g, cg, rfl, b4, HE.out⟩

end Go.Proofs.Ytnnacligfoonbaa
