/-
  Roots of the field's numbers, and which doublings divide, in both programs; the laws' own functions on doublings. No condition beside sizes.
-/
import Derived.Test.YtnnacligfoonbaaDJ
import Derived.Handy
set_option linter.unusedVariables false
set_option linter.unusedSimpArgs false
namespace Go.Proofs.Ytnnacligfoonbaa
open Go.RowKit

/-- x is a root of a -/
def rootB (P : Nat) (a : Int) (x : Nat) : Bool := ((x : Int) * (x : Int)) % (P : Int) == a
def hasRoot (P : Nat) (a : Int) : Bool := decide (fst (rootB P a) P < P)

set_option maxHeartbeats 1000000 in
theorem iRoot_c (P : Nat) (a : Int) (w : World) (h1 : 1 ≤ P) (h2 : P ≤ 1000) :
    Calls Try.prog 155 #[.int .i64 P, .int .i64 a] w fun e w' => (∃ r : Int, e = .returned (.tuple #[.int .i64 r, .bool (hasRoot P a)])) ∧ w = w' := by
  go_enter Try.func155, Try.ntmps155
  go_wp2
  go_loopg [8] P (fun g i wr => w = wr ∧ ∃ k : Nat, k ≤ P ∧ g = P - k ∧ i = .int .i64 k ∧ ∀ j, j < k → rootB P a j = false)
  case atStart => exact ⟨rfl, 0, Nat.zero_le _, rfl, rfl, fun j hj => absurd hj (Nat.not_lt_zero _)⟩
  case round =>
    obtain ⟨rfl, k, hk, rfl, rfl, hl⟩ := hrel
    have HL := Lib.hid hl; clear hl
    by_cases hlt : k < P
    · have hm := mul_bd (a := k) (b := k) (by omega) (by omega)
      have HQ : Hid (rootB P a k = (((k : Int) * (k : Int)) % (P : Int) == a)) := rfl
      cases hq : (((k : Int) * (k : Int)) % (P : Int) == a)
      · go_wp2_with (go_at_call 81; refine (iNum_c _ _ _ (by omega) (by omega) (by omega) (by omega)).mono ?_; rintro e w' ⟨rfl, rfl⟩)
        go_roundg (P - (k + 1))
        case measure => omega
        case rel => exact ⟨rfl, k + 1, by omega, rfl, by go_num, fun j hj => by
          by_cases e : j = k
          · subst e; rw [HQ.out, hq]
          · exact HL.out j (by omega)⟩
      · go_wp2_with (go_at_call 81; refine (iNum_c _ _ _ (by omega) (by omega) (by omega) (by omega)).mono ?_; rintro e w' ⟨rfl, rfl⟩)
        go_ret2
        have e : fst (rootB P a) P = k := fst_at hlt HL.out (HQ.out.trans hq)
        exact ⟨⟨(k : Int), by unfold hasRoot; rw [e, decide_eq_true hlt]; rfl⟩, rfl⟩
    · obtain rfl : k = P := by omega
      go_wp2
      go_ret2
      have e : fst (rootB k a) k = k := fst_none HL.out
      exact ⟨⟨0, by unfold hasRoot; rw [e, decide_eq_false (Nat.lt_irrefl _)]; rfl⟩, rfl⟩

theorem iSquare_c (P : Nat) (a : Int) (w : World) (h1 : 1 ≤ P) (h2 : P ≤ 1000) :
    Calls Try.prog 129 #[.int .i64 P, .int .i64 a] w fun e w' => e = .returned (.bool (hasRoot P a)) ∧ w = w' := by
  go_enter Try.func129, Try.ntmps129
  go_wp2_with fail
  refine (iRoot_c _ _ _ h1 h2).mono ?_
  rintro e w' ⟨⟨r, rfl⟩, rfl⟩
  go_wp2
  go_ret
  exact ⟨rfl, rfl⟩

set_option maxHeartbeats 1000000 in
theorem sRoot_c (P : Nat) (a : Int) (w : World) (h1 : 1 ≤ P) (h2 : P ≤ 1000) :
    Calls Try.prog 130 #[.int .i64 P, .int .i64 a] w fun e w' => e = .returned (.int .i64 (idxB (rootB P a) P)) ∧ w = w' := by
  have hP : (P : Int) ≠ 0 := by omega
  go_enter Try.func130, Try.ntmps130
  go_wp2
  go_loopg [5] P (fun g i wr => w = wr ∧ ∃ k : Nat, k ≤ P ∧ g = P - k ∧ i = .int .i64 k ∧ ∀ j, j < k → rootB P a j = false)
  case atStart => exact ⟨rfl, 0, Nat.zero_le _, rfl, rfl, fun j hj => absurd hj (Nat.not_lt_zero _)⟩
  case round =>
    obtain ⟨rfl, k, hk, rfl, rfl, hl⟩ := hrel
    have HL := Lib.hid hl; clear hl
    by_cases hlt : k < P
    · have hm := mul_bd (a := k) (b := k) (by omega) (by omega)
      have HQ : Hid (rootB P a k = (((k : Int) * (k : Int)) % (P : Int) == a)) := rfl
      have ht : Int.tmod ((k : Int) * (k : Int)) (P : Int) = ((k : Int) * (k : Int)) % (P : Int) := Int.tmod_eq_emod_of_nonneg (Int.mul_nonneg (by omega) (by omega))
      cases hq : (((k : Int) * (k : Int)) % (P : Int) == a)
      · go_wp2
        go_roundg (P - (k + 1))
        case measure => omega
        case rel => exact ⟨rfl, k + 1, by omega, rfl, by go_num, fun j hj => by
          by_cases e : j = k
          · subst e; rw [HQ.out, hq]
          · exact HL.out j (by omega)⟩
      · go_wp2
        go_ret
        exact ⟨ret_i64 (idxB_at hlt HL.out (HQ.out.trans hq)).symm, rfl⟩
    · obtain rfl : k = P := by omega
      go_wp2
      go_ret
      exact ⟨ret_i64 (idxB_none HL.out).symm, rfl⟩

/-- a doubling at a world: its steps, and what the test says of it -/
structure DV (w : World) (sv : Value) (p : Int) (n : Nat) (s : Nat → Int) : Prop where
  ints : Ints w sv n s
  p1 : 1 ≤ p
  p2 : p ≤ 1000
  le : n ≤ 4
  sm : Sm n s
theorem DV.below {w w' : World} {sv : Value} {p : Int} {n : Nat} {s : Nat → Int} (h : DV w sv p n s) (hb : Below w.heap.size w w') : DV w' sv p n s := ⟨h.ints.below hb, h.p1, h.p2, h.le, h.sm⟩
theorem dv_of {w : World} {sv : Value} {p : Int} {n : Nat} {s : Nat → Int} (h : Ints w sv n s) (hd : dblB p n s = true) : DV w sv p n s := by
  obtain ⟨h1, h2, h3⟩ := dblB_ok hd
  have := primeB_bd h1
  exact ⟨h, by omega, by omega, h2, fun i hi => by have := h3 i hi; omega⟩

def divB (p : Int) (n : Nat) (s : Nat → Int) : Bool := if n = 0 then true else if n = 1 then !hasRoot p.toNat (s 0) else false
theorem rootLt (P : Nat) (a : Int) : decide (idxB (rootB P a) P < 0) = !hasRoot P a := by
  unfold hasRoot idxB
  by_cases h : fst (rootB P a) P < P
  · rw [if_pos h, decide_eq_true h, decide_eq_false (by omega)]; rfl
  · rw [if_neg h, decide_eq_false h]; rfl

theorem boxKeepC {w W W' : World} {p : Int} {ao : Option Addr} {n c : Nat} {a : Addr} {v : Value} (ha : a.block < w.heap.size) (hb : Below W.heap.size W W') (h : BoxD w p ao n c W ∧ W.cell? a = some v) : BoxD w p ao n c W' ∧ W'.cell? a = some v :=
  ⟨boxKeep hb h.1, by rw [hb.cell (p := a) (by have := h.1.2.2.2.size; omega)]; exact h.2⟩
theorem boxBelowC {w W : World} {p : Int} {ao : Option Addr} {n c : Nat} {a : Addr} {v : Value} (h : BoxD w p ao n c W ∧ W.cell? a = some v) : Below w.heap.size w W := h.1.2.2.2
theorem boxStartC {w W : World} {p : Int} {ao : Option Addr} {n c : Nat} {a : Addr} {v : Value} (ha : a.block < w.heap.size) (h : BoxD w p ao n c W) (hc : w.cell? a = some v) : BoxD w p ao n c W ∧ W.cell? a = some v :=
  ⟨h, by rw [h.2.2.2.cell (p := a) ha]; exact hc⟩

set_option maxRecDepth 100000 in
set_option maxHeartbeats 4000000 in
theorem iDiv_c (p : Int) (sv : Value) (n : Nat) (s : Nat → Int) (w : World) (h : Ints w sv n s) :
    Calls Try.prog 68 #[dbl p sv] w fun e w' => Makes w w' e (rB (dblB p n s) (divB p n s)) := by
  have hi : ∀ W, Below w.heap.size w W → Ints W sv n s := fun W hb => h.below hb
  have hcell0 : ∀ ao c, sv = .slice ao n c → 0 < n → ∃ b o, ao = some ⟨b, o, none⟩ ∧ w.cell? ⟨b, o, none⟩ = some (.int .i64 (s 0)) := fun ao c e h0 => by
    obtain ⟨ao', c', b, o, e', _, _, h4, h5⟩ := h.out
    rw [e] at e'; injection e' with e1 e2 e3; subst e1
    exact ⟨b, o, h4 h0, h5 0 h0⟩
  obtain ⟨ao, c, b, o, rfl, p2, p3, p4, p5⟩ := h.out
  have HI := Lib.hid hi
  obtain ⟨e0, e1, e2, e3⟩ := box0 w p ao n c 26
  have BX := Lib.hid (box0 w p ao n c 26)
  have DR := Lib.hid (fun hd => dv_of (p := p) h hd)
  have C0 := Lib.hid (hcell0 ao c rfl)
  clear h p5 hi p4 hcell0
  have hcall : ∀ W, Below w.heap.size w W → Calls Try.prog 35 #[dbl p (.slice ao n c)] W fun e w' => Makes W w' e (.bool (dblB p n s)) := fun W hb => iIsDbl_c p _ n s W (HI.out W hb)
  have HCC := Lib.hid hcall; clear hcall
  cases hd : dblB p n s
  · go_enter Try.func68, Try.ntmps68
    go_wp2_with fail
    refine Calls.makes' (HCC.out _ e3) _ fun w1 hb1 => ?_
    rw [hd]
    have hx := boxKeep hb1 BX.out
    go_wp2
    go_ret2
    exact ⟨rfl, hx.2.2.2⟩
  · obtain ⟨hints, hp1, hp2, hn4, hsm⟩ := DR.out hd
    have HV := Lib.hid hints; clear hints
    by_cases hn0 : n = 0
    · subst hn0
      go_enter Try.func68, Try.ntmps68
      go_wp2_with fail
      refine Calls.makes' (HCC.out _ e3) _ fun w1 hb1 => ?_
      rw [hd]
      obtain ⟨f0, f1, f2, f3⟩ := boxKeep hb1 BX.out
      go_wp2
      go_ret2
      exact ⟨rfl, f3⟩
    by_cases hn1 : n = 1
    · subst hn1
      obtain ⟨bb, oo, rfl, hc0⟩ := C0.out (by omega)
      have hl0 := lt_of_cell hc0
      obtain ⟨P, rfl⟩ := Int.eq_ofNat_of_zero_le (show 0 ≤ p by omega)
      go_enter Try.func68, Try.ntmps68
      go_wp2_with fail
      refine Calls.makes' (HCC.out _ e3) _ fun w1 hb1 => ?_
      rw [hd]
      obtain ⟨f0, f1, f2, f3⟩ := boxKeep hb1 BX.out
      go_wp2
      go_region_held3 (fun W => (W.cell? ⟨w.heap.size, 0, none⟩ = some (.int .i64 (P : Int)) ∧ W.cell? ⟨w.heap.size, 1, none⟩ = some (.slice (some ⟨bb, oo, none⟩) 1 c) ∧ w.heap.size < W.heap.size ∧ Below w.heap.size w W) ∧ W.cell? ⟨bb, oo, none⟩ = some (.int .i64 (s 0)))
        ((first | assumption | exact boxStartC hl0 (boxDrew ⟨f0, f1, f2, f3⟩) hc0 | exact boxKeepC hl0 (by assumption) (by assumption)))
        ((first
          | (go_at_call 80; refine Calls.makes' (iField_c _ _ _) _ fun w2 hb2 => ?_)
          | (go_at_call 129; refine (iSquare_c _ _ _ (by omega) (by omega)).mono ?_; rintro e w' ⟨rfl, rfl⟩)))
      all_goals go_wp2
      all_goals go_ret2
      all_goals exact ⟨rfl, boxBelowC (by assumption)⟩
    · have hv : divB p n s = false := by unfold divB; rw [if_neg hn0, if_neg hn1]
      go_enter Try.func68, Try.ntmps68
      go_wp2_with fail
      refine Calls.makes' (HCC.out _ e3) _ fun w1 hb1 => ?_
      rw [hd]
      obtain ⟨f0, f1, f2, f3⟩ := boxKeep hb1 BX.out
      go_wp2
      go_ret2
      exact ⟨by rw [hv]; rfl, f3⟩

set_option maxRecDepth 100000 in
set_option maxHeartbeats 4000000 in
theorem sDiv_c (p : Int) (sv : Value) (n : Nat) (s : Nat → Int) (w : World) (h : Ints w sv n s) :
    Calls Try.prog 69 #[dbl p sv] w fun e w' => Makes w w' e (rB (dblB p n s) (divB p n s)) := by
  have hi : ∀ W, Below w.heap.size w W → Ints W sv n s := fun W hb => h.below hb
  have hcell0 : ∀ ao c, sv = .slice ao n c → 0 < n → ∃ b o, ao = some ⟨b, o, none⟩ ∧ w.cell? ⟨b, o, none⟩ = some (.int .i64 (s 0)) := fun ao c e h0 => by
    obtain ⟨ao', c', b, o, e', _, _, h4, h5⟩ := h.out
    rw [e] at e'; injection e' with e1 e2 e3; subst e1
    exact ⟨b, o, h4 h0, h5 0 h0⟩
  obtain ⟨ao, c, b, o, rfl, p2, p3, p4, p5⟩ := h.out
  have HI := Lib.hid hi
  obtain ⟨e0, e1, e2, e3⟩ := box0 w p ao n c 26
  have BX := Lib.hid (box0 w p ao n c 26)
  have DR := Lib.hid (fun hd => dv_of (p := p) h hd)
  have C0 := Lib.hid (hcell0 ao c rfl)
  clear h p5 hi p4 hcell0
  have hcall : ∀ W, Below w.heap.size w W → Calls Try.prog 75 #[dbl p (.slice ao n c)] W fun e w' => Makes W w' e (.bool (dblB p n s)) := fun W hb => sIsDbl_c p _ n s W (HI.out W hb)
  have HCC := Lib.hid hcall; clear hcall
  cases hd : dblB p n s
  · go_enter Try.func69, Try.ntmps69
    go_wp2_with fail
    refine Calls.makes' (HCC.out _ e3) _ fun w1 hb1 => ?_
    rw [hd]
    have hx := boxKeep hb1 BX.out
    go_wp2
    go_ret2
    exact ⟨rfl, hx.2.2.2⟩
  · obtain ⟨hints, hp1, hp2, hn4, hsm⟩ := DR.out hd
    have HV := Lib.hid hints; clear hints
    by_cases hn0 : n = 0
    · subst hn0
      go_enter Try.func69, Try.ntmps69
      go_wp2_with fail
      refine Calls.makes' (HCC.out _ e3) _ fun w1 hb1 => ?_
      rw [hd]
      obtain ⟨f0, f1, f2, f3⟩ := boxKeep hb1 BX.out
      go_wp2
      go_ret2
      exact ⟨rfl, f3⟩
    by_cases hn1 : n = 1
    · subst hn1
      obtain ⟨bb, oo, rfl, hc0⟩ := C0.out (by omega)
      have hl0 := lt_of_cell hc0
      obtain ⟨P, rfl⟩ := Int.eq_ofNat_of_zero_le (show 0 ≤ p by omega)
      go_enter Try.func69, Try.ntmps69
      go_wp2_with fail
      refine Calls.makes' (HCC.out _ e3) _ fun w1 hb1 => ?_
      rw [hd]
      obtain ⟨f0, f1, f2, f3⟩ := boxKeep hb1 BX.out
      go_wp2
      have f4 : w1.cell? ⟨bb, oo, none⟩ = some (.int .i64 (s 0)) := by rw [f3.cell (p := ⟨bb, oo, none⟩) hl0]; exact hc0
      have hrl := rootLt P (s 0)
      go_quiet ((go_at_call 130; exact Calls.pure (sRoot_c _ _ _ (by omega) (by omega))))
      go_wp2
      go_ret2
      exact ⟨rfl, Reads.below f3⟩
    · have hv : divB p n s = false := by unfold divB; rw [if_neg hn0, if_neg hn1]
      go_enter Try.func69, Try.ntmps69
      go_wp2_with fail
      refine Calls.makes' (HCC.out _ e3) _ fun w1 hb1 => ?_
      rw [hd]
      obtain ⟨f0, f1, f2, f3⟩ := boxKeep hb1 BX.out
      go_wp2
      go_ret2
      exact ⟨by rw [hv]; rfl, f3⟩

/-! ### the laws' own functions -/

/-- A copy of a doubling: new memory. -/
structure CopyD (w w' : World) (e : Ending) (p : Int) (n : Nat) (X : Nat → Int) : Prop where
  out : ∃ g c, e = .returned (dbl p (.slice (some ⟨g, 0, none⟩) n c)) ∧ w.heap.size ≤ g ∧ Below w.heap.size w w' ∧ Own w' 2 g c n (fun i => .int .i64 (X i))

end Go.Proofs.Ytnnacligfoonbaa
