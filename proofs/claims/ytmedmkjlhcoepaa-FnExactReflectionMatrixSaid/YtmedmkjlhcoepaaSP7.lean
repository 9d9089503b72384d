/-
  The matrix of a reflection, by the program. No condition beside sizes.
-/
import Derived.Test.YtmedmkjlhcoepaaSP6
import Derived.Test.YtmedmkjlhcoepaaD30
set_option linter.unusedVariables false
set_option linter.unusedSimpArgs false
namespace Go.Proofs.Ytmedmkjlhcoepaa
open Go.RowKit

/-- the matrix of a reflection -/
def reflT (p : Int) (s : Nat → Int) (n : Nat) (U : Nat → Int) (i j : Nat) : Int := reflF p (pairF p s n U (dlt j)) (invM p (pairF p s n U U)) (dlt j) U i

set_option maxRecDepth 100000 in
set_option maxHeartbeats 400000 in
theorem iReflCl_c (p : Int) (b1 b2 : Nat) (ao : Option Addr) (c : Nat) (uv vv : Value) (n : Nat) (s U V : Nat → Int) (w : World) (hd : SV w (.slice ao n c) p n s) (hu : Vc w uv p n U) (hv : Vc w vv p n V)
    (c0 : w.cell? ⟨b1, 0, none⟩ = some (.int .i64 p)) (c1 : w.cell? ⟨b1, 1, none⟩ = some (.slice ao n c)) (c2 : w.cell? ⟨b2, 0, none⟩ = some uv) :
    Calls Try.prog 120 #[vv, .pointer (some ⟨b1, 0, none⟩), .pointer (some ⟨b2, 0, none⟩)] w fun e w' => CopyI w w' e n (reflF p (pairF p s n U V) (invM p (pairF p s n U U)) V U) := by
  have HQ := Lib.hid (iRefl_c p _ _ _ n s U V w hd hu hv)
  obtain ⟨ua, uc, _, _, rfl, _, _, qu⟩ := hu.ints.out
  clear qu hd hu hv
  go_enter Try.func120, Try.ntmps120
  go_wp2_with fail
  go_at_call 70
  refine HQ.out.mono ?_
  rintro e w1 ⟨g1, c1, rfl, hg1, hb1, hO1⟩
  go_wp2
  go_ret
  exact ⟨g1, c1, rfl, hg1, hb1, hO1⟩

set_option maxRecDepth 100000 in
set_option maxHeartbeats 2000000 in
theorem iMatrixBy_c (f : FuncId) (hcf : ∀ (a : Array Value) (W : World), (callFunc f a).run Try.prog W = .ok (.enter f a) W) (k1 k2 : Value) (p : Int) (sv : Value) (n : Nat) (s : Nat → Int) (F : Nat → Nat → Int) (w : World) (hd : SV w sv p n s)
    (hf : ∀ i, i < n → ∀ W u, Below w.heap.size w W → Ints W u n (dlt i) → Calls Try.prog f #[u, k1, k2] W fun e W' => CopyI W W' e n (F i)) :
    Calls Try.prog 119 #[dbl p sv, .func (.func f) #[] #[k1, k2]] w fun e w' => CopyT w w' e n (fun _ => n) (fun i j => F j i) := by
  have hn6 := hd.ok.n6
  have hn1 := hd.ok.n1
  obtain ⟨ao, c, _, _, rfl, p2, p3, qq⟩ := hd.ints.out
  obtain ⟨e0, e1, e2, e3⟩ := box0 w p ao n c 30
  have BX := Lib.hid (box0 w p ao n c 30)
  have HF := Lib.hid hf
  have HZ : Hid (∀ W, Calls Try.prog 101 #[dbl p (.slice ao n c)] W fun e w' => Makes W w' e (.int .i64 ((n : Nat) : Int))) := fun W => iDim_c p ao n c W (by omega)
  clear qq hf hd
  have hT0 : OTab ((w.alloc (.cells #[.int .i64 p, .slice ao n c] 30)).alloc (.cells #[] 22)) (w.heap.size + 1) (w.heap.size + 1) 0 0 (fun _ => n) F := by
    have h := OTab.empty (w.alloc (.cells #[.int .i64 p, .slice ao n c] 30))
    rw [alloc_size] at h
    exact h.congr (fun i hi => absurd hi (Nat.not_lt_zero _)) (fun i j hi => absurd hi (Nat.not_lt_zero _))
  have bA : Below (w.alloc (.cells #[.int .i64 p, .slice ao n c] 30)).heap.size (w.alloc (.cells #[.int .i64 p, .slice ao n c] 30)) ((w.alloc (.cells #[.int .i64 p, .slice ao n c] 30)).alloc (.cells #[] 22)) := (Below.refl _ _).alloc (Nat.le_refl _) _
  have BXA := Lib.hid (boxKeep bA BX.out)
  have HT0 := Lib.hid hT0
  clear hT0 bA
  go_enter Try.func119, Try.ntmps119
  go_wp2_with fail
  refine Calls.makes' (HZ.out _) _ fun w1 hb1 => ?_
  have hT1 := HT0.out.kept hb1
  have bx1 := boxKeep hb1 BXA.out
  have l1 : w.heap.size + 2 ≤ w1.heap.size := by have := hb1.size; simp only [alloc_size] at this; omega
  go_wp2_with fail
  go_at_call 146
  refine (iUnit_c n _ (by omega)).mono ?_
  rintro e w2 ⟨gu, cu, rfl, hb2, hU⟩
  have hU2 := Lib.hid hU.bound
  have l2 := hb2.size
  have hT2 := Lib.hid (hT1.kept hb2)
  have BX2 := Lib.hid (boxKeep hb2 bx1)
  clear hU hT1 e0 e1 e2 e3 bx1 hb1 hb2
  obtain ⟨B1, hB1⟩ : ∃ B, w1.heap.size = B := ⟨_, rfl⟩
  obtain ⟨U1, hU1⟩ : ∃ U, w2.heap.size = U := ⟨_, rfl⟩
  have hU3 : Hid (OTabM w2 B1 U1 gu cu n (fun _ => n) dlt) := by subst hB1; subst hU1; exact hU2
  have l3 : Hid (U1 ≤ w2.heap.size) := Nat.le_of_eq hU1.symm
  rw [hB1] at l1 l2
  rw [hU1] at l2
  clear hU1 hB1 hU2
  go_wp2
  go_loopg [5, 13] n (fun g o i wr => ∃ k : Nat, k ≤ n ∧ g = n - k ∧ i = .int .i64 k ∧ BoxD w p ao n c wr ∧ Hid (U1 ≤ wr.heap.size) ∧ Hid (OTabM wr B1 U1 gu cu n (fun _ => n) dlt) ∧ ∃ g' c', o = .slice (some ⟨g', 0, none⟩) k c' ∧ Hid (g' < B1 ∨ U1 ≤ g') ∧ OTab wr (w.heap.size + 1) g' c' k (fun _ => n) F)
  case atStart => exact ⟨0, Nat.zero_le _, rfl, rfl, BX2.out, l3, hU3, _, _, rfl, Or.inl (by omega), hT2.out⟩
  case round =>
    obtain ⟨k, hk, rfl, rfl, ⟨f0, f1, f2, f3⟩, hul, hu, g', c', rfl, hgd, hT⟩ := hrel
    have BXr := Lib.hid (show BoxD w p ao n c wr from ⟨f0, f1, f2, f3⟩)
    by_cases hlt : k < n
    · obtain ⟨V, hV, hpush⟩ := hT.pushAt (show w.heap.size + 1 ≤ wr.heap.size by omega)
      have HP := Lib.hid hpush
      obtain ⟨ru, cru, hcu, hrow⟩ := hu.out.row hlt
      clear hpush
      go_wp2_with fail
      refine (HF.out k hlt _ _ f3 hrow).mono ?_
      rintro e w4 ⟨g4, c4, rfl, hg4, hb4, hO4⟩
      have hV2 := hV.kept hb4
      have hs2 := hb4.size
      have hgB := hT.base
      have bx4 := Lib.hid (boxKeep hb4 BXr.out)
      clear f0 f1 hcu hrow
      go_wp2_with (at_builtin; refine wpList_push _ rfl _ _ _ _ elR rfl hV2 (.slice (some ⟨g4, 0, none⟩) n c4) rfl rfl rfl (by omega) (by omega) ?_; intro g3 c3 w3 hO3 hg3 hgr3)
      go_roundg (n - (k + 1))
      case measure => omega
      case rel =>
        have a1 := hul.out
        have a2 := hgd.out
        have a3 := hgr3.size
        exact ⟨k + 1, by omega, rfl, by go_num, boxGrown hgr3 (by omega) bx4.out, (show U1 ≤ w3.heap.size by omega), ((hu.out.kept hb4).grown hgr3 a2), g3, c3, rfl, (show g3 < B1 ∨ U1 ≤ g3 by omega), (HP.out _ _ _ _ _ _ _ _ hb4 hO4 hg4 hO3 hg3 hgr3).congr (fun i hi => by by_cases e : i = k <;> simp [e]) (fun i j hi hj => by by_cases e : i = k <;> simp [e])⟩
    · obtain rfl : k = n := by omega
      go_wp2_with fail
      go_at_call 147
      refine (iTranspose_c _ k k _ _ _ hT.tab hn1 (by omega) (by omega) rfl (fun i hi => Nat.le_refl _)).mono ?_
      rintro e w4 ⟨g4, c4, rfl, hb4, hT4⟩
      go_wp2
      go_ret
      exact ⟨g4, c4, rfl, f3.trans (hb4.mono f3.size), hT4.mono f3.size⟩

set_option maxRecDepth 100000 in
set_option maxHeartbeats 1000000 in
theorem iReflection_c (p : Int) (sv uv : Value) (n : Nat) (s U : Nat → Int) (w : World) (hd : SV w sv p n s) (hu : Vc w uv p n U) :
    Calls Try.prog 72 #[dbl p sv, uv] w fun e w' => CopyT w w' e n (fun _ => n) (reflT p s n U) := by
  have HV : Hid (∀ W, Below w.heap.size w W → SV W sv p n s) := fun W hb => hd.below hb
  have HU : Hid (∀ W, Below w.heap.size w W → Vc W uv p n U) := fun W hb => hu.below hb
  have hpb := hd.ok.bd
  obtain ⟨ao, c, _, _, rfl, p2, p3, qq⟩ := hd.ints.out
  obtain ⟨ua, uc, _, _, rfl, u2, u3, qu⟩ := hu.ints.out
  clear qq qu hd hu
  have BX := box0 w p ao n c 30
  have bA : Below (w.alloc (.cells #[.int .i64 p, .slice ao n c] 30)).heap.size (w.alloc (.cells #[.int .i64 p, .slice ao n c] 30)) ((w.alloc (.cells #[.int .i64 p, .slice ao n c] 30)).alloc (.cells #[.slice ua n uc] 22)) := (Below.refl _ _).alloc (Nat.le_refl _) _
  obtain ⟨e0, e1, e2, e3⟩ := boxKeep bA BX
  have e4 : ((w.alloc (.cells #[.int .i64 p, .slice ao n c] 30)).alloc (.cells #[.slice ua n uc] 22)).cell? ⟨w.heap.size + 1, 0, none⟩ = some (.slice ua n uc) := by
    have h : ((w.alloc (.cells #[.int .i64 p, .slice ao n c] 30)).alloc (.cells #[.slice ua n uc] 22)).cell? ⟨(w.alloc (.cells #[.int .i64 p, .slice ao n c] 30)).heap.size, 0, none⟩ = some (.slice ua n uc) := by simp
    rwa [alloc_size] at h
  have E0 := Lib.hid e0
  have E1 := Lib.hid e1
  have E4 := Lib.hid e4
  have E3 := Lib.hid e3
  clear BX bA
  go_enter Try.func72, Try.ntmps72
  go_wp2_with fail
  go_at_call 119
  refine (iMatrixBy_c 120 (fun _ _ => by simp [go_sem]) _ _ p _ n s (fun j i => reflT p s n U i j) _ (HV.out _ E3.out) (fun i hi W u hbW hu2 => iReflCl_c p w.heap.size (w.heap.size + 1) ao c _ u n s U (dlt i) W (HV.out _ (E3.out.trans (hbW.mono E3.out.size))) (HU.out _ (E3.out.trans (hbW.mono E3.out.size))) ⟨hu2, dlt_in (by omega) _ _⟩ (cellKp hbW E0.out) (cellKp hbW E1.out) (cellKp hbW E4.out))).mono ?_
  rintro e w4 ⟨g4, c4, rfl, hb4, hT4⟩
  go_wp2
  go_ret
  exact ⟨g4, c4, rfl, E3.out.trans (hb4.mono E3.out.size), hT4.mono E3.out.size⟩


end Go.Proofs.Ytmedmkjlhcoepaa
