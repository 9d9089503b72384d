/-
  The laws on loops whose results are numbers return true. No condition.
-/
import Derived.Test.YtejjefjpjaeljaaI18
import Derived.Test.YtejjefjpjaeljaaF13a
set_option linter.unusedVariables false
set_option linter.unusedSimpArgs false
namespace Go.Proofs.Ytejjefjpjaeljaa
open Go.RowKit

theorem rI_shape (ok : Bool) (x : Int) : ∃ a b, rI ok x = .tuple #[.int .i64 a, .int .i64 b] := by cases ok <;> exact ⟨_, _, rfl⟩
theorem rB_shape (ok : Bool) (x : Bool) : ∃ a b, rB ok x = .tuple #[.bool a, .int .i64 b] := by cases ok <;> exact ⟨_, _, rfl⟩
theorem rC_shape (c : Int) (x : Int) : ∃ a b, rC c x = .tuple #[.int .i64 a, .int .i64 b] := by unfold rC; split <;> exact ⟨_, _, rfl⟩
theorem rO_shape (c : Int) (n k : Nat) : ∃ a b, rO c n k = .tuple #[.int .i64 a, .int .i64 b] := by
  unfold rO ordV
  split
  · split <;> exact ⟨_, _, rfl⟩
  · exact ⟨_, _, rfl⟩
theorem iOrder_c' (v : Value) (G : Nat) (L : Nat → Nat) (T : Nat → Nat → Int) (w : World) (h : Tab w v G L T) (x : Int) :
    Calls Try.prog 22 #[v, .int .i64 x] w fun e w' => Makes w w' e (rO (codeV (loopB G L T) G x) G (fst (fun k => powN (NT G T) x.toNat k == 0) G)) := by
  rw [← rO_same]; exact iOrder_c v G L T w h x

set_option maxHeartbeats 400000 in
theorem lawCountCommuting_c (v : Value) (G : Nat) (L : Nat → Nat) (T : Nat → Nat → Int) (w : World) (h : Tab w v G L T) :
    Calls Try.prog 4 #[v] w fun e w' => Law w w' e := by
  by_cases hs : G + sumL L G ≤ 1048576
  · have hG : G ≤ 1048576 := by omega
    have hL : ∀ i, i < G → L i ≤ 1048576 := fun i hi => by have := sumL_row (L := L) hi; omega
    have HL := Lib.hid hL
    have h0 := szP_ok hs
    obtain ⟨r1, r2, er⟩ := rI_shape (loopB G L T) (cnt2 G (comB (NT G T)) G)
    have cs : ∀ W u, Tab W u G L T → Calls Try.prog 17 #[u] W fun e w' => Makes W w' e (.tuple #[.int .i64 r1, .int .i64 r2]) := fun W u h => er ▸ sCountComm_c u G L T W h
    have ci : ∀ W u, Tab W u G L T → Calls Try.prog 18 #[u] W fun e w' => Makes W w' e (.tuple #[.int .i64 r1, .int .i64 r2]) := fun W u h => er ▸ iCountComm_c u G L T W h
    have CS := Lib.hid cs
    have CI := Lib.hid ci
    clear hL cs ci er
    go_enter Try.func4, Try.ntmps4
    go_wp2_with fail
    refine (szInt64SS_c _ _ _ _ _ h).mono ?_
    rintro e w' ⟨rfl, rfl⟩
    go_wp2_with fail
    refine (toInt64SS_c _ _ _ _ _ h hG HL.out).mono ?_
    rintro e w1 ⟨g1, c1, rfl, hb1, hT1⟩
    go_wp2_with fail
    refine Calls.makes' (CS.out _ _ hT1.tab) _ fun w2 hb2 => ?_
    have b2 := hb1.trans (hb2.mono hb1.size)
    go_wp2_with fail
    refine (toInt64SS_c _ _ _ _ _ (h.below b2) hG HL.out).mono ?_
    rintro e w3 ⟨g3, c3, rfl, hb3, hT3⟩
    have b3 := b2.trans (hb3.mono b2.size)
    go_wp2_with fail
    refine Calls.makes' (CI.out _ _ hT3.tab) _ fun w4 hb4 => ?_
    have b4 := b3.trans (hb4.mono b3.size)
    have hT4 := hT3.kept hb4
    go_wp2_with fail
    refine (toInt64SS_c _ _ _ _ _ (h.below b4) hG HL.out).mono ?_
    rintro e w5 ⟨g5, c5, rfl, hb5, hT5⟩
    have b5 := b4.trans (hb5.mono b4.size)
    go_wp2_with fail
    refine Calls.reads' (wr := w) (eqInt64SS_c _ _ _ _ _ _ _ _ _ (hT4.kept hb5).tab hT5.tab) _ fun q => ?_
    rw [eqTB_refl]
    go_wp2
    go_ret
    exact ⟨rfl, Reads.below b5⟩
  · have h0 := szP_big hs
    go_enter Try.func4, Try.ntmps4
    go_wp2_with fail
    refine (szInt64SS_c _ _ _ _ _ h).mono ?_
    rintro e w' ⟨rfl, rfl⟩
    rw [h0]
    go_wp2
    go_ret
    exact ⟨rfl, Below.refl _ _⟩

set_option maxHeartbeats 400000 in
theorem lawCountAssociating_c (v : Value) (G : Nat) (L : Nat → Nat) (T : Nat → Nat → Int) (w : World) (h : Tab w v G L T) :
    Calls Try.prog 9 #[v] w fun e w' => Law w w' e := by
  by_cases hs : G + sumL L G ≤ 1048576
  · have hG : G ≤ 1048576 := by omega
    have hL : ∀ i, i < G → L i ≤ 1048576 := fun i hi => by have := sumL_row (L := L) hi; omega
    have HL := Lib.hid hL
    have h0 := szP_ok hs
    obtain ⟨r1, r2, er⟩ := rI_shape (loopB G L T) (cnt3 G (assB (NT G T)) G)
    have cs : ∀ W u, Tab W u G L T → Calls Try.prog 27 #[u] W fun e w' => Makes W w' e (.tuple #[.int .i64 r1, .int .i64 r2]) := fun W u h => er ▸ sCountAss_c u G L T W h
    have ci : ∀ W u, Tab W u G L T → Calls Try.prog 28 #[u] W fun e w' => Makes W w' e (.tuple #[.int .i64 r1, .int .i64 r2]) := fun W u h => er ▸ iCountAss_c u G L T W h
    have CS := Lib.hid cs
    have CI := Lib.hid ci
    clear hL cs ci er
    go_enter Try.func9, Try.ntmps9
    go_wp2_with fail
    refine (szInt64SS_c _ _ _ _ _ h).mono ?_
    rintro e w' ⟨rfl, rfl⟩
    go_wp2_with fail
    refine (toInt64SS_c _ _ _ _ _ h hG HL.out).mono ?_
    rintro e w1 ⟨g1, c1, rfl, hb1, hT1⟩
    go_wp2_with fail
    refine Calls.makes' (CS.out _ _ hT1.tab) _ fun w2 hb2 => ?_
    have b2 := hb1.trans (hb2.mono hb1.size)
    go_wp2_with fail
    refine (toInt64SS_c _ _ _ _ _ (h.below b2) hG HL.out).mono ?_
    rintro e w3 ⟨g3, c3, rfl, hb3, hT3⟩
    have b3 := b2.trans (hb3.mono b2.size)
    go_wp2_with fail
    refine Calls.makes' (CI.out _ _ hT3.tab) _ fun w4 hb4 => ?_
    have b4 := b3.trans (hb4.mono b3.size)
    have hT4 := hT3.kept hb4
    go_wp2_with fail
    refine (toInt64SS_c _ _ _ _ _ (h.below b4) hG HL.out).mono ?_
    rintro e w5 ⟨g5, c5, rfl, hb5, hT5⟩
    have b5 := b4.trans (hb5.mono b4.size)
    go_wp2_with fail
    refine Calls.reads' (wr := w) (eqInt64SS_c _ _ _ _ _ _ _ _ _ (hT4.kept hb5).tab hT5.tab) _ fun q => ?_
    rw [eqTB_refl]
    go_wp2
    go_ret
    exact ⟨rfl, Reads.below b5⟩
  · have h0 := szP_big hs
    go_enter Try.func9, Try.ntmps9
    go_wp2_with fail
    refine (szInt64SS_c _ _ _ _ _ h).mono ?_
    rintro e w' ⟨rfl, rfl⟩
    rw [h0]
    go_wp2
    go_ret
    exact ⟨rfl, Below.refl _ _⟩

set_option maxHeartbeats 400000 in
theorem lawIsMoufangLoop_c (v : Value) (G : Nat) (L : Nat → Nat) (T : Nat → Nat → Int) (w : World) (h : Tab w v G L T) :
    Calls Try.prog 5 #[v] w fun e w' => Law w w' e := by
  by_cases hs : G + sumL L G ≤ 1048576
  · have hG : G ≤ 1048576 := by omega
    have hL : ∀ i, i < G → L i ≤ 1048576 := fun i hi => by have := sumL_row (L := L) hi; omega
    have HL := Lib.hid hL
    have h0 := szP_ok hs
    obtain ⟨r1, r2, er⟩ := rB_shape (loopB G L T) (all3 G (mouB (NT G T)))
    have cs : ∀ W u, Tab W u G L T → Calls Try.prog 19 #[u] W fun e w' => Makes W w' e (.tuple #[.bool r1, .int .i64 r2]) := fun W u h => er ▸ sIsMou_c u G L T W h
    have ci : ∀ W u, Tab W u G L T → Calls Try.prog 20 #[u] W fun e w' => Makes W w' e (.tuple #[.bool r1, .int .i64 r2]) := fun W u h => er ▸ iIsMou_c u G L T W h
    have CS := Lib.hid cs
    have CI := Lib.hid ci
    clear hL cs ci er
    go_enter Try.func5, Try.ntmps5
    go_wp2_with fail
    refine (szInt64SS_c _ _ _ _ _ h).mono ?_
    rintro e w' ⟨rfl, rfl⟩
    go_wp2_with fail
    refine (toInt64SS_c _ _ _ _ _ h hG HL.out).mono ?_
    rintro e w1 ⟨g1, c1, rfl, hb1, hT1⟩
    go_wp2_with fail
    refine Calls.makes' (CS.out _ _ hT1.tab) _ fun w2 hb2 => ?_
    have b2 := hb1.trans (hb2.mono hb1.size)
    go_wp2_with fail
    refine (toInt64SS_c _ _ _ _ _ (h.below b2) hG HL.out).mono ?_
    rintro e w3 ⟨g3, c3, rfl, hb3, hT3⟩
    have b3 := b2.trans (hb3.mono b2.size)
    go_wp2_with fail
    refine Calls.makes' (CI.out _ _ hT3.tab) _ fun w4 hb4 => ?_
    have b4 := b3.trans (hb4.mono b3.size)
    have hT4 := hT3.kept hb4
    go_wp2_with fail
    refine (toInt64SS_c _ _ _ _ _ (h.below b4) hG HL.out).mono ?_
    rintro e w5 ⟨g5, c5, rfl, hb5, hT5⟩
    have b5 := b4.trans (hb5.mono b4.size)
    go_wp2_with fail
    refine Calls.reads' (wr := w) (eqInt64SS_c _ _ _ _ _ _ _ _ _ (hT4.kept hb5).tab hT5.tab) _ fun q => ?_
    rw [eqTB_refl]
    go_wp2
    go_ret
    exact ⟨rfl, Reads.below b5⟩
  · have h0 := szP_big hs
    go_enter Try.func5, Try.ntmps5
    go_wp2_with fail
    refine (szInt64SS_c _ _ _ _ _ h).mono ?_
    rintro e w' ⟨rfl, rfl⟩
    rw [h0]
    go_wp2
    go_ret
    exact ⟨rfl, Below.refl _ _⟩

set_option maxHeartbeats 400000 in
theorem lawIsAssociativeLoop_c (v : Value) (G : Nat) (L : Nat → Nat) (T : Nat → Nat → Int) (w : World) (h : Tab w v G L T) :
    Calls Try.prog 8 #[v] w fun e w' => Law w w' e := by
  by_cases hs : G + sumL L G ≤ 1048576
  · have hG : G ≤ 1048576 := by omega
    have hL : ∀ i, i < G → L i ≤ 1048576 := fun i hi => by have := sumL_row (L := L) hi; omega
    have HL := Lib.hid hL
    have h0 := szP_ok hs
    obtain ⟨r1, r2, er⟩ := rB_shape (loopB G L T) (all3 G (assB (NT G T)))
    have cs : ∀ W u, Tab W u G L T → Calls Try.prog 25 #[u] W fun e w' => Makes W w' e (.tuple #[.bool r1, .int .i64 r2]) := fun W u h => er ▸ sIsAss_c u G L T W h
    have ci : ∀ W u, Tab W u G L T → Calls Try.prog 26 #[u] W fun e w' => Makes W w' e (.tuple #[.bool r1, .int .i64 r2]) := fun W u h => er ▸ iIsAss_c u G L T W h
    have CS := Lib.hid cs
    have CI := Lib.hid ci
    clear hL cs ci er
    go_enter Try.func8, Try.ntmps8
    go_wp2_with fail
    refine (szInt64SS_c _ _ _ _ _ h).mono ?_
    rintro e w' ⟨rfl, rfl⟩
    go_wp2_with fail
    refine (toInt64SS_c _ _ _ _ _ h hG HL.out).mono ?_
    rintro e w1 ⟨g1, c1, rfl, hb1, hT1⟩
    go_wp2_with fail
    refine Calls.makes' (CS.out _ _ hT1.tab) _ fun w2 hb2 => ?_
    have b2 := hb1.trans (hb2.mono hb1.size)
    go_wp2_with fail
    refine (toInt64SS_c _ _ _ _ _ (h.below b2) hG HL.out).mono ?_
    rintro e w3 ⟨g3, c3, rfl, hb3, hT3⟩
    have b3 := b2.trans (hb3.mono b2.size)
    go_wp2_with fail
    refine Calls.makes' (CI.out _ _ hT3.tab) _ fun w4 hb4 => ?_
    have b4 := b3.trans (hb4.mono b3.size)
    have hT4 := hT3.kept hb4
    go_wp2_with fail
    refine (toInt64SS_c _ _ _ _ _ (h.below b4) hG HL.out).mono ?_
    rintro e w5 ⟨g5, c5, rfl, hb5, hT5⟩
    have b5 := b4.trans (hb5.mono b4.size)
    go_wp2_with fail
    refine Calls.reads' (wr := w) (eqInt64SS_c _ _ _ _ _ _ _ _ _ (hT4.kept hb5).tab hT5.tab) _ fun q => ?_
    rw [eqTB_refl]
    go_wp2
    go_ret
    exact ⟨rfl, Reads.below b5⟩
  · have h0 := szP_big hs
    go_enter Try.func8, Try.ntmps8
    go_wp2_with fail
    refine (szInt64SS_c _ _ _ _ _ h).mono ?_
    rintro e w' ⟨rfl, rfl⟩
    rw [h0]
    go_wp2
    go_ret
    exact ⟨rfl, Below.refl _ _⟩

set_option maxHeartbeats 400000 in
theorem lawIsCommutativeLoop_c (v : Value) (G : Nat) (L : Nat → Nat) (T : Nat → Nat → Int) (w : World) (h : Tab w v G L T) :
    Calls Try.prog 10 #[v] w fun e w' => Law w w' e := by
  by_cases hs : G + sumL L G ≤ 1048576
  · have hG : G ≤ 1048576 := by omega
    have hL : ∀ i, i < G → L i ≤ 1048576 := fun i hi => by have := sumL_row (L := L) hi; omega
    have HL := Lib.hid hL
    have h0 := szP_ok hs
    obtain ⟨r1, r2, er⟩ := rB_shape (loopB G L T) (all2 G (comB (NT G T)))
    have cs : ∀ W u, Tab W u G L T → Calls Try.prog 29 #[u] W fun e w' => Makes W w' e (.tuple #[.bool r1, .int .i64 r2]) := fun W u h => er ▸ sIsCom_c u G L T W h
    have ci : ∀ W u, Tab W u G L T → Calls Try.prog 30 #[u] W fun e w' => Makes W w' e (.tuple #[.bool r1, .int .i64 r2]) := fun W u h => er ▸ iIsCom_c u G L T W h
    have CS := Lib.hid cs
    have CI := Lib.hid ci
    clear hL cs ci er
    go_enter Try.func10, Try.ntmps10
    go_wp2_with fail
    refine (szInt64SS_c _ _ _ _ _ h).mono ?_
    rintro e w' ⟨rfl, rfl⟩
    go_wp2_with fail
    refine (toInt64SS_c _ _ _ _ _ h hG HL.out).mono ?_
    rintro e w1 ⟨g1, c1, rfl, hb1, hT1⟩
    go_wp2_with fail
    refine Calls.makes' (CS.out _ _ hT1.tab) _ fun w2 hb2 => ?_
    have b2 := hb1.trans (hb2.mono hb1.size)
    go_wp2_with fail
    refine (toInt64SS_c _ _ _ _ _ (h.below b2) hG HL.out).mono ?_
    rintro e w3 ⟨g3, c3, rfl, hb3, hT3⟩
    have b3 := b2.trans (hb3.mono b2.size)
    go_wp2_with fail
    refine Calls.makes' (CI.out _ _ hT3.tab) _ fun w4 hb4 => ?_
    have b4 := b3.trans (hb4.mono b3.size)
    have hT4 := hT3.kept hb4
    go_wp2_with fail
    refine (toInt64SS_c _ _ _ _ _ (h.below b4) hG HL.out).mono ?_
    rintro e w5 ⟨g5, c5, rfl, hb5, hT5⟩
    have b5 := b4.trans (hb5.mono b4.size)
    go_wp2_with fail
    refine Calls.reads' (wr := w) (eqInt64SS_c _ _ _ _ _ _ _ _ _ (hT4.kept hb5).tab hT5.tab) _ fun q => ?_
    rw [eqTB_refl]
    go_wp2
    go_ret
    exact ⟨rfl, Reads.below b5⟩
  · have h0 := szP_big hs
    go_enter Try.func10, Try.ntmps10
    go_wp2_with fail
    refine (szInt64SS_c _ _ _ _ _ h).mono ?_
    rintro e w' ⟨rfl, rfl⟩
    rw [h0]
    go_wp2
    go_ret
    exact ⟨rfl, Below.refl _ _⟩

set_option maxHeartbeats 400000 in
theorem lawLoopInverse_c (v : Value) (G : Nat) (L : Nat → Nat) (T : Nat → Nat → Int) (x : Int) (w : World) (h : Tab w v G L T) :
    Calls Try.prog 7 #[v, .int .i64 x] w fun e w' => Law w w' e := by
  by_cases hs : G + sumL L G ≤ 1048576
  · have hG : G ≤ 1048576 := by omega
    have hL : ∀ i, i < G → L i ≤ 1048576 := fun i hi => by have := sumL_row (L := L) hi; omega
    have HL := Lib.hid hL
    have h0 := szP_ok hs
    obtain ⟨r1, r2, er⟩ := rC_shape (codeV (loopB G L T) G x) (idx (fun j => NT G T x.toNat j) 0 G)
    have cs : ∀ W u, Tab W u G L T → Calls Try.prog 23 #[u, .int .i64 x] W fun e w' => Makes W w' e (.tuple #[.int .i64 r1, .int .i64 r2]) := fun W u h => er ▸ sInverse_c u G L T W h x
    have ci : ∀ W u, Tab W u G L T → Calls Try.prog 24 #[u, .int .i64 x] W fun e w' => Makes W w' e (.tuple #[.int .i64 r1, .int .i64 r2]) := fun W u h => er ▸ iInverse_c u G L T W h x
    have CS := Lib.hid cs
    have CI := Lib.hid ci
    clear hL cs ci er
    go_enter Try.func7, Try.ntmps7
    go_wp2_with fail
    refine (szInt64SS_c _ _ _ _ _ h).mono ?_
    rintro e w' ⟨rfl, rfl⟩
    go_wp2_with fail
    refine (toInt64SS_c _ _ _ _ _ h hG HL.out).mono ?_
    rintro e w1 ⟨g1, c1, rfl, hb1, hT1⟩
    go_wp2_with fail
    refine Calls.makes' (CS.out _ _ hT1.tab) _ fun w2 hb2 => ?_
    have b2 := hb1.trans (hb2.mono hb1.size)
    go_wp2_with fail
    refine (toInt64SS_c _ _ _ _ _ (h.below b2) hG HL.out).mono ?_
    rintro e w3 ⟨g3, c3, rfl, hb3, hT3⟩
    have b3 := b2.trans (hb3.mono b2.size)
    go_wp2_with fail
    refine Calls.makes' (CI.out _ _ hT3.tab) _ fun w4 hb4 => ?_
    have b4 := b3.trans (hb4.mono b3.size)
    have hT4 := hT3.kept hb4
    go_wp2_with fail
    refine (toInt64SS_c _ _ _ _ _ (h.below b4) hG HL.out).mono ?_
    rintro e w5 ⟨g5, c5, rfl, hb5, hT5⟩
    have b5 := b4.trans (hb5.mono b4.size)
    go_wp2_with fail
    refine Calls.reads' (wr := w) (eqInt64SS_c _ _ _ _ _ _ _ _ _ (hT4.kept hb5).tab hT5.tab) _ fun q => ?_
    rw [eqTB_refl]
    go_wp2
    go_ret
    exact ⟨rfl, Reads.below b5⟩
  · have h0 := szP_big hs
    go_enter Try.func7, Try.ntmps7
    go_wp2_with fail
    refine (szInt64SS_c _ _ _ _ _ h).mono ?_
    rintro e w' ⟨rfl, rfl⟩
    rw [h0]
    go_wp2
    go_ret
    exact ⟨rfl, Below.refl _ _⟩

set_option maxHeartbeats 400000 in
theorem lawLoopOrder_c (v : Value) (G : Nat) (L : Nat → Nat) (T : Nat → Nat → Int) (x : Int) (w : World) (h : Tab w v G L T) :
    Calls Try.prog 6 #[v, .int .i64 x] w fun e w' => Law w w' e := by
  by_cases hs : G + sumL L G ≤ 1048576
  · have hG : G ≤ 1048576 := by omega
    have hL : ∀ i, i < G → L i ≤ 1048576 := fun i hi => by have := sumL_row (L := L) hi; omega
    have HL := Lib.hid hL
    have h0 := szP_ok hs
    obtain ⟨r1, r2, er⟩ := rO_shape (codeV (loopB G L T) G x) G (fst (fun k => powN (NT G T) x.toNat k == 0) G)
    have cs : ∀ W u, Tab W u G L T → Calls Try.prog 21 #[u, .int .i64 x] W fun e w' => Makes W w' e (.tuple #[.int .i64 r1, .int .i64 r2]) := fun W u h => er ▸ sOrder_c u G L T W h x
    have ci : ∀ W u, Tab W u G L T → Calls Try.prog 22 #[u, .int .i64 x] W fun e w' => Makes W w' e (.tuple #[.int .i64 r1, .int .i64 r2]) := fun W u h => er ▸ iOrder_c' u G L T W h x
    have CS := Lib.hid cs
    have CI := Lib.hid ci
    clear hL cs ci er
    go_enter Try.func6, Try.ntmps6
    go_wp2_with fail
    refine (szInt64SS_c _ _ _ _ _ h).mono ?_
    rintro e w' ⟨rfl, rfl⟩
    go_wp2_with fail
    refine (toInt64SS_c _ _ _ _ _ h hG HL.out).mono ?_
    rintro e w1 ⟨g1, c1, rfl, hb1, hT1⟩
    go_wp2_with fail
    refine Calls.makes' (CS.out _ _ hT1.tab) _ fun w2 hb2 => ?_
    have b2 := hb1.trans (hb2.mono hb1.size)
    go_wp2_with fail
    refine (toInt64SS_c _ _ _ _ _ (h.below b2) hG HL.out).mono ?_
    rintro e w3 ⟨g3, c3, rfl, hb3, hT3⟩
    have b3 := b2.trans (hb3.mono b2.size)
    go_wp2_with fail
    refine Calls.makes' (CI.out _ _ hT3.tab) _ fun w4 hb4 => ?_
    have b4 := b3.trans (hb4.mono b3.size)
    have hT4 := hT3.kept hb4
    go_wp2_with fail
    refine (toInt64SS_c _ _ _ _ _ (h.below b4) hG HL.out).mono ?_
    rintro e w5 ⟨g5, c5, rfl, hb5, hT5⟩
    have b5 := b4.trans (hb5.mono b4.size)
    go_wp2_with fail
    refine Calls.reads' (wr := w) (eqInt64SS_c _ _ _ _ _ _ _ _ _ (hT4.kept hb5).tab hT5.tab) _ fun q => ?_
    rw [eqTB_refl]
    go_wp2
    go_ret
    exact ⟨rfl, Reads.below b5⟩
  · have h0 := szP_big hs
    go_enter Try.func6, Try.ntmps6
    go_wp2_with fail
    refine (szInt64SS_c _ _ _ _ _ h).mono ?_
    rintro e w' ⟨rfl, rfl⟩
    rw [h0]
    go_wp2
    go_ret
    exact ⟨rfl, Below.refl _ _⟩

end Go.Proofs.Ytejjefjpjaeljaa
