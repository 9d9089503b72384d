/-
  The law on LoopNucleus returns true. No condition.
-/
import Derived.Test.YtejjefjpjaeljaaI18
import Derived.Test.YtejjefjpjaeljaaF13a
set_option linter.unusedVariables false
set_option linter.unusedSimpArgs false
namespace Go.Proofs.Ytejjefjpjaeljaa
open Go.RowKit

set_option maxHeartbeats 1000000 in
theorem lawLoopNucleus_c (v : Value) (G : Nat) (L : Nat → Nat) (T : Nat → Nat → Int) (w : World) (h : Tab w v G L T) :
    Calls Try.prog 11 #[v] w fun e w' => Law w w' e := by
  by_cases hs : G + sumL L G ≤ 1048576
  · have hG : G ≤ 1048576 := by omega
    have hL : ∀ i, i < G → L i ≤ 1048576 := fun i hi => by have := sumL_row (L := L) hi; omega
    have hsum : sumL L G ≤ 1048576 := by omega
    have HL := Lib.hid hL
    have h0 := szP_ok hs
    obtain ⟨n, hn⟩ : ∃ n, cnt (nucX G (NT G T)) G = n := ⟨_, rfl⟩
    obtain ⟨X, hX⟩ : ∃ X : Nat → Int, (fun i => ((sel (nucX G (NT G T)) G i : Nat) : Int)) = X := ⟨_, rfl⟩
    have hnG : n ≤ G := by rw [← hn]; exact cnt_le _ _
    have cs : ∀ W u, Tab W u G L T → Calls Try.prog 31 #[u] W fun e w' => ResI W w' e (loopB G L T) n X := fun W u h => hn ▸ hX ▸ sNucleus_c u G L T W h
    have ci : ∀ W u, Tab W u G L T → Calls Try.prog 32 #[u] W fun e w' => ResI W w' e (loopB G L T) n X := fun W u h => hn ▸ hX ▸ iNucleus_c u G L T W h
    have CS := Lib.hid cs
    have CI := Lib.hid ci
    clear hL cs ci hn hX
    go_enter Try.func11, Try.ntmps11
    go_wp2_with fail
    refine (szInt64SS_c _ _ _ _ _ h).mono ?_
    rintro e w' ⟨rfl, rfl⟩
    go_wp2_with fail
    refine (toInt64SS_c _ _ _ _ _ h hG HL.out).mono ?_
    rintro e w1 ⟨g1, c1, rfl, hb1, hT1⟩
    go_wp2_with fail
    refine (CS.out _ _ hT1.tab).mono ?_
    rintro e w2 ⟨hb2, hres2⟩
    have b2 := hb1.trans (hb2.mono hb1.size)
    rcases hres2 with ⟨hok, gw, cw, rfl, hgw, hOw⟩ | ⟨hok, rfl⟩
    · go_wp2_with fail
      refine (toInt64SS_c _ _ _ _ _ (h.below b2) hG HL.out).mono ?_
      rintro e w3 ⟨g3, c3, rfl, hb3, hT3⟩
      have b3 := b2.trans (hb3.mono b2.size)
      have hTM3 := hT3.bound
      have hOw3 := hOw.kept hb3
      have hgw2 := hOw.lt
      go_wp2_with fail
      refine (CI.out _ _ hT3.tab).mono ?_
      rintro e w4 ⟨hb4, hres4⟩
      rcases hres4 with ⟨_, gg, cg, rfl, hgg, hOg⟩ | ⟨hno, _⟩
      · have b4 := b3.trans (hb4.mono b3.size)
        have hT4 := hT3.kept hb4
        have hTM4 := hTM3.kept hb4
        have hOw4 := hOw3.kept hb4
        go_wp2_with fail
        refine Calls.reads' (wr := w) (eqInt64S_c _ _ _ _ _ _ _ hOg.ints hOw4.ints) _ fun q5 => ?_
        rw [eqB_refl]
        have b5 : Below w.heap.size w (w4.drewN q5) := Reads.below b4
        go_wp2_with fail
        refine (toInt64SS_c _ _ _ _ _ (h.below b5) hG HL.out).mono ?_
        rintro e w6 ⟨g6, c6, rfl, hb6, hT6⟩
        have b6 := b5.trans (hb6.mono b5.size)
        go_wp2_with fail
        refine Calls.reads' (wr := w) (eqInt64SS_c _ _ _ _ _ _ _ _ _ ((hT4.kept (below_drewN _ _)).kept hb6).tab hT6.tab) _ fun q7 => ?_
        rw [eqTB_refl]
        have hTM7 := ((hTM4.kept (below_drewN _ q5)).kept hb6).kept (below_drewN _ q7)
        have hOw7 := ((hOw4.kept (below_drewN _ q5)).kept hb6).kept (below_drewN _ q7)
        have hOg7 := ((hOg.kept (below_drewN _ q5)).kept hb6).kept (below_drewN _ q7)
        have b7 : Below w.heap.size w (w6.drewN q7) := Reads.below b6
        go_wp2_with fail
        refine (markInt64SS_c _ _ _ _ _ _ _ _ _ hTM7 (by omega) (by omega) hG hsum).mono ?_
        rintro e w8 ⟨rfl, hc8, _⟩
        have hs2 := b2.size
        have hOw8 := hc8.own hOw7 (fun ⟨_, _⟩ => by omega)
        have hOg8 := hc8.own hOg7 (fun ⟨_, _⟩ => by omega)
        have b8 := b7.trans (hc8.below b7.size (fun k ⟨_, _⟩ => by omega))
        go_wp2_with fail
        refine Calls.reads' (wr := w) (eqInt64S_c _ _ _ _ _ _ _ hOg8.ints hOw8.ints) _ fun q9 => ?_
        rw [eqB_refl]
        have hOw9 := hOw8.kept (below_drewN _ q9)
        have hOg9 := hOg8.kept (below_drewN _ q9)
        have b9 : Below w.heap.size w (w8.drewN q9) := Reads.below b8
        go_wp2_with fail
        refine (markInt64S_c _ _ _ _ _ _ hOg9 (by omega) (by omega) (by omega)).mono ?_
        rintro e w10 ⟨rfl, hc10, hOg10⟩
        have hOw10 := hc10.own hOw9 (fun e => by have e : gw = gg := e; have := hb3.size; omega)
        have b10 := b9.trans (hc10.below b9.size (fun k hk => by have hk : k = gg := hk; have := b3.size; omega))
        go_wp2_with fail
        refine (heldInt64S_c _ _ _ _ _ hOg10.ints (by omega) (by omega) (by omega) (fun i _ => rfl)).mono ?_
        rintro e w' ⟨rfl, rfl⟩
        go_wp2_with fail
        refine (toInt64SS_c _ _ _ _ _ (h.below b10) hG HL.out).mono ?_
        rintro e w11 ⟨g11, c11, rfl, hb11, hT11⟩
        have b11 := b10.trans (hb11.mono b10.size)
        have hOw11 := hOw10.kept hb11
        have hOg11 := hOg10.kept hb11
        go_wp2_with fail
        refine (CI.out _ _ hT11.tab).mono ?_
        rintro e w12 ⟨hb12, hres12⟩
        rcases hres12 with ⟨_, gh, ch, rfl, hgh, hOh⟩ | ⟨hno, _⟩
        · have b12 := b11.trans (hb12.mono b11.size)
          have hOw12 := hOw11.kept hb12
          have hOg12 := hOg11.kept hb12
          go_wp2_with fail
          refine Calls.reads' (wr := w) (eqInt64S_c _ _ _ _ _ _ _ hOh.ints hOw12.ints) _ fun q13 => ?_
          rw [eqB_refl]
          have hOg13 := hOg12.kept (below_drewN _ q13)
          have b13 : Below w.heap.size w (w12.drewN q13) := Reads.below b12
          go_wp2_with fail
          refine (heldInt64S_c _ _ _ _ _ hOg13.ints (by omega) (by omega) (by omega) (fun i _ => rfl)).mono ?_
          rintro e w' ⟨rfl, rfl⟩
          go_wp2
          go_ret
          exact ⟨rfl, b13⟩
        · rw [hok] at hno; cases hno
      · rw [hok] at hno; cases hno
    · go_wp2_with fail
      refine (toInt64SS_c _ _ _ _ _ (h.below b2) hG HL.out).mono ?_
      rintro e w3 ⟨g3, c3, rfl, hb3, hT3⟩
      have b3 := b2.trans (hb3.mono b2.size)
      have hTM3 := hT3.bound
      go_wp2_with fail
      refine (CI.out _ _ hT3.tab).mono ?_
      rintro e w4 ⟨hb4, hres4⟩
      rcases hres4 with ⟨hno, _⟩ | ⟨_, rfl⟩
      · rw [hok] at hno; cases hno
      · have b4 := b3.trans (hb4.mono b3.size)
        have hT4 := hT3.kept hb4
        have hTM4 := hTM3.kept hb4
        go_wp2_with fail
        refine Calls.reads' (wr := w) (eqInt64S_c _ _ _ _ (fun _ => 0) (fun _ => 0) _ (Ints.nil _ _) (Ints.nil _ _)) _ fun q5 => ?_
        rw [eqB_refl]
        have b5 : Below w.heap.size w (w4.drewN q5) := Reads.below b4
        go_wp2_with fail
        refine (toInt64SS_c _ _ _ _ _ (h.below b5) hG HL.out).mono ?_
        rintro e w6 ⟨g6, c6, rfl, hb6, hT6⟩
        have b6 := b5.trans (hb6.mono b5.size)
        go_wp2_with fail
        refine Calls.reads' (wr := w) (eqInt64SS_c _ _ _ _ _ _ _ _ _ ((hT4.kept (below_drewN _ _)).kept hb6).tab hT6.tab) _ fun q7 => ?_
        rw [eqTB_refl]
        have hTM7 := ((hTM4.kept (below_drewN _ q5)).kept hb6).kept (below_drewN _ q7)
        have b7 : Below w.heap.size w (w6.drewN q7) := Reads.below b6
        have hs2 := b2.size
        go_wp2_with fail
        refine (markInt64SS_c _ _ _ _ _ _ _ _ _ hTM7 (by omega) (by omega) hG hsum).mono ?_
        rintro e w8 ⟨rfl, hc8, _⟩
        have b8 := b7.trans (hc8.below b7.size (fun k ⟨_, _⟩ => by omega))
        go_wp2_with fail
        refine Calls.reads' (wr := w) (eqInt64S_c _ _ _ _ (fun _ => 0) (fun _ => 0) _ (Ints.nil _ _) (Ints.nil _ _)) _ fun q9 => ?_
        rw [eqB_refl]
        have b9 : Below w.heap.size w (w8.drewN q9) := Reads.below b8
        go_wp2_with fail
        refine (markInt64S_nil _ _).mono ?_
        rintro e w' ⟨rfl, rfl⟩
        go_wp2_with fail
        refine (heldInt64S_c _ 0 (fun i => 1 + i) _ _ (Ints.nil _ _) (by omega) (by omega) (by omega) (fun i _ => rfl)).mono ?_
        rintro e w' ⟨rfl, rfl⟩
        go_wp2_with fail
        refine (toInt64SS_c _ _ _ _ _ (h.below b9) hG HL.out).mono ?_
        rintro e w11 ⟨g11, c11, rfl, hb11, hT11⟩
        have b11 := b9.trans (hb11.mono b9.size)
        go_wp2_with fail
        refine (CI.out _ _ hT11.tab).mono ?_
        rintro e w12 ⟨hb12, hres12⟩
        rcases hres12 with ⟨hno, _⟩ | ⟨_, rfl⟩
        · rw [hok] at hno; cases hno
        · have b12 := b11.trans (hb12.mono b11.size)
          go_wp2_with fail
          refine Calls.reads' (wr := w) (eqInt64S_c _ _ _ _ (fun _ => 0) (fun _ => 0) _ (Ints.nil _ _) (Ints.nil _ _)) _ fun q13 => ?_
          rw [eqB_refl]
          have b13 : Below w.heap.size w (w12.drewN q13) := Reads.below b12
          go_wp2_with fail
          refine (heldInt64S_c _ 0 (fun i => 1 + i) _ _ (Ints.nil _ _) (by omega) (by omega) (by omega) (fun i _ => rfl)).mono ?_
          rintro e w' ⟨rfl, rfl⟩
          go_wp2
          go_ret
          exact ⟨rfl, b13⟩
  · have h0 := szP_big hs
    go_enter Try.func11, Try.ntmps11
    go_wp2_with fail
    refine (szInt64SS_c _ _ _ _ _ h).mono ?_
    rintro e w' ⟨rfl, rfl⟩
    rw [h0]
    go_wp2
    go_ret
    exact ⟨rfl, Below.refl _ _⟩

end Go.Proofs.Ytejjefjpjaeljaa
