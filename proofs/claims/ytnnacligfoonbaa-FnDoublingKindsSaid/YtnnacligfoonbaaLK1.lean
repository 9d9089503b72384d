/-
  The law on the kinds of doublings returns true. No condition.
-/
import Derived.Test.YtnnacligfoonbaaLD6
import Derived.Test.YtnnacligfoonbaaLC2
import Derived.Test.YtnnacligfoonbaaLW1
import Derived.Test.YtnnacligfoonbaaD33
import Derived.Test.YtnnacligfoonbaaQI
import Derived.Test.YtnnacligfoonbaaLN1
set_option linter.unusedVariables false
set_option linter.unusedSimpArgs false
namespace Go.Proofs.Ytnnacligfoonbaa
open Go.RowKit

theorem basis_prod {p : Int} (hp : 2 ≤ p) (s : Nat → Int) {n i j : Nat} (hi : i < 2 ^ n) (hj : j < 2 ^ n) : ∀ k, k < 2 ^ n → mulF p s n (dlt i) (dlt j) k = if k = i ^^^ j then basT p s n i j else 0 := fun k hk => by
  by_cases e : k = i ^^^ j
  · subst e; rw [if_pos rfl]; rfl
  · rw [if_neg e]
    have h1 := mul_basis (p := p) (s := s) n hi hj k hk
    have h2 := mulF_in (by omega : (0 : Int) < p) s n (dlt i) (dlt j) (2 ^ n) k hk
    have h3 : dltC (bb s n i j) (i ^^^ j) k = 0 := by unfold dltC; rw [if_neg e]
    rw [h3] at h1
    have h4 : Cg p (mulF p s n (dlt i) (dlt j) k) 0 := h1
    exact h4.eq h2 ⟨by omega, by omega⟩

theorem made3 (w : World) (e : TypeId) (n : Nat) (z : Value) (h : n ≤ 9223372036854775807) :
    Below w.heap.size w (((w.alloc (.cells (madeCells #[z] n) e)).alloc (.cells (madeCells #[z] n) e)).alloc (.cells (madeCells #[z] n) e)).drew ∧
    Own (((w.alloc (.cells (madeCells #[z] n) e)).alloc (.cells (madeCells #[z] n) e)).alloc (.cells (madeCells #[z] n) e)).drew e w.heap.size n n (fun _ => z) ∧
    Own (((w.alloc (.cells (madeCells #[z] n) e)).alloc (.cells (madeCells #[z] n) e)).alloc (.cells (madeCells #[z] n) e)).drew e (w.heap.size + 1) n n (fun _ => z) ∧
    Own (((w.alloc (.cells (madeCells #[z] n) e)).alloc (.cells (madeCells #[z] n) e)).alloc (.cells (madeCells #[z] n) e)).drew e (w.heap.size + 2) n n (fun _ => z) := by
  have h2 := Own.made2 w (.cells (madeCells #[z] n) e) e n z h
  have h3 := Own.made2 (w.alloc (.cells (madeCells #[z] n) e)) (.cells (madeCells #[z] n) e) e n z h
  rw [alloc_size] at h3
  exact ⟨((((Below.refl _ _).alloc (Nat.le_refl _) _).alloc (by simp) _).alloc (by simp; omega) _).drew, (((Own.made w e n z h).alloc _).alloc _).drew, (h2.alloc _).drew, h3.drew⟩

theorem kinds_o (P : Int) (n : Nat) (s : Nat → Int) :
    ∃ (cc : Int) (M1 M2 : Nat), ((cc = 0 ∧ dblB P n s = true ∧ M1 = 2 ^ n ∧ M2 = 2 ^ n) ∨ (cc ≠ 0 ∧ M1 = 0 ∧ M2 = 0)) ∧
    (∀ (W : World) (v : Value), Ints W v n s → Calls Try.prog 20 #[dbl P v] W fun e w' => ResT W w' e cc M1 (fun _ => 2 ^ n) (basT P s n)) ∧
    (∀ (W : World) (v : Value), Ints W v n s → Calls Try.prog 19 #[dbl P v] W fun e w' => ResT W w' e cc M1 (fun _ => 2 ^ n) (basT P s n)) ∧
    (∀ (W : World) (v : Value), Ints W v n s → Calls Try.prog 23 #[dbl P v] W fun e w' => ResO W w' e cc M2 (dgF P s n)) ∧
    (∀ (W : World) (v : Value), Ints W v n s → Calls Try.prog 22 #[dbl P v] W fun e w' => ResO W w' e cc M2 (dgF P s n)) := by
  refine ⟨_, _, _, ?_, fun W v h => (sBasisProducts_c P v n s W h).mono fun _ _ h => h.toT, fun W v h => (iBasisProducts_c P v n s W h).mono fun _ _ h => h.toT,
    fun W v h => (sNormDiagonal_c P v n s W h).mono fun _ _ h => h.toO, fun W v h => (iNormDiagonal_c P v n s W h).mono fun _ _ h => h.toO⟩
  cases hk : dblB P n s
  · exact Or.inr (by simp [lenC])
  · exact Or.inl (by simp [lenC])

set_option maxRecDepth 100000 in
set_option maxHeartbeats 8000000 in
theorem lawDoublingKinds_c (cv : Value) (n : Nat) (B : Nat → Int) (w : World) (hB : Byt w cv n B) :
    Calls Try.prog 4 #[cv] w fun e w' => Law w w' e := by
  by_cases hbig : 4096 < n
  · have hb := Lib.hid (big_c cv n B w hB)
    obtain ⟨ao, c0, _, _, rfl, qq⟩ := hB.out
    clear hB qq
    go_enter Try.func4, Try.ntmps4
    go_wp2_with fail
    refine hb.out.mono ?_
    rintro e w1 ⟨rfl, rfl⟩
    rw [show decide (4096 < n) = true from decide_eq_true hbig]
    go_wp2
    go_ret
    exact ⟨rfl, Below.refl _ _⟩
  · have hb := Lib.hid (big_c cv n B w hB)
    have hD := Lib.hid (sDrawBasisProducts_c cv n B w hB)
    have HB : Hid (∀ W, Below w.heap.size w W → Byt W cv n B) := fun W hb => hB.below hb
    obtain ⟨ao, c0, _, _, rfl, qq⟩ := hB.out
    clear hB qq
    go_enter Try.func4, Try.ntmps4
    go_wp2_with fail
    refine hb.out.mono ?_
    rintro e w1 ⟨rfl, rfl⟩
    rw [show decide (4096 < n) = false from decide_eq_false hbig]
    go_wp2_with fail
    refine hD.out.mono ?_
    rintro e w2 ⟨P, a, c, m, s, rfl, hb2, hs2⟩
    have hs2 := hs2.ints
    have hp2 := Lib.hid hb2
    obtain ⟨cc, M1, M2, hcs, k1, k2, k3, k4⟩ := kinds_o P m s
    have hcs := Lib.hid hcs
    have K1 := Lib.hid k1
    have K2 := Lib.hid k2
    have K3 := Lib.hid k3
    have K4 := Lib.hid k4
    have id : Hid (∀ W, Below w2.heap.size w2 W → Ints W (.slice a m c) m s) := fun W hb => hs2.below hb
    obtain ⟨f0, f1, _, bb⟩ := box0 w2 P a m c 26
    have hl := hp2.out.size
    clear k1 k2 k3 k4 hs2 hb hD hb2
    go_wp2_with fail
    go_at_call 19
    refine (K2.out _ _ (id.out _ bb)).mono ?_
    rintro e w3 ⟨a3, c3, rfl, hb3, oN⟩
    replace f0 := cellKp hb3 f0
    replace f1 := cellKp hb3 f1
    have bb := bb.trans (hb3.mono bb.size)
    have hN := Lib.hid oN.tab
    clear oN hb3
    go_wp2_with fail
    go_at_call 20
    refine (K1.out _ _ (id.out _ bb)).mono ?_
    rintro e w4 ⟨a4, c4, rfl, hb4, oW⟩
    replace f0 := cellKp hb4 f0
    replace f1 := cellKp hb4 f1
    have bb := bb.trans (hb4.mono bb.size)
    have hN := Lib.hid (hN.out.below hb4)
    have hW := Lib.hid oW.tab
    clear oW hb4
    go_wp2_with fail
    go_at_call 21
    refine Calls.reads' (wr := w) (same9_c _ _ _ _ _ _ _ _ _ hN.out hW.out) _ fun q1 => ?_
    rw [eqTB_refl]
    replace f0 := cellKp (below_drewN _ q1) f0
    replace f1 := cellKp (below_drewN _ q1) f1
    have bb := bb.trans ((below_drewN _ q1).mono bb.size)
    have hN := Lib.hid (hN.out.below (below_drewN _ q1))
    clear hW
    go_wp2_with fail
    go_at_call 22
    refine (K4.out _ _ (id.out _ bb)).mono ?_
    rintro e w5 ⟨a5, c5, rfl, hb5, oG⟩
    replace f0 := cellKp hb5 f0
    replace f1 := cellKp hb5 f1
    have bb := bb.trans (hb5.mono bb.size)
    have hN := Lib.hid (hN.out.below hb5)
    have hG := Lib.hid oG.ints
    clear oG hb5
    go_wp2_with fail
    go_at_call 23
    refine (K3.out _ _ (id.out _ bb)).mono ?_
    rintro e w6 ⟨a6, c6, rfl, hb6, oW⟩
    replace f0 := cellKp hb6 f0
    replace f1 := cellKp hb6 f1
    have bb := bb.trans (hb6.mono bb.size)
    have hN := Lib.hid (hN.out.below hb6)
    have hG := Lib.hid (hG.out.below hb6)
    have hW := Lib.hid oW.ints
    clear oW hb6
    go_wp2_with fail
    go_at_call 16
    refine Calls.reads' (wr := w) (likeInts_c _ _ _ _ _ _ _ hG.out hW.out) _ fun q2 => ?_
    rw [eqB_refl]
    replace f0 := cellKp (below_drewN _ q2) f0
    replace f1 := cellKp (below_drewN _ q2) f1
    have bb := bb.trans ((below_drewN _ q2).mono bb.size)
    have hN := Lib.hid (hN.out.below (below_drewN _ q2))
    have hG := Lib.hid (hG.out.below (below_drewN _ q2))
    clear hW K1 K2 K3 K4
    rcases hcs.out with ⟨rfl, hok, rfl, rfl⟩ | ⟨hcc, rfl, rfl⟩
    rotate_left
    · have hfin := Lib.hid (hp2.out.trans (bb.mono hp2.out.size))
      clear hcs hN hG id hp2 bb
      have hcc' : (cc != 0) = true := by simpa using hcc
      clear hcc
      go_wp2
      go_ret
      exact ⟨rfl, hfin.out⟩
    · clear hcs
      have VS := Lib.hid (fun (W : World) (hb : Below w2.heap.size w2 W) => vSize_c P _ m s W hok (id.out W hb))
      have VC := Lib.hid (fun (W : World) (hb : Below w2.heap.size w2 W) => vComm_c P _ m s W hok (id.out W hb))
      have VA := Lib.hid (fun (W : World) (hb : Below w2.heap.size w2 W) => vAssoc_c P _ m s W hok (id.out W hb))
      have VL := Lib.hid (fun (W : World) (hb : Below w2.heap.size w2 W) => vAlt_c P _ m s W hok (id.out W hb))
      rw [show decide (m ≤ 1) = decide ((m : Int) ≤ 1) from decide_eq_decide.2 (by omega)] at VC
      rw [show decide (m ≤ 2) = decide ((m : Int) ≤ 2) from decide_eq_decide.2 (by omega)] at VA
      rw [show decide (m ≤ 3) = decide ((m : Int) ≤ 3) from decide_eq_decide.2 (by omega)] at VL
      have HOK := Lib.hid hok
      have hn4 := (dblB_ok hok).le
      have hpb := primeB_bd (dblB_ok hok).prime
      obtain ⟨M, hM⟩ : ∃ M, 2 ^ m = M := ⟨_, rfl⟩
      have hM16 : M ≤ 16 := hM ▸ pow_le hn4
      have hM0 : 1 ≤ M := hM ▸ Nat.pos_of_ne_zero (by simp)
      rw [hM] at VS
      have hw2 : wrap64 ((2 : Int) ^ m) = (M : Int) := by rw [show ((2 : Int) ^ m) = ((2 ^ m : Nat) : Int) by simp, hM]; exact wrap64_in _ (by omega)
      have hN2 : Hid (Tab (w6.drewN q2) (.slice a3 M c3) M (fun _ => M) (basT P s m)) := hM ▸ hN
      have hG2 : Hid (Ints (w6.drewN q2) (.slice a5 M c5) M (dgF P s m)) := hM ▸ hG
      clear hN hG
      rw [hM]
      have HM := Lib.hid hM
      clear hM hok
      go_wp2_with fail
      go_at_call 24
      refine Calls.makes' (VS.out _ bb) _ fun w7 hb7 => ?_
      replace f0 := cellKp hb7 f0
      replace f1 := cellKp hb7 f1
      have bb := bb.trans (hb7.mono bb.size)
      go_wp2_with fail
      go_at_call 25
      refine Calls.makes' (VC.out _ bb) _ fun w8 hb8 => ?_
      replace f0 := cellKp hb8 f0
      replace f1 := cellKp hb8 f1
      have bb := bb.trans (hb8.mono bb.size)
      go_wp2_with fail
      go_at_call 26
      refine Calls.makes' (VA.out _ bb) _ fun w9 hb9 => ?_
      replace f0 := cellKp hb9 f0
      replace f1 := cellKp hb9 f1
      have bb := bb.trans (hb9.mono bb.size)
      go_wp2_with fail
      go_at_call 27
      refine Calls.makes' (VL.out _ bb) _ fun w10 hb10 => ?_
      replace f0 := cellKp hb10 f0
      replace f1 := cellKp hb10 f1
      have bb := bb.trans (hb10.mono bb.size)
      have hN := Lib.hid (hN2.out.below (((hb7.trans (hb8.mono hb7.size)).trans (hb9.mono (hb7.trans (hb8.mono hb7.size)).size)).trans (hb10.mono ((hb7.trans (hb8.mono hb7.size)).trans (hb9.mono (hb7.trans (hb8.mono hb7.size)).size)).size)))
      have hG := Lib.hid (hG2.out.below (((hb7.trans (hb8.mono hb7.size)).trans (hb9.mono (hb7.trans (hb8.mono hb7.size)).size)).trans (hb10.mono ((hb7.trans (hb8.mono hb7.size)).trans (hb9.mono (hb7.trans (hb8.mono hb7.size)).size)).size)))
      clear hb7 hb8 hb9 hb10 VS VC VA VL hN2 hG2
      have hb0 := hp2.out.trans (bb.mono hp2.out.size)
      have HG10 : Hid (∀ W, Below w10.heap.size w10 W → Ints W (.slice a5 M c5) M (dgF P s m)) := fun W hb => hG.out.below hb
      have BB10 := Lib.hid bb
      have HF10 := Lib.hid hb0
      have F010 := Lib.hid f0
      have F110 := Lib.hid f1
      have hg2 : w2.heap.size < w10.heap.size := lt_of_cell f0
      have HBr := Lib.hid (roll_c _ n B 3002 w10 (by omega) (HB.out w10 hb0))
      have HFin := Lib.hid hb0
      clear hb0 hp2
      go_wp2_with fail
      refine HBr.out.mono ?_
      rintro e w11 ⟨g, rfl, hg, hb11, hD11⟩
      have hB11 : Hid (∀ W, Chg w11 W (· = g) → Byt W (.slice ao n c0) n B) := fun W hc => HB.out W ((HFin.out.trans (hb11.mono HFin.out.size)).trans (hc.below (Nat.le_trans HFin.out.size hb11.size) (fun k e => by have e : k = g := e; have := HFin.out.size; omega)))
      have N1 := Lib.hid (below9_c g n _ B M w11 hD11 (hB11.out _ (Chg.refl _ _)) (by omega))
      have hgl := hD11.lt
      clear hw2
      have hB11b := Lib.hid hb11
      clear hb11 hD11 HBr
      go_wp2_with fail
      refine N1.out.mono ?_
      rintro e w12 ⟨x, rfl, hx, _, hr12⟩
      have hx := hx (by omega)
      have N2 := Lib.hid (below9_c g n _ B M w12 hr12.src (hB11.out _ hr12.chg) (by omega))
      have HR12 := Lib.hid hr12
      clear hr12 N1
      go_wp2_with fail
      refine N2.out.mono ?_
      rintro e w13 ⟨y, rfl, hy, _, hr13⟩
      have hy := hy (by omega)
      have hc13 := HR12.out.chg.trans hr13.chg
      have hb13 : Below w10.heap.size w10 w13 := hB11b.out.trans (hc13.below hB11b.out.size (fun k e => by have e : k = g := e; omega))
      replace f0 := cellKp hb13 f0
      replace f1 := cellKp hb13 f1
      have hN := Lib.hid (hN.out.below hb13)
      have hG := Lib.hid (hG.out.below hb13)
      have hD13 := Lib.hid hr13.src
      have hC13 := Lib.hid hc13
      have B13 := Lib.hid hb13
      have bb := bb.trans (hb13.mono bb.size)
      have HFin := Lib.hid (HFin.out.trans (hb13.mono HFin.out.size))
      clear hr13 hc13 HR12 N2 hb13 hB11b HB
      obtain ⟨i, rfl⟩ : ∃ i : Nat, x = i := ⟨x.toNat, by omega⟩
      obtain ⟨j, rfl⟩ : ∃ j : Nat, y = j := ⟨y.toNat, by omega⟩
      have hi : i < M := by omega
      have hj : j < M := by omega
      go_wp2_with fail
      go_upto_region 23 with (fail)
      go_cut [24, 25, 26] (fun s24 s25 s26 wx => ∃ gx gy gz : Nat, s24 = .slice (some ⟨gx, 0, none⟩) M M ∧ s25 = .slice (some ⟨gy, 0, none⟩) M M ∧ s26 = .slice (some ⟨gz, 0, none⟩) M M ∧ Below w13.heap.size w13 wx ∧ Own wx 2 gx M M (fun _ => .int .i64 0) ∧ Own wx 2 gy M M (fun _ => .int .i64 0) ∧ Own wx 2 gz M M (fun _ => .int .i64 0) ∧ w13.heap.size ≤ gx ∧ w13.heap.size ≤ gy ∧ w13.heap.size ≤ gz ∧ gx ≠ gy ∧ gx ≠ gz ∧ gy ≠ gz)
      case first =>
        have hmk := run_make_row' (P := Try.prog) 24 2 (.int .i64 0) 8 Try.underlying24 elI.info rfl .i64 .i64 M (by omega) (by omega)
        obtain ⟨m0, m1, m2, m3⟩ := made3 w13 2 M (.int .i64 0) (by omega)
        have M0 := Lib.hid m0
        have M1 := Lib.hid m1
        have M2 := Lib.hid m2
        have M3 := Lib.hid m3
        clear m0 m1 m2 m3
        go_region
        all_goals go_wp2
        all_goals go_meet
        all_goals first
          | exact ⟨_, _, _, rfl, rfl, rfl, M0.out, M1.out, M2.out, M3.out, by omega, by omega, by omega, by omega, by omega, by omega⟩
          | exact ⟨_, _, _, rfl, rfl, rfl, M0.out, M1.out, M3.out, M2.out, by omega, by omega, by omega, by omega, by omega, by omega⟩
          | exact ⟨_, _, _, rfl, rfl, rfl, M0.out, M2.out, M1.out, M3.out, by omega, by omega, by omega, by omega, by omega, by omega⟩
          | exact ⟨_, _, _, rfl, rfl, rfl, M0.out, M2.out, M3.out, M1.out, by omega, by omega, by omega, by omega, by omega, by omega⟩
          | exact ⟨_, _, _, rfl, rfl, rfl, M0.out, M3.out, M1.out, M2.out, by omega, by omega, by omega, by omega, by omega, by omega⟩
          | exact ⟨_, _, _, rfl, rfl, rfl, M0.out, M3.out, M2.out, M1.out, by omega, by omega, by omega, by omega, by omega, by omega⟩
      case rest =>
        obtain ⟨gx, gy, gz, rfl, rfl, rfl, hbc, hOx, hOy, hOz, lx, ly, lz, n1, n2, n3⟩ := hcut
        have gb := bb.size
        -- the stores' worlds
        obtain ⟨W1, hW1⟩ : ∃ W1, wc.setCell ⟨gx, i, none⟩ (.int .i64 1) = W1 := ⟨_, rfl⟩
        have hcx : Chg wc W1 (· = gx) := by rw [← hW1]; exact (Chg.refl wc (· = gx)).setCell (a := ⟨gx, i, none⟩) rfl _
        have hOx1 : Own W1 2 gx M M (fun k => .int .i64 (dlt i k)) := by
          rw [← hW1]
          exact (hOx.set i (.int .i64 1)).congr fun k hk => by unfold dlt; by_cases e : k = i <;> simp [e]
        have hOy1 := hcx.own hOy (fun e => n1 e.symm)
        have hOz1 := hcx.own hOz (fun e => n2 e.symm)
        obtain ⟨W2, hW2⟩ : ∃ W2, W1.setCell ⟨gy, j, none⟩ (.int .i64 1) = W2 := ⟨_, rfl⟩
        have hcy : Chg W1 W2 (· = gy) := by rw [← hW2]; exact (Chg.refl W1 (· = gy)).setCell (a := ⟨gy, j, none⟩) rfl _
        have hOy2 : Own W2 2 gy M M (fun k => .int .i64 (dlt j k)) := by
          rw [← hW2]
          exact (hOy1.set j (.int .i64 1)).congr fun k hk => by unfold dlt; by_cases e : k = j <;> simp [e]
        have hOx2 := hcy.own hOx1 n1
        have hOz2 := hcy.own hOz1 (fun e => n3 e.symm)
        have b2 : Below w13.heap.size w13 W2 := (hbc.trans (hcx.below hbc.size (fun k e => by have e : k = gx := e; omega))).trans (hcy.below (Nat.le_trans hbc.size hcx.size) (fun k e => by have e : k = gy := e; omega))
        have hxo := xor_small i j (by omega) (by omega)
        obtain ⟨x, hxe⟩ : ∃ x, i ^^^ j = x := ⟨_, rfl⟩
        have hxM : x < M := by rw [← hxe, ← HM.out]; exact xor_lt (by rw [HM.out]; exact hi) (by rw [HM.out]; exact hj)
        obtain ⟨W3, hW3⟩ : ∃ W3, W2.setCell ⟨gz, x, none⟩ (.int .i64 (basT P s m i j)) = W3 := ⟨_, rfl⟩
        have hcz : Chg W2 W3 (· = gz) := by rw [← hW3]; exact (Chg.refl W2 (· = gz)).setCell (a := ⟨gz, x, none⟩) rfl _
        have hOz3 : Own W3 2 gz M M (fun k => .int .i64 (if k = x then basT P s m i j else 0)) := by
          rw [← hW3]
          exact (hOz2.set x (.int .i64 (basT P s m i j))).congr fun k hk => by by_cases e : k = x <;> simp [e]
        have hOx3 := Lib.hid (hcz.own hOx2 n2)
        have hOy3 := Lib.hid (hcz.own hOy2 n3)
        have hOZ3 := Lib.hid hOz3
        have b3 : Below w13.heap.size w13 W3 := b2.trans (hcz.below b2.size (fun k e => by have e : k = gz := e; omega))
        rw [hxe] at hxo
        have z1 := hOx.cell hi
        have y1 := hOx.frozen i
        have z2 := hOy1.cell hj
        have y2 := hOy1.frozen j
        have z3 := hOz2.cell hxM
        have y3 := hOz2.frozen x
        obtain ⟨ta, tc, tb, toff, A, C, RB, RO, he, p2, p3, p4, p5, p6, p7, p8⟩ := (hN.out.below b2).out
        injection he with he1 _ he2
        obtain rfl := p4 (by omega)
        subst he1
        have t1 := p5 i hi
        obtain ⟨t3, t4⟩ := p6 i hi
        have t5 := p7 i hi (by omega)
        rw [t5] at t1
        have t2 := p8 i j hi hj
        replace f0 := cellKp b3 f0
        replace f1 := cellKp b3 f1
        have bb := Lib.hid (bb.trans (b3.mono bb.size))
        have B3 := Lib.hid (B13.out.trans (b3.mono B13.out.size))
        have hD3 := Lib.hid (hD13.out.kept b3)
        have hC3 : Hid (Chg w11 W3 (· = g)) := hC13.out.trans (Chg.of_below b3 _)
        have HFin := Lib.hid (HFin.out.trans (b3.mono HFin.out.size))
        have hEx : Hid (El W3 (.slice (some ⟨gx, 0, none⟩) M M) P m (dlt i)) := ⟨HM.out ▸ hOx3.out.ints, dlt_in (by omega) _ _⟩
        have hEy : Hid (El W3 (.slice (some ⟨gy, 0, none⟩) M M) P m (dlt j)) := ⟨HM.out ▸ hOy3.out.ints, dlt_in (by omega) _ _⟩
        have hT9 := times9_c P _ m s _ _ (dlt i) (dlt j) W3 HOK.out (id.out _ bb.out) hEx.out hEy.out
        rw [HM.out] at hT9
        have HT9 := Lib.hid hT9
        have hBP : Hid (∀ k, k < M → mulF P s m (dlt i) (dlt j) k = if k = x then basT P s m i j else 0) := fun k hk => hxe ▸ basis_prod (by omega) s (HM.out.symm ▸ hi) (HM.out.symm ▸ hj) k (HM.out.symm ▸ hk)
        clear hT9 hcx hcy hcz hOx hOy hOz hOx1 hOy1 hOz1 hOx2 hOy2 hOz2 hOz3 b2 b3 hxe p2 p3 p4 p5 p6 p7 p8 t3 t4 t5 hN hD13 hC13 hbc
        obtain ⟨bv, hbv⟩ : ∃ bv, basT P s m i j = bv := ⟨_, rfl⟩
        rw [hbv] at t2 hW3 hOZ3 hBP
        clear hbv
        go_wp2_with fail
        go_at_call 30
        refine HT9.out.mono ?_
        rintro e w14 ⟨gt, ct, rfl, hb14, hE14⟩
        have hR : Hid (Ints w14 (.slice (some ⟨gt, 0, none⟩) M ct) M (mulF P s m (dlt i) (dlt j))) := HM.out ▸ hE14.ints
        have hZ := Lib.hid (hOZ3.out.kept hb14)
        have B14 := Lib.hid (B3.out.trans (hb14.mono B3.out.size))
        have hD14 := Lib.hid (hD3.out.kept hb14)
        have hC14 : Hid (Chg w11 w14 (· = g)) := hC3.out.trans (Chg.of_below hb14 _)
        replace f0 := cellKp hb14 f0
        replace f1 := cellKp hb14 f1
        clear hb14 hE14 HT9 t1 t2 z1 z2 z3 y1 y2 y3 hW1 hW2 hW3 hxo hEx hEy hOx3 hOy3
        go_wp2_with fail
        go_at_call 16
        refine Calls.reads' (wr := w) (likeInts_c _ _ _ _ _ _ _ hR.out hZ.out.ints) _ fun q3 => ?_
        rw [eqB_all hBP.out]
        have bq := below_drewN w14 q3
        have B14 := Lib.hid (B14.out.trans (bq.mono B14.out.size))
        have hD14 := Lib.hid (hD14.out.kept bq)
        have hC14 : Hid (Chg w11 (w14.drewN q3) (· = g)) := hC14.out.trans (Chg.of_below bq _)
        replace f0 := cellKp bq f0
        replace f1 := cellKp bq f1
        have hEl := element9_c g n _ B P _ m s (w14.drewN q3) hD14.out (fun W hc => hB11.out W (hC14.out.trans hc)) (id.out _ (BB10.out.trans (B14.out.mono BB10.out.size))) hn4 (by omega)
        rw [HM.out] at hEl
        have HEl := Lib.hid hEl
        clear hEl bq hR hZ
        go_wp2_with fail
        go_at_call 31
        refine HEl.out.mono ?_
        rintro e w15 ⟨⟨gu, cu, X, rfl, hgu, hOu, hIn⟩, hDu, hCu⟩
        have B15 := Lib.hid (B14.out.trans (hCu.below B14.out.size (fun k e => by have e : k = g := e; omega)))
        replace f0 := hCu.cellC f0 (by show ¬ w2.heap.size = g; omega)
        replace f1 := hCu.cellC f1 (by show ¬ w2.heap.size = g; omega)
        have hIN := Lib.hid hIn
        have hEu : El w15 (.slice (some ⟨gu, 0, none⟩) M cu) P m X := ⟨HM.out.symm ▸ hOu.ints, HM.out.symm ▸ hIn⟩
        obtain ⟨nv, hnv⟩ : ∃ nv, normF P s m X = nv := ⟨_, rfl⟩
        have hVN := vNorm_c P _ m s _ X w15 HOK.out (id.out _ (BB10.out.trans (B15.out.mono BB10.out.size))) hEu
        rw [hnv] at hVN
        have HVN := Lib.hid hVN
        have hsum : Hid (nsF P (fun i => dgF P s m i * X i * X i) M = nv) := by rw [← hnv, ← norm_sum, HM.out]; exact rfl
        have HOU := Lib.hid hOu
        clear hVN hnv hEu hOu hDu hCu HEl hIn hD14 hC14
        go_wp2_with fail
        go_at_call 17
        refine Calls.makes' HVN.out _ fun w16 hb16 => ?_
        have B16 := Lib.hid (B15.out.trans (hb16.mono B15.out.size))
        replace f0 := cellKp hb16 f0
        replace f1 := cellKp hb16 f1
        have hu := Lib.hid (HOU.out.kept hb16)
        obtain ⟨da, dc, db, doff, he, _, _, r4, r5⟩ := (HG10.out _ B16.out).out
        injection he with he1 _ he2
        obtain rfl := r4 (by omega)
        subst he1
        have R5 := Lib.hid r5
        have F0 := Lib.hid f0
        have F1 := Lib.hid f1
        have hdg : Hid (∀ k, 0 ≤ dgF P s m k ∧ dgF P s m k < P) := fun k => dgF_in (by omega) s m k
        have hns : Hid (∀ k, 0 ≤ nsF P (fun i => dgF P s m i * X i * X i) k ∧ nsF P (fun i => dgF P s m i * X i * X i) k < P) := fun k => nsF_in (by omega) _ k
        clear hb16 r4 r5 f0 f1 HVN HOU he2
        go_wp2
        go_loopg [30, 31] M (fun gg s30 s31 wr => ∃ k : Nat, k ≤ M ∧ gg = M - k ∧ s31 = .int .i64 k ∧ s30 = .int .i64 (nsF P (fun i => dgF P s m i * X i * X i) k) ∧ ∃ q, wr = w16.drewN q)
        case atStart => exact ⟨0, Nat.zero_le _, rfl, rfl, rfl, 0, rfl⟩
        case round =>
          obtain ⟨k, hk, rfl, rfl, rfl, q, rfl⟩ := hrel
          by_cases hlt : k < M
          · have u1 : w16.cell? ⟨gu, k, none⟩ = some (.int .i64 (X k)) := by simpa using hu.out.cell hlt
            have u2 : w16.cell? ⟨db, doff + k, none⟩ = some (.int .i64 (dgF P s m k)) := by simpa using R5.out k hlt
            have f0 : w16.cell? ⟨w2.heap.size, 0, none⟩ = some (.int .i64 P) := by simpa using F0.out
            have hst : nsF P (fun i => dgF P s m i * X i * X i) (k + 1) = (nsF P (fun i => dgF P s m i * X i * X i) k + dgF P s m k * X k * X k) % P := rfl
            have HST := Lib.hid hst
            have b1 := hdg.out k
            have b2 := hIN.out k hlt
            have b3 := hns.out k
            obtain ⟨tk, htk⟩ : ∃ t, nsF P (fun i => dgF P s m i * X i * X i) k = t := ⟨_, rfl⟩
            obtain ⟨dk, hdk⟩ : ∃ t, dgF P s m k = t := ⟨_, rfl⟩
            obtain ⟨xk, hxk⟩ : ∃ t, X k = t := ⟨_, rfl⟩
            rw [htk] at b3 ⊢
            rw [hdk] at b1 u2
            rw [hxk] at b2 u1
            rw [htk, hdk, hxk] at HST
            clear htk hdk hxk hst
            have v1 : 0 ≤ dk * xk ∧ dk * xk ≤ 169 := ⟨Int.mul_nonneg (by omega) (by omega), by
              have := Int.mul_le_mul (show dk ≤ 13 by omega) (show xk ≤ 13 by omega) (by omega) (by omega)
              omega⟩
            have v2 := mul_bd (a := dk * xk) (b := xk) (by omega) (by omega)
            have v3 : 0 ≤ dk * xk * xk := Int.mul_nonneg v1.1 (by omega)
            have hm2 : 0 ≤ (tk + dk * xk * xk) % P ∧ (tk + dk * xk * xk) % P < P := mod_bd _ _ (by omega)
            have ht0 : Int.tmod (tk + dk * xk * xk) P = (tk + dk * xk * xk) % P := Int.tmod_eq_emod_of_nonneg (by omega)
            obtain ⟨y1, hy1⟩ : ∃ y, dk * xk = y := ⟨_, rfl⟩
            rw [hy1] at v1 v2 v3 HST hm2 ht0
            obtain ⟨y2, hy2⟩ : ∃ y, y1 * xk = y := ⟨_, rfl⟩
            rw [hy2] at v2 v3 HST hm2 ht0
            obtain ⟨y3, hy3⟩ : ∃ y, tk + y2 = y := ⟨_, rfl⟩
            rw [hy3] at HST hm2 ht0
            obtain ⟨y4, hy4⟩ : ∃ y, y3 % P = y := ⟨_, rfl⟩
            rw [hy4] at HST hm2 ht0
            have hw1 : IntKind.i64.wrap (dk * xk) = y1 := by rw [hy1]; exact wrap_in' _ (by omega)
            have hw2 : IntKind.i64.wrap (y1 * xk) = y2 := by rw [hy2]; exact wrap_in' _ (by omega)
            have hw3 : IntKind.i64.wrap (tk + y2) = y3 := by rw [hy3]; exact wrap_in' _ (by omega)
            have ht : Int.tmod y3 P = y4 := ht0
            have hw4 : IntKind.i64.wrap y4 = y4 := wrap_in' _ (by omega)
            clear hy1 hy2 hy3 hy4 ht0
            have hP0 : P ≠ 0 := by omega
            have i0 : (0 : Int) ≤ (k : Int) := by omega
            have i1 : (k : Int) < (M : Int) := by omega
            go_wp2
            go_quiet (fail)
            go_wp2
            go_roundg (M - (k + 1))
            case measure => omega
            case rel => exact ⟨k + 1, by omega, rfl, by go_num, by rw [HST.out], _, rfl⟩
          · obtain rfl : k = M := by omega
            rw [hsum.out]
            go_wp2
            go_ret
            exact ⟨rfl, HF10.out.trans ((B16.out.trans ((below_drewN _ q).mono B16.out.size)).mono HF10.out.size)⟩

end Go.Proofs.Ytnnacligfoonbaa
