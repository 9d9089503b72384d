/-
  The law on the numbers of elements with a norm returns true. No condition.
-/
import Derived.Test.YtnnacligfoonbaaLX1
import Derived.Test.YtnnacligfoonbaaF11b
import Derived.Test.YtnnacligfoonbaaDX
import Derived.Test.YtnnacligfoonbaaLW1
import Derived.Test.YtnnacligfoonbaaQNc
import Derived.Test.YtnnacligfoonbaaD42
import Derived.Test.YtnnacligfoonbaaD44
set_option linter.unusedVariables false
set_option linter.unusedSimpArgs false
namespace Go.Proofs.Ytnnacligfoonbaa
open Go.RowKit

theorem rC_one (c x : Int) : rC c x = .tuple #[.int .i64 (if c = 0 then x else 0), .int .i64 c] := by
  unfold rC
  by_cases h : c = 0
  · subst h; rfl
  · rw [if_neg h, if_neg h]

theorem least_ok {P : Int} {n : Nat} {s : Nat → Int} {k : Int} (hok : dblB P n s = true) (hk : 0 ≤ k ∧ k < P) (hv : 0 < cntV P n s k) : InP P (2 ^ n) (leastV P n s k) ∧ normF P s n (leastV P n s k) = k := by
  have hp := primeB_bd (dblB_ok hok).prime
  have hP : 0 < P.toNat := by omega
  have hK : k.toNat < P.toNat := by omega
  refine ⟨fun i hi => ?_, ?_⟩
  · have := least_lt hP _ hK hv i hi
    unfold leastV; omega
  · rw [← norm_sum, nsF_eq]
    have h := least_sum hP (dgF P s n) hK hv
    have e1 : ((P.toNat : Nat) : Int) = P := by omega
    have e2 : ((k.toNat : Nat) : Int) = k := by omega
    rw [e1, e2] at h
    exact h
theorem cnt_sum {P : Int} {n : Nat} {s : Nat → Int} (hP : 0 < P) : sumF (fun k => cntV P n s k) P.toNat = P ^ 2 ^ n := by
  have h := backK_sum (P := P.toNat) (by omega) (dgF P s n) (2 ^ n) 0
  have e1 : ((P.toNat : Nat) : Int) = P := by omega
  rw [e1] at h
  rw [← h]
  exact sumF_congr fun i hi => by unfold cntV; rw [Int.toNat_natCast]
theorem cnt_bd {P : Int} {n : Nat} {s : Nat → Int} {k : Int} (hP : 0 < P) (hk : 0 ≤ k ∧ k < P) : 0 ≤ cntV P n s k := (backK_bd (by omega) _ _ _ _ (by omega)).1
theorem cnt_part {P : Int} {n : Nat} {s : Nat → Int} (hok : dblB P n s = true) {k : Nat} (hk : (k : Int) ≤ P) : 0 ≤ sumF (fun k => cntV P n s k) k ∧ sumF (fun k => cntV P n s k) k ≤ 665416609183179841 := by
  have hp := primeB_bd (dblB_ok hok).prime
  have hn := (dblB_ok hok).le
  have hnn : ∀ i, i < P.toNat → 0 ≤ cntV P n s i := fun i hi => cnt_bd (by omega) (by omega)
  refine ⟨sumF_nonneg fun i hi => hnn i (by omega), ?_⟩
  have h1 := sumF_upTo' (f := fun k : Nat => cntV P n s k) (show k ≤ P.toNat by omega) hnn
  rw [cnt_sum (by omega)] at h1
  have h2 := pow_bd (P := P.toNat) (m := 2 ^ n) (by omega) (pow_le hn)
  have e1 : ((P.toNat : Nat) : Int) = P := by omega
  rw [e1] at h2
  exact Int.le_trans h1 h2
theorem powP_bd {P : Int} {n : Nat} {s : Nat → Int} (hok : dblB P n s = true) {i : Nat} (hi : i ≤ 16) : 0 ≤ P ^ i ∧ P ^ i ≤ 665416609183179841 := by
  have hp := primeB_bd (dblB_ok hok).prime
  have h2 := pow_bd (P := P.toNat) (m := i) (by omega) hi
  have e1 : ((P.toNat : Nat) : Int) = P := by omega
  rw [e1] at h2
  exact ⟨Int.pow_nonneg (by omega), h2⟩

theorem cnt_in {P : Int} {n : Nat} {s : Nat → Int} (hok : dblB P n s = true) {k : Int} (hk : 0 ≤ k ∧ k < P) (W : World) (v' : Value) (h : Ints W v' n s) :
    Calls Try.prog 12 #[dbl P v', .int .i64 k] W fun e w' => Makes W w' e (.tuple #[.int .i64 (cntV P n s k), .int .i64 0]) := by
  have := iCountOfNorm_c P v' n s k W h
  rw [rC_one, nCode_in hok, show inB k 0 (P - 1) = true by unfold inB; simp; omega] at this
  exact this
theorem normc_o (P : Int) (n : Nat) (s : Nat → Int) (k : Int) :
    ∃ (cc v c2 : Int) (M : Nat) (X : Nat → Int), ((cc = 0 ∧ dblB P n s = true ∧ (0 ≤ k ∧ k < P) ∧ ((c2 = 0 ∧ M = 2 ^ n ∧ 0 < v ∧ InP P (2 ^ n) X ∧ normF P s n X = k) ∨ (c2 = 5 ∧ M = 0 ∧ v = 0))) ∨ (cc ≠ 0 ∧ c2 = cc ∧ M = 0)) ∧
    (∀ (W : World) (v' : Value), Ints W v' n s → Calls Try.prog 13 #[dbl P v', .int .i64 k] W fun e w' => Makes W w' e (.tuple #[.int .i64 v, .int .i64 cc])) ∧
    (∀ (W : World) (v' : Value), Ints W v' n s → Calls Try.prog 12 #[dbl P v', .int .i64 k] W fun e w' => Makes W w' e (.tuple #[.int .i64 v, .int .i64 cc])) ∧
    (∀ (W : World) (v' : Value), Ints W v' n s → Calls Try.prog 15 #[dbl P v', .int .i64 k] W fun e w' => ResO W w' e c2 M X) ∧
    (∀ (W : World) (v' : Value), Ints W v' n s → Calls Try.prog 14 #[dbl P v', .int .i64 k] W fun e w' => ResO W w' e c2 M X) := by
  refine ⟨nCode P n s k, if nCode P n s k = 0 then cntV P n s k else 0, thenC (nCode P n s k) (cntV P n s k == 0) 5, lenC (thenC (nCode P n s k) (cntV P n s k == 0) 5) n, leastV P n s k, ?_,
    fun W v h => by rw [← rC_one]; exact sCountOfNorm_c P v n s k W h, fun W v h => by rw [← rC_one]; exact iCountOfNorm_c P v n s k W h,
    fun W v h => (sLeastOfNorm_c P v n s k W h).mono fun _ _ h => h.toO, fun W v h => (iLeastOfNorm_c P v n s k W h).mono fun _ _ h => h.toO⟩
  cases hok : dblB P n s
  · refine Or.inr ?_
    rw [nCode_out hok]; simp [thenC, lenC]
  · have hp := primeB_bd (dblB_ok hok).prime
    rw [nCode_in hok]
    cases hin : inB k 0 (P - 1)
    · refine Or.inr ?_
      simp [thenC, lenC]
    · have hk : 0 ≤ k ∧ k < P := by
        unfold inB at hin; simp at hin; omega
      have hnn := cnt_bd (n := n) (s := s) (k := k) (by omega : 0 < P) hk
      refine Or.inl ⟨by simp, rfl, hk, ?_⟩
      by_cases hv : cntV P n s k = 0
      · refine Or.inr ?_
        simp [thenC, lenC, hv]
      · have hv' : 0 < cntV P n s k := by omega
        have hb : (cntV P n s k == 0) = false := by simpa using hv
        refine Or.inl ?_
        obtain ⟨l1, l2⟩ := least_ok hok hk hv'
        rw [hb]
        simp [thenC, lenC]
        exact ⟨hv', l1, l2⟩

set_option maxRecDepth 100000 in
set_option maxHeartbeats 8000000 in
theorem lawNormCounts_c (cv : Value) (n : Nat) (B : Nat → Int) (w : World) (hB : Byt w cv n B) :
    Calls Try.prog 3 #[cv] w fun e w' => Law w w' e := by
  by_cases hbig : 4096 < n
  · have hb := Lib.hid (big_c cv n B w hB)
    obtain ⟨ao, c0, _, _, rfl, qq⟩ := hB.out
    clear hB qq
    go_enter Try.func3, Try.ntmps3
    go_wp2_with fail
    refine hb.out.mono ?_
    rintro e w1 ⟨rfl, rfl⟩
    rw [show decide (4096 < n) = true from decide_eq_true hbig]
    go_wp2
    go_ret
    exact ⟨rfl, Below.refl _ _⟩
  · have hb := Lib.hid (big_c cv n B w hB)
    have hD := Lib.hid (sDrawCountOfNorm_c cv n B w hB)
    have HB : Hid (∀ W, Below w.heap.size w W → Byt W cv n B) := fun W hb => hB.below hb
    obtain ⟨ao, c0, _, _, rfl, qq⟩ := hB.out
    clear hB qq
    go_enter Try.func3, Try.ntmps3
    go_wp2_with fail
    refine hb.out.mono ?_
    rintro e w1 ⟨rfl, rfl⟩
    rw [show decide (4096 < n) = false from decide_eq_false hbig]
    go_wp2_with fail
    refine hD.out.mono ?_
    rintro e w2 ⟨P, a, c, m, s, K, rfl, hb2, hs2, hK1, hK2⟩
    have hs2 := hs2.ints
    have hp2 := Lib.hid hb2
    obtain ⟨cc, v, c2, M, X, hcs, k1, k2, k3, k4⟩ := normc_o P m s K
    have hcs := Lib.hid hcs
    have K1 := Lib.hid k1
    have K2 := Lib.hid k2
    have K3 := Lib.hid k3
    have K4 := Lib.hid k4
    have id : Hid (∀ W, Below w2.heap.size w2 W → Ints W (.slice a m c) m s) := fun W hb => hs2.below hb
    obtain ⟨f0, f1, _, bb⟩ := box0 w2 P a m c 26
    have hl := hp2.out.size
    clear k1 k2 k3 k4 hs2 hb hD hb2
    go_wp2_with fail
    go_at_call 12
    refine Calls.makes' (K2.out _ _ (id.out _ bb)) _ fun w3 hb3 => ?_
    replace f0 := cellKp hb3 f0
    replace f1 := cellKp hb3 f1
    have bb := bb.trans (hb3.mono bb.size)
    clear hb3
    go_wp2_with fail
    go_at_call 13
    refine Calls.makes' (K1.out _ _ (id.out _ bb)) _ fun w4 hb4 => ?_
    replace f0 := cellKp hb4 f0
    replace f1 := cellKp hb4 f1
    have bb := bb.trans (hb4.mono bb.size)
    clear hb4
    go_wp2_with fail
    go_at_call 14
    refine (K4.out _ _ (id.out _ bb)).mono ?_
    rintro e w5 ⟨a5, c5, rfl, hb5, o5⟩
    replace f0 := cellKp hb5 f0
    replace f1 := cellKp hb5 f1
    have bb := bb.trans (hb5.mono bb.size)
    have hX := Lib.hid o5.ints
    clear o5 hb5
    go_wp2_with fail
    go_at_call 15
    refine (K3.out _ _ (id.out _ bb)).mono ?_
    rintro e w6 ⟨a6, c6, rfl, hb6, o6⟩
    replace f0 := cellKp hb6 f0
    replace f1 := cellKp hb6 f1
    have bb := bb.trans (hb6.mono bb.size)
    replace hX := Lib.hid (hX.out.below hb6)
    have hY := Lib.hid o6.ints
    clear o6 hb6
    go_wp2_with fail
    go_at_call 16
    refine Calls.reads' (wr := w) (likeInts_c _ _ _ _ _ _ _ hX.out hY.out) _ fun q7 => ?_
    rw [eqB_refl]
    clear hY
    replace f0 := cellKp (below_drewN _ q7) f0
    replace f1 := cellKp (below_drewN _ q7) f1
    have bb := bb.trans ((below_drewN _ q7).mono bb.size)
    replace hX := Lib.hid (hX.out.below (below_drewN _ q7))
    clear K1 K2 K3 K4
    rcases hcs.out with ⟨rfl, hok, hk, hrest⟩ | ⟨hcc, rfl, rfl⟩
    rotate_left
    · have hfin := Lib.hid (hp2.out.trans (bb.mono hp2.out.size))
      clear hcs hX id hp2 bb
      have hcc' : (c2 != 0) = true := by simpa using hcc
      clear hcc
      go_wp2
      go_ret
      exact ⟨rfl, hfin.out⟩
    clear hcs
    have HOK := Lib.hid hok
    have HRE := Lib.hid hrest
    clear hrest
    have hpb := primeB_bd (dblB_ok hok).prime
    have hn4 := (dblB_ok hok).le
    obtain ⟨N, hN⟩ : ∃ N, 2 ^ m = N := ⟨_, rfl⟩
    have hN16 : N ≤ 16 := hN ▸ pow_le hn4
    have hw2 : wrap64 ((2 : Int) ^ m) = (N : Int) := by rw [show ((2 : Int) ^ m) = ((2 ^ m : Nat) : Int) by simp, hN]; exact wrap64_in _ (by omega)
    have CK := Lib.hid (fun (k : Nat) (hk : (k : Int) < P) (W : World) (hb : Below w2.heap.size w2 W) => cnt_in hok (k := k) (by omega) W _ (id.out W hb))
    have CP := Lib.hid (fun (k : Nat) (hk : (k : Int) ≤ P) => cnt_part hok hk)
    have PP := Lib.hid (fun (i : Nat) (hi : i ≤ 16) => powP_bd hok hi)
    have hEnd : Hid (sumF (fun k => cntV P m s k) P.toNat = P ^ N) := by rw [← hN]; exact cnt_sum (by omega)
    have HN := Lib.hid hN
    clear hok hN
    have BB := Lib.hid bb
    clear bb
    go_wp2
    go_loopg [13, 15] P.toNat (fun gg t i wr => ∃ k : Nat, gg = P.toNat - k ∧ i = .int .i64 k ∧ (k : Int) ≤ P ∧ t = .int .i64 (sumF (fun k => cntV P m s k) k) ∧ Hid (Below w2.heap.size w2 wr) ∧ wr.cell? ⟨w2.heap.size, 0, none⟩ = some (.int .i64 P) ∧ wr.cell? ⟨w2.heap.size, 1, none⟩ = some (.slice a m c) ∧ Hid (Ints wr (.slice a5 M c5) M X))
    case atStart => exact ⟨0, rfl, rfl, by omega, rfl, BB.out, f0, f1, hX.out⟩
    case round =>
      clear BB f0 f1 hX
      obtain ⟨k, rfl, rfl, hkP, rfl, BB, f0, f1, hX⟩ := hrel
      by_cases hlt : (k : Int) < P
      · have hS := CP.out k hkP
        have hS2 := CP.out (k + 1) (by omega)
        have hSn : sumF (fun k => cntV P m s k) (k + 1) = sumF (fun k => cntV P m s k) k + cntV P m s k := rfl
        have CK1 := Lib.hid (CK.out k hlt)
        obtain ⟨S, eS⟩ : ∃ S, sumF (fun k => cntV P m s k) k = S := ⟨_, rfl⟩
        obtain ⟨C, eC⟩ : ∃ C, cntV P m s k = C := ⟨_, rfl⟩
        rw [hSn, eS, eC] at hS2
        rw [eS] at hS
        rw [eC] at CK1
        rw [eS]
        have HSN := Lib.hid (show sumF (fun k => cntV P m s k) (k + 1) = S + C by rw [hSn, eS, eC])
        clear hSn eS eC
        have bb := BB.out
        go_wp2_with fail
        go_at_call 12
        refine Calls.makes' (CK1.out _ bb) _ fun w8 hb8 => ?_
        replace f0 := cellKp hb8 f0
        replace f1 := cellKp hb8 f1
        have BB := Lib.hid (bb.trans (hb8.mono bb.size))
        have hX := Lib.hid (hX.out.below hb8)
        clear hb8 bb
        go_wp2
        go_roundg (P.toNat - (k + 1))
        case measure => omega
        case rel => exact ⟨k + 1, rfl, by go_num, by omega, by rw [HSN.out], BB.out, f0, f1, hX.out⟩
      · obtain rfl : k = P.toNat := by omega
        rw [hEnd.out]
        clear CK CP hEnd
        obtain ⟨w9, rfl⟩ : ∃ w9, w9 = wr := ⟨_, rfl⟩
        have hAll := PP.out N hN16
        go_wp2
        go_loopg [14, 18] N (fun gg t i wr => wr = w9 ∧ ∃ k : Nat, gg = N - k ∧ i = .int .i64 k ∧ k ≤ N ∧ t = .int .i64 (P ^ k))
        case atStart => exact ⟨rfl, 0, rfl, rfl, by omega, by simp⟩
        case round =>
          obtain ⟨rfl, k, rfl, rfl, hkN, rfl⟩ := hrel
          by_cases hlt2 : k < N
          · have h1 := PP.out k (by omega)
            have h2 := PP.out (k + 1) (by omega)
            rw [Int.pow_succ] at h2
            obtain ⟨T, eT⟩ : ∃ T, P ^ k = T := ⟨_, rfl⟩
            rw [eT] at h1 h2
            obtain ⟨T2, eT2⟩ : ∃ T2, T * P = T2 := ⟨_, rfl⟩
            rw [eT2] at h2
            have hwT : IntKind.i64.wrap (T * P) = T2 := wrap_as eT2 (by omega)
            have HT := Lib.hid (show P ^ (k + 1) = T2 by rw [Int.pow_succ, eT, eT2])
            rw [eT]
            clear eT eT2
            go_wp2
            go_roundg (N - (k + 1))
            case measure => omega
            case rel => exact ⟨rfl, k + 1, rfl, by go_num, by omega, by rw [HT.out]⟩
          · obtain rfl : k = N := by omega
            obtain ⟨T, eT⟩ : ∃ T, P ^ k = T := ⟨_, rfl⟩
            rw [eT]
            clear hAll eT
            rcases HRE.out with ⟨rfl, rfl, hv, hin, hnorm⟩ | ⟨rfl, rfl, rfl⟩
            · have hV := Lib.hid (vNorm_c P _ m s _ X wr HOK.out (id.out _ BB.out) ⟨hX.out, hin⟩)
              rw [hnorm] at hV
              have hfin := Lib.hid (hp2.out.trans (BB.out.mono hp2.out.size))
              have hv0 : 1 ≤ v := hv
              clear hin hnorm HRE HN hX BB id HOK
              go_wp2_with fail
              go_at_call 17
              refine Calls.makes' hV.out _ fun w10 hb10 => ?_
              have hfin := Lib.hid (hfin.out.trans (hb10.mono hfin.out.size))
              clear hb10
              go_wp2
              go_ret
              exact ⟨rfl, hfin.out⟩
            · have hfin := Lib.hid (hp2.out.trans (BB.out.mono hp2.out.size))
              clear HRE HN hX BB id HOK
              go_wp2
              go_ret
              exact ⟨rfl, hfin.out⟩

end Go.Proofs.Ytnnacligfoonbaa
