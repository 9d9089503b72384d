/-
  The law on the numbers of vectors with a norm returns true. No condition.
-/
import Derived.Test.YtnkflgigbielgaaLV2
import Derived.Test.YtnkflgigbielgaaQVC
import Derived.Test.YtnkflgigbielgaaQNc
import Derived.Test.YtnkflgigbielgaaSV5
set_option linter.unusedVariables false
set_option linter.unusedSimpArgs false
namespace Go.Proofs.Ytnkflgigbielgaa
open Go.RowKit

theorem vc_list {p : Int} {n : Nat} {s : Nat → Int} {k : Int} (hp : 0 < p) (hk : 0 ≤ k ∧ k < p) : ((cnt (okV p s n k) (p ^ n).toNat : Nat) : Int) = vcV p n s k := by
  obtain ⟨P, rfl⟩ := Int.eq_ofNat_of_zero_le (show 0 ≤ p by omega)
  obtain ⟨K, rfl⟩ := Int.eq_ofNat_of_zero_le hk.1
  have h := cnt_back (P := P) (by omega) s n 0 K (by omega)
  have hf : vcV (P : Int) n s (K : Int) = backK P s 0 n K := fore_back (P := P) (by omega) s 0 n K (by omega)
  have e : ((P : Int) ^ n).toNat = P ^ n := by rw [← Int.natCast_pow]; rfl
  rw [hf, ← h, e]
  congr 1
  refine cnt_cong fun t ht => ?_
  unfold okV pairF
  congr 2
  exact sumF_congr fun i hi => by rw [Nat.zero_add]
theorem vc_sum {p : Int} {n : Nat} {s : Nat → Int} (hp : 0 < p) : sumF (fun k => vcV p n s k) p.toNat = p ^ n := by
  have h := backK_sum (P := p.toNat) (by omega) s n 0
  have e1 : ((p.toNat : Nat) : Int) = p := by omega
  rw [e1] at h
  rw [← h]
  exact sumF_congr fun i hi => by
    show foreK p.toNat s 0 n (i : Int).toNat = _
    rw [Int.toNat_natCast]; exact fore_back (by omega) s 0 n i hi
theorem vc_nn {p : Int} {n : Nat} {s : Nat → Int} {k : Int} (hp : 0 < p) (hk : 0 ≤ k ∧ k < p) : 0 ≤ vcV p n s k := (foreK_bd (by omega) _ (by omega)).1
theorem vc_part {p : Int} {n : Nat} {s : Nat → Int} (hok : spB p n s = true) {k : Nat} (hk : (k : Int) ≤ p) : 0 ≤ sumF (fun k => vcV p n s k) k ∧ sumF (fun k => vcV p n s k) k ≤ 665416609183179841 := by
  have hp := (spB_ok hok).bd
  have hn := (spB_ok hok).n6
  have hnn : ∀ i, i < p.toNat → 0 ≤ vcV p n s i := fun i hi => vc_nn (by omega) (by omega)
  refine ⟨sumF_nonneg fun i hi => hnn i (by omega), ?_⟩
  have h1 := sumF_upTo' (f := fun k : Nat => vcV p n s k) (show k ≤ p.toNat by omega) hnn
  rw [vc_sum (by omega)] at h1
  have h2 := pow_bd (P := p.toNat) (m := n) (by omega) (by omega)
  have e1 : ((p.toNat : Nat) : Int) = p := by omega
  rw [e1] at h2
  exact Int.le_trans h1 h2
theorem vc_pow {p : Int} {n : Nat} {s : Nat → Int} (hok : spB p n s = true) {i : Nat} (hi : i ≤ 16) : 0 ≤ p ^ i ∧ p ^ i ≤ 665416609183179841 := by
  have hp := (spB_ok hok).bd
  have h2 := pow_bd (P := p.toNat) (m := i) (by omega) hi
  have e1 : ((p.toNat : Nat) : Int) = p := by omega
  rw [e1] at h2
  exact ⟨Int.pow_nonneg (by omega), h2⟩
theorem vc_in {p : Int} {n : Nat} {s : Nat → Int} (hok : spB p n s = true) {k : Int} (hk : 0 ≤ k ∧ k < p) (W : World) (v' : Value) (h : Ints W v' n s) :
    Calls Try.prog 27 #[dbl p v', .int .i64 k] W fun e w' => Makes W w' e (.tuple #[.int .i64 (vcV p n s k), .int .i64 0]) := by
  have := iCountVectors_c p v' n s k W h
  rw [rC_one, vcC_in hok, show inB k 0 (p - 1) = true by unfold inB; simp; omega] at this
  exact this
theorem vc_o (P : Int) (n : Nat) (s : Nat → Int) (k : Int) :
    ∃ (cc v c2 : Int) (M : Nat) (L : Nat → Nat) (R : Nat → Nat → Int), ((cc = 0 ∧ spB P n s = true ∧ (0 ≤ k ∧ k < P) ∧ ((c2 = 0 ∧ P ^ n ≤ 5000 ∧ (M : Int) = v) ∨ (c2 = 3 ∧ 5000 < P ^ n))) ∨ (cc ≠ 0 ∧ c2 = cc)) ∧
    (∀ (W : World) (v' : Value), Ints W v' n s → Calls Try.prog 28 #[dbl P v', .int .i64 k] W fun e w' => Makes W w' e (.tuple #[.int .i64 v, .int .i64 cc])) ∧
    (∀ (W : World) (v' : Value), Ints W v' n s → Calls Try.prog 27 #[dbl P v', .int .i64 k] W fun e w' => Makes W w' e (.tuple #[.int .i64 v, .int .i64 cc])) ∧
    (∀ (W : World) (v' : Value), Ints W v' n s → Calls Try.prog 26 #[dbl P v', .int .i64 k] W fun e w' => ResT W w' e c2 M L R) ∧
    (∀ (W : World) (v' : Value), Ints W v' n s → Calls Try.prog 25 #[dbl P v', .int .i64 k] W fun e w' => ResT W w' e c2 M L R) := by
  refine ⟨vcC P n s k, if vcC P n s k = 0 then vcV P n s k else 0, vCode P n s k, if vCode P n s k = 0 then cnt (okV P s n k) (P ^ n).toNat else 0, fun _ => n, vonT P s n k, ?_,
    fun W v h => by rw [← rC_one]; exact sCountVectors_c P v n s k W h, fun W v h => by rw [← rC_one]; exact iCountVectors_c P v n s k W h,
    fun W v h => (sVectorsOfNorm_c P v n s k W h).mono fun _ _ h => h.toT, fun W v h => (iVectorsOfNorm_c P v n s k W h).mono fun _ _ h => h.toT⟩
  cases hok : spB P n s
  · refine Or.inr ?_
    rw [vcC_out hok]; unfold vCode; rw [hok]; exact ⟨by omega, rfl⟩
  · have hp := (spB_ok hok).bd
    rw [vcC_in hok]; unfold vCode; rw [hok, if_pos rfl]
    cases hin : inB k 0 (P - 1)
    · exact Or.inr ⟨by simp, by simp⟩
    · have hk : 0 ≤ k ∧ k < P := by
        unfold inB at hin; simp at hin; omega
      refine Or.inl ⟨by simp, rfl, hk, ?_⟩
      by_cases h5 : 5000 < P ^ n
      · exact Or.inr ⟨by simp [h5], h5⟩
      · refine Or.inl ⟨by simp [h5], by omega, ?_⟩
        rw [if_pos rfl, if_pos rfl, if_neg h5, if_pos rfl, if_pos rfl, vc_list (by omega) hk]

set_option maxRecDepth 100000 in
set_option maxHeartbeats 8000000 in
theorem lawVectorCounts_c (cv : Value) (n : Nat) (B : Nat → Int) (w : World) (hB : Byt w cv n B) :
    Calls Try.prog 4 #[cv] w fun e w' => Law w w' e := by
  by_cases hbig : 4096 < n
  · have hb := Lib.hid (big_c cv n B w hB)
    obtain ⟨ao, c0, _, _, rfl, qq⟩ := hB.out
    clear hB qq
    go_enter Try.func4, Try.ntmps4
    go_wp2_with fail
    refine hb.out.mono ?_
    rintro e w1 ⟨rfl, rfl⟩
    rw [show decide (4096 < n) = true from decide_eq_true hbig]
    go_wp2
    go_ret
    exact ⟨rfl, Below.refl _ _⟩
  · have hb := Lib.hid (big_c cv n B w hB)
    have hD := Lib.hid (sDrawVectorsOfNorm_c cv n B w hB)
    have HB : Hid (∀ W, Below w.heap.size w W → Byt W cv n B) := fun W hb => hB.below hb
    obtain ⟨ao, c0, _, _, rfl, qq⟩ := hB.out
    clear hB qq
    go_enter Try.func4, Try.ntmps4
    go_wp2_with fail
    refine hb.out.mono ?_
    rintro e w1 ⟨rfl, rfl⟩
    rw [show decide (4096 < n) = false from decide_eq_false hbig]
    go_wp2_with fail
    refine hD.out.mono ?_
    rintro e w2 ⟨P, a, c, m, s, K, rfl, hb2, hs2, hm7⟩
    have hs2 := hs2.ints
    have hp2 := Lib.hid hb2
    obtain ⟨cc, v, c2, M, L, R, hcs, k1, k2, k3, k4⟩ := vc_o P m s K
    have hcs := Lib.hid hcs
    have K1 := Lib.hid k1
    have K2 := Lib.hid k2
    have K3 := Lib.hid k3
    have K4 := Lib.hid k4
    have id : Hid (∀ W, Below w2.heap.size w2 W → Ints W (.slice a m c) m s) := fun W hb => hs2.below hb
    obtain ⟨f0, f1, _, bb⟩ := box0 w2 P a m c 26
    have hl := hp2.out.size
    clear k1 k2 k3 k4 hs2 hb hD hb2
    go_wp2_with fail
    go_at_call 25
    refine (K4.out _ _ (id.out _ bb)).mono ?_
    rintro e w3 ⟨a3, c3, rfl, hb3, o3⟩
    replace f0 := cellKp hb3 f0
    replace f1 := cellKp hb3 f1
    have bb := bb.trans (hb3.mono bb.size)
    have hX := Lib.hid o3.tab
    clear o3 hb3
    go_wp2_with fail
    go_at_call 26
    refine (K3.out _ _ (id.out _ bb)).mono ?_
    rintro e w4 ⟨a4, c4, rfl, hb4, o4⟩
    replace f0 := cellKp hb4 f0
    replace f1 := cellKp hb4 f1
    have bb := bb.trans (hb4.mono bb.size)
    replace hX := Lib.hid (hX.out.below hb4)
    have hY := Lib.hid o4.tab
    clear o4 hb4
    go_wp2_with fail
    go_at_call 27
    refine Calls.makes' (K2.out _ _ (id.out _ bb)) _ fun w5 hb5 => ?_
    replace f0 := cellKp hb5 f0
    replace f1 := cellKp hb5 f1
    have bb := bb.trans (hb5.mono bb.size)
    replace hX := Lib.hid (hX.out.below hb5)
    replace hY := Lib.hid (hY.out.below hb5)
    clear hb5
    go_wp2_with fail
    go_at_call 28
    refine Calls.makes' (K1.out _ _ (id.out _ bb)) _ fun w6 hb6 => ?_
    replace f0 := cellKp hb6 f0
    replace f1 := cellKp hb6 f1
    have bb := bb.trans (hb6.mono bb.size)
    replace hX := Lib.hid (hX.out.below hb6)
    replace hY := Lib.hid (hY.out.below hb6)
    clear hb6
    go_wp2_with fail
    go_at_call 23
    refine Calls.reads' (wr := w) (likeRows5_c _ _ _ _ _ _ _ _ _ hX.out hY.out) _ fun q7 => ?_
    rw [eqTB_refl]
    clear hY
    replace f0 := cellKp (below_drewN _ q7) f0
    replace f1 := cellKp (below_drewN _ q7) f1
    have bb := bb.trans ((below_drewN _ q7).mono bb.size)
    replace hX := Lib.hid (hX.out.below (below_drewN _ q7))
    clear K1 K2 K3 K4 hX
    rcases hcs.out with ⟨rfl, hok, hk, hrest⟩ | ⟨hcc, rfl⟩
    rotate_left
    · have hfin := Lib.hid (hp2.out.trans (bb.mono hp2.out.size))
      clear hcs id hp2 bb
      have hcc' : (c2 != 0) = true := by simpa using hcc
      clear hcc
      go_wp2
      go_ret
      exact ⟨rfl, hfin.out⟩
    clear hcs
    have HOK := Lib.hid hok
    have HRE := Lib.hid hrest
    clear hrest
    have hpb := (spB_ok hok).bd
    have hn6 := (spB_ok hok).n6
    have CK := Lib.hid (fun (k : Nat) (hk : (k : Int) < P) (W : World) (hb : Below w2.heap.size w2 W) => vc_in hok (k := k) (by omega) W _ (id.out W hb))
    have CP := Lib.hid (fun (k : Nat) (hk : (k : Int) ≤ P) => vc_part hok hk)
    have PP := Lib.hid (fun (i : Nat) (hi : i ≤ 16) => vc_pow hok hi)
    have hEnd : Hid (sumF (fun k => vcV P m s k) P.toNat = P ^ m) := vc_sum (by omega)
    clear hok
    have BB := Lib.hid bb
    clear bb
    go_wp2
    go_loopg [13, 15] P.toNat (fun gg t i wr => ∃ k : Nat, gg = P.toNat - k ∧ i = .int .i64 k ∧ (k : Int) ≤ P ∧ t = .int .i64 (sumF (fun k => vcV P m s k) k) ∧ Hid (Below w2.heap.size w2 wr) ∧ wr.cell? ⟨w2.heap.size, 0, none⟩ = some (.int .i64 P) ∧ wr.cell? ⟨w2.heap.size, 1, none⟩ = some (.slice a m c))
    case atStart => exact ⟨0, rfl, rfl, by omega, rfl, BB.out, f0, f1⟩
    case round =>
      clear BB f0 f1
      obtain ⟨k, rfl, rfl, hkP, rfl, BB, f0, f1⟩ := hrel
      by_cases hlt : (k : Int) < P
      · have hS := CP.out k hkP
        have hS2 := CP.out (k + 1) (by omega)
        have hSn : sumF (fun k => vcV P m s k) (k + 1) = sumF (fun k => vcV P m s k) k + vcV P m s k := rfl
        have CK1 := Lib.hid (CK.out k hlt)
        obtain ⟨S, eS⟩ : ∃ S, sumF (fun k => vcV P m s k) k = S := ⟨_, rfl⟩
        obtain ⟨C, eC⟩ : ∃ C, vcV P m s k = C := ⟨_, rfl⟩
        rw [hSn, eS, eC] at hS2
        rw [eS] at hS
        rw [eC] at CK1
        rw [eS]
        have HSN := Lib.hid (show sumF (fun k => vcV P m s k) (k + 1) = S + C by rw [hSn, eS, eC])
        clear hSn eS eC
        have bb := BB.out
        go_wp2_with fail
        go_at_call 27
        refine Calls.makes' (CK1.out _ bb) _ fun w8 hb8 => ?_
        replace f0 := cellKp hb8 f0
        replace f1 := cellKp hb8 f1
        have BB := Lib.hid (bb.trans (hb8.mono bb.size))
        clear hb8 bb
        go_wp2
        go_roundg (P.toNat - (k + 1))
        case measure => omega
        case rel => exact ⟨k + 1, rfl, by go_num, by omega, by rw [HSN.out], BB.out, f0, f1⟩
      · obtain rfl : k = P.toNat := by omega
        rw [hEnd.out]
        clear CK CP hEnd
        obtain ⟨w9, rfl⟩ : ∃ w9, w9 = wr := ⟨_, rfl⟩
        have hAll := PP.out m (by omega)
        go_wp2
        go_loopg [14, 18] m (fun gg t i wr => wr = w9 ∧ ∃ k : Nat, gg = m - k ∧ i = .int .i64 k ∧ k ≤ m ∧ t = .int .i64 (P ^ k))
        case atStart => exact ⟨rfl, 0, rfl, rfl, by omega, by simp⟩
        case round =>
          obtain ⟨rfl, k, rfl, rfl, hkN, rfl⟩ := hrel
          by_cases hlt2 : k < m
          · have h1 := PP.out k (by omega)
            have h2 := PP.out (k + 1) (by omega)
            rw [Int.pow_succ] at h2
            obtain ⟨T, eT⟩ : ∃ T, P ^ k = T := ⟨_, rfl⟩
            rw [eT] at h1 h2
            obtain ⟨T2, eT2⟩ : ∃ T2, T * P = T2 := ⟨_, rfl⟩
            rw [eT2] at h2
            have hwT : IntKind.i64.wrap (T * P) = T2 := wrap_as eT2 (by omega)
            have HT := Lib.hid (show P ^ (k + 1) = T2 by rw [Int.pow_succ, eT, eT2])
            rw [eT]
            clear eT eT2
            go_wp2
            go_roundg (m - (k + 1))
            case measure => omega
            case rel => exact ⟨rfl, k + 1, rfl, by go_num, by omega, by rw [HT.out]⟩
          · obtain rfl : k = m := by omega
            have hR := HRE.out
            have hfin := Lib.hid (hp2.out.trans (BB.out.mono hp2.out.size))
            obtain ⟨T, eT⟩ : ∃ T, P ^ k = T := ⟨_, rfl⟩
            rw [eT] at hR
            rw [eT]
            clear hAll eT HRE BB id HOK
            rcases hR with ⟨rfl, h5, hM⟩ | ⟨rfl, h5⟩
            · have hmv := Lib.hid hM
              clear hM
              have hmv2 := hmv.out
              subst hmv2
              go_wp2
              go_ret
              exact ⟨rfl, hfin.out⟩
            · have h6 : ¬ T ≤ 5000 := by omega
              go_wp2
              go_ret
              exact ⟨rfl, hfin.out⟩

end Go.Proofs.Ytnkflgigbielgaa
