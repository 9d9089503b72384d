/-
  LeastOfNorm, by the program. No condition beside sizes.
-/
import Derived.Test.YtnnacligfoonbaaD42
import Derived.Test.YtnnacligfoonbaaQL
import Derived.Test.YtnnacligfoonbaaD26
set_option linter.unusedVariables false
set_option linter.unusedSimpArgs false
namespace Go.Proofs.Ytnnacligfoonbaa
open Go.RowKit

/-- the least element with a norm -/
def leastV (p : Int) (n : Nat) (s : Nat → Int) (k : Int) (i : Nat) : Int := (xS p.toNat (dgF p s n) (2 ^ n) k.toNat i : Nat)

set_option maxRecDepth 100000 in
set_option maxHeartbeats 4000000 in
theorem iLeastOfNorm_c (p : Int) (sv : Value) (n : Nat) (s : Nat → Int) (k : Int) (w : World) (h : Ints w sv n s) :
    Calls Try.prog 14 #[dbl p sv, .int .i64 k] w fun e w' => ResC w w' e (thenC (nCode p n s k) (cntV p n s k == 0) 5) n (leastV p n s k) := by
  obtain ⟨ao, c, b, o, rfl, p2, p3, qx⟩ := h.out
  clear qx
  obtain ⟨e0, e1, e2, e3⟩ := box0 w p ao n c 26
  have BX := Lib.hid (box0 w p ao n c 26)
  obtain ⟨cc, hcc⟩ : ∃ cc, nCode p n s k = cc := ⟨_, rfl⟩
  have HC : Hid (Calls Try.prog 73 #[dbl p (.slice ao n c), .int .i64 k] (w.alloc (.cells #[.int .i64 p, .slice ao n c] 26)) fun e w' => Makes (w.alloc (.cells #[.int .i64 p, .slice ao n c] 26)) w' e (.int .i64 cc)) := hcc ▸ iCkNorm_c p _ n s k _ (h.below e3)
  rw [hcc]
  by_cases h0 : cc = 0
  · have hok : dblB p n s = true := by
      cases hk : dblB p n s
      · rw [nCode_out hk] at hcc; omega
      · rfl
    have hin : 0 ≤ k ∧ k ≤ p - 1 := by
      rw [nCode_in hok] at hcc
      cases hk : inB k 0 (p - 1)
      · rw [hk, if_neg (by simp)] at hcc; omega
      · exact of_decide_eq_true hk
    have hv := dv_of h hok
    have hpb := primeB_bd (dblB_ok hok).prime
    obtain ⟨P, rfl⟩ := Int.eq_ofNat_of_zero_le (show 0 ≤ p by omega)
    obtain ⟨K, rfl⟩ := Int.eq_ofNat_of_zero_le hin.1
    have hKP : K < P := by omega
    have hn4 := hv.le
    have hdg : ∀ i, 0 ≤ dgF (P : Int) s n i ∧ dgF (P : Int) s n i < P := fun i => dgF_in (by omega) s n i
    have hN : ∀ W, Below w.heap.size w W → Calls Try.prog 74 #[dbl (P : Int) (.slice ao n c)] W fun e w' => CopyT W w' e (2 ^ n + 1) (fun _ => P) (fun i => backK P (dgF P s n) i (2 ^ n - i)) := fun W hb => iNormCounts_c P _ n s W (hv.below hb) (by omega) (by omega)
    have hD : ∀ W, Below w.heap.size w W → Calls Try.prog 79 #[dbl (P : Int) (.slice ao n c)] W fun e w' => CopyI W w' e (2 ^ n) (dgF P s n) := fun W hb => iDiag_c _ _ n s W (hv.below hb) (by omega)
    have hRes : ∀ (w' : World) (e : Ending) (cc : Int) (X : Nat → Int), Below w.heap.size w w' → (cc = 0 ∧ ∃ g c, e = .returned (.tuple #[.slice (some ⟨g, 0, none⟩) (2 ^ n) c, .int .i64 0]) ∧ w.heap.size ≤ g ∧ Own w' 2 g c (2 ^ n) (fun i => .int .i64 (X i))) → ResC w w' e cc n X := fun w' e cc X h1 h2 => ⟨h1, Or.inl h2⟩
    have hx0 : cntV (P : Int) n s (K : Int) = backK P (dgF (P : Int) s n) 0 (2 ^ n - 0) K := rfl
    have hxl : leastV (P : Int) n s (K : Int) = fun i => ((xS P (dgF (P : Int) s n) (2 ^ n) K i : Nat) : Int) := rfl
    rw [hx0, hxl]
    have hM0 : 0 < 2 ^ n := Nat.pos_of_ne_zero (by simp)
    obtain ⟨N, hNe⟩ : ∃ N, 2 ^ n = N := ⟨_, rfl⟩
    have hN16 : N ≤ 16 := hNe ▸ pow_le hn4
    obtain ⟨d, hd⟩ : ∃ d : Nat → Int, dgF (P : Int) s n = d := ⟨_, rfl⟩
    rw [hNe] at hN hD hRes hM0 ⊢
    rw [hd] at hN hD hdg ⊢
    have HN := Lib.hid hN
    have HD := Lib.hid hD
    have HRes := Lib.hid hRes
    have HG := Lib.hid hdg
    subst h0
    clear hN hD hdg hRes hok hin hv hcc h hNe hd hx0 hxl
    have i0 : (0 : Int) ≤ (K : Int) := by omega
    have i1 : (K : Int) < (P : Int) := by omega
    by_cases hz : backK P d 0 (N - 0) K = 0
    · have hne : (backK P d 0 (N - 0) K == 0) = true := beq_iff_eq.2 hz
      have hx : thenC 0 (backK P d 0 (N - 0) K == 0) 5 = 5 := by rw [hne]; rfl
      rw [hx]
      have HZ := Lib.hid hz
      clear hne hx hz
      go_enter Try.func14, Try.ntmps14
      go_wp2_with fail
      refine Calls.makes' HC.out _ fun w1 hb1 => ?_
      obtain ⟨f0, f1, f2, f3⟩ := boxKeep hb1 BX.out
      go_wp2_with fail
      go_at_call 74
      refine (HN.out _ f3).mono ?_
      rintro e w2 ⟨g2, c2, rfl, hb2, hT⟩
      obtain ⟨R, C, o1, o2, o3, o4⟩ := hT.out
      have ba : Below w2.heap.size w2 (w2.alloc (.cells #[] 2)) := (Below.refl _ _).alloc (Nat.le_refl _) _
      have z1 := cellKp ba (o1.cell (show 0 < N + 1 by omega))
      have z2 := cellKp ba ((o3 0 (by omega)).1.cell hKP)
      have z3 := o1.lt
      have z4 := (o3 0 (by omega)).1.lt
      have y1 := o1.cell (show 0 < N + 1 by omega)
      have y2 := (o3 0 (by omega)).1.cell hKP
      rw [HZ.out] at z2 y2
      have b2 := f3.trans (hb2.mono f3.size)
      have b3 := b2.trans (ba.mono b2.size)
      clear hT o1 o2 o3 o4 hb2 e0 e1 ba
      go_wp2
      go_ret2
      exact ⟨b3, Or.inr ⟨by decide, rfl⟩⟩
    · have hne : (backK P d 0 (N - 0) K == 0) = false := beq_eq_false_iff_ne.2 hz
      have hx : thenC 0 (backK P d 0 (N - 0) K == 0) 5 = 0 := by rw [hne]; rfl
      rw [hx]
      have hpos : 0 < backK P d 0 (N - 0) K := by have := (backK_bd (show 0 < P by omega) d (N - 0) 0 K hKP).1; omega
      have HPos := Lib.hid hpos
      obtain ⟨v0, hv0⟩ : ∃ v0, backK P d 0 (N - 0) K = v0 := ⟨_, rfl⟩
      have HV0 := Lib.hid hv0
      rw [hv0] at hne
      have hO0 : ∀ W : World, Own (W.alloc (.cells #[] 2)) 2 W.heap.size 0 0 (fun i => .int .i64 ((xS P d N K i : Nat) : Int)) := fun W => Own.empty _ _ _
      have HO0 := Lib.hid hO0
      have HK0 : Hid (kS P d N K 0 = K) := rfl
      clear hx hz hpos hv0 hO0
      go_enter Try.func14, Try.ntmps14
      go_wp2_with fail
      refine Calls.makes' HC.out _ fun w1 hb1 => ?_
      obtain ⟨f0, f1, f2, f3⟩ := boxKeep hb1 BX.out
      go_wp2_with fail
      go_at_call 74
      refine (HN.out _ f3).mono ?_
      rintro e w2 ⟨g2, c2, rfl, hb2, hT⟩
      have hTM := hT.bound
      have bx2 := boxKeep hb2 ⟨f0, f1, f2, f3⟩
      obtain ⟨R, C, o1, o2, o3, o4⟩ := hT.out
      have ba : Below w2.heap.size w2 (w2.alloc (.cells #[] 2)) := (Below.refl _ _).alloc (Nat.le_refl _) _
      have z1 := cellKp ba (o1.cell (show 0 < N + 1 by omega))
      have z2 := cellKp ba ((o3 0 (by omega)).1.cell hKP)
      have z3 := o1.lt
      have z4 := (o3 0 (by omega)).1.lt
      have y1 := o1.cell (show 0 < N + 1 by omega)
      have y2 := (o3 0 (by omega)).1.cell hKP
      rw [HV0.out] at z2 y2
      have bxA := boxKeep ba bx2
      have BXA := Lib.hid bxA
      have hTA := Lib.hid (hTM.kept ba)
      have hOA := Lib.hid (HO0.out w2)
      have lw1 := hb2.size
      obtain ⟨h0', h1', h2', h3'⟩ := bx2
      obtain ⟨k0, k1, k2, k3⟩ := bxA
      have hsz2 : Hid (w2.heap.size + 1 ≤ (w2.alloc (.cells #[] 2)).heap.size) := Nat.le_of_eq (alloc_size _ _).symm
      clear hT hTM o1 o2 o3 o4 hb2 e0 e1 f0 f1 f2 f3 ba
      go_wp2_with fail
      go_at_call 79
      refine (HD.out _ k3).mono ?_
      rintro e w3 ⟨g3, c3, rfl, hg3, hb3, hO3⟩
      have BX3 := Lib.hid (boxKeep hb3 BXA.out)
      have hT3 := Lib.hid (hTA.out.kept hb3)
      have hD3 := Lib.hid hO3
      have hO4 := Lib.hid (hOA.out.kept hb3)
      have hl3 := hb3.size
      have hg3' : w2.heap.size + 1 ≤ g3 := Nat.le_trans hsz2.out hg3
      have hg3l := hO3.lt
      have hw2 : w.heap.size < w2.heap.size := h2'
      obtain ⟨U, hU⟩ : ∃ U, w2.heap.size = U := ⟨_, rfl⟩
      obtain ⟨B1, hB1⟩ : ∃ B1, w1.heap.size = B1 := ⟨_, rfl⟩
      rw [hB1, hU] at hT3
      rw [hU] at hO4 hg3' hw2
      have hU3 : Hid (U ≤ w3.heap.size) := by rw [← hU]; exact Nat.le_trans (Nat.le_of_succ_le hsz2.out) hl3
      clear z1 z2 z3 z4 y1 y2 hO3 hb3 h0' h1' h2' h3' k0 k1 k2 k3 hg3 hl3 hsz2 hTA hOA BXA hB1
      rw [hU]
      clear hU lw1
      go_wp2
      go_loopg [8, 1, 32] N (fun g o kk i wr => ∃ m : Nat, m ≤ N ∧ g = N - m ∧ i = .int .i64 m ∧ kk = .int .i64 (kS P d N K m : Nat) ∧ Hid (0 < backK P d m (N - m) (kS P d N K m)) ∧ BoxD w (P : Int) ao n c wr ∧ Hid (U ≤ wr.heap.size) ∧ Hid (OTabM wr B1 U g2 c2 (N + 1) (fun _ => P) (fun i => backK P d i (N - i))) ∧ Hid (Own wr 2 g3 c3 N (fun i => .int .i64 (d i))) ∧ ∃ g' c', o = .slice (some ⟨g', 0, none⟩) m c' ∧ Hid (U ≤ g' ∧ g' ≠ g3) ∧ Own wr 2 g' c' m (fun i => .int .i64 ((xS P d N K i : Nat) : Int)))
      case atStart => exact ⟨0, Nat.zero_le _, rfl, rfl, rfl, HPos, BX3.out, hU3, hT3, hD3, _, _, rfl, ⟨Nat.le_refl _, by omega⟩, hO4.out⟩
      case round =>
        obtain ⟨m, hm, rfl, rfl, rfl, hps, ⟨f0, f1, f2, f3⟩, hul, hTm, hDm, g', c', rfl, hgd, hO⟩ := hrel
        obtain ⟨wo, rfl⟩ : ∃ wo, wo = wr := ⟨_, rfl⟩
        have BXo := Lib.hid (show BoxD w (P : Int) ao n c wo from ⟨f0, f1, f2, f3⟩)
        clear BX3 hT3 hD3 hO4 hU3
        by_cases hlt : m < N
        · have hkl := kS_lt (show 0 < P by omega) d (N := N) hKP m
          have hdm := HG.out m
          obtain ⟨q, hq⟩ : ∃ q, kS P d N K m = q := ⟨_, rfl⟩
          have hok := okK_some (show 0 < P by omega) hlt hkl hps.out
          have y1 : wo.cell? ⟨g3, m, none⟩ = some (.int .i64 (d m)) := hDm.out.cell hlt
          have HQ := Lib.hid hq
          rw [hq] at hkl hok ⊢
          have HOK := Lib.hid hok
          obtain ⟨dm, hdme⟩ : ∃ dm, d m = dm := ⟨_, rfl⟩
          have HDM := Lib.hid hdme
          rw [hdme] at y1 hdm
          clear hq hok hdme
          go_wp2
          clear y1
          go_loopg [8, 1, 39] P (fun g o kk a wq => ∃ x : Nat, x ≤ P ∧ g = P - x ∧ a = .int .i64 x ∧ o = .slice (some ⟨g', 0, none⟩) m c' ∧ kk = .int .i64 (q : Int) ∧ Hid (Below wo.heap.size wo wq) ∧ ∀ j, j < x → okK P d N m q j = false)
          case atStart => exact ⟨0, Nat.zero_le _, rfl, rfl, rfl, rfl, Below.refl _ _, fun j hj => absurd hj (Nat.not_lt_zero _)⟩
          case round =>
            obtain ⟨x, hx, rfl, rfl, rfl, rfl, hbel, hall⟩ := hrel
            have HA := Lib.hid hall
            clear hall f0 f1
            by_cases hltx : x < P
            · obtain ⟨k0, k1, k2, k3⟩ := boxKeep hbel.out BXo.out
              have hm1 : 0 ≤ dm * (x : Int) ∧ dm * (x : Int) ≤ 1000 * 13 := ⟨Int.mul_nonneg (by omega) (by omega), Int.mul_le_mul (by omega) (by omega) (by omega) (by omega)⟩
              have hm2 : 0 ≤ dm * (x : Int) * (x : Int) ∧ dm * (x : Int) * (x : Int) ≤ 1000 * 13 * 13 := ⟨Int.mul_nonneg hm1.1 (by omega), Int.mul_le_mul hm1.2 (by omega) (by omega) (by omega)⟩
              have hre : ((q : Int) - dm * x * x) % P = (restK P dm q x : Int) := restK_eq (by omega) dm q x
              have hrl := restK_lt (show 0 < P by omega) dm q x
              have HOKE : Hid (okK P d N m q x = decide (0 < backK P d (m + 1) (N - (m + 1)) (restK P dm q x))) := by unfold okK; rw [HDM.out]; exact rfl
              obtain ⟨r, hr⟩ : ∃ r, restK P dm q x = r := ⟨_, rfl⟩
              have HR := Lib.hid hr
              rw [hr] at hre hrl HOKE
              have CM : Hid (∀ W, Calls Try.prog 81 #[.int .i64 P, .int .i64 ((q : Int) - dm * x * x)] W fun e w' => e = .returned (.int .i64 (r : Int)) ∧ W = w') := fun W => hre ▸ iNum_c _ _ W (by omega) (by omega) (by omega) (by omega)
              obtain ⟨R, C, o1, o2, o3, o4⟩ := (hTm.out.kept hbel.out).out
              have y1 := o1.cell (show m + 1 < N + 1 by omega)
              have y2 := (o3 (m + 1) (by omega)).1.cell hrl
              obtain ⟨u, hu⟩ : ∃ u, backK P d (m + 1) (N - (m + 1)) r = u := ⟨_, rfl⟩
              rw [hu] at y2 HOKE
              have n0 : (0 : Int) ≤ (m : Int) + 1 := by omega
              have n1 : (m : Int) + 1 < (N : Int) + 1 := by omega
              have n2 : (0 : Int) ≤ (r : Int) := by omega
              have n3 : (r : Int) < (P : Int) := by omega
              clear hr hre o1 o2 o3 o4 hu
              cases hdec : decide (0 < u)
              · go_wp2_with fail
                refine Calls.makes' (iField_c _ _ _) _ fun v1 hb1 => ?_
                have l1 := cellKp hb1 y1
                have l2 := cellKp hb1 y2
                go_wp2_with (go_at_call 81; refine (CM.out _).mono ?_; rintro e w' ⟨rfl, rfl⟩)
                go_roundg (P - (x + 1))
                case measure => omega
                case rel => exact ⟨x + 1, by omega, rfl, by go_num, rfl, rfl, hbel.out.trans (hb1.mono hbel.out.size), fun j hj => by
                  by_cases e : j = x
                  · subst e; rw [HOKE.out, hdec]
                  · exact HA.out j (by omega)⟩
              · have hxa := xS_at (P := P) (c := d) (N := N) (K := K) (i := m) hltx (fun j hj => by rw [HQ.out]; exact HA.out j hj) (by rw [HQ.out, HOKE.out, hdec])
                have HXA := Lib.hid hxa
                clear hxa
                go_wp2_with fail
                refine Calls.makes' (iField_c _ _ _) _ fun v1 hb1 => ?_
                have l1 := cellKp hb1 y1
                have l2 := cellKp hb1 y2
                have hbv := hbel.out.trans (hb1.mono hbel.out.size)
                have hOv := hO.kept hbv
                have hvs := hbv.size
                clear y1 y2 k0 k1
                go_wp2_with (first | (go_at_call 81; refine (CM.out _).mono ?_; rintro e w' ⟨rfl, rfl⟩) | (at_builtin; refine wpList_push _ rfl _ _ _ _ elI rfl hOv (.int .i64 (x : Int)) rfl rfl rfl (by omega) (by omega) ?_; intro g5 c5 w5 hO5 hg5 hgr5))
                go_roundg (N - (m + 1))
                case measure => omega
                case rel =>
                  obtain ⟨hx1, hx2, hx3⟩ := HXA.out
                  have hgd2 := hgd.out
                  have hul2 := hul.out
                  have hs5 := hgr5.size
                  have hgl := hDm.out.lt
                  refine ⟨m + 1, by omega, rfl, by go_num, by rw [hx2, HQ.out, HDM.out, HR.out], hx3, boxGrown hgr5 (by omega) (boxKeep hbv BXo.out), (show U ≤ w5.heap.size by omega), (hTm.out.kept hbv).grown hgr5 (Or.inr hgd2.1), ((hDm.out.kept hbv).grown hgr5 (fun e => by injection e with e; exact hgd2.2 e)), g5, c5, rfl, (show U ≤ g5 ∧ g5 ≠ g3 from ⟨by omega, by omega⟩), hO5.congr fun i hi => ?_⟩
                  by_cases e : i = m
                  · subst e; simp [hx1]
                  · simp [e]
            · obtain rfl : x = P := by omega
              obtain ⟨a, ha, hat⟩ := HOK.out
              rw [HA.out a ha] at hat
              cases hat
        · obtain rfl : m = N := by omega
          go_wp2
          go_ret2
          have hgd2 := hgd.out
          exact HRes.out _ _ _ _ f3 ⟨rfl, g', c', rfl, by omega, hO⟩
  · have hne : (cc != 0) = true := by rw [bne_iff_ne]; exact h0
    have hx : thenC cc (cntV p n s k == 0) 5 = cc := by unfold thenC; rw [if_neg h0]
    rw [hx]
    go_enter Try.func14, Try.ntmps14
    go_wp2_with fail
    refine Calls.makes' HC.out _ fun w1 hb1 => ?_
    go_wp2
    go_ret2
    exact ⟨e3.trans (hb1.mono e3.size), Or.inr ⟨h0, rfl⟩⟩

end Go.Proofs.Ytnnacligfoonbaa
