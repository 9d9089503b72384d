/-
  LeastOfNorm, by the reference. No condition beside sizes.
-/
import Derived.Test.YtnnacligfoonbaaD43
set_option linter.unusedVariables false
set_option linter.unusedSimpArgs false
namespace Go.Proofs.Ytnnacligfoonbaa
open Go.RowKit

theorem backK_shift (P : Nat) (d : Nat → Int) (lo : Nat) : ∀ (M t k : Nat), backK P (fun i => d (lo + i)) t M k = backK P d (lo + t) M k
  | 0, t, k => rfl
  | M + 1, t, k => by
    show stepK P (d (lo + t)) (backK P (fun i => d (lo + i)) (t + 1) M) k = stepK P (d (lo + t)) (backK P d (lo + t + 1) M) k
    exact stepK_congr (fun n hn => backK_shift P d lo M (t + 1) n) k

set_option maxRecDepth 100000 in
set_option maxHeartbeats 4000000 in
theorem sLeastOfNorm_c (p : Int) (sv : Value) (n : Nat) (s : Nat → Int) (k : Int) (w : World) (h : Ints w sv n s) :
    Calls Try.prog 15 #[dbl p sv, .int .i64 k] w fun e w' => ResC w w' e (thenC (nCode p n s k) (cntV p n s k == 0) 5) n (leastV p n s k) := by
  have H' := Lib.hid h
  obtain ⟨ao, c, b, o, rfl, p2, p3, qx⟩ := h.out
  clear qx
  obtain ⟨e0, e1, e2, e3⟩ := box0 w p ao n c 26
  have BX := Lib.hid (box0 w p ao n c 26)
  cases hok : dblB p n s
  · rw [show thenC (nCode p n s k) (cntV p n s k == 0) 5 = 1 by rw [nCode_out hok]; rfl]
    go_enter Try.func15, Try.ntmps15
    go_wp2_with fail
    refine Calls.makes' (sIsDbl_c _ _ _ _ _ (h.below e3)) _ fun w1 hb1 => ?_
    rw [hok]
    go_wp2
    go_ret2
    exact ⟨e3.trans (hb1.mono e3.size), Or.inr ⟨by decide, rfl⟩⟩
  · rw [nCode_in hok]
    have HOK := Lib.hid hok
    have hpb := primeB_bd (dblB_ok hok).prime
    by_cases hin : 0 ≤ k ∧ k ≤ p - 1
    · have hib : inB k 0 (p - 1) = true := decide_eq_true hin
      have HI : Hid (∀ W, Calls Try.prog 76 #[.int .i64 k, .int .i64 0, .int .i64 (p - 1)] W fun e w' => e = .returned (.bool true) ∧ W = w') := fun W => hib ▸ sIn_c _ _ _ W
      rw [hib, if_pos rfl]
      have hv := dv_of h hok
      have hst := (dblB_ok hok).step
      obtain ⟨P, rfl⟩ := Int.eq_ofNat_of_zero_le (show 0 ≤ p by omega)
      obtain ⟨K, rfl⟩ := Int.eq_ofNat_of_zero_le hin.1
      have hKP : K < P := by omega
      have hn4 := hv.le
      have hdg : ∀ i, 0 ≤ dgF (P : Int) s n i ∧ dgF (P : Int) s n i < P := fun i => dgF_in (by omega) s n i
      have hD : ∀ W, Below w.heap.size w W → Calls Try.prog 78 #[dbl (P : Int) (.slice ao n c)] W fun e w' => CopyI W w' e (2 ^ n) (dgF P s n) := fun W hb => sDiag_c _ _ n s W (hv.below hb) (by omega) hst
      have hRes : ∀ (w' : World) (e : Ending) (cc : Int) (X : Nat → Int), Below w.heap.size w w' → (cc = 0 ∧ ∃ g c, e = .returned (.tuple #[.slice (some ⟨g, 0, none⟩) (2 ^ n) c, .int .i64 0]) ∧ w.heap.size ≤ g ∧ Own w' 2 g c (2 ^ n) (fun i => .int .i64 (X i))) → ResC w w' e cc n X := fun w' e cc X h1 h2 => ⟨h1, Or.inl h2⟩
      have hx0 : cntV (P : Int) n s (K : Int) = backK P (dgF (P : Int) s n) 0 (2 ^ n - 0) K := rfl
      have hxl : leastV (P : Int) n s (K : Int) = fun i => ((xS P (dgF (P : Int) s n) (2 ^ n) K i : Nat) : Int) := rfl
      rw [hx0, hxl]
      have hM0 : 0 < 2 ^ n := Nat.pos_of_ne_zero (by simp)
      obtain ⟨N, hNe⟩ : ∃ N, 2 ^ n = N := ⟨_, rfl⟩
      have hN16 : N ≤ 16 := hNe ▸ pow_le hn4
      obtain ⟨d, hd⟩ : ∃ d : Nat → Int, dgF (P : Int) s n = d := ⟨_, rfl⟩
      rw [hNe] at hD hRes hM0 ⊢
      rw [hd] at hD hdg ⊢
      have HD := Lib.hid hD
      have HRes := Lib.hid hRes
      have HG := Lib.hid hdg
      have HK0 : Hid (kS P d N K 0 = K) := rfl
      have HO0 : Hid (∀ W : World, Own (W.alloc (.cells #[] 2)) 2 W.heap.size 0 0 (fun i => .int .i64 ((xS P d N K i : Nat) : Int))) := fun W => Own.empty _ _ _
      clear hD hRes hdg hok hin hv h hst hib hNe hd hx0 hxl
      go_enter Try.func15, Try.ntmps15
      go_wp2_with fail
      refine Calls.makes' (sIsDbl_c _ _ _ _ _ (H'.out.below e3)) _ fun w1 hb1 => ?_
      rw [HOK.out]
      obtain ⟨f0, f1, f2, f3⟩ := boxKeep hb1 BX.out
      clear e0 e1 e2 e3
      go_wp2_with (first | (go_at_call 76; refine (HI.out _).mono ?_; rintro e w' ⟨rfl, rfl⟩) | (go_at_call 78; refine (HD.out _ f3).mono ?_; rintro e w2 ⟨g3, c3, rfl, hg3, hb2, hO3⟩; have bx2 := boxKeep hb2 ⟨f0, f1, f2, f3⟩; have hOe := HO0.out w2; have ba : Below w2.heap.size w2 (w2.alloc (.cells #[] 2)) := (Below.refl _ _).alloc (Nat.le_refl _) _; have BXA := Lib.hid (boxKeep ba bx2); have hDA := Lib.hid (hO3.kept ba); have hOA := Lib.hid hOe; have hgl := hO3.lt; have hw2 := bx2.2.2.1; have hc3 := hO3.le; have hc3m := hO3.max; clear hOe ba bx2 hO3))
      have hgw : w.heap.size < g3 := Nat.lt_of_lt_of_le f2 hg3
      clear f0 f1 f2 f3 hb2 hb1 hg3
      go_loopg [7, 1, 8] N (fun g o kk i wr => ∃ m : Nat, m ≤ N ∧ g = N - m ∧ i = .int .i64 m ∧ kk = .int .i64 (kS P d N K m : Nat) ∧ Hid (m ≠ 0 → 0 < backK P d m (N - m) (kS P d N K m) ∧ 0 < backK P d 0 (N - 0) K) ∧ BoxD w (P : Int) ao n c wr ∧ Hid (Own wr 2 g3 c3 N (fun i => .int .i64 (d i))) ∧ ∃ g' c', o = .slice (some ⟨g', 0, none⟩) m c' ∧ Hid (w.heap.size < g' ∧ g' ≠ g3) ∧ Own wr 2 g' c' m (fun i => .int .i64 ((xS P d N K i : Nat) : Int)))
      case atStart => exact ⟨0, Nat.zero_le _, rfl, rfl, rfl, fun h => absurd rfl h, BXA.out, hDA, _, _, rfl, ⟨hw2, by omega⟩, hOA.out⟩
      case round =>
        obtain ⟨m, hm, rfl, rfl, rfl, hps, ⟨f0, f1, f2, f3⟩, hDm, g', c', rfl, hgd, hO⟩ := hrel
        obtain ⟨wo, rfl⟩ : ∃ wo, wo = wr := ⟨_, rfl⟩
        have BXo := Lib.hid (show BoxD w (P : Int) ao n c wo from ⟨f0, f1, f2, f3⟩)
        have HOo := Lib.hid hO
        clear BXA hDA hOA hO
        by_cases hlt : m < N
        · have hkl := kS_lt (show 0 < P by omega) d (N := N) hKP m
          have hdm := HG.out m
          have hI : Ints wo (.slice (if c3 = m + 1 then some ⟨g3, 0, none⟩ else some ⟨g3, m + 1, none⟩) (N - (m + 1)) (c3 - (m + 1))) (N - (m + 1)) (fun i => d (m + 1 + i)) := by
            by_cases e : c3 = m + 1
            · rw [if_pos e]
              exact ⟨some ⟨g3, 0, none⟩, c3 - (m + 1), g3, 0, rfl, by omega, by omega, fun h => absurd h (by omega), fun i hi => absurd hi (by omega)⟩
            · rw [if_neg e]
              have h := ints_tail (w := wo) (b := g3) (o := 0) (n := N) (c := c3) (l := m + 1) (X := d) (by omega) hc3 hc3m (fun i hi => by rw [Nat.zero_add]; exact hDm.out.cell hi)
              rwa [Nat.zero_add] at h
          have HCN : Hid (∀ W, Below wo.heap.size wo W → Calls Try.prog 77 #[.int .i64 (P : Int), .slice (if c3 = m + 1 then some ⟨g3, 0, none⟩ else some ⟨g3, m + 1, none⟩) (N - (m + 1)) (c3 - (m + 1))] W fun e w' => CopyI W w' e P (foreK P (fun i => d (m + 1 + i)) 0 (N - (m + 1)))) := fun W hb => sCounts_c P _ _ _ W (hI.below hb) (by omega) (by omega) (by omega) (fun i _ => by have := HG.out (m + 1 + i); omega)
          have HBK : Hid (∀ r, r < P → foreK P (fun i => d (m + 1 + i)) 0 (N - (m + 1)) r = backK P d (m + 1) (N - (m + 1)) r) := fun r hr => by rw [fore_back (by omega) _ 0 _ r hr, backK_shift, Nat.add_zero]
          obtain ⟨q, hq⟩ : ∃ q, kS P d N K m = q := ⟨_, rfl⟩
          have HQ := Lib.hid hq
          obtain ⟨dm, hdme⟩ : ∃ dm, d m = dm := ⟨_, rfl⟩
          have HDM := Lib.hid hdme
          have y1 : wo.cell? ⟨g3, m, none⟩ = some (.int .i64 dm) := by rw [← hdme]; exact hDm.out.cell hlt
          rw [hdme] at hdm
          rw [hq] at hkl ⊢
          have hwm : IntKind.i64.wrap ((m : Int) + 1) = (m : Int) + 1 := wrap_in _ (by omega)
          have htn : ((m : Int) + 1).toNat = m + 1 := by omega
          have n0 : (0 : Int) ≤ (m : Int) + 1 := by omega
          have n1 : (m : Int) + 1 ≤ (N : Int) := by omega
          have n2 : (N : Int) ≤ (c3 : Int) := by omega
          have hbd := drewB wo
          clear hI hq hdme
          go_wp2
          go_region_law (first
            | (go_simp; go_at_call 77; refine (HCN.out _ hbd).mono ?_; rintro e w4 ⟨g4, c4, rfl, hg4, hb4, hO4⟩))
          clear hwm htn n0 n1 n2
          generalize (if c3 = m + 1 then some (⟨g3, 0, none⟩ : Addr) else some ⟨g3, m + 1, none⟩) = zz
          have hb5 : Below wo.heap.size wo w4 := ⟨hb4.os, hb4.tape, hb4.output, hb4.size, hb4.block⟩
          have HB5 := Lib.hid hb5
          have HC4 := Lib.hid hO4
          have hg4' : wo.heap.size ≤ g4 := hg4
          have HOm := Lib.hid (HOo.out.kept hb5)
          have hgl4 := hO4.lt
          clear hO4 hb4 hg4 hb5 f0 f1 y1
          go_wp2
          go_loopg [7, 1, 10, 11] P (fun g o kk fl a wq => ∃ x : Nat, x ≤ P ∧ g = P - x ∧ a = .int .i64 x ∧
            ((fl = .bool false ∧ Hid (Below wo.heap.size wo wq) ∧ Hid (Own wq 2 g4 c4 P (fun i => .int .i64 (foreK P (fun i => d (m + 1 + i)) 0 (N - (m + 1)) i))) ∧ o = .slice (some ⟨g', 0, none⟩) m c' ∧ kk = .int .i64 (q : Int) ∧ Hid (Own wq 2 g' c' m (fun i => .int .i64 ((xS P d N K i : Nat) : Int))) ∧ Hid (∀ j, j < x → okK P d N m q j = false)) ∨
             (fl = .bool true ∧ kk = .int .i64 (kS P d N K (m + 1) : Nat) ∧ Hid (0 < backK P d (m + 1) (N - (m + 1)) (kS P d N K (m + 1)) ∧ ∃ j, j < P ∧ okK P d N m q j = true) ∧ Hid (Own wq 2 g3 c3 N (fun i => .int .i64 (d i)) ∧ BoxD w (P : Int) ao n c wq) ∧ ∃ g5 c5, o = .slice (some ⟨g5, 0, none⟩) (m + 1) c5 ∧ Hid (w.heap.size < g5 ∧ g5 ≠ g3) ∧ Hid (Own wq 2 g5 c5 (m + 1) (fun i => .int .i64 ((xS P d N K i : Nat) : Int))))))
          case atStart => exact ⟨0, Nat.zero_le _, rfl, rfl, Or.inl ⟨rfl, HB5, HC4, rfl, rfl, HOm, fun j hj => absurd hj (Nat.not_lt_zero _)⟩⟩
          case round =>
            obtain ⟨x, hx, rfl, rfl, hph⟩ := hrel
            rcases hph with ⟨rfl, hbel, hCq, rfl, rfl, hOq, hall⟩ | ⟨rfl, rfl, hpq, hDB, g5, c5, rfl, hg5d, hO5⟩
            · obtain ⟨k0, k1, k2, k3⟩ := boxKeep hbel.out BXo.out
              by_cases hltx : x < P
              · have hm1 : 0 ≤ dm * (x : Int) ∧ dm * (x : Int) ≤ 1000 * 13 := ⟨Int.mul_nonneg (by omega) (by omega), Int.mul_le_mul (by omega) (by omega) (by omega) (by omega)⟩
                have hm2 : 0 ≤ dm * (x : Int) * (x : Int) ∧ dm * (x : Int) * (x : Int) ≤ 1000 * 13 * 13 := ⟨Int.mul_nonneg hm1.1 (by omega), Int.mul_le_mul hm1.2 (by omega) (by omega) (by omega)⟩
                have hre : ((q : Int) - dm * x * x) % P = (restK P dm q x : Int) := restK_eq (by omega) dm q x
                have hrl := restK_lt (show 0 < P by omega) dm q x
                have HOKE : Hid (okK P d N m q x = decide (0 < backK P d (m + 1) (N - (m + 1)) (restK P dm q x))) := by unfold okK; rw [HDM.out]; exact rfl
                obtain ⟨r, hr⟩ : ∃ r, restK P dm q x = r := ⟨_, rfl⟩
                have HR := Lib.hid hr
                rw [hr] at hre hrl HOKE
                have CM : Hid (∀ W, Calls Try.prog 82 #[.int .i64 P, .int .i64 ((q : Int) - dm * x * x)] W fun e w' => e = .returned (.int .i64 (r : Int)) ∧ W = w') := fun W => hre ▸ sMod_c _ _ W (by omega) (by omega) (by omega) (by omega)
                obtain ⟨u, hu⟩ : ∃ u, backK P d (m + 1) (N - (m + 1)) r = u := ⟨_, rfl⟩
                have y2 : wr.cell? ⟨g4, r, none⟩ = some (.int .i64 u) := by rw [← hu, ← HBK.out r hrl]; exact hCq.out.cell hrl
                have y1 : wr.cell? ⟨g3, m, none⟩ = some (.int .i64 dm) := by rw [← HDM.out]; exact (hDm.out.kept hbel.out).cell hlt
                rw [hu] at HOKE
                have n2 : (0 : Int) ≤ (r : Int) := by omega
                have n3 : (r : Int) < (P : Int) := by omega
                have n4 : (0 : Int) ≤ (m : Int) := by omega
                have n5 : (m : Int) < (N : Int) := by omega
                have hwa : IntKind.i64.wrap (dm * (x : Int)) = dm * (x : Int) := wrap_in _ (by omega)
                have hwb : IntKind.i64.wrap (dm * (x : Int) * (x : Int)) = dm * (x : Int) * (x : Int) := wrap_in _ (by omega)
                have hwc : IntKind.i64.wrap ((q : Int) - dm * (x : Int) * (x : Int)) = (q : Int) - dm * (x : Int) * (x : Int) := wrap_in _ (by omega)
                clear hr hre hu hm1 hm2
                cases hdec : decide (0 < u)
                · go_wp2
                  go_quiet ((go_at_call 82; exact Calls.pure (CM.out _)))
                  clear hwa hwb hwc
                  go_wp2
                  go_roundg (P - (x + 1))
                  case measure => omega
                  case rel =>
                    have hbq := below_drewN wr nq
                    exact ⟨x + 1, by omega, rfl, by go_num, Or.inl ⟨rfl, hbel.out.trans (hbq.mono hbel.out.size), hCq.out.kept hbq, rfl, rfl, hOq.out.kept hbq, fun j hj => by
                      by_cases e : j = x
                      · subst e; rw [HOKE.out, hdec]
                      · exact hall.out j (by omega)⟩⟩
                · have hokx : okK P d N m q x = true := by rw [HOKE.out, hdec]
                  have hxa := xS_at (P := P) (c := d) (N := N) (K := K) (i := m) hltx (fun j hj => by rw [HQ.out]; exact hall.out j hj) (by rw [HQ.out, hokx])
                  have HXA := Lib.hid hxa
                  have HOX := Lib.hid hokx
                  clear hxa hokx
                  go_wp2
                  go_quiet ((go_at_call 82; exact Calls.pure (CM.out _)))
                  clear hwa hwb hwc
                  have hbq := below_drewN wr nq
                  have hOp := hOq.out.kept hbq
                  go_wp2_with (at_builtin; refine wpList_push _ rfl _ _ _ _ elI rfl hOp (.int .i64 (x : Int)) rfl rfl rfl (by omega) (by omega) ?_; intro g6 c6 w6 hO6 hg6 hgr6)
                  go_roundg (P - (x + 1))
                  case measure => omega
                  case rel =>
                    obtain ⟨hx1, hx2, hx3⟩ := HXA.out
                    have hgd2 := hgd.out
                    have hbv := hbel.out.trans (hbq.mono hbel.out.size)
                    have hs6 := hgr6.size
                    have hbs := hbel.out.size
                    have hgl' := HOo.out.lt
                    have hgl3 := hDm.out.lt
                    have hdw : (wr.drewN nq).heap.size = wr.heap.size := rfl
                    refine ⟨x + 1, by omega, rfl, by go_num, Or.inr ⟨rfl, by rw [hx2, HQ.out, HDM.out, HR.out], ⟨hx3, x, hltx, HOX.out⟩, ⟨((hDm.out.kept hbv).grown hgr6 (fun e => by injection e with e; exact hgd2.2 e)), boxGrown hgr6 hgd2.1 (boxKeep hbv BXo.out)⟩, g6, c6, rfl, (show w.heap.size < g6 ∧ g6 ≠ g3 from ⟨by omega, by omega⟩), hO6.congr fun i hi => ?_⟩⟩
                    by_cases e : i = m
                    · subst e; simp [hx1]
                    · simp [e]
              · obtain rfl : x = P := by omega
                have hnone := hall.out
                have hm0 : m = 0 := by
                  by_cases e : m = 0
                  · exact e
                  · have hh := (hps.out e).1
                    rw [HQ.out] at hh
                    obtain ⟨a, ha, hat⟩ := okK_some (show 0 < x by omega) hlt hkl hh
                    rw [hnone a ha] at hat; cases hat
                have hz : backK x d 0 (N - 0) K = 0 := by
                  have hb := (backK_bd (show 0 < x by omega) d (N - 0) 0 K hKP).1
                  by_cases e : backK x d 0 (N - 0) K = 0
                  · exact e
                  · subst hm0
                    have hq0 : q = K := HQ.out.symm.trans HK0.out
                    obtain ⟨a, ha, hat⟩ := okK_some (show 0 < x by omega) hlt (by omega) (show 0 < backK x d 0 (N - 0) K by omega)
                    rw [← hq0, hnone a ha] at hat; cases hat
                have hx5 : thenC 0 (backK x d 0 (N - 0) K == 0) 5 = 5 := by rw [beq_iff_eq.2 hz]; rfl
                have HX5 := Lib.hid hx5
                clear hx5 hz hm0 hnone
                go_wp2
                go_ret2
                exact ⟨k3, Or.inr ⟨by rw [HX5.out]; decide, by rw [HX5.out]; rfl⟩⟩
            · obtain ⟨k0, k1, k2, k3⟩ := hDB.out.2
              have fin : Hid (∃ _ : True, True) := ⟨trivial, trivial⟩
              by_cases hltx : x < P
              all_goals
                go_wp2
                go_roundg (N - (m + 1))
                case measure => omega
                case rel => exact ⟨m + 1, by omega, rfl, by go_num, rfl, (fun _ => ⟨hpq.out.1, by
                    by_cases e : m = 0
                    · subst e
                      obtain ⟨j, hj, hjt⟩ := hpq.out.2
                      have hq0 : q = K := HQ.out.symm.trans HK0.out
                      by_cases hle : backK P d 0 (N - 0) K ≤ 0
                      · have := okK_none (show 0 < P by omega) hlt hKP hle j hj
                        rw [hq0, this] at hjt; cases hjt
                      · omega
                    · exact (hps.out e).2⟩), hDB.out.2, hDB.out.1, g5, c5, rfl, hg5d, hO5.out⟩
        · obtain rfl : m = N := by omega
          have hx0 : thenC 0 (backK P d 0 (m - 0) K == 0) 5 = 0 := by
            have := (hps.out (by omega)).2
            rw [beq_eq_false_iff_ne.2 (by omega)]; rfl
          have HX0 := Lib.hid hx0
          clear hx0
          go_wp2
          go_ret2
          have hgd2 := hgd.out
          exact HRes.out _ _ _ _ f3 ⟨HX0.out, g', c', rfl, by omega, HOo.out⟩
    · have hib : inB k 0 (p - 1) = false := decide_eq_false hin
      have HI : Hid (∀ W, Calls Try.prog 76 #[.int .i64 k, .int .i64 0, .int .i64 (p - 1)] W fun e w' => e = .returned (.bool false) ∧ W = w') := fun W => hib ▸ sIn_c _ _ _ W
      rw [hib, if_neg (by simp), show thenC (2 : Int) (cntV p n s k == 0) 5 = 2 from rfl]
      clear hok hin hib h
      go_enter Try.func15, Try.ntmps15
      go_wp2_with fail
      refine Calls.makes' (sIsDbl_c _ _ _ _ _ (H'.out.below e3)) _ fun w1 hb1 => ?_
      rw [HOK.out]
      obtain ⟨f0, f1, f2, f3⟩ := boxKeep hb1 BX.out
      go_wp2_with (go_at_call 76; refine (HI.out _).mono ?_; rintro e w' ⟨rfl, rfl⟩)
      go_ret2
      exact ⟨f3, Or.inr ⟨by decide, rfl⟩⟩

end Go.Proofs.Ytnnacligfoonbaa
