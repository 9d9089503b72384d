/-
  The reduced basis, by the program. No condition beside sizes.
-/
import Derived.Test.YtnkflgigbielgaaSE1
set_option linter.unusedVariables false
set_option linter.unusedSimpArgs false
namespace Go.Proofs.Ytnkflgigbielgaa
open Go.RowKit

theorem CopyT.turn {w w' : World} {e : Ending} {G G' : Nat} {L : Nat → Nat} {T T' : Nat → Nat → Int} (h : CopyT w w' e G L T) (hG : G = G') (hT : ∀ i j, i < G → j < L i → T i j = T' i j) : CopyT w w' e G' L T' := by
  subst hG
  obtain ⟨g, c, h1, h2, h3⟩ := h
  exact ⟨g, c, h1, h2, h3.congr (fun _ _ => rfl) hT⟩
theorem OTab.short {w : World} {B g cap G m : Nat} {L : Nat → Nat} {T : Nat → Nat → Int} (h : OTab w B g cap G L T) (hm : m ≤ G) : OTab w B g cap m L T := by
  obtain ⟨R, C, h1, h2, h3, h4⟩ := h.out
  exact ⟨R, C, h1.shorter hm, h2, fun i hi => h3 i (by omega), fun i j hi hj => h4 i j (by omega) hj⟩
/-- what a column does, with what was found -/
theorem bSt_found {p : Int} {G k d i : Nat} {T S : Nat → Nat → Int} (hQ : bSt p G T k = (S, d)) (hi : fnd (fun r => S r k != 0) d (G - d) = i) (hG : i < G) : bSt p G T (k + 1) = (bStep.elimB p (swp S d i) d k, d + 1) := by
  show bStep p G k (bSt p G T k) = _
  rw [hQ]
  subst hi
  unfold bStep
  exact if_neg (by show ¬ fnd (fun r => S r k != 0) d (G - d) = G; omega)
theorem bSt_stay {p : Int} {G k d : Nat} {T S : Nat → Nat → Int} (hQ : bSt p G T k = (S, d)) (hi : fnd (fun r => S r k != 0) d (G - d) = G) : bSt p G T (k + 1) = (S, d) := by
  show bStep p G k (bSt p G T k) = _
  rw [hQ]
  unfold bStep
  exact if_pos hi
theorem bSt_zero {p : Int} {T : Nat → Nat → Int} : ∀ k, bSt p 0 T k = (T, 0)
  | 0 => rfl
  | k + 1 => bSt_stay (bSt_zero k) rfl

set_option maxRecDepth 100000 in
set_option maxHeartbeats 4000000 in
theorem iBasis_c (p : Int) (v : Value) (G n : Nat) (T : Nat → Nat → Int) (w : World) (h : Tab w v G (fun _ => n) T) (hn : 1 ≤ n ∧ n ≤ 1048576) (hG : G ≤ 1048576) (hp : 3 ≤ p ∧ p ≤ 13) (hT : RowsIn p G n T) :
    Calls Try.prog 102 #[.int .i64 p, v] w fun e w' => CopyT w w' e (bSt p G T n).2 (fun _ => n) (bSt p G T n).1 := by
  have HCl := Lib.hid (iCloneRows_c v G n T w h hn.1 (by omega) (by omega))
  have HBin := Lib.hid (bSt_in (p := p) (n := n) (by omega) hT)
  obtain ⟨D, hD⟩ : ∃ D, bSt p G T n = D := ⟨_, rfl⟩
  have HD := Lib.hid hD
  rw [hD]
  clear h hT hD
  go_enter Try.func102, Try.ntmps102
  go_wp2_with fail
  go_at_call 140
  refine HCl.out.mono ?_
  rintro e w1 ⟨gg, cc, rfl, hb1, hO1⟩
  obtain ⟨R0, C0, hR0⟩ := hO1.rt
  have HB1 := Lib.hid hb1
  have HR0 := Lib.hid hR0
  have hcc := hR0.own.le
  have hcm := hR0.own.max
  clear hO1 hR0 hb1
  go_wp2_with fail
  go_loopg [6, 7] n (fun g dn kk wr => ∃ k : Nat, k ≤ n ∧ g = n - k ∧ kk = .int .i64 k ∧ ∃ S d R C, Hid (bSt p G T k = (S, d)) ∧ dn = .int .i64 ((d : Nat) : Int) ∧ d ≤ G ∧ Hid (Below w.heap.size w wr) ∧ Hid (RT wr w.heap.size gg cc G n R C S))
  case atStart => exact ⟨0, Nat.zero_le _, rfl, rfl, T, 0, R0, C0, rfl, rfl, Nat.zero_le _, HB1.out, HR0.out⟩
  case round =>
    obtain ⟨k, hk, rfl, rfl, S, d, R, C, hQ, rfl, hdG, hb, hR⟩ := hrel
    obtain ⟨wo, rfl⟩ : ∃ wo, wo = wr := ⟨_, rfl⟩
    clear HB1 HR0 HCl
    have hI : Hid (RowsIn p G n S) := by have := (HBin.out k).1; rw [hQ.out] at this; exact this
    by_cases hG0 : G = 0
    · subst hG0
      have e := HD.out
      rw [bSt_zero] at e
      subst e
      obtain rfl : d = 0 := by omega
      go_wp2
      go_ret
      exact ⟨gg, cc, rfl, hb.out, (hR.out.otab.congr (fun _ _ => rfl) (fun i j hi => absurd hi (Nat.not_lt_zero _)))⟩
    · have hG1 : (0 : Int) < (G : Int) := by omega
      have z0 := hR.out.own.cell (show 0 < G by omega)
      by_cases hkn : k < n
      · by_cases hdl : d < G
        · go_wp2_with fail
          go_loopg [8] (G - d) (fun g q wq => wq = wo ∧ ∃ j : Nat, d ≤ j ∧ j ≤ G ∧ g = G - j ∧ q = .int .i64 j ∧ Hid (fnd (fun r => S r k != 0) d (G - d) = fnd (fun r => S r k != 0) j (G - j)))
          case atStart => exact ⟨rfl, d, Nat.le_refl _, by omega, rfl, rfl, rfl⟩
          case round =>
            obtain ⟨rfl, j, hdj, hj, rfl, rfl, hf⟩ := hrel
            by_cases hjn : j < G
            · obtain ⟨y, hy⟩ : ∃ y, S j k = y := ⟨_, rfl⟩
              have z1 := hR.out.own.cell hjn
              have z2 := (hR.out.row j hjn).cell hkn
              rw [hy] at z2
              have hyl := hI.out j hjn k hkn
              rw [hy] at hyl
              have HY := Lib.hid hy
              have i0 : (0 : Int) ≤ (k : Int) := by omega
              have i1 : (k : Int) < (n : Int) := by omega
              have r0 : (0 : Int) ≤ (j : Int) := by omega
              have r1 : (j : Int) < (G : Int) := by omega
              clear hy
              by_cases hy0 : y = 0
              · subst hy0
                go_wp2_with fail
                go_roundg (G - (j + 1))
                case measure => omega
                case rel => exact ⟨rfl, j + 1, by omega, by omega, rfl, by go_num, by rw [hf.out, fnd_no (by rw [HY.out]; rfl) (by omega)]; congr 1⟩
              · have hd0 : decide (y = 0) = false := decide_eq_false hy0
                have hk1 : Hid (bSt p G T (k + 1) = (bStep.elimB p (swp S d j) d k, d + 1)) := bSt_found hQ.out (by rw [hf.out, fnd_yes (by rw [HY.out]; simpa using hy0) (by omega)]) hjn
                have hjn1 : ((j : Int) == (G : Int)) = false := by simp; omega
                have s0 : (0 : Int) ≤ (d : Int) := by omega
                have s1 : (d : Int) < (G : Int) := by omega
                have z3 := hR.out.own.cell hdl
                have z4 := hR.out.own.frozen d
                have z5 := hR.out.own.frozen j
                have hgB := hR.out.base
                go_upto_region 10 with (fail)
                go_cut [] (fun wc => Hid (Below w.heap.size w wc) ∧ Hid (RT wc w.heap.size gg cc G n (swp R d j) (swp C d j) (swp S d j)))
                case first =>
                  by_cases hjd : j = d
                  all_goals (try subst hjd)
                  all_goals go_region_law (fail)
                  all_goals go_wp2
                  all_goals go_meet
                  all_goals refine ⟨((hb.out.setCell (p := ⟨gg, _, none⟩) hgB _).setCell (p := ⟨gg, _, none⟩) hgB _).drew, ?_⟩
                  all_goals first
                    | exact (hR.out.swap hdl hjn).kept (drewB _)
                    | exact (hR.out.swap' hdl hjn).kept (drewB _)
                case rest =>
                  obtain ⟨hb2, hR2⟩ := hcut
                  have hI2 := RowsIn.swp hI.out hdl hjn
                  have hy2 : swp S d j d k = y := by rw [swp_left]; exact HY.out
                  generalize swp S d j = U at hR2 hI2 hy2 hk1
                  generalize swp R d j = RU at hR2
                  generalize swp C d j = CU at hR2
                  have hI2 := Lib.hid hI2
                  have hR2i : Hid (Ints wc (.slice (some ⟨RU d, 0, none⟩) n (CU d)) n (U d)) := (hR2.out.row d hdl).ints
                  have z1 := hR2.out.own.cell hdl
                  have z2 := (hR2.out.row d hdl).cell hkn
                  rw [hy2] at z2
                  have HY2 := Lib.hid hy2
                  obtain ⟨u, hu⟩ : ∃ u, invM p y = u := ⟨_, rfl⟩
                  have hub : 0 ≤ u ∧ u < p := by rw [← hu]; exact powM_bd (by omega) _
                  have HInv : Hid (∀ W, Calls Try.prog 142 #[.int .i64 p, .int .i64 y] W fun e w' => e = .returned (.int .i64 u) ∧ W = w') := fun W => hu ▸ iInv_c p y W (by omega) (by omega) (by omega)
                  obtain ⟨V, hV⟩ : ∃ V : Nat → Int, (fun j => (U d j * invM p (U d k)) % p) = V := ⟨_, rfl⟩
                  have hVj : ∀ j, V j = (U d j * u) % p := fun j => by rw [← hV, hy2, hu]
                  have hEd : bStep.elimB p U d k d = V := by unfold bStep.elimB; rw [if_pos rfl]; exact hV
                  have hEr : ∀ r, r ≠ d → bStep.elimB p U d k r = elm p (U r) V (-U r k) := fun r hr => by unfold bStep.elimB; rw [if_neg hr, hV]
                  have hVin : Hid (InP p n V) := fun j _ => by rw [hVj]; exact mod_bd _ _ (by omega)
                  have HSc : Hid (∀ W, Below wc.heap.size wc W → Calls Try.prog 141 #[.int .i64 p, .slice (some ⟨RU d, 0, none⟩) n (CU d), .int .i64 u] W fun e w' => CopyI W w' e n V) := fun W hb => by
                    refine (iScaled_c p _ n (U d) u W (hR2i.out.below hb) (by omega) (by omega) (by omega) (fun i hi => by have := hI2.out d hdl i hi; omega) (by omega)).mono fun e w' h => ?_
                    obtain ⟨g, c, q1, q2, q3, q4⟩ := h
                    exact ⟨g, c, q1, q2, q3, q4.congr fun j hj => by rw [hVj]⟩
                  have HEd := Lib.hid hEd
                  have HEr := Lib.hid hEr
                  have hgB2 := hR2.out.base
                  have z5 := hR2.out.own.frozen d
                  have HE1 : Hid (∀ (w4 : World) (g4 c4 : Nat), Below wc.drew.heap.size wc.drew w4 → wc.drew.heap.size ≤ g4 → Own w4 2 g4 c4 n (fun j => .int .i64 (V j)) → ∃ R3 C3, Hid (Below w.heap.size w (w4.setCell ⟨gg, d, none⟩ (.slice (some ⟨g4, 0, none⟩) n c4))) ∧ Hid (RT (w4.setCell ⟨gg, d, none⟩ (.slice (some ⟨g4, 0, none⟩) n c4)) w.heap.size gg cc G n R3 C3 (put U d V))) := fun w4 g4 c4 hb4 hg4 hO4 => by
                    have bb : Below wc.heap.size wc w4 := (drewB _).trans hb4
                    exact ⟨_, _, (hb2.out.trans (bb.mono hb2.out.size)).setCell (p := ⟨gg, d, none⟩) hgB2 _, hR2.out.put bb hb2.out.size hdl hO4 hg4⟩
                  clear hu hV hVj hEd hEr hy2 z0 z3 z4 hb hR hQ hI hf HY
                  go_upto_region 11 with (fail)
                  go_cut [] (fun wc => ∃ R3 C3, Hid (Below w.heap.size w wc) ∧ Hid (RT wc w.heap.size gg cc G n R3 C3 (put U d V)))
                  case first =>
                    go_region_law (first
                      | (go_simp; go_at_call 142; refine (HInv.out _).mono ?_; rintro e w' ⟨rfl, rfl⟩)
                      | (go_simp; go_at_call 141; refine (HSc.out _ (drewB _)).mono ?_; rintro e w4 ⟨g4, c4, rfl, hg4, hb4, hO4⟩; have hO5 := hR2.out.own.kept ((drewB _).trans hb4); have z6 := hO5.frozen d; have z7 := hO5.cell hdl))
                    all_goals go_wp2
                    all_goals go_meet
                    all_goals exact HE1.out _ _ _ hb4 hg4 hO4
                  case rest =>
                    obtain ⟨R3, C3, hb3, hR3⟩ := hcut
                    clear hR2i HSc HInv HE1 z1 z2 z5
                    go_wp2_with fail
                    go_loopg [86] G (fun g q wq => ∃ r : Nat, r ≤ G ∧ g = G - r ∧ q = .int .i64 r ∧ ∃ R4 C4 T4, Hid (Below w.heap.size w wq) ∧ Hid (RT wq w.heap.size gg cc G n R4 C4 T4) ∧ Hid (∀ q j, q < G → j < n → T4 q j = if q < r ∨ q = d then bStep.elimB p U d k q j else U q j))
                    case atStart => exact ⟨0, Nat.zero_le _, rfl, rfl, R3, C3, _, hb3.out, hR3.out, fun q j _ _ => by
                      by_cases e : q = d
                      · subst e; rw [put_self, if_pos (Or.inr rfl), HEd.out]
                      · rw [put_other _ _ e, if_neg (by omega)]⟩
                    case round =>
                      obtain ⟨r, hrG, rfl, rfl, R4, C4, T4, hb4, hR4, hT4⟩ := hrel
                      clear hb2 hR2 hb3 hR3
                      by_cases hrl : r < G
                      · by_cases hrd : r = d
                        · subst hrd
                          have hne : ((r : Int) != (r : Int)) = false := by simp
                          go_wp2_with fail
                          go_roundg (G - (r + 1))
                          case measure => omega
                          case rel => exact ⟨r + 1, by omega, rfl, by go_num, R4, C4, T4, hb4.out, hR4.out, fun q j hq hj => by
                            rw [hT4.out q j hq hj]
                            by_cases e : q < r ∨ q = r
                            · rw [if_pos e, if_pos (by omega)]
                            · rw [if_neg e, if_neg (by omega)]⟩
                        · have hne : ((r : Int) != (d : Int)) = true := by simp; omega
                          have e3 : ∀ j, j < n → T4 r j = U r j := fun j hj => by rw [hT4.out r j hrl hj, if_neg (by omega)]
                          have e4 : ∀ j, j < n → T4 d j = V j := fun j hj => by rw [hT4.out d j hdl hj, if_pos (Or.inr rfl), HEd.out]
                          have z1 := hR4.out.own.cell hdl
                          have z2 := hR4.out.own.cell hrl
                          have z4 := (hR4.out.row r hrl).cell hkn
                          obtain ⟨a, ha⟩ : ∃ a, U r k = a := ⟨_, rfl⟩
                          have hab := hI2.out r hrl k hkn
                          rw [e3 k hkn, ha] at z4
                          rw [ha] at hab
                          have t2 : (0 : Int) ≤ (r : Int) := by omega
                          have t3 : (r : Int) < (G : Int) := by omega
                          by_cases ha0 : a = 0
                          · subst ha0
                            have HA := Lib.hid ha
                            clear ha
                            go_wp2_with fail
                            go_roundg (G - (r + 1))
                            case measure => omega
                            case rel => exact ⟨r + 1, by omega, rfl, by go_num, R4, C4, T4, hb4.out, hR4.out, fun q j hq hj => by
                              rw [hT4.out q j hq hj]
                              by_cases e : q < r ∨ q = d
                              · rw [if_pos e, if_pos (by omega)]
                              · rw [if_neg e]
                                by_cases e2 : q = r
                                · subst e2; rw [if_pos (by omega), HEr.out q hrd, HA.out, elm_zero (hI2.out q hrl) hj]
                                · rw [if_neg (by omega)]⟩
                          · have ha1 : decide (a = 0) = false := decide_eq_false ha0
                            have y0 : Hid (Ints wr (.slice (some ⟨R4 r, 0, none⟩) n (C4 r)) n (U r)) := (hR4.out.row r hrl).ints.congr e3
                            have y1 : Hid (Ints wr (.slice (some ⟨R4 d, 0, none⟩) n (C4 d)) n V) := (hR4.out.row d hdl).ints.congr e4
                            have hw2 : IntKind.i64.wrap (-a) = -a := wrap_in _ (by omega)
                            have z5 := hR4.out.own.frozen r
                            have HA := Lib.hid ha
                            have HPl : Hid (∀ W, Below wr.heap.size wr W → Calls Try.prog 143 #[.int .i64 p, .slice (some ⟨R4 r, 0, none⟩) n (C4 r), .slice (some ⟨R4 d, 0, none⟩) n (C4 d), .int .i64 (-a)] W fun e w' => CopyI W w' e n (bStep.elimB p U d k r)) := fun W hb => by
                              have h := iPlus_c p _ _ n n (U r) V (-a) W (y0.out.below hb) (y1.out.below hb) (Nat.le_refl _) (by omega) (by omega) (by omega) (fun i hi => by have := hI2.out r hrl i hi; omega) (fun i hi => by have := hVin.out i hi; omega) (by omega)
                              refine h.mono fun e w' h => ?_
                              obtain ⟨g, c, q1, q2, q3, q4⟩ := h
                              exact ⟨g, c, q1, q2, q3, q4.congr fun j hj => by rw [HEr.out r hrd, HA.out]; rfl⟩
                            have hgB := hR4.out.base
                            have HEnd : Hid (∀ (w4 : World) (g4 c4 : Nat), Below wr.drew.heap.size wr.drew w4 → wr.drew.heap.size ≤ g4 → Own w4 2 g4 c4 n (fun j => .int .i64 (bStep.elimB p U d k r j)) → ∃ R3 C3 T3, Hid (Below w.heap.size w (w4.setCell ⟨gg, r, none⟩ (.slice (some ⟨g4, 0, none⟩) n c4))) ∧ Hid (RT (w4.setCell ⟨gg, r, none⟩ (.slice (some ⟨g4, 0, none⟩) n c4)) w.heap.size gg cc G n R3 C3 T3) ∧ Hid (∀ q j, q < G → j < n → T3 q j = if q < r + 1 ∨ q = d then bStep.elimB p U d k q j else U q j)) := fun w4 g4 c4 hb5 hg5 hO5 => by
                              have bb : Below wr.heap.size wr w4 := (drewB _).trans hb5
                              refine ⟨_, _, _, (hb4.out.trans (bb.mono hb4.out.size)).setCell (p := ⟨gg, r, none⟩) hgB _, hR4.out.put bb hb4.out.size hrl hO5 hg5, fun q j hq hj => ?_⟩
                              unfold put
                              by_cases e : q = r
                              · subst e; rw [if_pos rfl, if_pos (by omega)]
                              · rw [if_neg e, hT4.out q j hq hj]
                                by_cases e2 : q < r ∨ q = d
                                · rw [if_pos e2, if_pos (by omega)]
                                · rw [if_neg e2, if_neg (by omega)]
                            have m1 : G - (r + 1) < G - r := by omega
                            have m2 : r + 1 ≤ G := by omega
                            clear hT4 y0 y1 HY2 HA e3 e4 ha
                            go_wp2
                            go_region_law (first
                              | (go_simp; go_at_call 143; refine (HPl.out _ (drewB _)).mono ?_; rintro e w4 ⟨g4, c4, rfl, hg4, hb5, hO4⟩; have hO5 := hR4.out.own.kept ((drewB _).trans hb5); have z6 := hO5.frozen r; have z7 := hO5.cell hrl))
                            all_goals go_wp2
                            all_goals go_roundg (G - (r + 1))
                            all_goals first
                              | exact m1
                              | exact ⟨r + 1, m2, rfl, by go_num, HEnd.out _ _ _ hb5 hg4 hO4⟩
                      · obtain rfl : r = G := by omega
                        go_wp2
                        go_roundg (n - (k + 1))
                        case measure => omega
                        case rel =>
                          exact ⟨k + 1, by omega, rfl, by go_num, _, d + 1, R4, C4, hk1.out, by go_num, by omega, hb4.out, hR4.out.congr fun i j hi hj => (hT4.out i j hi hj).trans (if_pos (Or.inl hi))⟩
            · obtain rfl : j = G := by omega
              have hk1 : Hid (bSt p j T (k + 1) = (S, d)) := bSt_stay hQ.out (by rw [hf.out, Nat.sub_self]; rfl)
              go_wp2
              go_roundg (n - (k + 1))
              case measure => omega
              case rel => exact ⟨k + 1, by omega, rfl, by go_num, S, d, R, C, hk1.out, rfl, by omega, hb.out, hR.out⟩
        · obtain rfl : d = G := by omega
          have e := HD.out
          have e2 := bSt_full (p := p) (G := d) (T := T) (k := k) (by rw [hQ.out]) (n - k)
          rw [show k + (n - k) = n by omega, hQ.out, e] at e2
          subst e2
          go_wp2
          go_ret
          exact ⟨gg, cc, rfl, hb.out, hR.out.otab⟩
      · obtain rfl : k = n := by omega
        have e := HD.out
        rw [hQ.out] at e
        subst e
        go_wp2
        go_ret
        exact ⟨gg, cc, rfl, hb.out, hR.out.otab.short hdG⟩

end Go.Proofs.Ytnkflgigbielgaa
