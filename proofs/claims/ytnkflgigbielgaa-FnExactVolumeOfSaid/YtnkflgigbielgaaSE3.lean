/-
  The determinant, by the reference. No condition beside sizes.
-/
import Derived.Test.YtnkflgigbielgaaSE1
set_option linter.unusedVariables false
set_option linter.unusedSimpArgs false
namespace Go.Proofs.Ytnkflgigbielgaa
open Go.RowKit

theorem detR_succ' {p : Int} {G f i k : Nat} {T : Nat → Nat → Int} {o : Int} (hk : fnd (fun r => T r i != 0) i (G - i) = k) : detR p G (f + 1) i T o = if k = G then 0 else detR p G f (i + 1) (elimD p (swp T i k) i) (((if k = i then o else (-o) % p) * swp T i k i i) % p) := by
  rw [← hk]; rfl

set_option maxRecDepth 100000 in
set_option maxHeartbeats 4000000 in
theorem sDet_c (p : Int) (v : Value) (n : Nat) (T : Nat → Nat → Int) (w : World) (h : Tab w v n (fun _ => n) T) (hn : 1 ≤ n ∧ n ≤ 6) (hpr : primeB p = true) (hT : RowsIn p n n T) :
    Calls Try.prog 105 #[.int .i64 p, v] w fun e w' => Makes w w' e (.int .i64 (detR p n n 0 T 1)) := by
  have hp := primeB_bd hpr
  have HCl := Lib.hid (sOwn2_c v n n T w h hn.1 (by omega) (by omega))
  have HIn := Lib.hid hT
  obtain ⟨D, hD⟩ : ∃ D, detR p n n 0 T 1 = D := ⟨_, rfl⟩
  have HD := Lib.hid hD
  rw [hD]
  clear h hT hD
  go_enter Try.func105, Try.ntmps105
  go_wp2_with fail
  go_at_call 144
  refine HCl.out.mono ?_
  rintro e w1 ⟨gg, cc, rfl, hb1, hO1⟩
  obtain ⟨R0, C0, hR0⟩ := hO1.rt
  have HB1 := Lib.hid hb1
  have HR0 := Lib.hid hR0
  have hcc := hR0.own.le
  have hp0 : p ≠ 0 := by omega
  clear hO1 hR0 hb1
  go_wp2_with fail
  go_loopg [6, 7] n (fun g o i wr => ∃ t : Nat, t ≤ n ∧ g = n - t ∧ i = .int .i64 t ∧ ∃ x : Int, o = .int .i64 x ∧ (0 ≤ x ∧ x < p) ∧ ∃ R C T', Hid (Below w.heap.size w wr) ∧ Hid (RT wr w.heap.size gg cc n n R C T') ∧ Hid (RowsIn p n n T') ∧ Hid (detR p n (n - t) t T' x = D))
  case atStart => exact ⟨0, Nat.zero_le _, rfl, rfl, 1, rfl, by omega, R0, C0, T, HB1.out, HR0.out, HIn.out, HD.out⟩
  case round =>
    obtain ⟨t, ht, rfl, rfl, x, rfl, hx, R, C, T', hb, hR, hI, hDr⟩ := hrel
    obtain ⟨wo, rfl⟩ : ∃ wo, wo = wr := ⟨_, rfl⟩
    clear HB1 HR0 HD HCl HIn
    by_cases hlt : t < n
    · go_wp2_with fail
      go_loopg [8] (n - t) (fun g q wq => wq = wo ∧ ∃ j : Nat, t ≤ j ∧ j ≤ n ∧ g = n - j ∧ q = .int .i64 j ∧ Hid (fnd (fun r => T' r t != 0) t (n - t) = fnd (fun r => T' r t != 0) j (n - j)))
      case atStart => exact ⟨rfl, t, Nat.le_refl _, by omega, rfl, rfl, rfl⟩
      case round =>
        obtain ⟨rfl, j, htj, hj, rfl, rfl, hf⟩ := hrel
        by_cases hjn : j < n
        · obtain ⟨y, hy⟩ : ∃ y, T' j t = y := ⟨_, rfl⟩
          have z1 := hR.out.own.cell hjn
          have z2 := (hR.out.row j hjn).cell hlt
          rw [hy] at z2
          have hyl := hI.out j hjn t hlt
          rw [hy] at hyl
          have HY := Lib.hid hy
          have i0 : (0 : Int) ≤ (t : Int) := by omega
          have i1 : (t : Int) < (n : Int) := by omega
          clear hy
          by_cases hy0 : y = 0
          · subst hy0
            go_wp2_with fail
            go_roundg (n - (j + 1))
            case measure => omega
            case rel => exact ⟨rfl, j + 1, by omega, by omega, rfl, by go_num, by rw [hf.out, fnd_no (by rw [HY.out]; rfl) (by omega)]; congr 1⟩
          · have hd0 : decide (y = 0) = false := decide_eq_false hy0
            have hk : Hid (fnd (fun r => T' r t != 0) t (n - t) = j) := by rw [hf.out, fnd_yes (by rw [HY.out]; simpa using hy0) (by omega)]; rfl
            have hjn1 : ((j : Int) == (n : Int)) = false := by simp; omega
            have r0 : (0 : Int) ≤ (j : Int) := by omega
            have r1 : (j : Int) < (n : Int) := by omega
            have z3 := hR.out.own.cell hlt
            have z4 := hR.out.own.frozen t
            have z5 := hR.out.own.frozen j
            go_upto_if 43 with (fail)
            go_cut [6] (fun s6 wc => ∃ x2 : Int, s6 = .int .i64 x2 ∧ x2 = (if j = t then x else (-x) % p) ∧ Hid (Below w.heap.size w wc) ∧ Hid (RT wc w.heap.size gg cc n n (swp R t j) (swp C t j) (swp T' t j)))
            case first =>
              by_cases hjt : j = t
              · subst hjt
                have hjt1 : ¬ (j : Int) < (j : Int) := by omega
                go_wp2_with fail
                go_meet
                exact ⟨x, rfl, by simp, hb.out, by rw [swp_self, swp_self, swp_self]; exact hR.out⟩
              · have hjt1 : (t : Int) < (j : Int) := by omega
                have hwn : IntKind.i64.wrap (p - x) = p - x := wrap_in _ (by omega)
                obtain ⟨z, hz⟩ : ∃ z, (-x) % p = z := ⟨_, rfl⟩
                have htm : Int.tmod (p - x) p = z := by
                  rw [Int.tmod_eq_emod_of_nonneg (by omega), ← hz]
                  have e : p - x = -x + p * 1 := by omega
                  rw [e, Int.add_mul_emod_self_left]
                have hgB := hR.out.base
                have HZ := Lib.hid hz
                clear hz
                go_wp2
                go_meet
                refine ⟨z, rfl, by rw [if_neg hjt, HZ.out], (hb.out.setCell (p := ⟨gg, _, none⟩) hgB _).setCell (p := ⟨gg, _, none⟩) hgB _, hR.out.swap' hlt hjn⟩
            case rest =>
              obtain ⟨x2, rfl, hx2, hb2, hR2⟩ := hcut
              have hx2b : 0 ≤ x2 ∧ x2 < p := by
                rw [hx2]
                split
                · exact hx
                · exact mod_bd _ _ (by omega)
              have hD2 := hDr.out
              obtain ⟨f, hff⟩ : ∃ f, n - t = f + 1 := ⟨n - t - 1, by omega⟩
              rw [hff, detR_succ' hk.out, if_neg (show j ≠ n by omega), ← hx2] at hD2
              have hff2 : f = n - (t + 1) := by omega
              subst hff2
              have hI2 := RowsIn.swp hI.out hlt hjn
              have hy2 : swp T' t j t t = y := by rw [swp_left]; exact HY.out
              generalize swp T' t j = S at hR2 hD2 hI2 hy2
              generalize swp R t j = RS at hR2
              generalize swp C t j = CS at hR2
              have hD2 := Lib.hid hD2
              have hI2 := Lib.hid hI2
              have z1 := hR2.out.own.cell hlt
              have z2 := (hR2.out.row t hlt).cell hlt
              rw [hy2] at z2
              have HY2 := Lib.hid hy2
              have hm := mul_bd (a := x2) (b := y) (by omega) (by omega)
              have hw1 : IntKind.i64.wrap (x2 * y) = x2 * y := wrap_in _ (by omega)
              have ht1 : Int.tmod (x2 * y) p = (x2 * y) % p := Int.tmod_eq_emod_of_nonneg (Int.mul_nonneg (by omega) (by omega))
              obtain ⟨u, hu⟩ : ∃ u, invM p y = u := ⟨_, rfl⟩
              have hub : 0 ≤ u ∧ u < p := by rw [← hu]; exact powM_bd (by omega) _
              have HInv : Hid (∀ W, Calls Try.prog 145 #[.int .i64 p, .int .i64 y] W fun e w' => e = .returned (.int .i64 u) ∧ W = w') := fun W => hu ▸ sInv_c p y W hpr (by omega) (by omega)
              have HU := Lib.hid hu
              clear hy2 hk hx2 hf z3 z4 z5 HY hb hR hI hDr hu
              go_wp2_with (first | (go_at_call 145; refine (HInv.out _).mono ?_; rintro e w' ⟨rfl, rfl⟩))
              go_loopg [11] (n - (t + 1)) (fun g q wq => ∃ r : Nat, t < r ∧ r ≤ n ∧ g = n - r ∧ q = .int .i64 r ∧ ∃ R3 C3 T3, Hid (Below w.heap.size w wq) ∧ Hid (RT wq w.heap.size gg cc n n R3 C3 T3) ∧ Hid (∀ q j, q < n → j < n → T3 q j = if q < r then elimD p S t q j else S q j))
              case atStart => exact ⟨t + 1, by omega, by omega, rfl, by go_num, RS, CS, S, hb2.out, hR2.out, fun q j _ _ => by
                by_cases e : q < t + 1
                · rw [if_pos e]; unfold elimD; rw [if_neg (by omega)]
                · rw [if_neg e]⟩
              case round =>
                obtain ⟨r, htr, hrn, rfl, rfl, R3, C3, T3, hb3, hR3, hT3⟩ := hrel
                clear hb2 hR2 z1 z2
                by_cases hrl : r < n
                · have e3 : ∀ j, j < n → T3 r j = S r j := fun j hj => by rw [hT3.out r j hrl hj, if_neg (Nat.lt_irrefl _)]
                  have e4 : ∀ j, j < n → T3 t j = S t j := fun j hj => by rw [hT3.out t j hlt hj, if_pos htr]; unfold elimD; rw [if_neg (Nat.lt_irrefl _)]
                  have z1 := hR3.out.own.cell hlt
                  have z2 := hR3.out.own.cell hrl
                  have z4 := (hR3.out.row r hrl).cell hlt
                  obtain ⟨a, ha⟩ : ∃ a, S r t = a := ⟨_, rfl⟩
                  have hab := hI2.out r hrl t hlt
                  rw [e3 t hlt, ha] at z4
                  rw [ha] at hab
                  have y0 : Hid (Ints wr (.slice (some ⟨R3 r, 0, none⟩) n (C3 r)) n (S r)) := (hR3.out.row r hrl).ints.congr e3
                  have y1 : Hid (Ints wr (.slice (some ⟨R3 t, 0, none⟩) n (C3 t)) n (S t)) := (hR3.out.row t hlt).ints.congr e4
                  have hm2 := mul_bd (a := p - a) (b := u) (by omega) (by omega)
                  have hw2 : IntKind.i64.wrap (p - a) = p - a := wrap_in _ (by omega)
                  have hw3 : IntKind.i64.wrap ((p - a) * u) = (p - a) * u := wrap_in _ (by omega)
                  obtain ⟨k, hk⟩ : ∃ k, ((p - a) * u) % p = k := ⟨_, rfl⟩
                  have hkb : 0 ≤ k ∧ k < p := by rw [← hk]; exact mod_bd _ _ (by omega)
                  have ht3 : Int.tmod ((p - a) * u) p = k := by rw [← hk]; exact Int.tmod_eq_emod_of_nonneg (Int.mul_nonneg (by omega) (by omega))
                  have z5 := hR3.out.own.frozen r
                  have HA := Lib.hid ha
                  have HK := Lib.hid hk
                  have i2 : (0 : Int) ≤ (r : Int) := by omega
                  have i3 : (r : Int) < (n : Int) := by omega
                  have HPl : Hid (∀ W, Below wr.heap.size wr W → Calls Try.prog 146 #[.int .i64 p, .slice (some ⟨R3 r, 0, none⟩) n (C3 r), .slice (some ⟨R3 t, 0, none⟩) n (C3 t), .int .i64 k] W fun e w' => CopyI W w' e n (elimD p S t r)) := fun W hb => by
                    have h := sPlus2_c p _ _ n (S r) (S t) k W (y0.out.below hb) (y1.out.below hb) (by omega) (by omega) (by omega) (hI2.out r hrl) (hI2.out t hlt) (by omega)
                    refine h.mono fun e w' h => ?_
                    obtain ⟨g, c, q1, q2, q3, q4⟩ := h
                    exact ⟨g, c, q1, q2, q3, q4.congr fun j hj => by
                      unfold elimD; rw [if_pos htr, HA.out, HY2.out, HU.out]
                      have := elm_mod p (S r) (S t) (a := k) (b := -a * u) (by rw [← HK.out]; exact fac_mod p a u) j
                      rw [← this]; rfl⟩
                  have hgB := hR3.out.base
                  have HEnd : Hid (∀ (w4 : World) (g4 c4 : Nat), Below wr.drew.heap.size wr.drew w4 → wr.drew.heap.size ≤ g4 → Own w4 2 g4 c4 n (fun j => .int .i64 (elimD p S t r j)) → ∃ R3 C3 T3, Hid (Below w.heap.size w (w4.setCell ⟨gg, r, none⟩ (.slice (some ⟨g4, 0, none⟩) n c4))) ∧ Hid (RT (w4.setCell ⟨gg, r, none⟩ (.slice (some ⟨g4, 0, none⟩) n c4)) w.heap.size gg cc n n R3 C3 T3) ∧ Hid (∀ q j, q < n → j < n → T3 q j = if q < r + 1 then elimD p S t q j else S q j)) := fun w4 g4 c4 hb4 hg4 hO4 => by
                    have bb : Below wr.heap.size wr w4 := (drewB _).trans hb4
                    refine ⟨_, _, _, (hb3.out.trans (bb.mono hb3.out.size)).setCell (p := ⟨gg, r, none⟩) hgB _, hR3.out.put bb hb3.out.size hrl hO4 hg4, fun q j hq hj => ?_⟩
                    unfold put
                    by_cases e : q = r
                    · subst e; rw [if_pos rfl, if_pos (by omega)]
                    · rw [if_neg e, hT3.out q j hq hj]
                      by_cases e2 : q < r
                      · rw [if_pos e2, if_pos (by omega)]
                      · rw [if_neg e2, if_neg (by omega)]
                  have m1 : n - (r + 1) < n - r := by omega
                  have m2 : r + 1 ≤ n := by omega
                  have m3 : t < r + 1 := by omega
                  go_wp2
                  clear hT3 y0 y1 HY2 HA HU e3 e4 ha hk
                  go_region_law (first
                    | (go_simp; go_at_call 146; refine (HPl.out _ (drewB _)).mono ?_; rintro e w4 ⟨g4, c4, rfl, hg4, hb4, hO4⟩; have hO5 := hR3.out.own.kept ((drewB _).trans hb4); have z6 := hO5.frozen r; have z7 := hO5.cell hrl))
                  all_goals go_wp2
                  all_goals go_roundg (n - (r + 1))
                  all_goals first
                    | exact m1
                    | exact ⟨r + 1, m3, m2, rfl, by go_num, HEnd.out _ _ _ hb4 hg4 hO4⟩
                · obtain rfl : r = n := by omega
                  go_wp2
                  go_roundg (r - (t + 1))
                  case measure => omega
                  case rel =>
                    refine ⟨t + 1, by omega, rfl, by go_num, x2 * y % p, rfl, mod_bd _ _ (by omega), R3, C3, T3, hb3.out, hR3.out, fun i hi j hj => ?_, ?_⟩
                    · rw [hT3.out i j hi hj, if_pos hi]
                      exact elimD_in (by omega) hI2.out t i hi j hj
                    · have e := hD2.out
                      rw [HY2.out] at e
                      have e2 := detR_congr (p := p) (n := r) (Nat.le_refl r) (r - (t + 1)) (t + 1) (x2 * y % p) (by omega) (fun q j hq hj => (hT3.out q j hq hj).trans (if_pos hq))
                      exact e2.trans e
        · obtain rfl : j = n := by omega
          have hk : Hid (fnd (fun r => T' r t != 0) t (j - t) = j) := by rw [hf.out, Nat.sub_self]; rfl
          go_wp2
          go_ret
          refine ⟨ret_i64 ?_, hb.out⟩
          have e := hDr.out
          obtain ⟨f, hff⟩ : ∃ f, j - t = f + 1 := ⟨j - t - 1, by omega⟩
          rw [hff, detR_succ' hk.out, if_pos rfl] at e
          exact e
    · obtain rfl : t = n := by omega
      have e := hDr.out
      rw [Nat.sub_self] at e
      go_wp2
      go_ret
      exact ⟨ret_i64 e, hb.out⟩

end Go.Proofs.Ytnkflgigbielgaa
