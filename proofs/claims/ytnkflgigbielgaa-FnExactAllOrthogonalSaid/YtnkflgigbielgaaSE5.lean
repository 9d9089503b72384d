/-
  The reduced basis, by the reference. No condition beside sizes.
-/
import Derived.Test.YtnkflgigbielgaaSE4
set_option linter.unusedVariables false
set_option linter.unusedSimpArgs false
namespace Go.Proofs.Ytnkflgigbielgaa
open Go.RowKit

/-- a row is put in the place of another, and a new one in its own -/
theorem RT.swapPut {w w4 : World} {B g c G n : Nat} {R C : Nat → Nat} {T : Nat → Nat → Int} (h : RT w B g c G n R C T) {a b : Nat} (ha : a < G) (hb : b < G)
    (hk : Below (w.setCell ⟨g, b, none⟩ (.slice (some ⟨R a, 0, none⟩) n (C a))).heap.size (w.setCell ⟨g, b, none⟩ (.slice (some ⟨R a, 0, none⟩) n (C a))) w4) (hB : B ≤ w.heap.size) {r cr : Nat} {X : Nat → Int}
    (hr : Own w4 2 r cr n (fun j => .int .i64 (X j))) (hrB : (w.setCell ⟨g, b, none⟩ (.slice (some ⟨R a, 0, none⟩) n (C a))).heap.size ≤ r) :
    RT (w4.setCell ⟨g, a, none⟩ (.slice (some ⟨r, 0, none⟩) n cr)) B g c G n (Go.Proofs.Ytnkflgigbielgaa.put (swp R a b) a r) (Go.Proofs.Ytnkflgigbielgaa.put (swp C a b) a cr) (Go.Proofs.Ytnkflgigbielgaa.put (swp T a b) a X) := by
  have hsz : (w.setCell ⟨g, b, none⟩ (.slice (some ⟨R a, 0, none⟩) n (C a))).heap.size = w.heap.size := by simp [World.setCell]
  have hgl := h.own.lt
  have hq : ∀ q, q < G → Own w4 2 (R q) (C q) n (fun j => .int .i64 (T q j)) := fun q hq => ((h.row q hq).setOther (h.rowB q hq).2 _).kept hk
  have hsw : ∀ j, j < G → j ≠ a → ∃ q, q < G ∧ swp R a b j = R q ∧ swp C a b j = C q ∧ swp T a b j = T q := fun j hj hne => by
    unfold swp
    rw [if_neg hne, if_neg hne, if_neg hne]
    by_cases e : j = b
    · exact ⟨a, ha, by rw [if_pos e], by rw [if_pos e], by rw [if_pos e]⟩
    · exact ⟨j, hj, by rw [if_neg e], by rw [if_neg e], by rw [if_neg e]⟩
  refine ⟨(((h.own.set b _).kept hk).set a _).congr fun j hj => ?_, h.base, fun j hj => ?_, fun j hj => ?_, fun j k hj hkk hne => ?_⟩
  · unfold Go.Proofs.Ytnkflgigbielgaa.put swp
    by_cases e : j = a
    · simp [e]
    · by_cases e2 : j = b
      · subst e2; simp [e]
      · simp [e, e2]
  · by_cases e : j = a
    · rw [e, put_self, put_self, put_self]; exact hr.setOther (by show r ≠ g; omega) _
    · obtain ⟨q, q1, q2, q3, q4⟩ := hsw j hj e
      rw [put_other _ _ e, put_other _ _ e, put_other _ _ e, q2, q3, q4]
      exact (hq q q1).setOther (h.rowB q q1).2 _
  · by_cases e : j = a
    · rw [e, put_self]; omega
    · obtain ⟨q, q1, q2, q3, q4⟩ := hsw j hj e
      rw [put_other _ _ e, q2]; exact h.rowB q q1
  · have hlt : ∀ q, q < G → R q < w.heap.size := fun q hq => (h.row q hq).lt
    by_cases e : j = a
    · have e3 : k ≠ a := fun e3 => hne (e.trans e3.symm)
      obtain ⟨q, q1, q2, _⟩ := hsw k hkk e3
      rw [e, put_self, put_other _ _ e3, q2]
      have := hlt q q1; omega
    · obtain ⟨q, q1, q2, _⟩ := hsw j hj e
      by_cases e3 : k = a
      · rw [e3, put_self, put_other _ _ e, q2]
        have := hlt q q1; omega
      · rw [put_other _ _ e, put_other _ _ e3]
        have e4 : j ≠ k := hne
        unfold swp
        rw [if_neg e, if_neg e3]
        by_cases e5 : j = b
        · rw [if_pos e5, if_neg (by omega)]; exact h.dist a k ha hkk (by omega)
        · rw [if_neg e5]
          by_cases e6 : k = b
          · rw [if_pos e6]; exact h.dist j a hj ha e
          · rw [if_neg e6]; exact h.dist j k hj hkk hne

set_option maxRecDepth 100000 in
set_option maxHeartbeats 4000000 in
theorem sBasis_c (p : Int) (v : Value) (G n : Nat) (T : Nat → Nat → Int) (w : World) (h : Tab w v G (fun _ => n) T) (hn : 1 ≤ n ∧ n ≤ 1048576) (hG : G ≤ 1048576) (hpr : primeB p = true) (hT : RowsIn p G n T) :
    Calls Try.prog 157 #[.int .i64 p, v] w fun e w' => CopyT w w' e (bSt p G T n).2 (fun _ => n) (bSt p G T n).1 := by
  have hp := primeB_bd hpr
  have hp0 : p ≠ 0 := by omega
  have HCl := Lib.hid (sOwn2_c v G n T w h hn.1 (by omega) (by omega))
  have HBin := Lib.hid (bSt_in (p := p) (n := n) (by omega) hT)
  obtain ⟨D, hD⟩ : ∃ D, bSt p G T n = D := ⟨_, rfl⟩
  have HD := Lib.hid hD
  rw [hD]
  clear h hT hD
  go_enter Try.func157, Try.ntmps157
  go_wp2_with fail
  go_at_call 144
  refine HCl.out.mono ?_
  rintro e w1 ⟨gg, cc, rfl, hb1, hO1⟩
  obtain ⟨R0, C0, hR0⟩ := hO1.rt
  have HB1 := Lib.hid hb1
  have HR0 := Lib.hid hR0
  have hcc := hR0.own.le
  have hcm := hR0.own.max
  clear hO1 hR0 hb1
  go_wp2_with fail
  go_loopg [6, 7] n (fun g dn kk wr => ∃ k : Nat, k ≤ n ∧ g = n - k ∧ kk = .int .i64 k ∧ ∃ S d R C, Hid (bSt p G T k = (S, d)) ∧ dn = .int .i64 ((d : Nat) : Int) ∧ d ≤ G ∧ Hid (Below w.heap.size w wr) ∧ Hid (RT wr w.heap.size gg cc G n R C S))
  case atStart => exact ⟨0, Nat.zero_le _, rfl, rfl, T, 0, R0, C0, rfl, rfl, Nat.zero_le _, HB1.out, HR0.out⟩
  case round =>
    obtain ⟨k, hk, rfl, rfl, S, d, R, C, hQ, rfl, hdG, hb, hR⟩ := hrel
    obtain ⟨wo, rfl⟩ : ∃ wo, wo = wr := ⟨_, rfl⟩
    clear HB1 HR0 HCl
    have hI : Hid (RowsIn p G n S) := by have := (HBin.out k).1; rw [hQ.out] at this; exact this
    by_cases hG0 : G = 0
    · subst hG0
      have e := HD.out
      rw [bSt_zero] at e
      subst e
      obtain rfl : d = 0 := by omega
      go_wp2
      go_ret
      exact ⟨gg, cc, rfl, hb.out, (hR.out.otab.congr (fun _ _ => rfl) (fun i j hi => absurd hi (Nat.not_lt_zero _)))⟩
    · have hG1 : (0 : Int) < (G : Int) := by omega
      have z0 := hR.out.own.cell (show 0 < G by omega)
      by_cases hkn : k < n
      · go_wp2_with fail
        go_loopg [8] (G - d) (fun g q wq => wq = wo ∧ ∃ j : Nat, d ≤ j ∧ j ≤ G ∧ g = G - j ∧ q = .int .i64 j ∧ Hid (fnd (fun r => S r k != 0) d (G - d) = fnd (fun r => S r k != 0) j (G - j)))
        case atStart => exact ⟨rfl, d, Nat.le_refl _, by omega, rfl, rfl, rfl⟩
        case round =>
          obtain ⟨rfl, j, hdj, hj, rfl, rfl, hf⟩ := hrel
          by_cases hjn : j < G
          · obtain ⟨y, hy⟩ : ∃ y, S j k = y := ⟨_, rfl⟩
            have z1 := hR.out.own.cell hjn
            have z2 := (hR.out.row j hjn).cell hkn
            rw [hy] at z2
            have hdl : d < G := by omega
            have hyl := hI.out j hjn k hkn
            rw [hy] at hyl
            have HY := Lib.hid hy
            have i0 : (0 : Int) ≤ (k : Int) := by omega
            have i1 : (k : Int) < (n : Int) := by omega
            have r0 : (0 : Int) ≤ (j : Int) := by omega
            have r1 : (j : Int) < (G : Int) := by omega
            clear hy
            by_cases hy0 : y = 0
            · subst hy0
              go_wp2_with fail
              go_roundg (G - (j + 1))
              case measure => omega
              case rel => exact ⟨rfl, j + 1, by omega, by omega, rfl, by go_num, by rw [hf.out, fnd_no (by rw [HY.out]; rfl) (by omega)]; congr 1⟩
            · have hd0 : decide (y = 0) = false := decide_eq_false hy0
              have hk1 : Hid (bSt p G T (k + 1) = (bStep.elimB p (swp S d j) d k, d + 1)) := bSt_found hQ.out (by rw [hf.out, fnd_yes (by rw [HY.out]; simpa using hy0) (by omega)]) hjn
              have hjn1 : ((j : Int) == (G : Int)) = false := by simp; omega
              have s0 : (0 : Int) ≤ (d : Int) := by omega
              have s1 : (d : Int) < (G : Int) := by omega
              have z3 := hR.out.own.cell hdl
              have z4 := hR.out.own.frozen d
              have z5 := hR.out.own.frozen j
              have hgB := hR.out.base
              obtain ⟨W1, hW1⟩ : ∃ W1, wr.setCell ⟨gg, j, none⟩ (.slice (some ⟨R d, 0, none⟩) n (C d)) = W1 := ⟨_, rfl⟩
              have z6 : W1.cell? ⟨R j, k, none⟩ = some (.int .i64 y) := by rw [← hW1]; exact Own.kept_cell z2 (hR.out.rowB j hjn).2 j
              have hO1 := (hR.out.own.set j (.slice (some ⟨R d, 0, none⟩) n (C d)))
              rw [hW1] at hO1
              have hRi : Hid (Ints W1 (.slice (some ⟨R j, 0, none⟩) n (C j)) n (S j)) := by rw [← hW1]; exact ((hR.out.row j hjn).setOther (hR.out.rowB j hjn).2 _).ints
              obtain ⟨u, hu⟩ : ∃ u, invM p y = u := ⟨_, rfl⟩
              have hub : 0 ≤ u ∧ u < p := by rw [← hu]; exact powM_bd (by omega) _
              have HInv : Hid (∀ W, Calls Try.prog 145 #[.int .i64 p, .int .i64 y] W fun e w' => e = .returned (.int .i64 u) ∧ W = w') := fun W => hu ▸ sInv_c p y W hpr (by omega) (by omega)
              obtain ⟨U, hU⟩ : ∃ U, swp S d j = U := ⟨_, rfl⟩
              have hUd : U d = S j := by rw [← hU]; exact swp_left S d j
              have hI2 : Hid (RowsIn p G n U) := by rw [← hU]; exact RowsIn.swp hI.out hdl hjn
              obtain ⟨V, hV⟩ : ∃ V : Nat → Int, (fun j => (U d j * invM p (U d k)) % p) = V := ⟨_, rfl⟩
              have hVj : ∀ i, V i = (S j i * u) % p := fun i => by rw [← hV, hUd, HY.out, hu]
              have hEd : bStep.elimB p U d k d = V := by unfold bStep.elimB; rw [if_pos rfl]; exact hV
              have hEr : ∀ r, r ≠ d → bStep.elimB p U d k r = elm p (U r) V (-U r k) := fun r hr => by unfold bStep.elimB; rw [if_neg hr, hV]
              have hVin : Hid (InP p n V) := fun i _ => by rw [hVj]; exact mod_bd _ _ (by omega)
              have HSc : Hid (∀ W, Below W1.heap.size W1 W → Calls Try.prog 163 #[.int .i64 p, .slice (some ⟨R j, 0, none⟩) n (C j), .int .i64 u] W fun e w' => CopyI W w' e n V) := fun W hb => by
                refine (sScale2_c p _ n (S j) u W (hRi.out.below hb) (by omega) (by omega) (by omega) (hI.out j hjn) (by omega)).mono fun e w' h => ?_
                obtain ⟨g, c, q1, q2, q3, q4⟩ := h
                exact ⟨g, c, q1, q2, q3, q4.congr fun i hi => by rw [hVj]⟩
              have HEd := Lib.hid hEd
              have HEr := Lib.hid hEr
              have hb1 : Below w.heap.size w W1 := by rw [← hW1]; exact hb.out.setCell (p := ⟨gg, _, none⟩) hgB _
              have hsz : W1.heap.size = wr.heap.size := by rw [← hW1]; simp [World.setCell]
              rw [hU] at hk1
              have HE1 : Hid (∀ (w4 : World) (g4 c4 : Nat), Below W1.heap.size W1 w4 → W1.heap.size ≤ g4 → Own w4 2 g4 c4 n (fun j => .int .i64 (V j)) → Hid (Below w.heap.size w (w4.setCell ⟨gg, d, none⟩ (.slice (some ⟨g4, 0, none⟩) n c4))) ∧ (∃ R3 C3, Hid (RT (w4.setCell ⟨gg, d, none⟩ (.slice (some ⟨g4, 0, none⟩) n c4)) w.heap.size gg cc G n R3 C3 (put U d V))) ∧ Hid (Own (w4.setCell ⟨gg, d, none⟩ (.slice (some ⟨g4, 0, none⟩) n c4)) 2 g4 c4 n (fun j => .int .i64 (V j))) ∧ g4 ≠ gg) := fun w4 g4 c4 hb4 hg4 hO4 => by
                have hgl := hR.out.own.lt
                subst hW1
                rw [← hU]
                exact ⟨(hb1.trans (hb4.mono hb1.size)).setCell (p := ⟨gg, d, none⟩) hgB _, ⟨_, _, hR.out.swapPut hdl hjn hb4 hb.out.size hO4 hg4⟩, hO4.setOther (by show g4 ≠ gg; omega) _, by omega⟩
              have HO1 := Lib.hid hO1
              clear hu hV hVj hEd hEr hUd hU z0 hQ hI hf HY hO1 hb1
              go_wp2_with (first
                | (go_at_call 145; refine (HInv.out _).mono ?_; rintro e w' ⟨rfl, rfl⟩)
                | (go_at_call 163; refine (HSc.out _ (Below.refl _ _)).mono ?_; rintro e w4 ⟨g4, c4, rfl, hg4, hb4, hO4⟩; have hO5 := HO1.out.kept hb4; have z7 := hO5.frozen d; have z8 := hO5.cell hdl))
              obtain ⟨hb3, ⟨R3, C3, hR3⟩, hOg, hgg⟩ := HE1.out _ _ _ hb4 hg4 hO4
              clear hR hb z1 z2 z3 z4 z5 z6 z7 z8 hRi HSc HInv HE1 HO1 hO5 hO4 hb4
              go_loopg [10] G (fun g q wq => ∃ r : Nat, r ≤ G ∧ g = G - r ∧ q = .int .i64 r ∧ ∃ R4 C4 T4, Hid (Below w.heap.size w wq) ∧ Hid (RT wq w.heap.size gg cc G n R4 C4 T4) ∧ Hid (Own wq 2 g4 c4 n (fun j => .int .i64 (V j))) ∧ Hid (∀ q j, q < G → j < n → T4 q j = if q < r ∨ q = d then bStep.elimB p U d k q j else U q j))
              case atStart => exact ⟨0, Nat.zero_le _, rfl, rfl, R3, C3, _, hb3, hR3, hOg, fun q j _ _ => by
                by_cases e : q = d
                · subst e; rw [put_self, if_pos (Or.inr rfl), HEd.out]
                · rw [put_other _ _ e, if_neg (by omega)]⟩
              case round =>
                obtain ⟨r, hrG, rfl, rfl, R4, C4, T4, hb4, hR4, hO4, hT4⟩ := hrel
                clear hb3 hR3 hOg
                by_cases hrl : r < G
                · by_cases hrd : r = d
                  · subst hrd
                    have hne : ((r : Int) != (r : Int)) = false := by simp
                    go_wp2_with fail
                    go_roundg (G - (r + 1))
                    case measure => omega
                    case rel => exact ⟨r + 1, by omega, rfl, by go_num, R4, C4, T4, hb4.out, hR4.out, hO4.out, fun q j hq hj => by
                      rw [hT4.out q j hq hj]
                      by_cases e : q < r ∨ q = r
                      · rw [if_pos e, if_pos (by omega)]
                      · rw [if_neg e, if_neg (by omega)]⟩
                  · have hne : ((r : Int) != (d : Int)) = true := by simp; omega
                    have e3 : ∀ j, j < n → T4 r j = U r j := fun j hj => by rw [hT4.out r j hrl hj, if_neg (by omega)]
                    have z2 := hR4.out.own.cell hrl
                    have z4 := (hR4.out.row r hrl).cell hkn
                    obtain ⟨a, ha⟩ : ∃ a, U r k = a := ⟨_, rfl⟩
                    have hab := hI2.out r hrl k hkn
                    rw [e3 k hkn, ha] at z4
                    rw [ha] at hab
                    have t2 : (0 : Int) ≤ (r : Int) := by omega
                    have t3 : (r : Int) < (G : Int) := by omega
                    have y0 : Hid (Ints wr (.slice (some ⟨R4 r, 0, none⟩) n (C4 r)) n (U r)) := (hR4.out.row r hrl).ints.congr e3
                    have y1 : Hid (Ints wr (.slice (some ⟨g4, 0, none⟩) n c4) n V) := hO4.out.ints
                    have hw2 : IntKind.i64.wrap (p - a) = p - a := wrap_in _ (by omega)
                    obtain ⟨f, hf⟩ : ∃ f, (p - a) % p = f := ⟨_, rfl⟩
                    have hfb : 0 ≤ f ∧ f < p := by rw [← hf]; exact mod_bd _ _ (by omega)
                    have ht2 : Int.tmod (p - a) p = f := by rw [← hf]; exact Int.tmod_eq_emod_of_nonneg (by omega)
                    have z5 := hR4.out.own.frozen r
                    have HA := Lib.hid ha
                    have HF := Lib.hid hf
                    have HPl : Hid (∀ W, Below wr.heap.size wr W → Calls Try.prog 146 #[.int .i64 p, .slice (some ⟨R4 r, 0, none⟩) n (C4 r), .slice (some ⟨g4, 0, none⟩) n c4, .int .i64 f] W fun e w' => CopyI W w' e n (bStep.elimB p U d k r)) := fun W hb => by
                      have h := sPlus2_c p _ _ n (U r) V f W (y0.out.below hb) (y1.out.below hb) (by omega) (by omega) (by omega) (hI2.out r hrl) hVin.out (by omega)
                      refine h.mono fun e w' h => ?_
                      obtain ⟨g, c, q1, q2, q3, q4⟩ := h
                      exact ⟨g, c, q1, q2, q3, q4.congr fun j hj => by
                        rw [HEr.out r hrd, HA.out]
                        have := elm_mod p (U r) V (a := f) (b := -a) (by rw [← HF.out]; exact fac_mod1 p a) j
                        rw [← this]; rfl⟩
                    have hgB := hR4.out.base
                    have HEnd : Hid (∀ (w4 : World) (g5 c5 : Nat), Below wr.drew.heap.size wr.drew w4 → wr.drew.heap.size ≤ g5 → Own w4 2 g5 c5 n (fun j => .int .i64 (bStep.elimB p U d k r j)) → ∃ R3 C3 T3, Hid (Below w.heap.size w (w4.setCell ⟨gg, r, none⟩ (.slice (some ⟨g5, 0, none⟩) n c5))) ∧ Hid (RT (w4.setCell ⟨gg, r, none⟩ (.slice (some ⟨g5, 0, none⟩) n c5)) w.heap.size gg cc G n R3 C3 T3) ∧ Hid (Own (w4.setCell ⟨gg, r, none⟩ (.slice (some ⟨g5, 0, none⟩) n c5)) 2 g4 c4 n (fun j => .int .i64 (V j))) ∧ Hid (∀ q j, q < G → j < n → T3 q j = if q < r + 1 ∨ q = d then bStep.elimB p U d k q j else U q j)) := fun w4 g5 c5 hb5 hg5 hO5 => by
                      have bb : Below wr.heap.size wr w4 := (drewB _).trans hb5
                      refine ⟨_, _, _, (hb4.out.trans (bb.mono hb4.out.size)).setCell (p := ⟨gg, r, none⟩) hgB _, hR4.out.put bb hb4.out.size hrl hO5 hg5, (hO4.out.kept bb).setOther (by show g4 ≠ gg; omega) _, fun q j hq hj => ?_⟩
                      unfold put
                      by_cases e : q = r
                      · subst e; rw [if_pos rfl, if_pos (by omega)]
                      · rw [if_neg e, hT4.out q j hq hj]
                        by_cases e2 : q < r ∨ q = d
                        · rw [if_pos e2, if_pos (by omega)]
                        · rw [if_neg e2, if_neg (by omega)]
                    have m1 : G - (r + 1) < G - r := by omega
                    have m2 : r + 1 ≤ G := by omega
                    clear hT4 y0 y1 HA e3 ha hf HF
                    go_wp2
                    go_region_law (first
                      | (go_simp; go_at_call 146; refine (HPl.out _ (drewB _)).mono ?_; rintro e w4 ⟨g5, c5, rfl, hg5, hb5, hO5⟩; have hO6 := hR4.out.own.kept ((drewB _).trans hb5); have z6 := hO6.frozen r; have z7 := hO6.cell hrl))
                    all_goals go_wp2
                    all_goals go_roundg (G - (r + 1))
                    all_goals first
                      | exact m1
                      | exact ⟨r + 1, m2, rfl, by go_num, HEnd.out _ _ _ hb5 hg5 hO5⟩
                · obtain rfl : r = G := by omega
                  go_wp2
                  go_roundg (n - (k + 1))
                  case measure => omega
                  case rel =>
                    exact ⟨k + 1, by omega, rfl, by go_num, _, d + 1, R4, C4, hk1.out, by go_num, by omega, hb4.out, hR4.out.congr fun i j hi hj => (hT4.out i j hi hj).trans (if_pos (Or.inl hi))⟩
          · obtain rfl : j = G := by omega
            have hk1 : Hid (bSt p j T (k + 1) = (S, d)) := bSt_stay hQ.out (by rw [hf.out, Nat.sub_self]; rfl)
            go_wp2
            go_roundg (n - (k + 1))
            case measure => omega
            case rel => exact ⟨k + 1, by omega, rfl, by go_num, S, d, R, C, hk1.out, rfl, by omega, hb.out, hR.out⟩
      · obtain rfl : k = n := by omega
        have e := HD.out
        rw [hQ.out] at e
        subst e
        go_wp2
        go_ret
        exact ⟨gg, cc, rfl, hb.out, hR.out.otab.short hdG⟩

end Go.Proofs.Ytnkflgigbielgaa
