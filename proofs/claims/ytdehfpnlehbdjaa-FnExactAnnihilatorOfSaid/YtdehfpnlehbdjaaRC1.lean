/-
  A list put into reduced rows, by the reference; the first place with a number, in both programs. No condition beside sizes.
-/
import Derived.Test.YtdehfpnlehbdjaaRB1
import Derived.Test.YtdehfpnlehbdjaaQJ
import Derived.Deep.DeepMust
set_option linter.unusedVariables false
set_option linter.unusedSimpArgs false
namespace Go.Proofs.Ytdehfpnlehbdjaa
open Go.RowKit

set_option maxRecDepth 100000 in
set_option maxHeartbeats 1000000 in
theorem iLead_c (v : Value) (n : Nat) (X : Nat → Int) (w : World) (h : Ints w v n X) (hn : n ≤ 1048576) :
    Calls Try.prog 68 #[v] w fun e w' => e = .returned (.int .i64 (ldd n X)) ∧ w = w' := by
  obtain ⟨ao, c, b, o, rfl, p2, p3, p4, p5⟩ := h.out
  have P5 := Lib.hid p5
  clear h p5
  go_enter Try.func68, Try.ntmps68
  go_wp2
  go_loopg [3] n (fun g i wr => wr = w ∧ ∃ j : Nat, j ≤ n ∧ g = n - j ∧ i = .int .i64 j ∧ Hid (∀ q, q < j → X q = 0))
  case atStart => exact ⟨rfl, 0, Nat.zero_le _, rfl, rfl, fun q hq => absurd hq (Nat.not_lt_zero _)⟩
  case round =>
    obtain ⟨rfl, j, hj, rfl, rfl, hz⟩ := hrel
    by_cases hlt : j < n
    · obtain rfl := p4 (by omega)
      obtain ⟨y, hy⟩ : ∃ y, X j = y := ⟨_, rfl⟩
      have e1 := P5.out j hlt
      rw [hy] at e1
      have HY := Lib.hid hy
      clear hy
      by_cases hy0 : y = 0
      · subst hy0
        go_wp2
        go_roundg (n - (j + 1))
        case measure => omega
        case rel => exact ⟨rfl, j + 1, by omega, rfl, by go_num, fun q hq => by
          by_cases e : q = j
          · rw [e]; exact HY.out
          · exact hz.out q (by omega)⟩
      · have hd0 : decide (y = 0) = false := decide_eq_false hy0
        go_wp2
        go_ret
        exact ⟨ret_i64 (by rw [ldd_at hlt hz.out (by rw [HY.out]; exact hy0)]), rfl⟩
    · obtain rfl : j = n := by omega
      go_wp2
      go_ret
      exact ⟨ret_i64 (by unfold ldd; rw [fst_none fun k hk => by simp [hz.out k hk]]), rfl⟩

set_option maxRecDepth 100000 in
set_option maxHeartbeats 1000000 in
theorem sFst_c (v : Value) (n : Nat) (X : Nat → Int) (w : World) (h : Ints w v n X) (hn : n ≤ 1048576) :
    Calls Try.prog 33 #[v] w fun e w' => e = .returned (.int .i64 (ldd n X)) ∧ w = w' := by
  obtain ⟨ao, c, b, o, rfl, p2, p3, p4, p5⟩ := h.out
  have P5 := Lib.hid p5
  clear h p5
  go_enter Try.func33, Try.ntmps33
  go_wp2
  go_loopg [3] n (fun g i wr => wr = w ∧ ∃ j : Nat, j ≤ n ∧ g = n - j ∧ i = .int .i64 j ∧ Hid (∀ q, q < j → X q = 0))
  case atStart => exact ⟨rfl, 0, Nat.zero_le _, rfl, rfl, fun q hq => absurd hq (Nat.not_lt_zero _)⟩
  case round =>
    obtain ⟨rfl, j, hj, rfl, rfl, hz⟩ := hrel
    by_cases hlt : j < n
    · obtain rfl := p4 (by omega)
      obtain ⟨y, hy⟩ : ∃ y, X j = y := ⟨_, rfl⟩
      have e1 := P5.out j hlt
      rw [hy] at e1
      have HY := Lib.hid hy
      clear hy
      by_cases hy0 : y = 0
      · subst hy0
        go_wp2
        go_roundg (n - (j + 1))
        case measure => omega
        case rel => exact ⟨rfl, j + 1, by omega, rfl, by go_num, fun q hq => by
          by_cases e : q = j
          · rw [e]; exact HY.out
          · exact hz.out q (by omega)⟩
      · have hd0 : decide (y = 0) = false := decide_eq_false hy0
        go_wp2
        go_ret
        exact ⟨ret_i64 (by rw [ldd_at hlt hz.out (by rw [HY.out]; exact hy0)]), rfl⟩
    · obtain rfl : j = n := by omega
      go_wp2
      go_ret
      exact ⟨ret_i64 (by unfold ldd; rw [fst_none fun k hk => by simp [hz.out k hk]]), rfl⟩

set_option maxRecDepth 100000 in
set_option maxHeartbeats 2000000 in
theorem sRest_c (p : Int) (rv v : Value) (d n : Nat) (T : Nat → Nat → Int) (X : Nat → Int) (w : World) (hr : Tab w rv d (fun _ => n) T) (hv : Ints w v n X) (hn : 1 ≤ n ∧ n ≤ 1048576) (hd : d ≤ 1048576) (hp : 3 ≤ p ∧ p ≤ 13) (hT : RowsIn p d n T) (hX : InP p n X) (hl : ∀ i, i < d → ldd n (T i) < n) :
    Calls Try.prog 70 #[.int .i64 p, rv, v] w fun e w' => CopyI w w' e n (rsF p T (fun i => ldd n (T i)) X d) := by
  have hOwn := sOwnI_c v n X w hv hn.1 hn.2
  have hin : Hid (∀ k, InP p n (rsF p T (fun i => ldd n (T i)) X k)) := fun k => by
    cases k with
    | zero => exact hX
    | succ k => exact elm_in (by omega) _ _ _ _
  obtain ⟨ao, c, b, o, A, C, RB, RO, rfl, p2, p3, p4, p5, p6, p7, p8⟩ := hr.out
  have HR : Hid (∀ i, i < d → Ints w (.slice (A i) n (C i)) n (T i)) := fun i hi => Tab.rowAt (L := fun _ => n) p6 p7 p8 hi
  have P5 := Lib.hid p5
  have HT := Lib.hid hT
  have HL := Lib.hid hl
  have HO := Lib.hid hOwn
  clear hr hv p5 p6 p7 p8 hOwn hT hl
  go_enter Try.func70, Try.ntmps70
  go_wp2_with fail
  go_at_call 93
  refine HO.out.mono ?_
  rintro e w1 ⟨g1, c1, rfl, hg1, hb1, hO1⟩
  have HB1 := Lib.hid hb1
  have HO1 := Lib.hid hO1
  clear hb1 hO1
  go_wp2_with fail
  go_loopg [7, 8] d (fun g s i wr => ∃ k : Nat, k ≤ d ∧ g = d - k ∧ i = .int .i64 k ∧ ∃ gs cs, s = .slice (some ⟨gs, 0, none⟩) n cs ∧ w.heap.size ≤ gs ∧ Hid (Below w.heap.size w wr) ∧ Hid (Own wr 2 gs cs n (fun j => .int .i64 (rsF p T (fun i => ldd n (T i)) X k j))))
  case atStart => exact ⟨0, Nat.zero_le _, rfl, rfl, g1, c1, rfl, hg1, HB1.out, HO1.out⟩
  case round =>
    obtain ⟨k, hk, rfl, rfl, gs, cs, rfl, hgs, hb, hO⟩ := hrel
    clear HB1 HO1
    by_cases hkd : k < d
    · obtain rfl := p4 (by omega)
      have e1 : wr.cell? ⟨b, o + k, none⟩ = some (.slice (A k) n (C k)) := by rw [hb.out.cell (p := ⟨b, o + k, none⟩) (lt_of_cell (P5.out k hkd))]; exact P5.out k hkd
      have hrow : Hid (Ints wr (.slice (A k) n (C k)) n (T k)) := (HR.out k hkd).below hb.out
      have hlk := HL.out k hkd
      obtain ⟨q, hq⟩ : ∃ q, ldd n (T k) = q := ⟨_, rfl⟩
      rw [hq] at hlk
      have HF : Hid (Calls Try.prog 33 #[.slice (A k) n (C k)] wr fun e w' => e = .returned (.int .i64 ((q : Nat) : Int)) ∧ wr = w') := by
        have h := sFst_c _ n (T k) wr hrow.out (by omega)
        rw [hq] at h
        exact h
      obtain ⟨R, hR⟩ : ∃ R, rsF p T (fun i => ldd n (T i)) X k = R := ⟨_, rfl⟩
      have hRs : Hid (rsF p T (fun i => ldd n (T i)) X (k + 1) = elm p R (T k) (-(R q))) := by
        show elm p (rsF p T (fun i => ldd n (T i)) X k) (T k) (-(rsF p T (fun i => ldd n (T i)) X k (ldd n (T k)))) = _
        rw [hR, hq]
      have hRin : Hid (InP p n R) := by rw [← hR]; exact hin.out k
      rw [hR] at hO
      obtain ⟨a, ha⟩ : ∃ a, R q = a := ⟨_, rfl⟩
      have e2 := hO.out.cell hlk
      have hab := hRin.out q hlk
      rw [ha] at e2 hab
      have HA := Lib.hid ha
      have i0 : (0 : Int) ≤ (k : Int) := by omega
      have i1 : (k : Int) < (d : Int) := by omega
      have i2 : (0 : Int) ≤ (q : Int) := by omega
      have i3 : (q : Int) < (n : Int) := by omega
      clear ha hq hR
      by_cases ha0 : a = 0
      · subst ha0
        go_wp2_with (first
          | (go_at_call 33; refine HF.out.mono ?_; rintro e w' ⟨rfl, rfl⟩))
        go_roundg (d - (k + 1))
        case measure => omega
        case rel => exact ⟨k + 1, by omega, rfl, by go_num, gs, cs, rfl, hgs, hb.out, hO.out.congr fun j hj => by rw [hRs.out, HA.out, elm_zero hRin.out hj]⟩
      · have hd0 : decide (a = 0) = false := decide_eq_false ha0
        have HSc : Hid (∀ W, Below wr.heap.size wr W → Calls Try.prog 71 #[.int .i64 p, .int .i64 a, .slice (A k) n (C k)] W fun e w' => CopyI W w' e n (fun j => (a * T k j) % p)) := fun W hbb =>
          sScale_c p _ n (T k) a W (hrow.out.below hbb) (by omega) (by omega) (by omega) (fun i hi => by have := HT.out k hkd i hi; omega) (by omega)
        have HMi : Hid (∀ (W : World) (v2 : Value), Below wr.heap.size wr W → Ints W v2 n (fun j => (a * T k j) % p) → Calls Try.prog 61 #[.int .i64 p, .slice (some ⟨gs, 0, none⟩) n cs, v2] W fun e w' => CopyI W w' e n (rsF p T (fun i => ldd n (T i)) X (k + 1))) := fun W v2 hbb hv2 => by
          refine (sMinus_c p _ _ n R _ W (hO.out.ints.below hbb) hv2 (by omega) (by omega) (by omega) (fun i hi => by have := hRin.out i hi; omega) (fun i hi => by have := mod_bd (a * T k i) p (by omega); show -1000 ≤ (a * T k i) % p ∧ (a * T k i) % p ≤ 1000; omega)).mono fun e w' h => ?_
          obtain ⟨g, c, q1, q2, q3, q4⟩ := h
          exact ⟨g, c, q1, q2, q3, q4.congr fun j hj => by
            rw [hRs.out, HA.out]
            congr 1
            refine Cg.eq (p := p) ((Cg.mod p _).trans (Cg.trans ?_ (Cg.mod' p _))) (mod_bd _ _ (by omega)) (mod_bd _ _ (by omega))
            refine ((Cg.rfl' p (R j)).add ((Cg.rfl' p (-1)).mul (Cg.mod p _))).trans (Cg.of_eq ?_)
            grind⟩
        clear hRs
        go_wp2_with (first
          | (go_at_call 33; refine HF.out.mono ?_; rintro e w' ⟨rfl, rfl⟩)
          | (go_at_call 71; refine (HSc.out _ (Below.refl _ _)).mono ?_; rintro e w2 ⟨g2, c2, rfl, hg2, hb2, hO2⟩)
          | (go_at_call 61; refine (HMi.out _ _ hb2 hO2.ints).mono ?_; rintro e w3 ⟨g3, c3, rfl, hg3, hb3, hO3⟩))
        go_roundg (d - (k + 1))
        case measure => omega
        case rel =>
          have s0 := hb.out.size
          have s2 := hb2.size
          exact ⟨k + 1, by omega, rfl, by go_num, g3, c3, rfl, by omega, (hb.out.trans (hb2.mono s0)).trans (hb3.mono (by omega)), hO3⟩
    · obtain rfl : k = d := by omega
      go_wp2
      go_ret
      exact ⟨gs, cs, rfl, hgs, hb.out, hO.out⟩

end Go.Proofs.Ytdehfpnlehbdjaa
