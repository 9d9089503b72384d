/-
  DoublePower, in both programs. No condition beside sizes.
-/
import Derived.Test.YtnnacligfoonbaaD28
import Derived.Test.YtnnacligfoonbaaD26
set_option linter.unusedVariables false
set_option linter.unusedSimpArgs false
namespace Go.Proofs.Ytnnacligfoonbaa
open Go.RowKit

/-- powers -/
def powE (p : Int) (s : Nat → Int) (n : Nat) (X : Nat → Int) : Nat → Nat → Int
  | 0 => dlt 0
  | k + 1 => mulF p s n (powE p s n X k) X

set_option maxRecDepth 100000 in
set_option maxHeartbeats 2000000 in
theorem iDoublePower_c (p : Int) (sv : Value) (n : Nat) (s : Nat → Int) (xv : Value) (nx : Nat) (X : Nat → Int) (k : Int) (w : World)
    (h : Ints w sv n s) (hx : Ints w xv nx X) :
    Calls Try.prog 40 #[dbl p sv, xv, .int .i64 k] w fun e w' => ResC w w' e ((thenC (codeE (dblB p n s) p n 1 (fun _ => nx) (fun _ => X)) (!inB k 0 1000) 2)) n (powE p s n X k.toNat) := by
  have h' := h
  obtain ⟨ao, c, _, _, rfl, qh⟩ := h.out
  clear qh
  obtain ⟨xa, xc, _, _, rfl, qx⟩ := hx.out
  clear qx
  have BX := Lib.hid (box0 w p ao n c 26)
  have b0 := BX.out.2.2.2
  have BL : Hid (Below w.heap.size w ((w.alloc (.cells #[.int .i64 p, .slice ao n c] 26)).alloc (.cells #[.slice xa nx xc] 24))) := b0.alloc b0.size _
  have ht := list1 24 (hx.below b0)
  rw [show (w.alloc (.cells #[.int .i64 p, .slice ao n c] 26)).heap.size = w.heap.size + 1 by simp] at ht
  have HT := Lib.hid ht
  clear ht
  have bA : Below (w.alloc (.cells #[.int .i64 p, .slice ao n c] 26)).heap.size (w.alloc (.cells #[.int .i64 p, .slice ao n c] 26)) ((w.alloc (.cells #[.int .i64 p, .slice ao n c] 26)).alloc (.cells #[.slice xa nx xc] 24)) := (Below.refl _ _).alloc (Nat.le_refl _) _
  have BXA := Lib.hid (boxKeep bA BX.out)
  obtain ⟨e0, e1, e2, e3⟩ := BX.out
  obtain ⟨cc, hcc⟩ : ∃ cc, codeE (dblB p n s) p n 1 (fun _ => nx) (fun _ => X) = cc := ⟨_, rfl⟩
  by_cases h0 : cc = 0
  · obtain ⟨hok, hel⟩ := codeE_zero (hcc.trans h0)
    have hv := dv_of h' hok
    obtain ⟨l0, x0⟩ := elemB_el hx (hel 0 (by omega))
    have HV : Hid (∀ W, Below w.heap.size w W → DV W (.slice ao n c) p n s) := fun W hb => hv.below hb
    have HX : Hid (∀ W, Below w.heap.size w W → El W (.slice xa nx xc) p n X) := fun W hb => x0.below hb
    have HOK := Lib.hid hok
    have HC := Lib.hid hcc
    have H' := Lib.hid h'
    obtain ⟨_, hp1, hp2, hn4, _⟩ := hv
    have hp16 := pow_le hn4
    have hpb := primeB_bd (dblB_ok hok).prime
    have hM0 : 0 < 2 ^ n := Nat.pos_of_ne_zero (by simp)
    have CE : Hid (∀ W, Below w.heap.size w W → Calls Try.prog 99 #[dbl p (.slice ao n c), .int .i64 0] W fun e w' => MakesE W w' e p n (dlt 0)) := fun W hb => iElem_c p _ n s 0 W (HV.out W hb) (by omega) hM0
    clear h hx x0 hel bA h' l0 hok
    subst h0
    go_enter Try.func40, Try.ntmps40
    go_wp2_with fail
    go_at_call 83
    refine Calls.makes' (iCheckE_c p _ _ n 1 s _ _ _ (H'.out.below BL.out) HT.out) _ fun w1 hb1 => ?_
    rw [HC.out]
    obtain ⟨f0, f1, f2, f3⟩ := boxKeep hb1 BXA.out
    clear e0 e1 e2 e3
    have BXr := Lib.hid (show BoxD w p ao n c w1 from ⟨f0, f1, f2, f3⟩)
    by_cases hk : 0 ≤ k ∧ k ≤ 1000
    · have hin : inB k 0 1000 = true := decide_eq_true hk
      have CIN : Hid (∀ W, Calls Try.prog 100 #[.int .i64 k, .int .i64 0, .int .i64 1000] W fun e w' => e = .returned (.bool true) ∧ W = w') := fun W => hin ▸ iIn_c _ _ _ W
      have ec : (thenC (codeE (dblB p n s) p n 1 (fun _ => nx) (fun _ => X)) (!inB k 0 1000) 2) = 0 := by unfold thenC; rw [HC.out, if_pos rfl, hin]; rfl
      have EC := Lib.hid ec
      clear hin ec
      obtain ⟨K, rfl⟩ := Int.eq_ofNat_of_zero_le hk.1
      have hK : K ≤ 1000 := by omega
      clear hk
      go_wp2_with (first | (go_at_call 100; refine (CIN.out _).mono ?_; rintro e w' ⟨rfl, rfl⟩) | (go_at_call 99; refine (CE.out _ f3).mono ?_; rintro e w2 ⟨g2, c2, rfl, hg2, hb2, hO2, hE2⟩))
      go_loopg [9, 23] K (fun g o i wr => ∃ j : Nat, j ≤ K ∧ g = K - j ∧ i = .int .i64 j ∧ BoxD w p ao n c wr ∧ ∃ g2 c2, o = .slice (some ⟨g2, 0, none⟩) (2 ^ n) c2 ∧ w.heap.size ≤ g2 ∧ Own wr 2 g2 c2 (2 ^ n) (fun i => .int .i64 (powE p s n X j i)) ∧ El wr (.slice (some ⟨g2, 0, none⟩) (2 ^ n) c2) p n (powE p s n X j))
      case atStart => exact ⟨0, Nat.zero_le _, rfl, rfl, boxKeep hb2 BXr.out, g2, c2, rfl, by have := f3.size; omega, hO2, hE2⟩
      case round =>
        obtain ⟨j, hj, rfl, rfl, ⟨k0, k1, k2, k3⟩, g3, c3, rfl, hg3, hO3, hE3⟩ := hrel
        have BX3 := Lib.hid (show BoxD w p ao n c wr from ⟨k0, k1, k2, k3⟩)
        clear f0 f1
        by_cases hlt : j < K
        · go_wp2_with fail
          go_at_call 91
          refine (iTimes_c p _ _ _ n s _ X _ (HV.out _ k3) hE3 (HX.out _ k3)).mono ?_
          rintro e w4 ⟨g4, c4, rfl, hg4, hb4, hO4, hE4⟩
          go_wp2
          go_roundg (K - (j + 1))
          case measure => omega
          case rel => exact ⟨j + 1, by omega, rfl, by go_num, boxKeep hb4 BX3.out, g4, c4, rfl, by have := k3.size; omega, hO4, hE4⟩
        · obtain rfl : j = K := by omega
          go_wp2
          go_ret2
          exact ⟨k3, Or.inl ⟨EC.out, g3, c3, rfl, hg3, hO3⟩⟩
    · have hin : inB k 0 1000 = false := decide_eq_false hk
      have CIN : Hid (∀ W, Calls Try.prog 100 #[.int .i64 k, .int .i64 0, .int .i64 1000] W fun e w' => e = .returned (.bool false) ∧ W = w') := fun W => hin ▸ iIn_c _ _ _ W
      have ec : (thenC (codeE (dblB p n s) p n 1 (fun _ => nx) (fun _ => X)) (!inB k 0 1000) 2) = 2 := by unfold thenC; rw [HC.out, if_pos rfl, hin]; rfl
      have EC := Lib.hid ec
      clear hin ec hk
      go_wp2_with (go_at_call 100; refine (CIN.out _).mono ?_; rintro e w' ⟨rfl, rfl⟩)
      go_ret2
      exact ⟨f3, Or.inr ⟨by rw [EC.out]; decide, by rw [EC.out]; rfl⟩⟩
  · have HC := Lib.hid hcc
    have H' := Lib.hid h'
    have hne : (cc != 0) = true := by rw [bne_iff_ne]; exact h0
    clear h hx bA h'
    go_enter Try.func40, Try.ntmps40
    go_wp2_with fail
    go_at_call 83
    refine Calls.makes' (iCheckE_c p _ _ n 1 s _ _ _ (H'.out.below BL.out) HT.out) _ fun w1 hb1 => ?_
    rw [HC.out]
    go_wp2
    go_ret2
    exact ⟨BL.out.trans (hb1.mono BL.out.size), Or.inr ⟨by unfold thenC; rw [HC.out, if_neg h0]; exact h0, by unfold thenC; rw [HC.out, if_neg h0]; rfl⟩⟩


end Go.Proofs.Ytnnacligfoonbaa
