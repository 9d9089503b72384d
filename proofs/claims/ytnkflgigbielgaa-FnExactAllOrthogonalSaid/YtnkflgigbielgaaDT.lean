/-
  The laws' size of a table, from any number left. No condition beside sizes.
-/
import Derived.Test.YtnkflgigbielgaaDW
set_option linter.unusedVariables false
set_option linter.unusedSimpArgs false
namespace Go.Proofs.Ytnkflgigbielgaa
open Go.RowKit

set_option maxHeartbeats 400000 in
theorem szT_c (v : Value) (G : Nat) (L : Nat → Nat) (T : Nat → Nat → Int) (l0 : Int) (w : World) (h : Tab w v G L T) (hl0 : 0 ≤ l0) (hl1 : l0 ≤ 1048576) :
    Calls Try.prog 43 #[v, .int .i64 l0] w fun e w' => e = .returned (.int .i64 (szP l0 (G + sumL L G))) ∧ w = w' := by
  obtain ⟨ao, c, b, o, A, C, RB, RO, rfl, h2, h3, h4, h5, h6, h7, h8⟩ := h.out
  clear h7 h8 h
  have mono : ∀ k d, sumL L k ≤ sumL L (k + d) := fun k d => by
    induction d with
    | zero => exact Nat.le_refl _
    | succ d ih => have e : sumL L (k + (d + 1)) = sumL L (k + d) + L (k + d) := rfl; omega
  have Hm := Lib.hid mono; clear mono
  by_cases hG : (G : Int) ≤ l0
  · go_enter Try.func43, Try.ntmps43
    go_wp2
    go_loopg [1, 5] G (fun g l i wr => wr = w ∧ ∃ k : Nat, k ≤ G ∧ g = G - k ∧ i = .int .i64 k ∧ ((G + sumL L k : Nat) : Int) ≤ l0 ∧ l = .int .i64 (l0 - ((G + sumL L k : Nat) : Int)))
    case atStart => exact ⟨rfl, 0, Nat.zero_le _, rfl, rfl, by simp [sumL]; omega, by simp [sumL]⟩
    case round =>
      obtain ⟨rfl, k, hk, rfl, rfl, hs, rfl⟩ := hrel
      by_cases hlt : k < G
      · obtain rfl := h4 (by omega)
        have hC := h6 k hlt
        have Hs : Hid (sumL L (k + 1) = sumL L k + L k) := rfl
        go_wp2_with (go_at_call 103; refine (szInt64S_c _ _ _ _ _ (by omega) (by omega) (by omega)).mono ?_; rintro e w' ⟨rfl, rfl⟩)
        · go_ret
          have h1 : szP (l0 - (↑G + ↑(sumL L k))) (L k) < 0 := by assumption
          have h2 := Hm.out (k + 1) (G - (k + 1))
          rw [show k + 1 + (G - (k + 1)) = G by omega] at h2
          have h3 := Hs.out
          exact ⟨ret_i64 (by unfold szP at *; split at h1 <;> split <;> omega), rfl⟩
        · have h1 : 0 ≤ szP (l0 - (↑G + ↑(sumL L k))) (L k) := by assumption
          have h3 := Hs.out
          go_roundg (G - (k + 1))
          case measure => omega
          case rel => exact ⟨rfl, k + 1, by omega, rfl, by go_num, by unfold szP at h1; split at h1 <;> omega, by congr 1; unfold szP at *; split at h1 <;> split <;> omega⟩
      · obtain rfl : k = G := by omega
        go_wp2
        go_ret
        exact ⟨ret_i64 (by unfold szP; split <;> omega), rfl⟩
  · go_enter Try.func43, Try.ntmps43
    go_wp2
    go_ret
    exact ⟨ret_i64 (by unfold szP; split <;> omega), rfl⟩

theorem szP_range {n : Nat} (h : n ≤ 1048576) : 0 ≤ szP 1048576 n ∧ szP 1048576 n ≤ 1048576 := by unfold szP; split <;> omega
theorem szP_room {l : Int} {t : Nat} (hl : l ≤ 1048576) (h : 0 ≤ szP l t) : t ≤ 1048576 := by unfold szP at h; split at h <;> omega

set_option maxHeartbeats 400000 in
theorem markT_c2 (B M g cap G : Nat) (L : Nat → Nat) (T : Nat → Nat → Int) (k : Int) (w : World) (h : OTabM w B M g cap G L T) (h0 : 0 ≤ k) (hk : k ≤ 1073741824) (hG : G ≤ 1048576) (hn : sumL L G ≤ 1048576) :
    Calls Try.prog 53 #[.slice (some ⟨g, 0, none⟩) G cap, .int .i64 k] w fun e w' => e = .returned (.int .i64 (k + sumL L G)) ∧ Chg w w' (fun b => B ≤ b ∧ b < M) ∧ OTabM w' B M g cap G L (markT k L) := by
  obtain ⟨R, C, h1, h2, h3, h4⟩ := h.out
  have hle := h1.le
  have hmax := h1.max
  have H3 := Lib.hid h3
  have H4 := Lib.hid h4
  clear h h3 h4
  go_enter Try.func53, Try.ntmps53
  go_wp2
  go_loopg [1, 5] G (fun gg q i wr => ∃ j : Nat, j ≤ G ∧ gg = G - j ∧ i = .int .i64 j ∧ q = .int .i64 (k + sumL L j) ∧ Chg w wr (fun b => ∃ i, i < G ∧ R i = b) ∧ ∀ i, i < G → Own wr 2 (R i) (C i) (L i) (fun x => .int .i64 (if i < j then markT k L i x else T i x)))
  case atStart => exact ⟨0, Nat.zero_le _, rfl, rfl, by simp [sumL], Chg.refl _ _, fun i hi => (H3.out i hi).1.congr fun x _ => by simp⟩
  case round =>
    obtain ⟨j, hj, rfl, rfl, rfl, hc, hO⟩ := hrel
    have HO := Lib.hid hO; clear hO
    have hT : Own wr 24 g cap G (fun i => .slice (some ⟨R i, 0, none⟩) (L i) (C i)) := hc.own h1 (fun ⟨i, hi, e⟩ => (H3.out i hi).2.2 e)
    by_cases hlt : j < G
    · have hu := hT.cell hlt
      have hs1 := sumL_row (L := L) hlt
      have hs2 := sumL_le (L := L) (show j ≤ G by omega)
      have hs3 : Hid (sumL L (j + 1) = sumL L j + L j) := rfl
      go_wp2_with fail
      refine (markInt64S_c _ _ _ _ _ _ (HO.out j hlt) (by omega) (by omega) (by omega)).mono ?_
      rintro e w1 ⟨rfl, hc1, hO1⟩
      clear hu hT
      go_wp2
      go_roundg (G - (j + 1))
      case measure => omega
      case rel =>
        refine ⟨j + 1, by omega, rfl, by go_num, by rw [hs3.out]; congr 1; simp; omega, hc.trans (hc1.mono fun b e => ⟨j, hlt, e.symm⟩), fun i hi => ?_⟩
        by_cases e : i = j
        · subst e
          exact hO1.congr fun x _ => by simp [markT]
        · have hne : R i ≠ R j := by
            rcases Nat.lt_or_ge i j with h | h
            · exact fun e2 => H4.out j i hlt h e2.symm
            · exact H4.out i j hi (by omega)
          refine (hc1.own (HO.out i hi) hne).congr fun x _ => ?_
          by_cases e2 : i < j
          · rw [if_pos e2, if_pos (by omega)]
          · rw [if_neg e2, if_neg (by omega)]
    · obtain rfl : j = G := by omega
      clear hT
      go_wp2
      go_ret
      have hS : ∀ b, (∃ i, i < j ∧ R i = b) → B ≤ b ∧ b < M := fun b ⟨i, hi, e⟩ => e ▸ (H3.out i hi).2.1
      refine ⟨rfl, hc.mono hS, ⟨R, C, hc.own h1 (fun ⟨i, hi, e⟩ => (H3.out i hi).2.2 e), h2, fun i hi => ⟨(HO.out i hi).congr fun x _ => by simp [hi], (H3.out i hi).2⟩, H4.out⟩⟩

theorem markT_o2 (a : Option Addr) (B U c G : Nat) (L : Nat → Nat) (T : Nat → Nat → Int) (k : Int) (w : World) (h : OT w B U a c G L T) (h0 : 0 ≤ k) (hk : k ≤ 1073741824) (hG : G ≤ 1048576) (hn : sumL L G ≤ 1048576) :
    Calls Try.prog 53 #[.slice a G c, .int .i64 k] w fun e w' => e = .returned (.int .i64 (k + sumL L G)) ∧ Chg w w' (IV B U) ∧ OT w' B U a c G L (markT k L) := by
  rcases h.out with ⟨rfl, rfl, rfl⟩ | ⟨g, rfl, hO⟩
  · exact (markT_nil k w).mono fun e w' h => ⟨by rw [h.1]; simp [sumL], by rw [← h.2]; exact Chg.refl _ _, ⟨Or.inl ⟨rfl, rfl, rfl⟩⟩⟩
  · exact (markT_c2 B U g c G L T k w hO h0 hk hG hn).mono fun e w' h => ⟨h.1, h.2.1, ⟨Or.inr ⟨g, rfl, h.2.2⟩⟩⟩

end Go.Proofs.Ytnkflgigbielgaa
