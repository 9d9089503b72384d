/-
  l12Reduced: the lists of a table put in one by one, by the reference. No condition beside sizes.
-/
import Derived.Test.YtdehfpnlehbdjaaRC5
set_option linter.unusedVariables false
set_option linter.unusedSimpArgs false
namespace Go.Proofs.Ytdehfpnlehbdjaa
open Go.RowKit

set_option maxRecDepth 100000 in
set_option maxHeartbeats 1000000 in
theorem sReduced_c (p : Int) (v : Value) (G n : Nat) (T : Nat → Nat → Int) (w : World) (h : Tab w v G (fun _ => n) T) (hn : 1 ≤ n ∧ n ≤ 1000) (hG : G ≤ 1048576) (hpr : primeB p = true) (hT : RowsIn p G n T) :
    Calls Try.prog 39 #[.int .i64 p, v] w fun e w' => CopyT w w' e (putA p n T G).2 (fun _ => n) (putA p n T G).1 := by
  obtain ⟨ao, c, b, o, A, C, RB, RO, rfl, p2, p3, p4, p5, p6, p7, p8⟩ := h.out
  have HR : Hid (∀ i, i < G → Ints w (.slice (A i) n (C i)) n (T i)) := fun i hi => Tab.rowAt (L := fun _ => n) p6 p7 p8 hi
  have P5 := Lib.hid p5
  have HTI := Lib.hid hT
  clear h p5 p6 p7 p8 hT
  have ba : Below w.heap.size w (w.alloc (.cells #[] 22)) := (Below.refl _ _).alloc (Nat.le_refl _) _
  have hT0 : Hid (OTab (w.alloc (.cells #[] 22)) w.heap.size w.heap.size 0 (putA p n T 0).2 (fun _ => n) (putA p n T 0).1) := (OTab.empty w).congr (fun i hi => absurd hi (Nat.not_lt_zero _)) (fun i j hi => absurd hi (Nat.not_lt_zero _))
  have BA := Lib.hid ba
  clear ba
  go_enter Try.func39, Try.ntmps39
  go_wp2_with fail
  go_loopg [5, 6] G (fun g s i wr => ∃ k : Nat, k ≤ G ∧ g = G - k ∧ i = .int .i64 k ∧ ∃ g' c', s = .slice (some ⟨g', 0, none⟩) (putA p n T k).2 c' ∧ Hid (Below w.heap.size w wr) ∧ Hid (OTab wr w.heap.size g' c' (putA p n T k).2 (fun _ => n) (putA p n T k).1))
  case atStart => exact ⟨0, Nat.zero_le _, rfl, rfl, _, _, rfl, BA.out, hT0.out⟩
  case round =>
    obtain ⟨k, hk, rfl, rfl, g', c', rfl, hb, hO⟩ := hrel
    clear BA hT0
    by_cases hlt : k < G
    · obtain rfl := p4 (by omega)
      have y1 : wr.cell? ⟨b, o + k, none⟩ = some (.slice (A k) n (C k)) := by rw [hb.out.cell (p := ⟨b, o + k, none⟩) (lt_of_cell (P5.out k hlt))]; exact P5.out k hlt
      have hred := (putA_of hpr (G := k) (T := T) (n := n) (fun r hr => HTI.out r (by omega))).red
      have hput : Hid (Calls Try.prog 41 #[.int .i64 p, .slice (some ⟨g', 0, none⟩) (putA p n T k).2 c', .slice (A k) n (C k)] wr fun e w' => ∃ g2 c2, e = .returned (.slice (some ⟨g2, 0, none⟩) (putA p n T (k + 1)).2 c2) ∧ Below wr.heap.size wr w' ∧ OTab w' w.heap.size g2 c2 (putA p n T (k + 1)).2 (fun _ => n) (putA p n T (k + 1)).1) :=
        sPut_c p g' c' (putA p n T k).2 n w.heap.size (putA p n T k).1 _ (T k) wr hO.out hb.out.size ((HR.out k hlt).below hb.out) hn hpr (HTI.out k hlt) hred
      obtain ⟨d1, hd1⟩ : ∃ d1, (putA p n T k).2 = d1 := ⟨_, rfl⟩
      obtain ⟨d2, hd2⟩ : ∃ d2, (putA p n T (k + 1)).2 = d2 := ⟨_, rfl⟩
      rw [hd1, hd2] at hput
      have HD2 := Lib.hid hd2
      clear hred
      rw [hd1]
      clear hd1 hd2
      go_wp2_with (first | (go_at_call 41; refine hput.out.mono ?_; rintro e w4 ⟨g4, c4, rfl, hb4, hO4⟩))
      go_roundg (G - (k + 1))
      case measure => omega
      case rel => exact ⟨k + 1, by omega, rfl, by go_num, g4, c4, by rw [HD2.out], hb.out.trans (hb4.mono hb.out.size), by rw [HD2.out]; exact hO4⟩
    · obtain rfl : k = G := by omega
      go_wp2
      go_ret
      exact ⟨g', c', rfl, hb.out, hO.out⟩

end Go.Proofs.Ytdehfpnlehbdjaa
