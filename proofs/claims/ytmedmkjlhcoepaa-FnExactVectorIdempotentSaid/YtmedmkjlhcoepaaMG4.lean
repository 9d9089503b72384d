/-
  Grades by the reference: the list, whether two lists are the same. No condition beside sizes.
-/
import Derived.Test.YtmedmkjlhcoepaaMG2
import Derived.Test.YtmedmkjlhcoepaaMG3
import Derived.Deep.DeepMust
set_option linter.unusedVariables false
set_option linter.unusedSimpArgs false
namespace Go.Proofs.Ytmedmkjlhcoepaa
open Go.RowKit

set_option maxRecDepth 100000 in
set_option maxHeartbeats 1000000 in
/-- whether a list has a number other than 0 -/
theorem sFirstS_c (v : Value) (n : Nat) (X : Nat → Int) (w : World) (h : Ints w v n X) (hn : n ≤ 1048576) :
    Calls Try.prog 128 #[v] w fun e w' => ∃ x : Int, e = .returned (.int .i64 x) ∧ w = w' ∧ -1 ≤ x ∧ x ≤ 1048576 ∧ (0 ≤ x ↔ ∃ m, m < n ∧ X m ≠ 0) := by
  obtain ⟨ao, c, b, o, rfl, p2, p3, p4, p5⟩ := h.out
  have P5 := Lib.hid p5
  clear h p5
  go_enter Try.func128, Try.ntmps128
  go_wp2
  go_loopg [3] n (fun g i wr => w = wr ∧ ∃ k : Nat, k ≤ n ∧ g = n - k ∧ i = .int .i64 k ∧ ∀ j, j < k → X j = 0)
  case atStart => exact ⟨rfl, 0, Nat.zero_le _, rfl, rfl, fun j hj => absurd hj (Nat.not_lt_zero _)⟩
  case round =>
    obtain ⟨rfl, k, hk, rfl, rfl, hz⟩ := hrel
    have HZ := Lib.hid hz; clear hz
    by_cases hlt : k < n
    · obtain rfl := p4 (by omega)
      have e1 := P5.out k hlt
      by_cases h0 : X k = 0
      · have HX := Lib.hid h0
        rw [h0] at e1
        clear h0
        go_wp2
        go_roundg (n - (k + 1))
        case measure => omega
        case rel => exact ⟨rfl, k + 1, by omega, rfl, by go_num, fun j hj => by
          by_cases e : j = k
          · subst e; exact HX.out
          · exact HZ.out j (by omega)⟩
      · have hne : (X k != 0) = true := by simpa using h0
        go_wp2
        go_ret
        exact ⟨(k : Int), rfl, rfl, by omega, by omega, fun _ => ⟨k, hlt, h0⟩, fun _ => by omega⟩
    · obtain rfl : k = n := by omega
      go_wp2
      go_ret
      exact ⟨-1, rfl, rfl, by omega, by omega, fun h => absurd h (by omega), fun ⟨m, hm, h⟩ => absurd (HZ.out m hm) h⟩

set_option maxRecDepth 100000 in
set_option maxHeartbeats 2000000 in
theorem sGrades_c (p : Int) (sv : Value) (n : Nat) (s : Nat → Int) (v : Value) (X : Nat → Int) (w : World) (hs : Ints w sv n s) (h : Ints w v (2 ^ n) X) (hn : n ≤ 6) :
    Calls Try.prog 77 #[dbl p sv, v] w fun e w' => LstI w w' e (gL (2 ^ n) X (n + 1)) := by
  obtain ⟨N, hN⟩ : ∃ N, 2 ^ n = N := ⟨_, rfl⟩
  have hN64 : N ≤ 64 := hN ▸ pow_le6 hn
  rw [hN] at h ⊢
  clear hN
  obtain ⟨so, sc, _, _, rfl, qs⟩ := hs.out
  have HI : Hid (∀ W, Below w.heap.size w W → Ints W v N X) := fun W hb => h.below hb
  obtain ⟨xo, xc, _, _, rfl, qx⟩ := h.out
  clear qs qx hs h
  obtain ⟨e0, e1, e2, e3⟩ := box0 w p so n sc 30
  have HB0 : Hid (BoxD w p so n sc ((w.alloc (.cells #[.int .i64 p, .slice so n sc] 30)).alloc (.cells #[] 2))) := boxKeep ((Below.refl _ _).alloc (Nat.le_refl _) _) ⟨e0, e1, e2, e3⟩
  go_enter Try.func77, Try.ntmps77
  go_wp2
  go_loopg [5, 6] (n + 1) (fun gg sl i wr => ∃ k : Nat, k ≤ n + 1 ∧ gg = n + 1 - k ∧ i = .int .i64 k ∧ ∃ g2 c2 l, sl = .slice (some ⟨g2, 0, none⟩) l c2 ∧ w.heap.size < g2 ∧ l = (gL N X k).length ∧ Hid (BoxD w p so n sc wr) ∧ Hid (Own wr 2 g2 c2 l (fun i => .int .i64 ((gL N X k).getD i 0))))
  case atStart =>
    have ho := Own.empty (w.alloc (.cells #[.int .i64 p, .slice so n sc] 30)) 2 (fun i => .int .i64 ((gL N X 0).getD i 0))
    rw [alloc_size] at ho
    exact ⟨0, by omega, rfl, rfl, _, _, _, rfl, by omega, rfl, HB0.out, ho⟩
  case round =>
    clear HB0 e0 e1 e2 e3
    obtain ⟨k, hk, rfl, rfl, g2, c2, l, rfl, hg2, hl, hB, hO⟩ := hrel
    obtain ⟨f0, f1, f2, f3⟩ := hB.out
    have hll : l ≤ 64 := by have := gL_le N X k; omega
    have HL := Lib.hid hl
    clear hl
    by_cases hlt : k ≤ n
    · have hgs := gL_succ N X k
      have HP := Lib.hid (sPart_c _ N X k wr (HI.out wr f3) hN64)
      have hO' := hO.out
      have hbs := f3.size
      go_wp2_with fail
      go_at_call 81
      refine HP.out.mono ?_
      rintro e w1 ⟨g1, c1, rfl, hg1, hb1, hO1⟩
      have HF := Lib.hid (sFirstS_c _ N _ w1 hO1.ints (by omega))
      have hB1 : Hid (BoxD w p so n sc w1) := boxKeep hb1 ⟨f0, f1, f2, f3⟩
      have hOw := hO'.kept hb1
      clear f0 f1 f2 f3 hO' hO1 HP
      obtain ⟨f0, f1, f2, f3⟩ := hB1.out
      go_wp2_with fail
      go_at_call 128
      refine HF.out.mono ?_
      rintro e w' ⟨x, rfl, rfl, hx1, hx2, hx3⟩
      have hgB : gB N X k = decide (0 ≤ x) := by
        unfold gB
        refine decide_eq_decide.2 (Iff.symm (hx3.trans ?_))
        constructor
        · rintro ⟨m, hm, h2⟩
          unfold partF at h2
          by_cases e : pc m = k
          · rw [if_pos e] at h2; exact ⟨m, hm, e, h2⟩
          · rw [if_neg e] at h2; exact absurd rfl h2
        · rintro ⟨m, hm, e, h2⟩
          exact ⟨m, hm, by unfold partF; rw [if_pos e]; exact h2⟩
      clear hx3 HF
      by_cases h0 : 0 ≤ x
      · have HG : Hid (gL N X (k + 1) = gL N X k ++ [(k : Int)]) := by rw [hgs, hgB, decide_eq_true h0]; exact rfl
        have h0' : (x ≥ 0) := h0
        clear hgs hgB
        go_wp2_with (at_builtin; refine wpList_push _ rfl _ _ _ _ elI rfl hOw (.int .i64 k) rfl rfl rfl (by omega) (by omega) ?_; intro g3 c3 w3 hO3 hg3 hgr3)
        go_roundg (n + 1 - (k + 1))
        case measure => omega
        case rel =>
          have hl1 := hB1.out.2.2.2.size
          have hl2 := lt_of_cell f0
          have hb3 : Below w.heap.size w w3 := f3.grown hgr3 hl1 (fun k e => by injection e with e; omega)
          have hs3 := hgr3.size
          refine ⟨k + 1, by omega, rfl, by go_num, g3, c3, l + 1, rfl, by omega, by rw [HG.out]; simp; exact HL.out, ⟨grown_cell hgr3 (show w.heap.size ≠ g2 by omega) f0, grown_cell hgr3 (show w.heap.size ≠ g2 by omega) f1, by omega, hb3⟩, hO3.congr fun i hi => ?_⟩
          have hll : l = (gL N X k).length := HL.out
          by_cases e2 : i = l
          · subst e2; simp [HG.out, hll, List.getD]
          · simp [HG.out, e2, List.getD, List.getElem?_append_left (show i < (gL N X k).length by omega)]
      · have HG : Hid (gL N X (k + 1) = gL N X k) := by rw [hgs, hgB, decide_eq_false h0]; exact List.append_nil _
        have h0' : x < 0 := by omega
        have HOw := Lib.hid hOw
        clear hgs hgB hOw
        go_wp2
        go_roundg (n + 1 - (k + 1))
        case measure => omega
        case rel => exact ⟨k + 1, by omega, rfl, by go_num, g2, c2, l, rfl, hg2, by rw [HG.out]; exact HL.out, hB1.out, by rw [HG.out]; exact HOw.out⟩
    · obtain rfl : k = n + 1 := by omega
      have hll : l = (gL N X (n + 1)).length := HL.out
      have HF3 := Lib.hid f3
      clear f3 HL
      go_wp2
      go_ret
      exact ⟨g2, c2, by rw [hll]; rfl, by omega, HF3.out, by rw [← hll]; exact hO.out⟩

end Go.Proofs.Ytmedmkjlhcoepaa
