/-
  Signs by the reference: the involute; even multivectors and multivectors of one grade. No condition beside sizes.
-/
import Derived.Test.YtmedmkjlhcoepaaMG6
import Derived.Test.YtmedmkjlhcoepaaDJ
set_option linter.unusedVariables false
set_option linter.unusedSimpArgs false
namespace Go.Proofs.Ytmedmkjlhcoepaa
open Go.RowKit

set_option maxHeartbeats 400000 in
theorem sSame_c (v1 v2 : Value) (n m : Nat) (X Y : Nat → Int) (w : World) (h1 : Ints w v1 n X) (h2 : Ints w v2 m Y) :
    Calls Try.prog 80 #[v1, v2] w fun e w' => Reads w w' e (.bool (eqB n m X Y)) := by
  obtain ⟨ao, c, ab, aoff, rfl, p2, p3, p4, p5⟩ := h1.out
  obtain ⟨bo, d, bb, boff, rfl, r2, r3, r4, r5⟩ := h2.out
  clear h1 h2
  by_cases hnm : n = m
  · subst hnm
    go_enter Try.func80, Try.ntmps80
    go_wp2
    go_loopg [5] n (fun g i wr => ∃ k : Nat, k ≤ n ∧ g = n - k ∧ i = .int .i64 k ∧ (∃ q, wr = w.drewN q) ∧ ∀ j, j < k → X j = Y j)
    case atStart => exact ⟨0, Nat.zero_le _, rfl, rfl, ⟨0, rfl⟩, fun j hj => absurd hj (Nat.not_lt_zero _)⟩
    case round =>
      obtain ⟨k, hk, rfl, rfl, ⟨q, rfl⟩, hall⟩ := hrel
      have H := Lib.hid hall; clear hall
      by_cases hlt : k < n
      · obtain rfl := p4 (by omega)
        obtain rfl := r4 (by omega)
        go_wp2
        go_quiet (fail)
        go_wp2
        · have ht : (X k != Y k) = true := by assumption
          go_ret
          exact ⟨ret_bool (eqB_at hlt (by simpa using ht)).symm, by first | exact ⟨_, rfl⟩ | exact ⟨_, World.drewN_drewN _ _ _⟩⟩
        · have ht : (X k != Y k) = false := by assumption
          go_roundg (n - (k + 1))
          case measure => omega
          case rel => exact ⟨k + 1, by omega, rfl, by go_num, (by first | exact ⟨_, rfl⟩ | exact ⟨_, World.drewN_drewN _ _ _⟩), fun j hj => by
            by_cases e : j = k
            · subst e; simpa using ht
            · exact H.out j (by omega)⟩
      · obtain rfl : k = n := by omega
        go_wp2
        go_ret
        exact ⟨ret_bool (eqB_all H.out).symm, _, rfl⟩
  · have hd : ((n : Int) != (m : Int)) = true := by rw [bne_iff_ne]; omega
    go_enter Try.func80, Try.ntmps80
    go_wp2
    go_ret
    exact ⟨ret_bool (eqB_ne hnm).symm, 0, rfl⟩

/-- the involute -/
def invoF (p : Int) (X : Nat → Int) (i : Nat) : Int := if pc i % 2 = 1 then (p - X i) % p else X i
theorem invo_even {p : Int} (hp : primeB p = true) {N : Nat} {X : Nat → Int} (hX : InP p N X) : eqB N N X (invoF p X) = evenB N X := by
  have hb := primeB_cases hp
  cases he : evenB N X
  · have h1 := of_decide_eq_false he
    have h2 : ∃ m, m < N ∧ X m ≠ 0 ∧ pc m % 2 ≠ 0 := by
      refine Classical.byContradiction fun hc => h1 fun m hm hx => ?_
      refine Classical.byContradiction fun hk => hc ⟨m, hm, hx, hk⟩
    obtain ⟨m, hm, hx, hk⟩ := h2
    refine eqB_at hm ?_
    unfold invoF
    rw [if_pos (by omega)]
    have hr := hX m hm
    rw [Int.emod_eq_of_lt (by omega) (by omega)]
    omega
  · have h1 := of_decide_eq_true he
    refine eqB_all fun m hm => ?_
    unfold invoF
    split
    · by_cases hx : X m = 0
      · rw [hx]; simp
      · have := h1 m hm hx; omega
    · rfl
theorem part_only {N : Nat} {X : Nat → Int} (k : Nat) : eqB N N X (partF k X) = onlyB N X k := by
  cases he : onlyB N X k
  · have h1 := of_decide_eq_false he
    have h2 : ∃ m, m < N ∧ X m ≠ 0 ∧ pc m ≠ k := by
      refine Classical.byContradiction fun hc => h1 fun m hm hx => ?_
      refine Classical.byContradiction fun hk => hc ⟨m, hm, hx, hk⟩
    obtain ⟨m, hm, hx, hk⟩ := h2
    refine eqB_at hm ?_
    unfold partF
    rw [if_neg hk]; exact hx
  · have h1 := of_decide_eq_true he
    refine eqB_all fun m hm => ?_
    unfold partF
    split
    · rfl
    · rename_i hk
      by_cases hx : X m = 0
      · exact hx
      · exact absurd (h1 m hm hx) hk

set_option maxRecDepth 100000 in
set_option maxHeartbeats 2000000 in
theorem sSigns_c (p : Int) (sv : Value) (n : Nat) (s : Nat → Int) (v : Value) (N : Nat) (X : Nat → Int) (w : World) (hs : Ints w sv n s) (h : Ints w v N X) (hN : N ≤ 64) (hp : 3 ≤ p ∧ p ≤ 13) (hX : InP p N X) :
    Calls Try.prog 149 #[dbl p sv, v, .bool false, .bool true] w fun e w' => CopyI w w' e N (invoF p X) := by
  obtain ⟨so, sc, _, _, rfl, qs⟩ := hs.out
  obtain ⟨ao, c, b, o, rfl, p2, p3, p4, p5⟩ := h.out
  have P5 := Lib.hid p5
  have HX := Lib.hid hX
  clear qs hs h p5 hX
  obtain ⟨e0, e1, e2, e3⟩ := box0 w p so n sc 30
  have HB0 : Hid (BoxD w p so n sc ((w.alloc (.cells #[.int .i64 p, .slice so n sc] 30)).alloc (.cells #[] 2))) := boxKeep ((Below.refl _ _).alloc (Nat.le_refl _) _) ⟨e0, e1, e2, e3⟩
  go_enter Try.func149, Try.ntmps149
  go_wp2
  go_loopg [9, 10] N (fun gg sl i wr => ∃ j : Nat, j ≤ N ∧ gg = N - j ∧ i = .int .i64 j ∧ ∃ g2 c2, sl = .slice (some ⟨g2, 0, none⟩) j c2 ∧ w.heap.size < g2 ∧ Hid (BoxD w p so n sc wr) ∧ Hid (Own wr 2 g2 c2 j (fun i => .int .i64 (invoF p X i))))
  case atStart =>
    have ho := Own.empty (w.alloc (.cells #[.int .i64 p, .slice so n sc] 30)) 2 (fun i => .int .i64 (invoF p X i))
    rw [alloc_size] at ho
    exact ⟨0, by omega, rfl, rfl, _, _, rfl, by omega, HB0.out, ho⟩
  case round =>
    clear HB0 e0 e1 e2 e3
    obtain ⟨j, hj, rfl, rfl, g2, c2, rfl, hg2, hB, hO⟩ := hrel
    obtain ⟨f0, f1, f2, f3⟩ := hB.out
    by_cases hlt : j < N
    · obtain rfl := p4 (by omega)
      have HG := Lib.hid (sGrade_c j (by omega) wr)
      obtain ⟨z, hz⟩ : ∃ z, pc j = z := ⟨_, rfl⟩
      rw [hz] at HG
      obtain ⟨x, hx⟩ : ∃ x, X j = x := ⟨_, rfl⟩
      have e1 : wr.cell? ⟨b, o + j, none⟩ = some (.int .i64 x) := by
        rw [f3.cell (p := ⟨b, o + j, none⟩) (lt_of_cell (P5.out j hlt)), ← hx]; exact P5.out j hlt
      have hxb := HX.out j hlt
      rw [hx] at hxb
      have hO' := hO.out
      by_cases h1 : z % 2 = 1
      · obtain ⟨r, hr⟩ : ∃ r, (p - x) % p = r := ⟨_, rfl⟩
        have HV : Hid (invoF p X j = r) := by unfold invoF; rw [hz, if_pos h1, hx]; exact hr
        obtain ⟨y, hy⟩ : ∃ y, p - x = y := ⟨_, rfl⟩
        have hwy : IntKind.i64.wrap (p - x) = y := by rw [hy]; exact wrap_in _ (by omega)
        have htm : Int.tmod y p = r := by rw [← hr, hy]; exact Int.tmod_eq_emod_of_nonneg (by omega)
        have hrb := mod_bd (p - x) p (by omega)
        rw [hr] at hrb
        have hwr : IntKind.i64.wrap r = r := wrap_in _ (by omega)
        have hzz : ((z : Int) % 2 == 1) = true := by rw [beq_iff_eq]; omega
        have hp0 : p ≠ 0 := by omega
        clear hr hy hx hz
        go_wp2_with (go_at_call 132; refine HG.out.mono ?_; rintro e w' ⟨rfl, rfl⟩)
        go_region_law (refine step_push rfl _ _ _ _ elI rfl (Own.drew hO') (.int .i64 r) rfl rfl rfl (by omega) (by omega) ?_; intro g3 c3 w3 hO3 hg3 hgr3)
        all_goals go_wp2
        all_goals go_roundg (N - (j + 1))
        all_goals first
          | omega
          | (have hl1 := f3.size
             have hgr4 : wr.grownBy w3 (some g2) := ⟨hgr3.os, hgr3.tape, hgr3.output, hgr3.size, hgr3.block⟩
             have hg4 : g3 = g2 ∨ wr.heap.size ≤ g3 := hg3
             have hs3 := hgr4.size
             have hb3 : Below w.heap.size w w3 := f3.grown hgr4 hl1 (fun k e => by injection e with e; omega)
             refine ⟨j + 1, by omega, rfl, by go_num, g3, c3, rfl, by omega, ⟨grown_cell hgr4 (show w.heap.size ≠ g2 by omega) f0, grown_cell hgr4 (show w.heap.size ≠ g2 by omega) f1, by omega, hb3⟩, hO3.congr fun i hi => ?_⟩
             by_cases e2 : i = j
             · subst e2; simp [HV.out]
             · simp [e2])
      · have HV : Hid (invoF p X j = x) := by unfold invoF; rw [hz, if_neg h1]; exact hx
        have hzz : ((z : Int) % 2 == 1) = false := by rw [beq_eq_false_iff_ne]; omega
        clear hx hz
        go_wp2_with (first
          | (go_at_call 132; refine HG.out.mono ?_; rintro e w' ⟨rfl, rfl⟩)
          | (at_builtin; refine wpList_push _ rfl _ _ _ _ elI rfl hO' (.int .i64 x) rfl rfl rfl (by omega) (by omega) ?_; intro g3 c3 w3 hO3 hg3 hgr3))
        go_roundg (N - (j + 1))
        case measure => omega
        case rel =>
          have hl1 := f3.size
          have hs3 := hgr3.size
          have hb3 : Below w.heap.size w w3 := f3.grown hgr3 hl1 (fun k e => by injection e with e; omega)
          refine ⟨j + 1, by omega, rfl, by go_num, g3, c3, rfl, by omega, ⟨grown_cell hgr3 (show w.heap.size ≠ g2 by omega) f0, grown_cell hgr3 (show w.heap.size ≠ g2 by omega) f1, by omega, hb3⟩, hO3.congr fun i hi => ?_⟩
          by_cases e2 : i = j
          · subst e2; simp [HV.out]
          · simp [e2]
    · obtain rfl : j = N := by omega
      have HF3 := Lib.hid f3
      clear f3
      go_wp2
      go_ret
      exact ⟨g2, c2, rfl, by omega, HF3.out, hO.out⟩

end Go.Proofs.Ytmedmkjlhcoepaa
