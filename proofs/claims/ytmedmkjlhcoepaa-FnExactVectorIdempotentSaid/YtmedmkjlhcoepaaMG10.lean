/-
  The vector of a multivector, roots. No condition beside sizes.
-/
import Derived.Test.YtmedmkjlhcoepaaMG8
import Derived.Test.YtmedmkjlhcoepaaSP4
import Derived.Test.YtmedmkjlhcoepaaD24
import Derived.Test.YtmedmkjlhcoepaaD15
set_option linter.unusedVariables false
set_option linter.unusedSimpArgs false
namespace Go.Proofs.Ytmedmkjlhcoepaa
open Go.RowKit

theorem p2_lt {n i : Nat} (h : i < n) : 2 ^ i < 2 ^ n := Nat.pow_lt_pow_right (by omega) h
theorem p2_wrap {i : Nat} (hi : i ≤ 6) : wrap64 ((2 : Int) ^ i) = ((2 ^ i : Nat) : Int) := by
  have h6 := pow_le6 hi
  rw [show ((2 : Int) ^ i) = ((2 ^ i : Nat) : Int) by simp]
  obtain ⟨M, hM⟩ : ∃ M, 2 ^ i = M := ⟨_, rfl⟩
  rw [hM] at h6 ⊢
  unfold wrap64; omega
/-- the least root, or 0 -/
def rtV (P : Nat) (a : Int) : Int := if hasRoot P a then (fst (rootB P a) P : Int) else 0
set_option maxHeartbeats 1000000 in
theorem iRootV_c (P : Nat) (a : Int) (w : World) (h1 : 1 ≤ P) (h2 : P ≤ 1000) :
    Calls Try.prog 93 #[.int .i64 P, .int .i64 a] w fun e w' => e = .returned (.tuple #[.int .i64 (rtV P a), .bool (hasRoot P a)]) ∧ w = w' := by
  go_enter Try.func93, Try.ntmps93
  go_wp2
  go_loopg [8] P (fun g i wr => w = wr ∧ ∃ k : Nat, k ≤ P ∧ g = P - k ∧ i = .int .i64 k ∧ ∀ j, j < k → rootB P a j = false)
  case atStart => exact ⟨rfl, 0, Nat.zero_le _, rfl, rfl, fun j hj => absurd hj (Nat.not_lt_zero _)⟩
  case round =>
    obtain ⟨rfl, k, hk, rfl, rfl, hl⟩ := hrel
    have HL := Lib.hid hl; clear hl
    by_cases hlt : k < P
    · have hm := mul_bd (a := k) (b := k) (by omega) (by omega)
      have HQ : Hid (rootB P a k = (((k : Int) * (k : Int)) % (P : Int) == a)) := rfl
      cases hq : (((k : Int) * (k : Int)) % (P : Int) == a)
      · go_wp2_with (go_at_call 134; refine (iNum_c _ _ _ (by omega) (by omega) (by omega) (by omega)).mono ?_; rintro e w' ⟨rfl, rfl⟩)
        go_roundg (P - (k + 1))
        case measure => omega
        case rel => exact ⟨rfl, k + 1, by omega, rfl, by go_num, fun j hj => by
          by_cases e : j = k
          · subst e; rw [HQ.out, hq]
          · exact HL.out j (by omega)⟩
      · go_wp2_with (go_at_call 134; refine (iNum_c _ _ _ (by omega) (by omega) (by omega) (by omega)).mono ?_; rintro e w' ⟨rfl, rfl⟩)
        go_ret2
        have e : fst (rootB P a) P = k := fst_at hlt HL.out (HQ.out.trans hq)
        exact ⟨by unfold rtV hasRoot; rw [e, decide_eq_true hlt]; rfl, rfl⟩
    · obtain rfl : k = P := by omega
      go_wp2
      go_ret2
      have e : fst (rootB k a) k = k := fst_none HL.out
      exact ⟨by unfold rtV hasRoot; rw [e, decide_eq_false (Nat.lt_irrefl _)]; rfl, rfl⟩


set_option maxRecDepth 100000 in
set_option maxHeartbeats 2000000 in
theorem iVpart_c (p : Int) (sv : Value) (n : Nat) (s : Nat → Int) (v : Value) (X : Nat → Int) (w : World) (hs : SV w sv p n s) (h : Mv w v p n X) :
    Calls Try.prog 92 #[dbl p sv, v] w fun e w' => CopyI w w' e n (fun i => X (2 ^ i)) := by
  have hn6 := hs.ok.n6
  have hM := pow_le6 hn6
  have hsi := hs.ints
  have hxi := h.ints
  obtain ⟨so, sc, _, _, rfl, qs⟩ := hsi.out
  obtain ⟨ao, c, b, o, rfl, p2, p3, p4, p5⟩ := hxi.out
  have P5 := Lib.hid p5
  have hN0 : 0 < 2 ^ n := Nat.pow_pos (by decide)
  have hP4 := Lib.hid (p4 hN0)
  obtain ⟨N, hN⟩ : ∃ N, 2 ^ n = N := ⟨_, rfl⟩
  have HN := Lib.hid hN
  rw [hN] at hM hN0 p2
  clear qs hs h hsi hxi p5 p4
  obtain ⟨e0, e1, e2, e3⟩ := box0 w p so n sc 30
  have HB0 : Hid (BoxD w p so n sc ((w.alloc (.cells #[.int .i64 p, .slice so n sc] 30)).alloc (.cells #[] 2))) := boxKeep ((Below.refl _ _).alloc (Nat.le_refl _) _) ⟨e0, e1, e2, e3⟩
  have HO0 : Hid (Own ((w.alloc (.cells #[.int .i64 p, .slice so n sc] 30)).alloc (.cells #[] 2)) 2 (w.heap.size + 1) 0 0 (fun i => .int .i64 (X (2 ^ i)))) := by
    have ho := Own.empty (w.alloc (.cells #[.int .i64 p, .slice so n sc] 30)) 2 (fun i => .int .i64 (X (2 ^ i)))
    rw [alloc_size] at ho
    exact ho
  rw [hN]
  clear hN
  go_enter Try.func92, Try.ntmps92
  go_wp2_with fail
  go_at_call 101
  refine Calls.makes' (iDim_c _ _ _ _ _ (by omega)) _ fun w1 hb1 => ?_
  have HB1 := Lib.hid (boxKeep hb1 HB0.out)
  have HO1 := Lib.hid (HO0.out.kept hb1)
  clear hb1 HB0 HO0 e0 e1 e2 e3
  go_wp2
  go_loopg [5, 10] n (fun gg sl i wr => ∃ j : Nat, j ≤ n ∧ gg = n - j ∧ i = .int .i64 j ∧ ∃ g2 c2, sl = .slice (some ⟨g2, 0, none⟩) j c2 ∧ w.heap.size < g2 ∧ Hid (BoxD w p so n sc wr) ∧ Hid (Own wr 2 g2 c2 j (fun i => .int .i64 (X (2 ^ i)))))
  case atStart => exact ⟨0, by omega, rfl, rfl, _, _, rfl, by omega, HB1.out, HO1.out⟩
  case round =>
    clear HB1 HO1
    obtain ⟨j, hj, rfl, rfl, g2, c2, rfl, hg2, hB, hO⟩ := hrel
    obtain ⟨f0, f1, f2, f3⟩ := hB.out
    by_cases hlt : j < n
    · obtain rfl := hP4.out
      have hw2 := p2_wrap (i := j) (by omega)
      have hlt2 := p2_lt hlt
      rw [HN.out] at hlt2
      obtain ⟨M, hM2⟩ : ∃ M, 2 ^ j = M := ⟨_, rfl⟩
      rw [hM2] at hw2 hlt2
      have e1 : wr.cell? ⟨b, o + M, none⟩ = some (.int .i64 (X M)) := by
        have h5 : w.cell? ⟨b, o + M, none⟩ = some (.int .i64 (X M)) := P5.out M (by rw [HN.out]; exact hlt2)
        rw [f3.cell (p := ⟨b, o + M, none⟩) (lt_of_cell h5)]; exact h5
      have hO' := hO.out
      have HM2 := Lib.hid hM2
      clear hM2
      go_wp2_with (at_builtin; refine wpList_push _ rfl _ _ _ _ elI rfl hO' (.int .i64 (X M)) rfl rfl rfl (by omega) (by omega) ?_; intro g3 c3 w3 hO3 hg3 hgr3)
      go_roundg (n - (j + 1))
      case measure => omega
      case rel =>
        have hl1 := f3.size
        have hs3 := hgr3.size
        have hb3 : Below w.heap.size w w3 := f3.grown hgr3 hl1 (fun k e => by injection e with e; omega)
        refine ⟨j + 1, by omega, rfl, by go_num, g3, c3, rfl, by omega, ⟨grown_cell hgr3 (show w.heap.size ≠ g2 by omega) f0, grown_cell hgr3 (show w.heap.size ≠ g2 by omega) f1, by omega, hb3⟩, hO3.congr fun i hi => ?_⟩
        by_cases e2 : i = j
        · subst e2; simp [HM2.out]
        · simp [e2]
    · obtain rfl : j = n := by omega
      have HF3 := Lib.hid f3
      clear f3
      go_wp2
      go_ret
      exact ⟨g2, c2, rfl, by omega, HF3.out, hO.out⟩

set_option maxRecDepth 100000 in
set_option maxHeartbeats 2000000 in
theorem sVlist_c (p : Int) (sv : Value) (n : Nat) (s : Nat → Int) (v : Value) (X : Nat → Int) (w : World) (hs : SV w sv p n s) (h : Mv w v p n X) :
    Calls Try.prog 85 #[dbl p sv, v] w fun e w' => CopyI w w' e n (fun i => X (2 ^ i)) := by
  have hn6 := hs.ok.n6
  have hM := pow_le6 hn6
  have hsi := hs.ints
  have hxi := h.ints
  obtain ⟨so, sc, _, _, rfl, qs⟩ := hsi.out
  obtain ⟨ao, c, b, o, rfl, p2, p3, p4, p5⟩ := hxi.out
  have P5 := Lib.hid p5
  have hN0 : 0 < 2 ^ n := Nat.pow_pos (by decide)
  have hP4 := Lib.hid (p4 hN0)
  obtain ⟨N, hN⟩ : ∃ N, 2 ^ n = N := ⟨_, rfl⟩
  have HN := Lib.hid hN
  rw [hN] at hM hN0 p2
  clear qs hs h hsi hxi p5 p4
  obtain ⟨e0, e1, e2, e3⟩ := box0 w p so n sc 30
  have HB0 : Hid (BoxD w p so n sc ((w.alloc (.cells #[.int .i64 p, .slice so n sc] 30)).alloc (.cells #[] 2))) := boxKeep ((Below.refl _ _).alloc (Nat.le_refl _) _) ⟨e0, e1, e2, e3⟩
  have HO0 : Hid (Own ((w.alloc (.cells #[.int .i64 p, .slice so n sc] 30)).alloc (.cells #[] 2)) 2 (w.heap.size + 1) 0 0 (fun i => .int .i64 (X (2 ^ i)))) := by
    have ho := Own.empty (w.alloc (.cells #[.int .i64 p, .slice so n sc] 30)) 2 (fun i => .int .i64 (X (2 ^ i)))
    rw [alloc_size] at ho
    exact ho
  rw [hN]
  clear hN e0 e1 e2 e3
  go_enter Try.func85, Try.ntmps85
  go_wp2
  go_loopg [5, 6] n (fun gg sl i wr => ∃ j : Nat, j ≤ n ∧ gg = n - j ∧ i = .int .i64 j ∧ ∃ g2 c2, sl = .slice (some ⟨g2, 0, none⟩) j c2 ∧ w.heap.size < g2 ∧ Hid (BoxD w p so n sc wr) ∧ Hid (Own wr 2 g2 c2 j (fun i => .int .i64 (X (2 ^ i)))))
  case atStart => exact ⟨0, by omega, rfl, rfl, _, _, rfl, by omega, HB0.out, HO0.out⟩
  case round =>
    clear HB0 HO0
    obtain ⟨j, hj, rfl, rfl, g2, c2, rfl, hg2, hB, hO⟩ := hrel
    obtain ⟨f0, f1, f2, f3⟩ := hB.out
    by_cases hlt : j < n
    · obtain rfl := hP4.out
      have hw2 := p2_wrap (i := j) (by omega)
      have hlt2 := p2_lt hlt
      rw [HN.out] at hlt2
      obtain ⟨M, hM2⟩ : ∃ M, 2 ^ j = M := ⟨_, rfl⟩
      rw [hM2] at hw2 hlt2
      have e1 : wr.cell? ⟨b, o + M, none⟩ = some (.int .i64 (X M)) := by
        have h5 : w.cell? ⟨b, o + M, none⟩ = some (.int .i64 (X M)) := P5.out M (by rw [HN.out]; exact hlt2)
        rw [f3.cell (p := ⟨b, o + M, none⟩) (lt_of_cell h5)]; exact h5
      have hO' := hO.out
      have HM2 := Lib.hid hM2
      clear hM2
      go_wp2_with (at_builtin; refine wpList_push _ rfl _ _ _ _ elI rfl hO' (.int .i64 (X M)) rfl rfl rfl (by omega) (by omega) ?_; intro g3 c3 w3 hO3 hg3 hgr3)
      go_roundg (n - (j + 1))
      case measure => omega
      case rel =>
        have hl1 := f3.size
        have hs3 := hgr3.size
        have hb3 : Below w.heap.size w w3 := f3.grown hgr3 hl1 (fun k e => by injection e with e; omega)
        refine ⟨j + 1, by omega, rfl, by go_num, g3, c3, rfl, by omega, ⟨grown_cell hgr3 (show w.heap.size ≠ g2 by omega) f0, grown_cell hgr3 (show w.heap.size ≠ g2 by omega) f1, by omega, hb3⟩, hO3.congr fun i hi => ?_⟩
        by_cases e2 : i = j
        · subst e2; simp [HM2.out]
        · simp [e2]
    · obtain rfl : j = n := by omega
      have HF3 := Lib.hid f3
      clear f3
      go_wp2
      go_ret
      exact ⟨g2, c2, rfl, by omega, HF3.out, hO.out⟩


end Go.Proofs.Ytmedmkjlhcoepaa
