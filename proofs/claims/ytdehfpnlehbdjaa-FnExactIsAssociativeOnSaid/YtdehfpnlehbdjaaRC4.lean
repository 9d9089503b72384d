/-
  IsAssociativeOn: the walk of the reference. No condition.
-/
import Derived.Test.YtdehfpnlehbdjaaRC3
set_option linter.unusedVariables false
set_option linter.unusedSimpArgs false
namespace Go.Proofs.Ytdehfpnlehbdjaa
open Go.RowKit

theorem keepR3 {w W W' : World} {p : Int} {ao : Option Addr} {n c : Nat} {a1 a2 a3 : Addr} {v1 v2 v3 : Value} (h1 : a1.block < w.heap.size) (h2 : a2.block < w.heap.size) (h3 : a3.block < w.heap.size) (hb : Below W.heap.size W W')
    (h : BoxD w p ao n c W ∧ W.cell? a1 = some v1 ∧ W.cell? a2 = some v2 ∧ W.cell? a3 = some v3) : BoxD w p ao n c W' ∧ W'.cell? a1 = some v1 ∧ W'.cell? a2 = some v2 ∧ W'.cell? a3 = some v3 := by
  have hs := h.1.2.2.2.size
  exact ⟨boxKeep hb h.1, by rw [hb.cell (p := a1) (by omega)]; exact h.2.1, by rw [hb.cell (p := a2) (by omega)]; exact h.2.2.1, by rw [hb.cell (p := a3) (by omega)]; exact h.2.2.2⟩
theorem boxR3 {w W : World} {p : Int} {ao : Option Addr} {n c : Nat} {a1 a2 a3 : Addr} {v1 v2 v3 : Value} (h : BoxD w p ao n c W ∧ W.cell? a1 = some v1 ∧ W.cell? a2 = some v2 ∧ W.cell? a3 = some v3) : BoxD w p ao n c W := h.1

set_option maxRecDepth 100000 in
set_option maxHeartbeats 4000000 in
theorem sAssocOn_c (p : Int) (sv lv : Value) (n m : Nat) (s : Nat → Int) (L : Nat → Nat) (T : Nat → Nat → Int) (w : World) (h : Ints w sv n s) (hl : Tab w lv m L T) (hm : m ≤ 1048576) :
    Calls Try.prog 10 #[dbl p sv, lv] w fun e w' => Makes w w' e (.tuple #[.bool (aonB (codeE (dblB p n s) p n m L T) p s n m T), .int .i64 (codeE (dblB p n s) p n m L T)]) := by
  have h' := Lib.hid h
  have hl' := Lib.hid hl
  obtain ⟨ao, c, b, o, rfl, p2, p3, qx⟩ := h.out
  clear qx
  obtain ⟨e0, e1, e2, e3⟩ := box0 w p ao n c 30
  have BX := Lib.hid (box0 w p ao n c 30)
  obtain ⟨cc, hcc⟩ : ∃ cc, codeE (dblB p n s) p n m L T = cc := ⟨_, rfl⟩
  have HC : Hid (Calls Try.prog 31 #[dbl p (.slice ao n c), lv] (w.alloc (.cells #[.int .i64 p, .slice ao n c] 30)) fun e w' => Makes (w.alloc (.cells #[.int .i64 p, .slice ao n c] 30)) w' e (.int .i64 cc)) := hcc ▸ sCode_c p _ _ n m s L T _ (h.below e3) (hl.below e3)
  rw [hcc]
  by_cases h0 : cc = 0
  · obtain ⟨hok, hel⟩ := codeE_zero (hcc.trans h0)
    have hdb := dblB_ok hok
    have hpr := hdb.prime
    have hbd := primeB_bd hpr
    have hn4 := hdb.le
    have hv := dv_of h hok
    have HV : Hid (∀ W, Below w.heap.size w W → DV W (.slice ao n c) p n s) := fun W hb => hv.below hb
    have hM16 := pow_le hn4
    have hM0 : 0 < 2 ^ n := Nat.pos_of_ne_zero (by simp)
    obtain ⟨hrows, hin⟩ := elRows hl hel
    have hD : aonB cc p s n m T = asB p s n m T := by unfold aonB; rw [if_pos h0]
    rw [hD]
    have hAs : ∀ W x y z vx vy vz, x < m → y < m → z < m → Below w.heap.size w W → Ints W vx (2 ^ n) (T x) → Ints W vy (2 ^ n) (T y) → Ints W vz (2 ^ n) (T z) → Calls Try.prog 32 #[dbl p (.slice ao n c), vx, vy, vz] W fun e w' => ∃ g cg, e = .returned (.slice (some ⟨g, 0, none⟩) (2 ^ n) cg) ∧ Below W.heap.size W w' ∧ Hid (Ints w' (.slice (some ⟨g, 0, none⟩) (2 ^ n) cg) (2 ^ n) (asF p s n (T x) (T y) (T z))) := fun W x y z vx vy vz hx hy hz hb h1 h2 h3 =>
      (sAssoc_c p _ vx vy vz n s (T x) (T y) (T z) W (HV.out W hb) ⟨h1, hin x hx⟩ ⟨h2, hin y hy⟩ ⟨h3, hin z hz⟩).mono fun e w' h => by
        obtain ⟨g, cg, q1, q2, q3, q4, q5, q6⟩ := h.out
        exact ⟨g, cg, q1, q3, q5⟩
    have hAll : ∀ b : Bool, (∀ x y z, x < m → y < m → z < m → zB (2 ^ n) (asF p s n (T x) (T y) (T z)) = true) → asB p s n m T = true := fun _ h => all3_true h
    have hNot : ∀ x y z, x < m → y < m → z < m → zB (2 ^ n) (asF p s n (T x) (T y) (T z)) = false → asB p s n m T = false := fun x y z hx hy hz h => all3_false hx hy hz h
    obtain ⟨F, hF⟩ : ∃ F : Nat → Nat → Nat → Nat → Int, (fun x y z => asF p s n (T x) (T y) (T z)) = F := ⟨_, rfl⟩
    have hFe : ∀ x y z, asF p s n (T x) (T y) (T z) = F x y z := fun x y z => by rw [← hF]
    obtain ⟨ans, hans⟩ : ∃ ans, asB p s n m T = ans := ⟨_, rfl⟩
    obtain ⟨M, hM⟩ : ∃ M, 2 ^ n = M := ⟨_, rfl⟩
    rw [hans]
    simp only [hFe, hM, hans] at hAs hAll hNot
    rw [hM] at hM16 hM0 hrows
    obtain ⟨la, lc, lb, lo, A, C, RB, RO, rfl, q2, q3, q4, q5, q6, q7, q8⟩ := hrows.out
    have HR : Hid (∀ i W, i < m → Below w.heap.size w W → Ints W (.slice (A i) M (C i)) M (T i)) := fun i W hi hb => (Tab.rowAt (L := fun _ => M) q6 q7 q8 hi).below hb
    have P5 := Lib.hid q5
    have HAs := Lib.hid hAs
    have HAll := Lib.hid (hAll true)
    have HNot := Lib.hid hNot
    subst h0
    clear h hl hcc hok hel hdb hv hrows hD hAs hAll hNot hF hFe hans hM hin q5 q6 q7 q8 hl'
    go_enter Try.func10, Try.ntmps10
    go_wp2_with fail
    refine Calls.makes' HC.out _ fun w1 hb1 => ?_
    have BX4 := Lib.hid (boxKeep hb1 BX.out)
    clear e0 e1 e2 e3 hb1
    go_wp2_with fail
    go_loopg [7] m (fun g i wr => ∃ x : Nat, x ≤ m ∧ g = m - x ∧ i = .int .i64 x ∧ BoxD w p ao n c wr ∧ Hid (∀ a y z, a < x → y < m → z < m → zB M (F a y z) = true))
    case atStart => exact ⟨0, Nat.zero_le _, rfl, rfl, BX4.out, fun a y z ha => absurd ha (Nat.not_lt_zero _)⟩
    case round =>
      obtain ⟨x, hx, rfl, rfl, ⟨f0, f1, f2, f3⟩, hX⟩ := hrel
      have BXo := Lib.hid (show BoxD w p ao n c wr from ⟨f0, f1, f2, f3⟩)
      clear BX4
      by_cases hxd : x < m
      · obtain rfl := q4 (by omega)
        have l1 := lt_of_cell (P5.out x hxd)
        have x0 : (0 : Int) ≤ (x : Int) := by omega
        have x1 : (x : Int) < (m : Int) := by omega
        go_wp2_with fail
        go_loopg [8] m (fun g i wq => ∃ y : Nat, y ≤ m ∧ g = m - y ∧ i = .int .i64 y ∧ BoxD w p ao n c wq ∧ Hid (∀ b z, b < y → z < m → zB M (F x b z) = true))
        case atStart => exact ⟨0, Nat.zero_le _, rfl, rfl, BXo.out, fun b z hb => absurd hb (Nat.not_lt_zero _)⟩
        case round =>
          obtain ⟨y, hy, rfl, rfl, ⟨h0, h1, h2, h3⟩, hY⟩ := hrel
          have BXp := Lib.hid (show BoxD w p ao n c wr from ⟨h0, h1, h2, h3⟩)
          clear f0 f1 f2 f3 BXo
          by_cases hyd : y < m
          · have l2 := lt_of_cell (P5.out y hyd)
            have y0 : (0 : Int) ≤ (y : Int) := by omega
            have y1 : (y : Int) < (m : Int) := by omega
            go_wp2_with fail
            go_loopg [9] m (fun g i wq => ∃ z : Nat, z ≤ m ∧ g = m - z ∧ i = .int .i64 z ∧ BoxD w p ao n c wq ∧ Hid (∀ b, b < z → zB M (F x y b) = true))
            case atStart => exact ⟨0, Nat.zero_le _, rfl, rfl, BXp.out, fun b hb => absurd hb (Nat.not_lt_zero _)⟩
            case round =>
              obtain ⟨z, hz, rfl, rfl, ⟨j0, j1, j2, j3⟩, hZ⟩ := hrel
              have BXr := Lib.hid (show BoxD w p ao n c wr from ⟨j0, j1, j2, j3⟩)
              clear h0 h1 h2 h3 BXp
              by_cases hzd : z < m
              · have l3 := lt_of_cell (P5.out z hzd)
                have z0 : (0 : Int) ≤ (z : Int) := by omega
                have z1 : (z : Int) < (m : Int) := by omega
                have HS0 : Hid (BoxD w p ao n c wr.drew ∧ wr.drew.cell? ⟨lb, lo + x, none⟩ = some (.slice (A x) M (C x)) ∧ wr.drew.cell? ⟨lb, lo + y, none⟩ = some (.slice (A y) M (C y)) ∧ wr.drew.cell? ⟨lb, lo + z, none⟩ = some (.slice (A z) M (C z))) :=
                  keepR3 l1 l2 l3 (drewB wr) ⟨BXr.out, by rw [j3.cell (p := ⟨lb, lo + x, none⟩) l1]; exact P5.out x hxd, by rw [j3.cell (p := ⟨lb, lo + y, none⟩) l2]; exact P5.out y hyd, by rw [j3.cell (p := ⟨lb, lo + z, none⟩) l3]; exact P5.out z hzd⟩
                have HA : Hid (∀ W, Below w.heap.size w W → Calls Try.prog 32 #[dbl p (.slice ao n c), .slice (A x) M (C x), .slice (A y) M (C y), .slice (A z) M (C z)] W fun e w' => ∃ g cg, e = .returned (.slice (some ⟨g, 0, none⟩) M cg) ∧ Below W.heap.size W w' ∧ Hid (Ints w' (.slice (some ⟨g, 0, none⟩) M cg) M (F x y z))) := fun W hb =>
                  HAs.out W x y z _ _ _ hxd hyd hzd hb (HR.out x W hxd hb) (HR.out y W hyd hb) (HR.out z W hzd hb)
                obtain ⟨q, hq⟩ : ∃ q, ldd M (F x y z) = q := ⟨_, rfl⟩
                have HQ := Lib.hid hq
                have hqM : q ≤ M := by rw [← hq]; exact ldd_le _ _
                clear hq
                go_wp2_with fail
                go_region_held3 (fun W => (W.cell? ⟨w.heap.size, 0, none⟩ = some (.int .i64 p) ∧ W.cell? ⟨w.heap.size, 1, none⟩ = some (.slice ao n c) ∧ w.heap.size < W.heap.size ∧ Below w.heap.size w W) ∧ W.cell? ⟨lb, lo + x, none⟩ = some (.slice (A x) M (C x)) ∧ W.cell? ⟨lb, lo + y, none⟩ = some (.slice (A y) M (C y)) ∧ W.cell? ⟨lb, lo + z, none⟩ = some (.slice (A z) M (C z)))
                  ((first | assumption | exact HS0.out | exact keepR3 l1 l2 l3 (by assumption) (by assumption)))
                  ((first | (go_at_call 32; refine (HA.out _ HS0.out.1.2.2.2).mono ?_; rintro e w5 ⟨g5, c5, rfl, hb5, hI5⟩)))
                all_goals
                  (have BX5 := Lib.hid (boxR3 (w := w) (p := p) (ao := ao) (n := n) (c := c) (W := w5) (a1 := ⟨lb, lo + x, none⟩) (a2 := ⟨lb, lo + y, none⟩) (a3 := ⟨lb, lo + z, none⟩) (v1 := .slice (A x) M (C x)) (v2 := .slice (A y) M (C y)) (v3 := .slice (A z) M (C z)) (by assumption)))
                all_goals
                  (have HFi : Hid (Calls Try.prog 33 #[.slice (some ⟨g5, 0, none⟩) M c5] w5 fun e w' => e = .returned (.int .i64 ((q : Nat) : Int)) ∧ w5 = w') := by
                    have h := sFst_c _ M (F x y z) w5 hI5.out (by omega)
                    rw [HQ.out] at h
                    exact h)
                all_goals clear hI5 hb5
                all_goals go_wp2_with fail
                all_goals go_at_call 33
                all_goals refine HFi.out.mono ?_
                all_goals rintro e w6 ⟨rfl, rfl⟩
                all_goals by_cases hqn : q < M
                all_goals go_wp2
                all_goals first
                  | (go_ret2
                     exact ⟨by rw [HNot.out x y z hxd hyd hzd (by unfold zB; rw [HQ.out]; exact decide_eq_false (by omega))]; rfl, BX5.out.2.2.2⟩)
                  | (go_roundg (m - (z + 1))
                     case measure => omega
                     case rel => exact ⟨z + 1, by omega, rfl, by go_num, BX5.out, fun b hb => by
                      by_cases e : b = z
                      · rw [e]; unfold zB; rw [HQ.out]; exact decide_eq_true (by omega)
                      · exact hZ.out b (by omega)⟩)
              · obtain rfl : z = m := by omega
                go_wp2
                go_roundg (z - (y + 1))
                case measure => omega
                case rel => exact ⟨y + 1, by omega, rfl, by go_num, BXr.out, fun b k hb hk => by
                  by_cases e : b = y
                  · rw [e]; exact hZ.out k hk
                  · exact hY.out b k (by omega) hk⟩
          · obtain rfl : y = m := by omega
            go_wp2
            go_roundg (y - (x + 1))
            case measure => omega
            case rel => exact ⟨x + 1, by omega, rfl, by go_num, BXp.out, fun a i k ha hi hk => by
              by_cases e : a = x
              · rw [e]; exact hY.out i k hi hk
              · exact hX.out a i k (by omega) hi hk⟩
      · obtain rfl : x = m := by omega
        go_wp2
        go_ret2
        exact ⟨by rw [HAll.out hX.out]; rfl, f3⟩
  · have hne : (cc != 0) = true := by rw [bne_iff_ne]; exact h0
    have hD : aonB cc p s n m T = false := by unfold aonB; rw [if_neg h0]
    rw [hD]
    go_enter Try.func10, Try.ntmps10
    go_wp2_with fail
    refine Calls.makes' HC.out _ fun w1 hb1 => ?_
    go_wp2
    go_ret2
    exact ⟨rfl, e3.trans (hb1.mono e3.size)⟩

end Go.Proofs.Ytdehfpnlehbdjaa
