/-
  Spaces: lists of vectors and products of vectors, in both programs. No condition beside sizes.
-/
import Derived.Test.YtnkflgigbielgaaSP1
import Derived.Test.YtnkflgigbielgaaD28
set_option linter.unusedVariables false
set_option linter.unusedSimpArgs false
namespace Go.Proofs.Ytnkflgigbielgaa
open Go.RowKit

/-- the code of m vectors -/
def codeSv (ok : Bool) (p : Int) (n m : Nat) (L : Nat → Nat) (T : Nat → Nat → Int) : Int := if ok then (if anyB (fun i => !vecB p n (L i) (T i)) m then 2 else 0) else 1
theorem codeSv_zero {ok : Bool} {p : Int} {n m : Nat} {L : Nat → Nat} {T : Nat → Nat → Int} (h : codeSv ok p n m L T = 0) : ok = true ∧ ∀ i, i < m → vecB p n (L i) (T i) = true := by
  unfold codeSv at h
  cases ok
  · simp at h
  · cases ha : anyB (fun i => !vecB p n (L i) (T i)) m
    · refine ⟨rfl, fun i hi => ?_⟩
      cases he : vecB p n (L i) (T i)
      · have := anyB_at (p := fun i => !vecB p n (L i) (T i)) hi (by simp [he])
        rw [this] at ha; cases ha
      · rfl
    · rw [ha] at h; simp at h
/-- .. of a list of at most sixteen -/
def codeSl (ok : Bool) (p : Int) (n m : Nat) (L : Nat → Nat) (T : Nat → Nat → Int) : Int := if ok then (if anyB (fun i => !vecB p n (L i) (T i)) m || decide (16 < m) then 2 else 0) else 1
theorem codeSl_zero {ok : Bool} {p : Int} {n m : Nat} {L : Nat → Nat} {T : Nat → Nat → Int} (h : codeSl ok p n m L T = 0) : ok = true ∧ (∀ i, i < m → vecB p n (L i) (T i) = true) ∧ m ≤ 16 := by
  have hv : codeSv ok p n m L T = 0 := by
    unfold codeSl at h; unfold codeSv
    cases ok
    · exact h
    · cases ha : anyB (fun i => !vecB p n (L i) (T i)) m
      · rfl
      · rw [ha] at h; simp at h
  obtain ⟨h1, h2⟩ := codeSv_zero hv
  refine ⟨h1, h2, ?_⟩
  by_cases hm : 16 < m
  · unfold codeSl at h
    rw [h1, decide_eq_true hm] at h
    simp at h
  · omega

set_option maxRecDepth 100000 in
set_option maxHeartbeats 400000 in
theorem iCkV1_c (p : Int) (bb : Nat) (ao : Option Addr) (n c : Nat) (v : Value) (L : Nat) (X : Nat → Int) (w : World) (h : Ints w v L X) (h1 : 1 ≤ p) (h2 : p ≤ 1000) (hn : n ≤ 6)
    (c0 : w.cell? ⟨bb, 0, none⟩ = some (.int .i64 p)) (c1 : w.cell? ⟨bb, 1, none⟩ = some (.slice ao n c)) :
    Calls Try.prog 126 #[v, .pointer (some ⟨bb, 0, none⟩)] w fun e w' => Makes w w' e (.bool (!vecB p n L X)) := by
  obtain ⟨q, hq⟩ : ∃ q, vecB p n L X = q := ⟨_, rfl⟩
  have HQ : Hid (Calls Try.prog 127 #[dbl p (.slice ao n c), v] w fun e w' => Makes w w' e (.bool q)) := hq ▸ iIsVec_c p ao n c v L X w h h1 h2 hn
  rw [hq]
  clear hq h
  go_enter Try.func126, Try.ntmps126
  go_wp2_with fail
  go_at_call 127
  refine Calls.makes' HQ.out _ fun w1 hb1 => ?_
  go_wp2
  go_ret
  exact ⟨rfl, hb1⟩

set_option maxRecDepth 100000 in
set_option maxHeartbeats 1000000 in
theorem iCkV_c (p : Int) (sv lv : Value) (n m : Nat) (s : Nat → Int) (L : Nat → Nat) (T : Nat → Nat → Int) (w : World) (h : Ints w sv n s) (hl : Tab w lv m L T) :
    Calls Try.prog 63 #[dbl p sv, lv] w fun e w' => Makes w w' e (.int .i64 (codeSv (spB p n s) p n m L T)) := by
  obtain ⟨ao, c, b, o, rfl, p2, p3, qx⟩ := h.out
  clear qx
  obtain ⟨e0, e1, e2, e3⟩ := box0 w p ao n c 26
  have BX := Lib.hid (box0 w p ao n c 26)
  cases hok : spB p n s
  · go_enter Try.func63, Try.ntmps63
    go_wp2_with fail
    refine Calls.makes' (iIsSp_c _ _ _ _ _ (h.below e3)) _ fun w1 hb1 => ?_
    rw [hok]
    go_wp2
    go_ret
    exact ⟨rfl, e3.trans (hb1.mono e3.size)⟩
  · have hv := spB_ok hok
    have hpb := hv.bd
    go_enter Try.func63, Try.ntmps63
    go_wp2_with fail
    refine Calls.makes' (iIsSp_c _ _ _ _ _ (h.below e3)) _ fun w1 hb1 => ?_
    rw [hok]
    obtain ⟨f0, f1, f2, f3⟩ := boxKeep hb1 BX.out
    go_wp2_with fail
    refine Calls.makes' (iContainsFuncRI_c 126 (fun _ _ => by simp [go_sem]) _ _ m L T (fun i => !vecB p n (L i) (T i)) _ (hl.below f3) (fun i hi W u hbW hu => iCkV1_c p w.heap.size ao n c u (L i) (T i) W hu (by omega) (by omega) hv.n6 (cellKp hbW f0) (cellKp hbW f1))) _ fun w3 hb3 => ?_
    have b3 := f3.trans (hb3.mono f3.size)
    cases ha : anyB (fun i => !vecB p n (L i) (T i)) m
    · go_wp2
      go_ret
      exact ⟨ret_i64 (by unfold codeSv; rw [ha]; rfl), b3⟩
    · go_wp2
      go_ret
      exact ⟨ret_i64 (by unfold codeSv; rw [ha]; rfl), b3⟩

set_option maxRecDepth 100000 in
set_option maxHeartbeats 1000000 in
theorem iCkL_c (p : Int) (sv lv : Value) (n m : Nat) (s : Nat → Int) (L : Nat → Nat) (T : Nat → Nat → Int) (w : World) (h : Ints w sv n s) (hl : Tab w lv m L T) :
    Calls Try.prog 74 #[dbl p sv, lv] w fun e w' => Makes w w' e (.int .i64 (codeSl (spB p n s) p n m L T)) := by
  obtain ⟨ao, c, b, o, rfl, p2, p3, qx⟩ := h.out
  obtain ⟨la, lc, lb, lo, A, C, RB, RO, rfl, q2, q3, ql⟩ := hl.out
  clear qx ql
  obtain ⟨e0, e1, e2, e3⟩ := box0 w p ao n c 26
  obtain ⟨cc, hcc⟩ : ∃ cc, codeSv (spB p n s) p n m L T = cc := ⟨_, rfl⟩
  have HC : Hid (Calls Try.prog 63 #[dbl p (.slice ao n c), .slice la m lc] (w.alloc (.cells #[.int .i64 p, .slice ao n c] 26)) fun e w' => Makes (w.alloc (.cells #[.int .i64 p, .slice ao n c] 26)) w' e (.int .i64 cc)) := hcc ▸ iCkV_c p _ _ n m s L T _ (h.below e3) (hl.below e3)
  have HCC := Lib.hid hcc
  clear hcc h hl
  by_cases h0 : cc = 0
  · subst h0
    by_cases hm : 16 < m
    · have hmi : decide ((16 : Int) < (m : Int)) = true := decide_eq_true (by omega)
      go_enter Try.func74, Try.ntmps74
      go_wp2_with fail
      refine Calls.makes' HC.out _ fun w1 hb1 => ?_
      go_wp2
      go_ret
      obtain ⟨k1, k2⟩ := codeSv_zero HCC.out
      exact ⟨ret_i64 (by unfold codeSl; rw [k1, decide_eq_true hm]; simp), e3.trans (hb1.mono e3.size)⟩
    · have hmi : decide ((16 : Int) < (m : Int)) = false := decide_eq_false (by omega)
      go_enter Try.func74, Try.ntmps74
      go_wp2_with fail
      refine Calls.makes' HC.out _ fun w1 hb1 => ?_
      go_wp2
      go_ret
      obtain ⟨k1, k2⟩ := codeSv_zero HCC.out
      exact ⟨ret_i64 (by unfold codeSl; rw [k1, decide_eq_false hm, anyB_none fun j hj => by rw [k2 j hj]; rfl]; simp), e3.trans (hb1.mono e3.size)⟩
  · have hne : (cc != 0) = true := by rw [bne_iff_ne]; exact h0
    go_enter Try.func74, Try.ntmps74
    go_wp2_with fail
    refine Calls.makes' HC.out _ fun w1 hb1 => ?_
    go_wp2
    go_ret
    refine ⟨ret_i64 ?_, e3.trans (hb1.mono e3.size)⟩
    have hh := HCC.out
    unfold codeSv at hh; unfold codeSl
    cases hk : spB p n s
    · rw [hk] at hh; exact hh.symm
    · rw [hk] at hh
      cases ha : anyB (fun i => !vecB p n (L i) (T i)) m
      · rw [ha] at hh; exact absurd hh.symm h0
      · rw [ha] at hh; simpa using hh.symm

set_option maxRecDepth 100000 in
set_option maxHeartbeats 1000000 in
theorem sList_c (p : Int) (sv lv : Value) (n m : Nat) (s : Nat → Int) (L : Nat → Nat) (T : Nat → Nat → Int) (w : World) (hd : SV w sv p n s) (hl : Tab w lv m L T) :
    Calls Try.prog 99 #[dbl p sv, lv] w fun e w' => Makes w w' e (.bool (!(anyB (fun i => !vecB p n (L i) (T i)) m || decide (16 < m)))) := by
  have hpb := hd.ok.bd
  have hn6 := hd.ok.n6
  obtain ⟨ao, c, b, o, rfl, p2, p3, qx⟩ := hd.ints.out
  clear qx
  obtain ⟨e0, e1, e2, e3⟩ := box0 w p ao n c 26
  have BX := Lib.hid (box0 w p ao n c 26)
  obtain ⟨la, lc, lb, lo, A, C, RB, RO, rfl, q2, q3, q4, q5, q6, q7, q8⟩ := hl.out
  have hr : ∀ i, i < m → Ints w (.slice (A i) (L i) (C i)) (L i) (T i) := fun i hi => Tab.rowAt q6 q7 q8 hi
  have HR := Lib.hid hr
  have P5 := Lib.hid q5
  clear hl q5 q6 q7 q8 hr hd
  go_enter Try.func99, Try.ntmps99
  go_wp2
  go_loopg [5] m (fun g i wr => ∃ k : Nat, k ≤ m ∧ g = m - k ∧ i = .int .i64 k ∧ BoxD w p ao n c wr ∧ ∀ j, j < k → vecB p n (L j) (T j) = true)
  case atStart => exact ⟨0, Nat.zero_le _, rfl, rfl, ⟨e0, e1, e2, e3⟩, fun j hj => absurd hj (Nat.not_lt_zero _)⟩
  case round =>
    obtain ⟨k, hk, rfl, rfl, ⟨f0, f1, f2, f3⟩, hl⟩ := hrel
    have HL := Lib.hid hl; clear hl e0 e1 e2 e3
    by_cases hlt : k < m
    · obtain rfl := q4 (by omega)
      have f4 : wr.cell? ⟨lb, lo + k, none⟩ = some (.slice (A k) (L k) (C k)) := by rw [f3.cell (p := ⟨lb, lo + k, none⟩) (lt_of_cell (P5.out k hlt))]; exact P5.out k hlt
      have hlb := lt_of_cell (P5.out k hlt)
      obtain ⟨q, hq⟩ : ∃ q, vecB p n (L k) (T k) = q := ⟨_, rfl⟩
      have HE : Hid (∀ W, Below w.heap.size w W → Calls Try.prog 66 #[dbl p (.slice ao n c), .slice (A k) (L k) (C k)] W fun e w' => Makes W w' e (.bool q)) := fun W hb => hq ▸ sVec_c p ao n c _ (L k) (T k) W ((HR.out k hlt).below hb) (by omega) (by omega) hn6
      have i0 : (0 : Int) ≤ (k : Int) := by omega
      have i1 : (k : Int) < (m : Int) := by omega
      go_wp2
      go_region_held3 (fun W => (W.cell? ⟨w.heap.size, 0, none⟩ = some (.int .i64 p) ∧ W.cell? ⟨w.heap.size, 1, none⟩ = some (.slice ao n c) ∧ w.heap.size < W.heap.size ∧ Below w.heap.size w W) ∧ W.cell? ⟨lb, lo + k, none⟩ = some (.slice (A k) (L k) (C k)))
        ((first | assumption | exact boxKeepC hlb (drewB _) ⟨⟨f0, f1, f2, f3⟩, f4⟩ | exact boxKeepC hlb (by assumption) (by assumption)))
        ((first | (go_at_call 66; refine Calls.makes' (HE.out _ (boxBelowC (by assumption))) _ fun w2 hb2 => ?_)))
      have bx2 : BoxD w p ao n c w2 := And.left (b := w2.cell? ⟨lb, lo + k, none⟩ = some (.slice (A k) (L k) (C k))) (by assumption)
      cases q
      · go_wp2
        go_ret
        exact ⟨ret_bool (by rw [anyB_at hlt (by rw [hq]; rfl)]; rfl), bx2.2.2.2⟩
      · go_wp2
        go_roundg (m - (k + 1))
        case measure => omega
        case rel => exact ⟨k + 1, by omega, rfl, by go_num, bx2, fun j hj => by
          by_cases e : j = k
          · subst e; exact hq
          · exact HL.out j (by omega)⟩
    · obtain rfl : k = m := by omega
      go_wp2
      go_ret
      refine ⟨ret_bool ?_, f3⟩
      rw [anyB_none fun j hj => by rw [HL.out j hj]; rfl, Bool.false_or]
      by_cases hm : 16 < k
      · rw [decide_eq_true hm, decide_eq_false (by omega)]; rfl
      · rw [decide_eq_false hm, decide_eq_true (by omega)]; rfl

set_option maxRecDepth 100000 in
set_option maxHeartbeats 1000000 in
theorem iWeighted_c (p : Int) (sv xv : Value) (n : Nat) (s X : Nat → Int) (w : World) (hd : SV w sv p n s) (hx : Vc w xv p n X) :
    Calls Try.prog 129 #[dbl p sv, xv] w fun e w' => CopyI w w' e n (fun i => (X i * s i) % p) := by
  have hpb := hd.ok.bd
  have hn6 := hd.ok.n6
  have hs := hd.ok.inp
  obtain ⟨ao, c, b, o, rfl, p2, p3, p4, p5⟩ := hd.ints.out
  obtain ⟨xa, xc, xb, xo, rfl, x2, x3, x4, x5⟩ := hx.ints.out
  have hxi := hx.inp
  have P5 := Lib.hid p5
  have X5 := Lib.hid x5
  have HS := Lib.hid hs
  have HX := Lib.hid hxi
  obtain ⟨e0, e1, e2, e3⟩ := box0 w p ao n c 26
  have BX := Lib.hid (box0 w p ao n c 26)
  have hT0 : Own ((w.alloc (.cells #[.int .i64 p, .slice ao n c] 26)).alloc (.cells #[] 2)) 2 (w.heap.size + 1) 0 0 (fun i => .int .i64 ((X i * s i) % p)) := by
    have h := Own.empty (w.alloc (.cells #[.int .i64 p, .slice ao n c] 26)) 2 (fun i => .int .i64 ((X i * s i) % p))
    rw [alloc_size] at h
    exact h
  have bA : Below (w.alloc (.cells #[.int .i64 p, .slice ao n c] 26)).heap.size (w.alloc (.cells #[.int .i64 p, .slice ao n c] 26)) ((w.alloc (.cells #[.int .i64 p, .slice ao n c] 26)).alloc (.cells #[] 2)) := (Below.refl _ _).alloc (Nat.le_refl _) _
  have BXA := Lib.hid (boxKeep bA BX.out)
  have HT0 := Lib.hid hT0
  clear hT0 bA p5 x5 hs hxi hd hx
  go_enter Try.func129, Try.ntmps129
  go_wp2
  go_loopg [5, 11] n (fun g o i wr => ∃ k : Nat, k ≤ n ∧ g = n - k ∧ i = .int .i64 k ∧ BoxD w p ao n c wr ∧ ∃ g' c', o = .slice (some ⟨g', 0, none⟩) k c' ∧ w.heap.size + 1 ≤ g' ∧ Own wr 2 g' c' k (fun i => .int .i64 ((X i * s i) % p)))
  case atStart => exact ⟨0, Nat.zero_le _, rfl, rfl, BXA.out, _, _, rfl, Nat.le_refl _, HT0.out⟩
  case round =>
    obtain ⟨k, hk, rfl, rfl, ⟨f0, f1, f2, f3⟩, g', c', rfl, hg', hO⟩ := hrel
    have BXr := Lib.hid (show BoxD w p ao n c wr from ⟨f0, f1, f2, f3⟩)
    clear e0 e1 e2 e3
    by_cases hlt : k < n
    · obtain rfl := p4 (by omega)
      obtain rfl := x4 (by omega)
      have hlb := lt_of_cell (P5.out k hlt)
      have hlx := lt_of_cell (X5.out k hlt)
      have z1 : wr.cell? ⟨b, o + k, none⟩ = some (.int .i64 (s k)) := by rw [f3.cell (p := ⟨b, o + k, none⟩) hlb]; exact P5.out k hlt
      have z2 : wr.cell? ⟨xb, xo + k, none⟩ = some (.int .i64 (X k)) := by rw [f3.cell (p := ⟨xb, xo + k, none⟩) hlx]; exact X5.out k hlt
      have hsk := HS.out k hlt
      have hxk := HX.out k hlt
      have hm := mul_bd (a := X k) (b := s k) (by omega) (by omega)
      have hwm : IntKind.i64.wrap (X k * s k) = X k * s k := wrap_in _ (by omega)
      have i0 : (0 : Int) ≤ (k : Int) := by omega
      have i1 : (k : Int) < (n : Int) := by omega
      have hOd := hO.drew
      obtain ⟨j0, j1, j2, j3⟩ := boxDrew BXr.out
      have z3 := cellKp (drewB wr) z1
      have z4 := cellKp (drewB wr) z2
      go_wp2
      go_region_law (first
        | (go_simp; go_at_call 71; refine Calls.makes' (iSField_c _ _ _) _ fun w4 hb4 => ?_; have bx4 := boxKeep hb4 ⟨j0, j1, j2, j3⟩; have hO4 := hOd.kept hb4; have z5 := cellKp hb4 z3; have z6 := cellKp hb4 z4; obtain ⟨k0, k1, k2, k3⟩ := bx4)
        | (go_simp; go_at_call 86; refine (iNum_c _ _ _ (by omega) (by omega) (by omega) (by omega)).mono ?_; rintro e w' ⟨rfl, rfl⟩)
        | (refine step_push rfl _ _ _ _ elI rfl hO4 (.int .i64 ((X k * s k) % p)) rfl rfl rfl (by omega) (by omega) ?_; intro g3 c3 w3 hO3 hg3 hgr3))
      all_goals go_wp2
      all_goals go_roundg (n - (k + 1))
      all_goals first
        | omega
        | (have t4 : wr.heap.size ≤ w4.heap.size := hb4.size
           refine ⟨k + 1, by omega, rfl, by go_num, boxGrown hgr3 (by omega) ⟨k0, k1, k2, k3⟩, g3, c3, rfl, by omega, hO3.congr fun i hi => ?_⟩
           by_cases e2 : i = k
           · subst e2; simp
           · simp [e2])
    · obtain rfl : k = n := by omega
      go_wp2
      go_ret
      exact ⟨g', c', rfl, by omega, f3, hO⟩

set_option maxHeartbeats 1000000 in
theorem iDot_c (p : Int) (v1 v2 : Value) (n : Nat) (X Y : Nat → Int) (w : World) (h : Ints w v1 n X) (h' : Ints w v2 n Y) (hn : n ≤ 1000) (h1 : 1 ≤ p) (h2 : p ≤ 1000) (hX : Sm n X) (hY : Sm n Y) :
    Calls Try.prog 128 #[.int .i64 p, v1, v2] w fun e w' => e = .returned (.int .i64 (sumF (fun i => X i * Y i) n % p)) ∧ w = w' := by
  obtain ⟨ao, c, b, o, rfl, p2, p3, p4, p5⟩ := h.out
  obtain ⟨ao', c', b', o', rfl, p2', p3', p4', p5'⟩ := h'.out
  have hbs : ∀ k, k ≤ n → -1000000000 ≤ sumF (fun i => X i * Y i) k ∧ sumF (fun i => X i * Y i) k ≤ 1000000000 := fun k hk => by
    have h := sumF_bd (f := fun i => X i * Y i) (B := 1000000) (by omega) (n := k) (fun i hi => mul_bd (hX i (by omega)) (hY i (by omega)))
    have h3 : (k : Int) * 1000000 ≤ 1000 * 1000000 := Int.mul_le_mul_of_nonneg_right (by omega) (by omega)
    omega
  have HB := Lib.hid hbs
  have P5 := Lib.hid p5
  have P5' := Lib.hid p5'
  have HX := Lib.hid hX
  have HY := Lib.hid hY
  clear h p5 hX h' p5' hY hbs
  go_enter Try.func128, Try.ntmps128
  go_wp2
  go_loopg [7, 12] n (fun gg u i wr => w = wr ∧ ∃ j : Nat, j ≤ n ∧ gg = n - j ∧ i = .int .i64 j ∧ u = .int .i64 (sumF (fun i => X i * Y i) j))
  case atStart => exact ⟨rfl, 0, Nat.zero_le _, rfl, rfl, rfl⟩
  case round =>
    obtain ⟨rfl, j, hj, rfl, rfl, rfl⟩ := hrel
    by_cases hlt : j < n
    · obtain rfl := p4 (by omega)
      obtain rfl := p4' (by omega)
      have hm := mul_bd (HX.out j hlt) (HY.out j hlt)
      have hb1 := HB.out j (by omega)
      have e1 : w.cell? ⟨b, o + j, none⟩ = some (.int .i64 (X j)) := P5.out j hlt
      have e2 : w.cell? ⟨b', o' + j, none⟩ = some (.int .i64 (Y j)) := P5'.out j hlt
      go_wp2
      go_roundg (n - (j + 1))
      case measure => omega
      case rel => exact ⟨rfl, j + 1, by omega, rfl, by go_num, rfl⟩
    · obtain rfl : j = n := by omega
      have hb1 := HB.out j (by omega)
      go_wp2_with (go_at_call 86; refine (iNum_c _ _ _ h1 h2 (by omega) (by omega)).mono ?_; rintro e w' ⟨rfl, rfl⟩)
      go_ret
      exact ⟨rfl, rfl⟩

set_option maxRecDepth 100000 in
set_option maxHeartbeats 1000000 in
theorem iPair_c (p : Int) (sv xv yv : Value) (n : Nat) (s X Y : Nat → Int) (w : World) (hd : SV w sv p n s) (hx : Vc w xv p n X) (hy : Vc w yv p n Y) :
    Calls Try.prog 64 #[dbl p sv, xv, yv] w fun e w' => Makes w w' e (.int .i64 (pairF p s n X Y)) := by
  have hpb := hd.ok.bd
  have hn6 := hd.ok.n6
  have HV : Hid (∀ W, Below w.heap.size w W → SV W sv p n s) := fun W hb => hd.below hb
  have HX : Hid (∀ W, Below w.heap.size w W → Vc W xv p n X) := fun W hb => hx.below hb
  have HY : Hid (∀ W, Below w.heap.size w W → Vc W yv p n Y) := fun W hb => hy.below hb
  obtain ⟨ao, c, b, o, rfl, p2, p3, qx⟩ := hd.ints.out
  have HSM : Hid (Sm n (fun i => (X i * s i) % p)) := InP.sm (p := p) (fun i _ => mod_bd _ _ (by omega)) (by omega)
  have HE : Hid (sumF (fun i => (X i * s i) % p * Y i) n % p = pairF p s n X Y) := dot_eq p s n X Y
  obtain ⟨R, hR⟩ : ∃ R, pairF p s n X Y = R := ⟨_, rfl⟩
  have HR := Lib.hid hR
  rw [hR]
  clear qx hd hx hy hR
  obtain ⟨e0, e1, e2, e3⟩ := box0 w p ao n c 26
  go_enter Try.func64, Try.ntmps64
  go_wp2
  go_region_held3 (fun W => W.cell? ⟨w.heap.size, 0, none⟩ = some (.int .i64 p) ∧ W.cell? ⟨w.heap.size, 1, none⟩ = some (.slice ao n c) ∧ w.heap.size < W.heap.size ∧ Below w.heap.size w W)
    ((first | assumption | exact boxDrew ⟨e0, e1, e2, e3⟩ | exact boxKeep (by assumption) (by assumption)))
    ((first
      | (go_at_call 128; refine (iDot_c p _ _ n _ Y _ hO2.ints (HY.out _ (boxBelow (by assumption))).ints (by omega) (by omega) (by omega) HSM.out ((HY.out _ (boxBelow (by assumption))).inp.sm (by omega))).mono ?_; rintro e w' ⟨rfl, rfl⟩)
      | (go_at_call 129; refine (iWeighted_c p _ _ n s X _ (HV.out _ (boxBelow (by assumption))) (HX.out _ (boxBelow (by assumption)))).mono ?_; rintro e w2 ⟨g2, c2, rfl, hg2, hb2, hO2⟩)
      | (go_at_call 71; refine Calls.makes' (iSField_c _ _ _) _ fun w1 hb1 => ?_)))
  have b2 : Below w.heap.size w w2 := boxBelow (by assumption)
  go_wp2
  go_ret
  exact ⟨ret_i64 (HE.out.trans HR.out), b2⟩

set_option maxRecDepth 100000 in
set_option maxHeartbeats 1000000 in
theorem sPair_c (p : Int) (sv xv yv : Value) (n : Nat) (s X Y : Nat → Int) (w : World) (hd : SV w sv p n s) (hx : Vc w xv p n X) (hy : Vc w yv p n Y) :
    Calls Try.prog 67 #[dbl p sv, xv, yv] w fun e w' => Makes w w' e (.int .i64 (pairF p s n X Y)) := by
  have hpb := hd.ok.bd
  have hs := hd.ok.inp
  have hxi := hx.inp
  have hyi := hy.inp
  obtain ⟨ao, c, b, o, rfl, p2, p3, p4, p5⟩ := hd.ints.out
  obtain ⟨xa, xc, xb, xo, rfl, x2, x3, x4, x5⟩ := hx.ints.out
  obtain ⟨ya, yc, yb, yo, rfl, y2, y3, y4, y5⟩ := hy.ints.out
  have P5 := Lib.hid p5
  have X5 := Lib.hid x5
  have Y5 := Lib.hid y5
  have HS := Lib.hid hs
  have HX := Lib.hid hxi
  have HY := Lib.hid hyi
  obtain ⟨e0, e1, e2, e3⟩ := box0 w p ao n c 26
  have HE : Hid (spF p s X Y n = pairF p s n X Y) := spF_eq p s X Y n
  clear p5 x5 y5 hs hxi hyi hd hx hy
  go_enter Try.func67, Try.ntmps67
  go_wp2
  go_loopg [7, 8] n (fun g u i wr => ∃ k : Nat, k ≤ n ∧ g = n - k ∧ i = .int .i64 k ∧ u = .int .i64 (spF p s X Y k) ∧ BoxD w p ao n c wr)
  case atStart => exact ⟨0, Nat.zero_le _, rfl, rfl, rfl, ⟨e0, e1, e2, e3⟩⟩
  case round =>
    obtain ⟨k, hk, rfl, rfl, rfl, ⟨f0, f1, f2, f3⟩⟩ := hrel
    have BXr := Lib.hid (show BoxD w p ao n c wr from ⟨f0, f1, f2, f3⟩)
    clear e0 e1 e2 e3
    by_cases hlt : k < n
    · obtain rfl := p4 (by omega)
      obtain rfl := x4 (by omega)
      obtain rfl := y4 (by omega)
      have hlb := lt_of_cell (P5.out k hlt)
      have hlx := lt_of_cell (X5.out k hlt)
      have hly := lt_of_cell (Y5.out k hlt)
      have z1 : wr.cell? ⟨b, o + k, none⟩ = some (.int .i64 (s k)) := by rw [f3.cell (p := ⟨b, o + k, none⟩) hlb]; exact P5.out k hlt
      have z2 : wr.cell? ⟨xb, xo + k, none⟩ = some (.int .i64 (X k)) := by rw [f3.cell (p := ⟨xb, xo + k, none⟩) hlx]; exact X5.out k hlt
      have z3 : wr.cell? ⟨yb, yo + k, none⟩ = some (.int .i64 (Y k)) := by rw [f3.cell (p := ⟨yb, yo + k, none⟩) hly]; exact Y5.out k hlt
      have hsk := HS.out k hlt
      have hxk := HX.out k hlt
      have hyk := HY.out k hlt
      have hq := spF_in (p := p) (by omega) s X Y k
      have hm := mul_bd (a := X k) (b := Y k) (by omega) (by omega)
      have hwm : IntKind.i64.wrap (X k * Y k) = X k * Y k := wrap_in _ (by omega)
      have ht1 : Int.tmod (X k * Y k) p = (X k * Y k) % p := Int.tmod_eq_emod_of_nonneg (Int.mul_nonneg (by omega) (by omega))
      have hmd := mod_bd (X k * Y k) p (by omega)
      have hm2 := mul_bd (a := (X k * Y k) % p) (b := s k) (by omega) (by omega)
      have hm2' : 0 ≤ (X k * Y k) % p * s k := Int.mul_nonneg hmd.1 hsk.1
      have hwm2 : IntKind.i64.wrap ((X k * Y k) % p * s k) = (X k * Y k) % p * s k := wrap_in _ (by omega)
      have hws : IntKind.i64.wrap (spF p s X Y k + (X k * Y k) % p * s k) = spF p s X Y k + (X k * Y k) % p * s k := wrap_in _ (by omega)
      have ht2 : Int.tmod (spF p s X Y k + (X k * Y k) % p * s k) p = spF p s X Y (k + 1) := by rw [spF]; exact Int.tmod_eq_emod_of_nonneg (by omega)
      have hp0 : p ≠ 0 := by omega
      have i0 : (0 : Int) ≤ (k : Int) := by omega
      have i1 : (k : Int) < (n : Int) := by omega
      clear hm hmd hm2 hm2' hq
      go_wp2
      go_quiet (fail)
      go_wp2
      go_roundg (n - (k + 1))
      case measure => omega
      case rel => exact ⟨k + 1, by omega, rfl, by go_num, rfl, boxKeep (W := wr) (below_drewN _ _) BXr.out⟩
    · obtain rfl : k = n := by omega
      go_wp2
      go_ret
      exact ⟨ret_i64 HE.out, f3⟩

end Go.Proofs.Ytnkflgigbielgaa
