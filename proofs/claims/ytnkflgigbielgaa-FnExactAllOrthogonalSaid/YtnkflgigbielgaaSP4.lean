/-
  Spaces: regular ones, codes of vectors, reflections, in both programs. No condition beside sizes.
-/
import Derived.Test.YtnkflgigbielgaaSP2
import Derived.Test.YtnkflgigbielgaaQD
import Derived.Test.YtnkflgigbielgaaD26
set_option linter.unusedVariables false
set_option linter.unusedSimpArgs false
namespace Go.Proofs.Ytnkflgigbielgaa
open Go.RowKit

set_option maxRecDepth 100000 in
theorem iReg_c (p : Int) (sv : Value) (n : Nat) (s : Nat → Int) (w : World) (h : Ints w sv n s) :
    Calls Try.prog 91 #[dbl p sv] w fun e w' => Makes w w' e (.bool (!decide (0 ≤ idx s 0 n))) := by
  have hi := Lib.hid h
  obtain ⟨ao, c, b, o, rfl, p2, p3, qx⟩ := h.out
  clear qx
  obtain ⟨e0, e1, e2, e3⟩ := box0 w p ao n c 26
  obtain ⟨q, hq⟩ : ∃ q, decide (0 ≤ idx s 0 n) = q := ⟨_, rfl⟩
  have HC : Hid (∀ W, Below w.heap.size w W → Calls Try.prog 134 #[.slice ao n c, .int .i64 0] W fun e w' => e = .returned (.bool q) ∧ W = w') := fun W hb => hq ▸ iContains_c _ n s 0 W (hi.out.below hb)
  rw [hq]
  clear hq h
  go_enter Try.func91, Try.ntmps91
  go_wp2_with fail
  go_at_call 134
  refine (HC.out _ e3).mono ?_
  rintro e w' ⟨rfl, rfl⟩
  go_wp2
  go_ret
  exact ⟨rfl, e3⟩

set_option maxRecDepth 100000 in
set_option maxHeartbeats 1000000 in
theorem sDisc_c (p : Int) (sv : Value) (n : Nat) (s : Nat → Int) (w : World) (hd : SV w sv p n s) :
    Calls Try.prog 95 #[dbl p sv] w fun e w' => Makes w w' e (.int .i64 (dF p s n)) := by
  have hpb := hd.ok.bd
  have hs := hd.ok.inp
  obtain ⟨ao, c, b, o, rfl, p2, p3, p4, p5⟩ := hd.ints.out
  have P5 := Lib.hid p5
  have HS := Lib.hid hs
  obtain ⟨e0, e1, e2, e3⟩ := box0 w p ao n c 26
  clear p5 hs hd
  go_enter Try.func95, Try.ntmps95
  go_wp2
  go_loopg [3, 4] n (fun g u i wr => ∃ k : Nat, k ≤ n ∧ g = n - k ∧ i = .int .i64 k ∧ u = .int .i64 (dF p s k) ∧ BoxD w p ao n c wr)
  case atStart => exact ⟨0, Nat.zero_le _, rfl, rfl, rfl, ⟨e0, e1, e2, e3⟩⟩
  case round =>
    obtain ⟨k, hk, rfl, rfl, rfl, ⟨f0, f1, f2, f3⟩⟩ := hrel
    have BXr := Lib.hid (show BoxD w p ao n c wr from ⟨f0, f1, f2, f3⟩)
    clear e0 e1 e2 e3
    by_cases hlt : k < n
    · obtain rfl := p4 (by omega)
      have hlb := lt_of_cell (P5.out k hlt)
      have z1 : wr.cell? ⟨b, o + k, none⟩ = some (.int .i64 (s k)) := by rw [f3.cell (p := ⟨b, o + k, none⟩) hlb]; exact P5.out k hlt
      have hsk := HS.out k hlt
      have hq := dF_in (p := p) (by omega) s k
      have hm := mul_bd (a := dF p s k) (b := s k) (by omega) (by omega)
      have hwm : IntKind.i64.wrap (dF p s k * s k) = dF p s k * s k := wrap_in _ (by omega)
      have ht1 : Int.tmod (dF p s k * s k) p = dF p s (k + 1) := by rw [dF]; exact Int.tmod_eq_emod_of_nonneg (Int.mul_nonneg (by omega) (by omega))
      have hp0 : p ≠ 0 := by omega
      have i0 : (0 : Int) ≤ (k : Int) := by omega
      have i1 : (k : Int) < (n : Int) := by omega
      clear hm hq
      go_wp2
      go_quiet (fail)
      go_wp2
      go_roundg (n - (k + 1))
      case measure => omega
      case rel => exact ⟨k + 1, by omega, rfl, by go_num, rfl, boxKeep (W := wr) (below_drewN _ _) BXr.out⟩
    · obtain rfl : k = n := by omega
      go_wp2
      go_ret
      exact ⟨rfl, f3⟩

/-- the code of vectors of a regular space -/
def codeR (p : Int) (n : Nat) (s : Nat → Int) (m : Nat) (L : Nat → Nat) (T : Nat → Nat → Int) : Int := thenC (codeSv (spB p n s) p n m L T) (decide (0 ≤ idx s 0 n)) 5

theorem codeSv_one {ok : Bool} {p : Int} {n m : Nat} {L : Nat → Nat} {T : Nat → Nat → Int} (h : ok = false) : codeSv ok p n m L T = 1 := by unfold codeSv; rw [h]; rfl

theorem codeSl_eq {ok : Bool} {p : Int} {n m : Nat} {L : Nat → Nat} {T : Nat → Nat → Int} (hm : m ≤ 16) : codeSl ok p n m L T = codeSv ok p n m L T := by
  unfold codeSl codeSv; rw [decide_eq_false (show ¬ 16 < m by omega), Bool.or_false]

set_option maxRecDepth 100000 in
set_option maxHeartbeats 1000000 in
theorem sL05_c (p : Int) (sv lv : Value) (n m : Nat) (s : Nat → Int) (L : Nat → Nat) (T : Nat → Nat → Int) (w : World) (h : Ints w sv n s) (hl : Tab w lv m L T) (hm : m ≤ 16) :
    Calls Try.prog 104 #[dbl p sv, lv] w fun e w' => Makes w w' e (.int .i64 (codeSv (spB p n s) p n m L T)) := by
  have H' := Lib.hid h
  have L' := Lib.hid hl
  obtain ⟨ao, c, b, o, rfl, p2, p3, qx⟩ := h.out
  obtain ⟨la, lc, _, _, _, _, _, _, rfl, q2, q3, ql⟩ := hl.out
  clear qx ql
  obtain ⟨e0, e1, e2, e3⟩ := box0 w p ao n c 26
  have BX := Lib.hid (box0 w p ao n c 26)
  cases hok : spB p n s
  · rw [codeSv_one rfl]
    go_enter Try.func104, Try.ntmps104
    go_wp2_with fail
    refine Calls.makes' (sIsSp_c _ _ _ _ _ (H'.out.below e3)) _ fun w1 hb1 => ?_
    rw [hok]
    go_wp2
    go_ret
    exact ⟨rfl, e3.trans (hb1.mono e3.size)⟩
  · have hsp := spB_ok hok
    obtain ⟨bb, hbb⟩ : ∃ bb, anyB (fun i => !vecB p n (L i) (T i)) m = bb := ⟨_, rfl⟩
    have HLC : Hid (∀ W, Below w.heap.size w W → Calls Try.prog 99 #[dbl p (.slice ao n c), .slice la m lc] W fun e w' => Makes W w' e (.bool (!bb))) := fun W hb =>
      (by rw [hbb, decide_eq_false (show ¬ 16 < m by omega), Bool.or_false] : (!(anyB (fun i => !vecB p n (L i) (T i)) m || decide (16 < m))) = !bb) ▸ sList_c p _ _ n m s L T W ⟨H'.out.below hb, hsp⟩ (L'.out.below hb)
    have hcv : codeSv true p n m L T = if bb then 2 else 0 := by unfold codeSv; rw [hbb]; rfl
    rw [hcv]
    have HOK := Lib.hid hok
    clear hok hsp hbb hcv h hl
    cases bb
    all_goals
      go_enter Try.func104, Try.ntmps104
      go_wp2_with fail
      refine Calls.makes' (sIsSp_c _ _ _ _ _ (H'.out.below e3)) _ fun w1 hb1 => ?_
      rw [HOK.out]
      obtain ⟨f0, f1, f2, f3⟩ := boxKeep hb1 BX.out
      go_wp2_with fail
      refine Calls.makes' (HLC.out _ f3) _ fun w2 hb2 => ?_
      go_wp2
      go_ret
      exact ⟨rfl, f3.trans (hb2.mono f3.size)⟩

set_option maxRecDepth 100000 in
theorem iSNorm_c (p : Int) (sv xv : Value) (n : Nat) (s X : Nat → Int) (w : World) (hd : SV w sv p n s) (hx : Vc w xv p n X) :
    Calls Try.prog 73 #[dbl p sv, xv] w fun e w' => Makes w w' e (.int .i64 (pairF p s n X X)) := by
  have HC : Hid (∀ W, Below w.heap.size w W → Calls Try.prog 64 #[dbl p sv, xv, xv] W fun e w' => Makes W w' e (.int .i64 (pairF p s n X X))) := fun W hb => iPair_c p _ _ _ n s X X W (hd.below hb) (hx.below hb) (hx.below hb)
  obtain ⟨ao, c, b, o, rfl, p2, p3, qx⟩ := hd.ints.out
  clear qx hd hx
  obtain ⟨e0, e1, e2, e3⟩ := box0 w p ao n c 26
  go_enter Try.func73, Try.ntmps73
  go_wp2_with fail
  go_at_call 64
  refine Calls.makes' (HC.out _ e3) _ fun w1 hb1 => ?_
  go_wp2
  go_ret
  exact ⟨rfl, e3.trans (hb1.mono e3.size)⟩

set_option maxRecDepth 100000 in
set_option maxHeartbeats 1000000 in
theorem sPlus2_c (p : Int) (v1 v2 : Value) (n : Nat) (X Y : Nat → Int) (k : Int) (w : World) (h : Ints w v1 n X) (h' : Ints w v2 n Y) (hn : n ≤ 1048576) (h1 : 1 ≤ p) (h2 : p ≤ 1000) (hX : InP p n X) (hY : InP p n Y) (hk : 0 ≤ k ∧ k ≤ 1000) :
    Calls Try.prog 146 #[.int .i64 p, v1, v2, .int .i64 k] w fun e w' => CopyI w w' e n (fun i => (X i + k * Y i) % p) := by
  obtain ⟨ao, c, b, o, rfl, p2, p3, p4, p5⟩ := h.out
  obtain ⟨ao', c', b', o', rfl, p2', p3', p4', p5'⟩ := h'.out
  have P5 := Lib.hid p5
  have P5' := Lib.hid p5'
  have HX := Lib.hid hX
  have HY := Lib.hid hY
  clear h p5 hX h' p5' hY
  have hp0 : p ≠ 0 := by omega
  go_enter Try.func146, Try.ntmps146
  go_wp2
  go_loopg [9, 10] n (fun gg s i wr => ∃ j : Nat, j ≤ n ∧ gg = n - j ∧ i = .int .i64 j ∧ ∃ g2 c2, s = .slice (some ⟨g2, 0, none⟩) j c2 ∧ w.heap.size ≤ g2 ∧ Below w.heap.size w wr ∧ Own wr 2 g2 c2 j (fun i => .int .i64 ((X i + k * Y i) % p)))
  case atStart => exact ⟨0, Nat.zero_le _, rfl, rfl, _, _, rfl, Nat.le_refl _, (Below.refl _ _).alloc (Nat.le_refl _) _, Own.empty _ _ _⟩
  case round =>
    obtain ⟨j, hj, rfl, rfl, g2, c2, rfl, hg2, hb2, hO⟩ := hrel
    by_cases hlt : j < n
    · obtain rfl := p4 (by omega)
      obtain rfl := p4' (by omega)
      have hy := HY.out j hlt
      have hx := HX.out j hlt
      have hm := mul_bd (a := k) (b := Y j) (by omega) (by omega)
      have hm0 : 0 ≤ k * Y j := Int.mul_nonneg (by omega) (by omega)
      have e1 : wr.cell? ⟨b, o + j, none⟩ = some (.int .i64 (X j)) := by
        rw [hb2.cell (p := ⟨b, o + j, none⟩) (lt_of_cell (P5.out j hlt))]; exact P5.out j hlt
      have e2 : wr.cell? ⟨b', o' + j, none⟩ = some (.int .i64 (Y j)) := by
        rw [hb2.cell (p := ⟨b', o' + j, none⟩) (lt_of_cell (P5'.out j hlt))]; exact P5'.out j hlt
      have hw1 : IntKind.i64.wrap (k * Y j) = k * Y j := wrap_in _ (by omega)
      have hw2 : IntKind.i64.wrap (X j + k * Y j) = X j + k * Y j := wrap_in _ (by omega)
      have ht : Int.tmod (X j + k * Y j) p = (X j + k * Y j) % p := Int.tmod_eq_emod_of_nonneg (by omega)
      have hOd := hO.drew
      go_wp2
      go_region_law (first | (refine step_push rfl _ _ _ _ elI rfl hOd (.int .i64 ((X j + k * Y j) % p)) rfl rfl rfl (by omega) (by omega) ?_; intro g3 c3 w3 hO3 hg3 hgr3))
      all_goals go_wp2
      all_goals go_roundg (n - (j + 1))
      all_goals first
        | omega
        | (have hlt4 := hb2.size
           have hgr4 : wr.grownBy w3 (some g2) := ⟨hgr3.os, hgr3.tape, hgr3.output, hgr3.size, hgr3.block⟩
           have hg4 : g3 = g2 ∨ wr.heap.size ≤ g3 := hg3
           refine ⟨j + 1, by omega, rfl, by go_num, g3, c3, rfl, by omega, hb2.grown hgr4 hlt4 (fun k e => by injection e with e; omega), hO3.congr fun i hi => ?_⟩
           by_cases e2 : i = j
           · subst e2; simp
           · simp [e2])
    · obtain rfl : j = n := by omega
      go_wp2
      go_ret
      exact ⟨g2, c2, rfl, hg2, hb2, hO⟩

end Go.Proofs.Ytnkflgigbielgaa
