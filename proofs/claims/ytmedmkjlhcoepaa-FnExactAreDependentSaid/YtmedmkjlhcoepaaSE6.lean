/-
  AreDependent in both programs. No condition.
-/
import Derived.Test.YtmedmkjlhcoepaaSE5
import Derived.Test.YtmedmkjlhcoepaaSP3
set_option linter.unusedVariables false
set_option linter.unusedSimpArgs false
namespace Go.Proofs.Ytmedmkjlhcoepaa
open Go.RowKit

theorem Tab.sameL {w : World} {v : Value} {G n : Nat} {L : Nat → Nat} {T : Nat → Nat → Int} (h : Tab w v G L T) (hL : ∀ i, i < G → L i = n) : Tab w v G (fun _ => n) T := by
  obtain ⟨ao, c, b, o, A, C, RB, RO, h1, h2, h3, h4, h5, h6, h7, h8⟩ := h.out
  exact ⟨ao, c, b, o, A, C, RB, RO, h1, h2, h3, h4, fun i hi => by rw [h5 i hi, hL i hi], fun i hi => by rw [← hL i hi]; exact h6 i hi, fun i hi hp => h7 i hi (by rw [hL i hi]; exact hp), fun i j hi hj => h8 i j hi (by rw [hL i hi]; exact hj)⟩
/-- rows that are vectors, as a table of the field -/
theorem vecRows {w : World} {v : Value} {p : Int} {n m : Nat} {L : Nat → Nat} {T : Nat → Nat → Int} (h : Tab w v m L T) (hv : ∀ i, i < m → vecB p n (L i) (T i) = true) : Tab w v m (fun _ => n) T ∧ RowsIn p m n T := by
  have h2 : ∀ i, i < m → L i = n ∧ InP p n (T i) := fun i hi => by
    have hh := hv i hi
    obtain ⟨ao, c, b, o, A, C, RB, RO, h1, _, _, _, _, h6, h7, h8⟩ := h.out
    have := vecB_vc (Tab.rowAt h6 h7 h8 hi) hh
    exact ⟨this.1, this.2.inp⟩
  exact ⟨h.sameL fun i hi => (h2 i hi).1, fun i hi => (h2 i hi).2⟩

set_option maxRecDepth 100000 in
set_option maxHeartbeats 1000000 in
theorem sL5_c (p : Int) (sv lv : Value) (n m : Nat) (s : Nat → Int) (L : Nat → Nat) (T : Nat → Nat → Int) (w : World) (h : Ints w sv n s) (hl : Tab w lv m L T) :
    Calls Try.prog 99 #[dbl p sv, lv] w fun e w' => Makes w w' e (.int .i64 (codeSl (spB p n s) p n m L T)) := by
  have h' := Lib.hid h
  obtain ⟨ao, c, b, o, rfl, p2, p3, qx⟩ := h.out
  have hl' := Lib.hid hl
  obtain ⟨la, lc, lb, lo, A, C, RB, RO, rfl, qy⟩ := hl.out
  clear qx qy h hl
  obtain ⟨e0, e1, e2, e3⟩ := box0 w p ao n c 30
  have BX := Lib.hid (box0 w p ao n c 30)
  cases hok : spB p n s
  · rw [← hok, codeSl_out hok]
    go_enter Try.func99, Try.ntmps99
    go_wp2_with fail
    refine Calls.makes' (sIsSp_c _ _ _ _ _ (h'.out.below e3)) _ fun w1 hb1 => ?_
    rw [hok]
    go_wp2
    go_ret
    exact ⟨rfl, e3.trans (hb1.mono e3.size)⟩
  · rw [← hok]
    have hsp := spB_ok hok
    obtain ⟨bb, hbb⟩ : ∃ bb, (anyB (fun i => !vecB p n (L i) (T i)) m || decide (16 < m)) = bb := ⟨_, rfl⟩
    have HLC : Hid (∀ W, Below w.heap.size w W → Calls Try.prog 51 #[dbl p (.slice ao n c), .slice la m lc] W fun e w' => Makes W w' e (.bool (!bb))) := fun W hb => hbb ▸ sList_c p _ _ n m s L T W ⟨h'.out.below hb, hsp⟩ (hl'.out.below hb)
    have hcc : codeSl (spB p n s) p n m L T = if bb then 2 else 0 := by rw [codeSl_in hok, hbb]
    have HOK := Lib.hid hok
    rw [hcc]
    clear hbb hcc hok
    cases bb
    all_goals
      go_enter Try.func99, Try.ntmps99
      go_wp2_with fail
      refine Calls.makes' (sIsSp_c _ _ _ _ _ (h'.out.below e3)) _ fun w1 hb1 => ?_
      rw [HOK.out]
      have bx1 := boxKeep hb1 BX.out
      obtain ⟨f0, f1, f2, f3⟩ := bx1
      go_wp2_with fail
      refine Calls.makes' (HLC.out _ f3) _ fun w2 hb2 => ?_
      go_wp2
      go_ret
      exact ⟨rfl, f3.trans (hb2.mono f3.size)⟩

/-- what AreDependent answers -/
def depB (cc p : Int) (n m : Nat) (T : Nat → Nat → Int) : Bool := if cc = 0 then decide ((bSt p m T n).2 < m) else false

set_option maxRecDepth 100000 in
set_option maxHeartbeats 2000000 in
theorem iAreDependent_c (p : Int) (sv lv : Value) (n m : Nat) (s : Nat → Int) (L : Nat → Nat) (T : Nat → Nat → Int) (w : World) (h : Ints w sv n s) (hl : Tab w lv m L T) :
    Calls Try.prog 46 #[dbl p sv, lv] w fun e w' => Makes w w' e (.tuple #[.bool (depB (codeSl (spB p n s) p n m L T) p n m T), .int .i64 (codeSl (spB p n s) p n m L T)]) := by
  obtain ⟨ao, c, b, o, rfl, p2, p3, qx⟩ := h.out
  have hl' := Lib.hid hl
  obtain ⟨la, lc, lb, lo, A, C, RB, RO, rfl, q2, q3, qy⟩ := hl.out
  clear qx qy
  obtain ⟨e0, e1, e2, e3⟩ := box0 w p ao n c 30
  have BX := Lib.hid (box0 w p ao n c 30)
  obtain ⟨cc, hcc⟩ : ∃ cc, codeSl (spB p n s) p n m L T = cc := ⟨_, rfl⟩
  have HC : Hid (Calls Try.prog 53 #[dbl p (.slice ao n c), .slice la m lc] (w.alloc (.cells #[.int .i64 p, .slice ao n c] 30)) fun e w' => Makes (w.alloc (.cells #[.int .i64 p, .slice ao n c] 30)) w' e (.int .i64 cc)) := hcc ▸ iCkL_c p _ _ n m s L T _ (h.below e3) (hl.below e3)
  rw [hcc]
  by_cases h0 : cc = 0
  · obtain ⟨hok, hvec, hm16⟩ := codeSl_zero (hcc.trans h0)
    have hsp := spB_ok hok
    have hbd := hsp.bd
    have hn1 := hsp.n1
    have hn6 := hsp.n6
    obtain ⟨B, hB⟩ : ∃ B, (bSt p m T n).2 = B := ⟨_, rfl⟩
    have HB : Hid (∀ W, Below w.heap.size w W → Calls Try.prog 104 #[.int .i64 p, .slice la m lc] W fun e w' => ∃ g c, e = .returned (.slice (some ⟨g, 0, none⟩) B c) ∧ Below W.heap.size W w') := fun W hb =>
      (iBasis_c p _ m n T W ((vecRows hl'.out hvec).1.below hb) (by omega) (by omega) hbd (vecRows hl'.out hvec).2).mono fun e w' h => by
        obtain ⟨g, c, q1, q2, q3⟩ := h
        exact ⟨g, c, by rw [q1, hB], q2⟩
    have hD : depB cc p n m T = decide (B < m) := by unfold depB; rw [if_pos h0, hB]
    rw [hD]
    subst h0
    have hBle : B ≤ m := by rw [← hB]; exact (bSt_in (p := p) (n := n) (by omega) (vecRows hl'.out hvec).2 n).2.1
    obtain ⟨dd, hdd⟩ : ∃ dd, decide (B < m) = dd := ⟨_, rfl⟩
    have hdi : decide ((B : Int) < (m : Int)) = dd := by rw [← hdd]; congr 1; exact propext (by omega)
    rw [hdd]
    have HDD := Lib.hid hdd
    clear h hl hcc hvec hok hsp hB hD hdd
    go_enter Try.func46, Try.ntmps46
    go_wp2_with fail
    refine Calls.makes' HC.out _ fun w1 hb1 => ?_
    obtain ⟨f0, f1, f2, f3⟩ := boxKeep hb1 BX.out
    go_wp2_with fail
    refine Calls.makes' (iSField_c _ _ _) _ fun w2 hb2 => ?_
    have hb3 := f3.trans (hb2.mono f3.size)
    go_wp2_with fail
    refine (HB.out _ hb3).mono ?_
    rintro e w4 ⟨g, c4, rfl, hb4⟩
    go_wp2
    go_ret2
    exact ⟨by first | rfl | simp [HDD.out, hdi], hb3.trans (hb4.mono hb3.size)⟩
  · have hne : (cc != 0) = true := by rw [bne_iff_ne]; exact h0
    have hD : depB cc p n m T = false := by unfold depB; rw [if_neg h0]
    rw [hD]
    go_enter Try.func46, Try.ntmps46
    go_wp2_with fail
    refine Calls.makes' HC.out _ fun w1 hb1 => ?_
    go_wp2
    go_ret2
    exact ⟨rfl, e3.trans (hb1.mono e3.size)⟩

set_option maxRecDepth 100000 in
set_option maxHeartbeats 2000000 in
theorem sAreDependent_c (p : Int) (sv lv : Value) (n m : Nat) (s : Nat → Int) (L : Nat → Nat) (T : Nat → Nat → Int) (w : World) (h : Ints w sv n s) (hl : Tab w lv m L T) :
    Calls Try.prog 45 #[dbl p sv, lv] w fun e w' => Makes w w' e (.tuple #[.bool (depB (codeSl (spB p n s) p n m L T) p n m T), .int .i64 (codeSl (spB p n s) p n m L T)]) := by
  obtain ⟨ao, c, b, o, rfl, p2, p3, qx⟩ := h.out
  have hl' := Lib.hid hl
  obtain ⟨la, lc, lb, lo, A, C, RB, RO, rfl, q2, q3, qy⟩ := hl.out
  clear qx qy
  obtain ⟨e0, e1, e2, e3⟩ := box0 w p ao n c 30
  have BX := Lib.hid (box0 w p ao n c 30)
  obtain ⟨cc, hcc⟩ : ∃ cc, codeSl (spB p n s) p n m L T = cc := ⟨_, rfl⟩
  have HC : Hid (Calls Try.prog 99 #[dbl p (.slice ao n c), .slice la m lc] (w.alloc (.cells #[.int .i64 p, .slice ao n c] 30)) fun e w' => Makes (w.alloc (.cells #[.int .i64 p, .slice ao n c] 30)) w' e (.int .i64 cc)) := hcc ▸ sL5_c p _ _ n m s L T _ (h.below e3) (hl.below e3)
  rw [hcc]
  by_cases h0 : cc = 0
  · obtain ⟨hok, hvec, hm16⟩ := codeSl_zero (hcc.trans h0)
    have hsp := spB_ok hok
    have hbd := hsp.bd
    have hn1 := hsp.n1
    have hn6 := hsp.n6
    obtain ⟨B, hB⟩ : ∃ B, (bSt p m T n).2 = B := ⟨_, rfl⟩
    have HB : Hid (∀ W, Below w.heap.size w W → Calls Try.prog 103 #[.int .i64 p, .slice la m lc] W fun e w' => ∃ g c, e = .returned (.slice (some ⟨g, 0, none⟩) B c) ∧ Below W.heap.size W w') := fun W hb =>
      (sBasis_c p _ m n T W ((vecRows hl'.out hvec).1.below hb) (by omega) (by omega) hsp.prime (vecRows hl'.out hvec).2).mono fun e w' h => by
        obtain ⟨g, c, q1, q2, q3⟩ := h
        exact ⟨g, c, by rw [q1, hB], q2⟩
    have hD : depB cc p n m T = decide (B < m) := by unfold depB; rw [if_pos h0, hB]
    rw [hD]
    subst h0
    have hBle : B ≤ m := by rw [← hB]; exact (bSt_in (p := p) (n := n) (by omega) (vecRows hl'.out hvec).2 n).2.1
    obtain ⟨dd, hdd⟩ : ∃ dd, decide (B < m) = dd := ⟨_, rfl⟩
    have hdi : decide ((B : Int) < (m : Int)) = dd := by rw [← hdd]; congr 1; exact propext (by omega)
    rw [hdd]
    have HDD := Lib.hid hdd
    clear h hl hcc hvec hok hsp hB hD hdd
    go_enter Try.func45, Try.ntmps45
    go_wp2_with fail
    refine Calls.makes' HC.out _ fun w1 hb1 => ?_
    obtain ⟨f0, f1, f2, f3⟩ := boxKeep hb1 BX.out
    go_wp2_with fail
    refine (HB.out _ f3).mono ?_
    rintro e w4 ⟨g, c4, rfl, hb4⟩
    go_wp2
    go_ret2
    exact ⟨by first | rfl | simp [HDD.out, hdi], f3.trans (hb4.mono f3.size)⟩
  · have hne : (cc != 0) = true := by rw [bne_iff_ne]; exact h0
    have hD : depB cc p n m T = false := by unfold depB; rw [if_neg h0]
    rw [hD]
    go_enter Try.func45, Try.ntmps45
    go_wp2_with fail
    refine Calls.makes' HC.out _ fun w1 hb1 => ?_
    go_wp2
    go_ret2
    exact ⟨rfl, e3.trans (hb1.mono e3.size)⟩

end Go.Proofs.Ytmedmkjlhcoepaa
