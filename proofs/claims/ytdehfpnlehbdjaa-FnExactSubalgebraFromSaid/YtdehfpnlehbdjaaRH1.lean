/-
  SubalgebraFrom by the program. No condition beside sizes.
-/
import Derived.Test.YtdehfpnlehbdjaaRE1
import Derived.Test.YtdehfpnlehbdjaaRC3
import Derived.Test.YtdehfpnlehbdjaaD31
import Derived.Test.YtdehfpnlehbdjaaQF
set_option linter.unusedVariables false
set_option linter.unusedSimpArgs false
namespace Go.Proofs.Ytdehfpnlehbdjaa
open Go.RowKit

theorem elLen {w : World} {v : Value} {p : Int} {n m : Nat} {L : Nat → Nat} {T : Nat → Nat → Int} (h : Tab w v m L T) (hv : ∀ i, i < m → elemB p n (L i) (T i) = true) : ∀ i, i < m → L i = 2 ^ n := fun i hi => by
  obtain ⟨ao, c, b, o, A, C, RB, RO, h1, _, _, _, _, h6, h7, h8⟩ := h.out
  exact (elemB_el (Tab.rowAt h6 h7 h8 hi) (hv i hi)).1
theorem len_sum {L : Nat → Nat} : ∀ {m : Nat}, (∀ i, i < m → 1 ≤ L i) → m ≤ sumL L m
  | 0, _ => Nat.zero_le _
  | m + 1, h => by
    have := len_sum (m := m) fun i hi => h i (by omega)
    have := h m (by omega)
    rw [sumL]; omega
theorem room1 {w : World} {v : Value} {p : Int} {n m : Nat} {L : Nat → Nat} {T : Nat → Nat → Int} (h : Tab w v m L T) (hv : ∀ i, i < m → elemB p n (L i) (T i) = true) (hm : m + sumL L m ≤ 1048576) : m + 1 ≤ 1048576 := by
  have h1 := len_sum (L := L) (m := m) fun i hi => by rw [elLen h hv i hi]; exact Nat.pos_of_ne_zero (by simp)
  omega

set_option maxRecDepth 100000 in
set_option maxHeartbeats 8000000 in
theorem iSub_c (p : Int) (sv lv : Value) (n m : Nat) (s : Nat → Int) (L : Nat → Nat) (T : Nat → Nat → Int) (w : World) (h : Ints w sv n s) (hl : Tab w lv m L T) (hm : m + sumL L m ≤ 1048576) :
    Calls Try.prog 17 #[dbl p sv, lv] w fun e w' => ResCT w w' e (codeE (dblB p n s) p n m L T) (subQ p s n m T).2 (fun _ => 2 ^ n) (subQ p s n m T).1 := by
  have h' := Lib.hid h
  have hl' := Lib.hid hl
  obtain ⟨ao, c, b, o, rfl, p2, p3, qx⟩ := h.out
  obtain ⟨la, lc, lb, lo, A, C, RB, RO, rfl, q2, q3, qy⟩ := hl.out
  clear qx qy
  obtain ⟨e0, e1, e2, e3⟩ := box0 w p ao n c 30
  have BX := Lib.hid (box0 w p ao n c 30)
  obtain ⟨cc, hcc⟩ : ∃ cc, codeE (dblB p n s) p n m L T = cc := ⟨_, rfl⟩
  have HC : Hid (Calls Try.prog 34 #[dbl p (.slice ao n c), .slice la m lc] (w.alloc (.cells #[.int .i64 p, .slice ao n c] 30)) fun e w' => Makes (w.alloc (.cells #[.int .i64 p, .slice ao n c] 30)) w' e (.int .i64 cc)) := hcc ▸ iCheckE_c p _ _ n m s L T _ (h.below e3) (hl.below e3)
  obtain ⟨Z, hZ⟩ : ∃ Z, subQ p s n m T = Z := ⟨_, rfl⟩
  by_cases h0 : cc = 0
  · obtain ⟨hok, hel⟩ := codeE_zero (hcc.trans h0)
    have hpr := (dblB_ok hok).prime
    have hbd := primeB_bd hpr
    have hv := dv_of h'.out hok
    have hn4 := hv.le
    have hM16 := pow_le hn4
    have hM0 : 0 < 2 ^ n := Nat.pos_of_ne_zero (by simp)
    have hrows := elRows hl'.out hel
    have hm1 := room1 hl'.out hel hm
    have hTL : Hid (∀ W, Below w.heap.size w W → Tab W (.slice la m lc) m (fun _ => 2 ^ n) T) := fun W hb => hrows.1.below hb
    have HClL : Hid (∀ W, Below w.heap.size w W → Calls Try.prog 43 #[.slice la m lc] W fun e w' => CopyT W w' e m (fun _ => 2 ^ n) T) := fun W hb => iCloneRows_c _ m (2 ^ n) T W (hTL.out W hb) hM0 (by omega) (by omega)
    have HCl : Hid (∀ W v d U, d ≤ 2 ^ n → Tab W v d (fun _ => 2 ^ n) U → Calls Try.prog 43 #[v] W fun e w' => CopyT W w' e d (fun _ => 2 ^ n) U) := fun W v d U hd h => iCloneRows_c _ d (2 ^ n) U W h hM0 (by omega) (by omega)
    have HEl : Hid (∀ W, Below w.heap.size w W → Calls Try.prog 44 #[dbl p (.slice ao n c), .int .i64 0] W fun e w' => ∃ g cg, e = .returned (.slice (some ⟨g, 0, none⟩) (2 ^ n) cg) ∧ W.heap.size ≤ g ∧ Below W.heap.size W w' ∧ Own w' 2 g cg (2 ^ n) (fun i => .int .i64 (dltU 0 i))) := fun W hb =>
      (iElem_c p _ n s 0 W (hv.below hb) (by omega) hM0).mono fun e w' h => by
        obtain ⟨g, cg, q1, q2, q3, q4, _⟩ := h.out
        exact ⟨g, cg, q1, q2, q3, q4⟩
    have HTm : Hid (∀ W xv yv X Y, Below w.heap.size w W → Ints W xv (2 ^ n) X → InP p (2 ^ n) X → Ints W yv (2 ^ n) Y → InP p (2 ^ n) Y → Calls Try.prog 45 #[dbl p (.slice ao n c), xv, yv] W fun e w' => ∃ g cg, e = .returned (.slice (some ⟨g, 0, none⟩) (2 ^ n) cg) ∧ W.heap.size ≤ g ∧ Below W.heap.size W w' ∧ Own w' 2 g cg (2 ^ n) (fun i => .int .i64 (mulF p s n X Y i))) := fun W xv yv X Y hb h1 h2 h3 h4 =>
      (iTimes_c p _ _ _ n s X Y W (hv.below hb) ⟨h1, h2⟩ ⟨h3, h4⟩).mono fun e w' h => by
        obtain ⟨g, cg, q1, q2, q3, q4, _⟩ := h.out
        exact ⟨g, cg, q1, q2, q3, q4⟩
    have HB : Hid (∀ W v G U, Tab W v G (fun _ => 2 ^ n) U → G ≤ 1048576 → RowsIn p G (2 ^ n) U → Calls Try.prog 36 #[.int .i64 p, v] W fun e w' => CopyT W w' e (bSt p G U (2 ^ n)).2 (fun _ => 2 ^ n) (bSt p G U (2 ^ n)).1) := fun W v G U h1 h2 h3 => iBasis_c p v G (2 ^ n) U W h1 ⟨hM0, by omega⟩ h2 hbd h3
    obtain ⟨T0, hT0⟩ : ∃ T0 : Nat → Nat → Int, (fun i => if i = m then dltU 0 else T i) = T0 := ⟨_, rfl⟩
    have hT0i : RowsIn p (m + 1) (2 ^ n) T0 := fun i hi j hj => by
      rw [← hT0]
      show 0 ≤ (if i = m then dltU 0 else T i) j ∧ (if i = m then dltU 0 else T i) j < p
      split
      · unfold dltU; split <;> omega
      · exact hrows.2 i (by omega) j hj
    have hT0m : T0 m = dltU 0 := by rw [← hT0]; simp
    have hT0o : ∀ i, i < m → T0 i = T i := fun i hi => by rw [← hT0]; simp [show i ≠ m by omega]
    have hSt : SubI p s n (Gn m T) (bSt p (m + 1) T0 (2 ^ n)) := SubI.start (bSt_of hpr hT0i)
      (fun u hu => by
        rcases hu with ⟨r, hr, rfl⟩ | rfl
        · exact ⟨r, by omega, (hT0o r hr).symm⟩
        · exact ⟨m, by omega, hT0m.symm⟩)
      (fun u hu => by
        obtain ⟨r, hr, rfl⟩ := hu
        by_cases e : r = m
        · subst e; rw [hT0m]; exact Or.inr rfl
        · rw [hT0o r (by omega)]; exact Or.inl ⟨r, by omega, rfl⟩)
    have HStep : Hid (∀ Q, SubI p s n (Gn m T) Q → SubI p s n (Gn m T) (bSt p (Q.2 + Q.2 * Q.2) (morT p s n Q) (2 ^ n)) ∧ Q.2 ≤ (bSt p (Q.2 + Q.2 * Q.2) (morT p s n Q) (2 ^ n)).2 ∧ ((bSt p (Q.2 + Q.2 * Q.2) (morT p s n Q) (2 ^ n)).2 = Q.2 → Clo p s n Q)) := fun Q hQ => hQ.step hpr
    have HLe : Hid (∀ Q, SubI p s n (Gn m T) Q → Q.2 ≤ 2 ^ n) := fun Q hQ => hQ.le
    have HIn : Hid (∀ Q, SubI p s n (Gn m T) Q → RowsIn p Q.2 (2 ^ n) Q.1) := fun Q hQ => hQ.inp
    have HMin : Hid (∀ Q, SubI p s n (Gn m T) Q → RowsIn p (Q.2 + Q.2 * Q.2) (2 ^ n) (morT p s n Q)) := fun Q hQ => morT_in (by omega) hQ.inp _
    have HSame : Hid (∀ Q, SubI p s n (Gn m T) Q → Clo p s n Q → Q.2 = Z.2 ∧ ∀ r j, r < Q.2 → j < 2 ^ n → Q.1 r j = Z.1 r j) := fun Q hQ hc => hZ ▸ hQ.same hpr hc
    have HTC : Hid (∀ W B g cg, OTab W B g cg (m + 1) (fun i => if i = m then 2 ^ n else 2 ^ n) (fun i => if i = m then dltU 0 else T i) → Tab W (.slice (some ⟨g, 0, none⟩) (m + 1) cg) (m + 1) (fun _ => 2 ^ n) T0) := fun W B g cg h => (h.congr (L' := fun _ => 2 ^ n) (T' := T0) (fun i _ => by show (if i = m then 2 ^ n else 2 ^ n) = 2 ^ n; split <;> rfl) (fun i j _ _ => by rw [← hT0])).tab
    have HC0 := Lib.hid hcc
    have HT0 := Lib.hid hT0i
    have HT0m := Lib.hid hT0m
    have HT0o := Lib.hid hT0o
    have HSt := Lib.hid hSt
    rw [hZ]
    obtain ⟨M, hM⟩ : ∃ M, 2 ^ n = M := ⟨_, rfl⟩
    rw [hM] at HClL HCl HEl HTm HB HStep HLe HIn HMin HSame HTC HT0 HSt hM16 hM0 ⊢
    subst h0
    clear h hl hcc hok hel hv hrows hZ hM hTL hT0 hT0i hT0m hT0o hSt h' hl' hpr hn4
    go_enter Try.func17, Try.ntmps17
    go_wp2_with fail
    refine Calls.makes' HC.out _ fun w1 hb1 => ?_
    obtain ⟨f0, f1, f2, f3⟩ := boxKeep hb1 BX.out
    clear e0 e1 e2 e3 BX HC hb1
    go_wp2_with fail
    go_region_held3 (fun W => W.cell? ⟨w.heap.size, 0, none⟩ = some (.int .i64 p) ∧ W.cell? ⟨w.heap.size, 1, none⟩ = some (.slice ao n c) ∧ w.heap.size < W.heap.size ∧ Below w.heap.size w W)
      ((first | assumption | exact boxDrew ⟨f0, f1, f2, f3⟩ | exact boxKeep (by assumption) (by assumption) | exact boxKeep ((Below.refl _ _).alloc (Nat.le_refl _) _) (by assumption) | exact boxGrown hgr7 hg5 bx6))
      ((first
        | (go_at_call 36; have hx := hgr7; refine (HB.out _ _ _ T0 (HTC.out _ _ _ _ (hpush _ _ _ _ _ _ _ _ hb6 hO6 hg6 hO7 hg7 hgr7)) hm1 HT0.out).mono ?_; rintro e w8 ⟨g8, c8, rfl, hb8, hO8⟩)
        | (refine step_push rfl _ _ _ _ elR rfl hV6 (.slice (some ⟨g6, 0, none⟩) M c6) rfl rfl rfl (by omega) (by omega) ?_; intro g7 c7 w7 hO7 hg7 hgr7)
        | (go_at_call 44; refine (HEl.out _ (boxBelow (by assumption))).mono ?_; rintro e w6 ⟨g6, c6, rfl, hg6, hb6, hO6⟩; have bx6 : BoxD w p ao n c w6 := boxKeep hb6 (by assumption); obtain ⟨V6, hVa, hpush⟩ := hT5.pushAt (by have := hb5.size; omega); have hV6 := hVa.kept hb6)
        | (go_at_call 43; refine (HClL.out _ (boxBelow (by assumption))).mono ?_; rintro e w5 ⟨g5, c5, rfl, hb5, hT5⟩; have hg5 : w.heap.size < g5 := by have h1 := hT5.base; have h2 := hb4.size; simp at h2; omega)
        | (go_at_call 35; refine Calls.makes' (iField_c _ _ _) _ fun w4 hb4 => ?_)))
    have BX8 : Hid (BoxD w p ao n c w8) := Lib.hid (by assumption)
    have l8 : w.heap.size ≤ w7.heap.size := by
      have h1 := hb4.size
      have h2 := hb5.size
      have h3 := hb6.size
      have h4 := hgr7.size
      have h5 := f3.size
      simp at h1
      omega
    have HO8 := Lib.hid (hO8.mono l8)
    obtain ⟨Q0, hQ0⟩ : ∃ Q0, bSt p (m + 1) T0 M = Q0 := ⟨_, rfl⟩
    rw [hQ0] at HO8 HSt ⊢
    clear f0 f1 f2 f3 hb4 hb5 hb6 hT5 hVa hpush hV6 hO6 hO7 hgr7 hg5 hg6 hg7 hb8 hO8 hQ0 l8
    go_wp2_with fail
    go_loopg [7] (M + 1 - Q0.2) (fun g o wr => ∃ Q : (Nat → Nat → Int) × Nat, g = M + 1 - Q.2 ∧ Hid (SubI p s n (Gn m T) Q) ∧ BoxD w p ao n c wr ∧ ∃ g' c', o = .slice (some ⟨g', 0, none⟩) Q.2 c' ∧ Hid (OTab wr w.heap.size g' c' Q.2 (fun _ => M) Q.1))
    case atStart => exact ⟨Q0, rfl, HSt.out, BX8.out, _, _, rfl, HO8.out⟩
    case round =>
      obtain ⟨Q, rfl, hI, ⟨f0, f1, f2, f3⟩, g', c', rfl, hO⟩ := hrel
      obtain ⟨wo, rfl⟩ : ∃ wo, wo = wr := ⟨_, rfl⟩
      have BXo := Lib.hid (show BoxD w p ao n c wo from ⟨f0, f1, f2, f3⟩)
      clear BX8 HO8 HSt
      have hle := HLe.out Q hI.out
      have hin := Lib.hid (HIn.out Q hI.out)
      have hmin := Lib.hid (HMin.out Q hI.out)
      have hstep := Lib.hid (HStep.out Q hI.out)
      have hsame := Lib.hid (HSame.out Q hI.out)
      have hMo : Hid (∀ r, r < Q.2 → morT p s n Q r = Q.1 r) := fun r hr => morT_old hr
      have hMn : Hid (∀ i k, k < Q.2 → morT p s n Q (Q.2 + (i * Q.2 + k)) = mulF p s n (Q.1 i) (Q.1 k)) := fun i k hk => morT_new hk
      obtain ⟨MT, hMT⟩ : ∃ MT, morT p s n Q = MT := ⟨_, rfl⟩
      rw [hMT] at hmin hstep hMo hMn
      obtain ⟨d, hd⟩ : ∃ d, Q.2 = d := ⟨_, rfl⟩
      have HD := Lib.hid hd
      rw [hd] at hle hin hmin hstep hsame hMo hMn hO ⊢
      have hdd : d * d ≤ 16 * 16 := Nat.mul_le_mul (by omega) (by omega)
      have hpl : Hid (∀ i k, i < d → k < d → i * d + k < d * d) := fun i k hi hk => pair_lt hi hk
      clear hMT hd
      go_wp2_with fail
      go_at_call 43
      refine (HCl.out wo _ d Q.1 hle hO.out.tab).mono ?_
      rintro e w1 ⟨g1, c1, rfl, hb1, hT1⟩
      have BX1 := Lib.hid (boxKeep hb1 BXo.out)
      have HT1 : Hid (OTab w1 wo.heap.size g1 c1 d (fun _ => M) MT) := hT1.congr (fun _ _ => rfl) (fun i j hi _ => by rw [hMo.out i hi])
      have HB1 := Lib.hid hb1
      clear hT1 hb1
      go_wp2_with fail
      go_loopg [8, 32] d (fun g o i wq => ∃ x : Nat, x ≤ d ∧ g = d - x ∧ i = .int .i64 x ∧ BoxD w p ao n c wq ∧ Hid (Below wo.heap.size wo wq) ∧ ∃ g1 c1 K, o = .slice (some ⟨g1, 0, none⟩) K c1 ∧ Hid (K = d + x * d) ∧ Hid (OTab wq wo.heap.size g1 c1 K (fun _ => M) MT))
      case atStart => exact ⟨0, Nat.zero_le _, rfl, rfl, BX1.out, HB1.out, _, _, _, rfl, by show d = d + 0 * d; omega, HT1.out⟩
      case round =>
        obtain ⟨x, hx, rfl, rfl, ⟨h0, h1, h2, h3⟩, hbq, g2, c2, K, rfl, hK, hTq⟩ := hrel
        obtain ⟨wp, rfl⟩ : ∃ wp, wp = wr := ⟨_, rfl⟩
        have BXp := Lib.hid (show BoxD w p ao n c wp from ⟨h0, h1, h2, h3⟩)
        clear BX1 HT1 HB1
        by_cases hxd : x < d
        · obtain ⟨rx, cx, hcx, hrx⟩ := hO.out.bound.row hxd
          have hcx2 : wp.cell? ⟨g', x, none⟩ = some (.slice (some ⟨rx, 0, none⟩) M cx) := by rw [hbq.out.cell (p := ⟨g', x, none⟩) (lt_of_cell hcx)]; exact hcx
          have HRX := Lib.hid hrx
          clear hrx hcx
          go_wp2_with fail
          go_loopg [8, 38] d (fun g o i wq => ∃ y : Nat, y ≤ d ∧ g = d - y ∧ i = .int .i64 y ∧ BoxD w p ao n c wq ∧ Hid (Below wo.heap.size wo wq) ∧ ∃ g1 c1 K, o = .slice (some ⟨g1, 0, none⟩) K c1 ∧ Hid (K = d + (x * d + y)) ∧ Hid (OTab wq wo.heap.size g1 c1 K (fun _ => M) MT))
          case atStart => exact ⟨0, Nat.zero_le _, rfl, rfl, BXp.out, hbq.out, _, _, _, rfl, hK.out, hTq.out⟩
          case round =>
            obtain ⟨y, hy, rfl, rfl, ⟨j0, j1, j2, j3⟩, hbr, g3, c3, J, rfl, hJ, hTr⟩ := hrel
            have BXr := Lib.hid (show BoxD w p ao n c wr from ⟨j0, j1, j2, j3⟩)
            clear hcx2
            by_cases hyd : y < d
            · obtain ⟨ry, cy, hcy, hry⟩ := hO.out.bound.row hyd
              have hcy2 : wr.cell? ⟨g', y, none⟩ = some (.slice (some ⟨ry, 0, none⟩) M cy) := by rw [hbr.out.cell (p := ⟨g', y, none⟩) (lt_of_cell hcy)]; exact hcy
              have HA : Hid (Calls Try.prog 45 #[dbl p (.slice ao n c), .slice (some ⟨rx, 0, none⟩) M cx, .slice (some ⟨ry, 0, none⟩) M cy] wr fun e w' => ∃ g cg, e = .returned (.slice (some ⟨g, 0, none⟩) M cg) ∧ wr.heap.size ≤ g ∧ Below wr.heap.size wr w' ∧ Own w' 2 g cg M (fun i => .int .i64 (mulF p s n (Q.1 x) (Q.1 y) i))) :=
                HTm.out wr _ _ _ _ j3 (HRX.out.below hbr.out) (hin.out x hxd) (hry.below hbr.out) (hin.out y hyd)
              have hJK := hJ.out
              have hpl1 := hpl.out x y hxd hyd
              have hJ3 : J ≤ 1000 := by omega
              have HP := hTr.out.pushAt hbr.out.size
              obtain ⟨V, hV, hpush⟩ := HP
              have HPU := Lib.hid hpush
              have HV := Lib.hid hV
              have hgB := hTr.out.base
              have hbrs := hbr.out.size
              clear hry hcy hpush hV hJK hpl1
              go_wp2_with fail
              go_at_call 45
              refine HA.out.mono ?_
              rintro e w5 ⟨g5, c5, rfl, hg5, hb5, hO5⟩
              have hV2 := HV.out.kept hb5
              have BX5 := Lib.hid (boxKeep hb5 BXr.out)
              go_wp2_with (at_builtin; refine wpList_push _ rfl _ _ _ _ elR rfl hV2 (.slice (some ⟨g5, 0, none⟩) M c5) rfl rfl rfl (by omega) (by omega) ?_; intro g6 c6 w6 hO6 hg6 hgr6)
              have hs5 := hb5.size
              go_roundg (d - (y + 1))
              case measure => omega
              case rel =>
                have hT6 := HPU.out _ _ _ _ _ _ _ _ hb5 hO5 hg5 hO6 hg6 hgr6
                refine ⟨y + 1, by omega, rfl, by go_num, boxGrown hgr6 (by have := f3.size; omega) BX5.out, (hbr.out.trans (hb5.mono hbrs)).grown hgr6 (by omega) (fun q e => by injection e with e; omega), g6, c6, _, rfl, by show J + 1 = d + (x * d + (y + 1)); have := hJ.out; omega, hT6.congr (fun i hi => by by_cases e : i = J <;> simp [e]) (fun i j hi hj => ?_)⟩
                by_cases e : i = J
                · subst e
                  simp only [if_pos]
                  rw [← hMn.out x y hyd, ← hJ.out]
                · simp [e]
            · obtain rfl : y = d := by omega
              go_wp2
              go_roundg (y - (x + 1))
              case measure => omega
              case rel => exact ⟨x + 1, by omega, rfl, by go_num, BXr.out, hbr.out, _, _, _, rfl, by have := hJ.out; show J = y + (x + 1) * y; rw [Nat.succ_mul]; exact this, hTr.out⟩
        · obtain rfl : x = d := by omega
          have hK2 := hK.out
          subst hK2
          obtain ⟨Q', hQ'⟩ : ∃ Q', bSt p (x + x * x) MT M = Q' := ⟨_, rfl⟩
          obtain ⟨d', hd'⟩ : ∃ d', Q'.2 = d' := ⟨_, rfl⟩
          have HBq : Hid (∀ W v, Tab W v (x + x * x) (fun _ => M) MT → Calls Try.prog 36 #[.int .i64 p, v] W fun e w' => CopyT W w' e d' (fun _ => M) Q'.1) := fun W v h => by
            have := HB.out W v _ MT h (by omega) hmin.out
            rw [hQ', hd'] at this
            exact this
          rw [hQ', hd'] at hstep
          have HD' := Lib.hid hd'
          have HQL := HLe.out Q' hstep.out.1
          rw [hd'] at HQL
          have hstep2 := hstep.out.2.1
          obtain ⟨K, hK3⟩ : ∃ K, x + x * x = K := ⟨_, rfl⟩
          rw [hK3] at HBq hTq ⊢
          clear hQ' hd' hK3 hK hmin
          go_wp2_with fail
          refine Calls.makes' (iField_c _ _ _) _ fun w2 hb2 => ?_
          have hTab2 := Lib.hid ((hTq.out.kept hb2).tab)
          have BX2 := Lib.hid (boxKeep hb2 BXp.out)
          have HB2 := Lib.hid (hbq.out.trans (hb2.mono hbq.out.size))
          clear hb2
          go_wp2_with fail
          go_at_call 36
          refine (HBq.out _ _ hTab2.out).mono ?_
          rintro e w4 ⟨g4, c4, rfl, hb4, hO4⟩
          have BX4 := Lib.hid (boxKeep hb4 BX2.out)
          have HB4 := Lib.hid (HB2.out.trans (hb4.mono HB2.out.size))
          have HO4 := Lib.hid (hO4.mono (show w.heap.size ≤ w2.heap.size from Nat.le_trans f3.size HB2.out.size))
          clear hb4 hO4
          by_cases he : d' = x
          · subst he
            have hclo := Lib.hid (hstep.out.2.2 rfl)
            clear hstep
            go_wp2
            go_ret2
            have hZd := hsame.out hclo.out
            refine ⟨BX4.out.2.2.2, Or.inl ⟨HC0.out, g', c', ?_, ?_⟩⟩
            · rw [hZd.1]; rfl
            · exact hZd.1 ▸ ((hO.out.kept HB4.out).congr (fun _ _ => rfl) (fun i j hi hj => hZd.2 i j hi hj))
          · have hne : ((d' : Int) == (x : Int)) = false := by simp; omega
            go_wp2
            go_roundg (M + 1 - d')
            case measure => have := HD.out; omega
            case rel => exact ⟨Q', by rw [HD'.out], hstep.out.1, BX4.out, g4, c4, by rw [HD'.out], by rw [HD'.out]; exact HO4.out⟩
  · have hne : (cc != 0) = true := by rw [bne_iff_ne]; exact h0
    rw [hcc, hZ]
    obtain ⟨M, hM⟩ : ∃ M, 2 ^ n = M := ⟨_, rfl⟩
    rw [hM]
    clear hM hZ hcc
    go_enter Try.func17, Try.ntmps17
    go_wp2_with fail
    refine Calls.makes' HC.out _ fun w1 hb1 => ?_
    go_wp2
    go_ret2
    exact ⟨e3.trans (hb1.mono e3.size), Or.inr ⟨h0, rfl⟩⟩


end Go.Proofs.Ytdehfpnlehbdjaa
