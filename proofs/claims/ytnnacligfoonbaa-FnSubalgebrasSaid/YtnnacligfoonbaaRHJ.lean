/-
  SubalgebraFrom by the program. No condition beside sizes.
-/
import Derived.Test.YtnnacligfoonbaaRDJ
import Derived.Test.YtnnacligfoonbaaRCJ
import Derived.Test.YtnnacligfoonbaaD31
import Derived.Test.YtnnacligfoonbaaQF
set_option linter.unusedVariables false
set_option linter.unusedSimpArgs false
namespace Go.Proofs.Ytnnacligfoonbaa
open Go.RowKit

theorem elLen {w : World} {v : Value} {p : Int} {n m : Nat} {L : Nat → Nat} {T : Nat → Nat → Int} (h : Tab w v m L T) (hv : ∀ i, i < m → elemB p n (L i) (T i) = true) : ∀ i, i < m → L i = 2 ^ n := fun i hi => by
  obtain ⟨ao, c, b, o, A, C, RB, RO, h1, _, _, _, _, h6, h7, h8⟩ := h.out
  exact (elemB_el (Tab.rowAt h6 h7 h8 hi) (hv i hi)).1
theorem len_sum {L : Nat → Nat} : ∀ {m : Nat}, (∀ i, i < m → 1 ≤ L i) → m ≤ sumL L m
  | 0, _ => Nat.zero_le _
  | m + 1, h => by
    have := len_sum (m := m) fun i hi => h i (by omega)
    have := h m (by omega)
    rw [sumL]; omega
theorem room1 {w : World} {v : Value} {p : Int} {n m : Nat} {L : Nat → Nat} {T : Nat → Nat → Int} (h : Tab w v m L T) (hv : ∀ i, i < m → elemB p n (L i) (T i) = true) (hm : m + sumL L m ≤ 1048576) : m + 1 ≤ 1048576 := by
  have h1 := len_sum (L := L) (m := m) fun i hi => by rw [elLen h hv i hi]; exact Nat.pos_of_ne_zero (by simp)
  omega

set_option maxRecDepth 100000 in
set_option maxHeartbeats 8000000 in
theorem iSub_c (p : Int) (sv lv : Value) (n m : Nat) (s : Nat → Int) (L : Nat → Nat) (T : Nat → Nat → Int) (w : World) (h : Ints w sv n s) (hl : Tab w lv m L T) (hm : m + sumL L m ≤ 1048576) :
    Calls Try.prog 60 #[dbl p sv, lv] w fun e w' => ResCT w w' e (codeE (dblB p n s) p n m L T) (subQ p s n m T).2 (fun _ => 2 ^ n) (subQ p s n m T).1 := by
  have h' := Lib.hid h
  have hl' := Lib.hid hl
  obtain ⟨ao, c, b, o, rfl, p2, p3, qx⟩ := h.out
  obtain ⟨la, lc, lb, lo, A, C, RB, RO, rfl, q2, q3, qy⟩ := hl.out
  clear qx qy
  obtain ⟨e0, e1, e2, e3⟩ := box0 w p ao n c 26
  have BX := Lib.hid (box0 w p ao n c 26)
  obtain ⟨cc, hcc⟩ : ∃ cc, codeE (dblB p n s) p n m L T = cc := ⟨_, rfl⟩
  have HC : Hid (Calls Try.prog 83 #[dbl p (.slice ao n c), .slice la m lc] (w.alloc (.cells #[.int .i64 p, .slice ao n c] 26)) fun e w' => Makes (w.alloc (.cells #[.int .i64 p, .slice ao n c] 26)) w' e (.int .i64 cc)) := hcc ▸ iCheckE_c p _ _ n m s L T _ (h.below e3) (hl.below e3)
  obtain ⟨Z, hZ⟩ : ∃ Z, subQ p s n m T = Z := ⟨_, rfl⟩
  by_cases h0 : cc = 0
  · obtain ⟨hok, hel⟩ := codeE_zero (hcc.trans h0)
    have hpr := (dblB_ok hok).prime
    have hbd := primeB_bd hpr
    have hv := dv_of h'.out hok
    have hn4 := hv.le
    have hM16 := pow_le hn4
    have hM0 : 0 < 2 ^ n := Nat.pos_of_ne_zero (by simp)
    have hrows := elRows hl'.out hel
    have hm1 := room1 hl'.out hel hm
    have hTL : Hid (∀ W, Below w.heap.size w W → Tab W (.slice la m lc) m (fun _ => 2 ^ n) T) := fun W hb => hrows.1.below hb
    have HClL : Hid (∀ W, Below w.heap.size w W → Calls Try.prog 116 #[.slice la m lc] W fun e w' => CopyT W w' e m (fun _ => 2 ^ n) T) := fun W hb => iCloneRows_c _ m (2 ^ n) T W (hTL.out W hb) hM0 (by omega) (by omega)
    have HCl : Hid (∀ W v d U, d ≤ 2 ^ n → Tab W v d (fun _ => 2 ^ n) U → Calls Try.prog 116 #[v] W fun e w' => CopyT W w' e d (fun _ => 2 ^ n) U) := fun W v d U hd h => iCloneRows_c _ d (2 ^ n) U W h hM0 (by omega) (by omega)
    have HEl : Hid (∀ W, Below w.heap.size w W → Calls Try.prog 99 #[dbl p (.slice ao n c), .int .i64 0] W fun e w' => ∃ g cg, e = .returned (.slice (some ⟨g, 0, none⟩) (2 ^ n) cg) ∧ W.heap.size ≤ g ∧ Below W.heap.size W w' ∧ Own w' 2 g cg (2 ^ n) (fun i => .int .i64 (dltU 0 i))) := fun W hb =>
      (iElem_c p _ n s 0 W (hv.below hb) (by omega) hM0).mono fun e w' h => by
        obtain ⟨g, cg, q1, q2, q3, q4, _⟩ := h.out
        exact ⟨g, cg, q1, q2, q3, q4⟩
    have HTm : Hid (∀ W xv yv X Y, Below w.heap.size w W → Ints W xv (2 ^ n) X → InP p (2 ^ n) X → Ints W yv (2 ^ n) Y → InP p (2 ^ n) Y → Calls Try.prog 91 #[dbl p (.slice ao n c), xv, yv] W fun e w' => ∃ g cg, e = .returned (.slice (some ⟨g, 0, none⟩) (2 ^ n) cg) ∧ W.heap.size ≤ g ∧ Below W.heap.size W w' ∧ Own w' 2 g cg (2 ^ n) (fun i => .int .i64 (mulF p s n X Y i))) := fun W xv yv X Y hb h1 h2 h3 h4 =>
      (iTimes_c p _ _ _ n s X Y W (hv.below hb) ⟨h1, h2⟩ ⟨h3, h4⟩).mono fun e w' h => by
        obtain ⟨g, cg, q1, q2, q3, q4, _⟩ := h.out
        exact ⟨g, cg, q1, q2, q3, q4⟩
    have HB : Hid (∀ W v G U, Tab W v G (fun _ => 2 ^ n) U → G ≤ 1048576 → RowsIn p G (2 ^ n) U → Calls Try.prog 115 #[.int .i64 p, v] W fun e w' => CopyT W w' e (bSt p G U (2 ^ n)).2 (fun _ => 2 ^ n) (bSt p G U (2 ^ n)).1) := fun W v G U h1 h2 h3 => iBasis_c p v G (2 ^ n) U W h1 ⟨hM0, by omega⟩ h2 hbd h3
    obtain ⟨T0, hT0⟩ : ∃ T0 : Nat → Nat → Int, (fun i => if i = m then dltU 0 else T i) = T0 := ⟨_, rfl⟩
    have hT0i : RowsIn p (m + 1) (2 ^ n) T0 := fun i hi j hj => by
      rw [← hT0]
      show 0 ≤ (if i = m then dltU 0 else T i) j ∧ (if i = m then dltU 0 else T i) j < p
      split
      · unfold dltU; split <;> omega
      · exact hrows.2 i (by omega) j hj
    have hT0m : T0 m = dltU 0 := by rw [← hT0]; simp
    have hT0o : ∀ i, i < m → T0 i = T i := fun i hi => by rw [← hT0]; simp [show i ≠ m by omega]
    have hSt : SubI p s n (Gn m T) (bSt p (m + 1) T0 (2 ^ n)) := SubI.start (bSt_of hpr hT0i)
      (fun u hu => by
        rcases hu with ⟨r, hr, rfl⟩ | rfl
        · exact ⟨r, by omega, (hT0o r hr).symm⟩
        · exact ⟨m, by omega, hT0m.symm⟩)
      (fun u hu => by
        obtain ⟨r, hr, rfl⟩ := hu
        by_cases e : r = m
        · subst e; rw [hT0m]; exact Or.inr rfl
        · rw [hT0o r (by omega)]; exact Or.inl ⟨r, by omega, rfl⟩)
    have HStep : Hid (∀ Q, SubI p s n (Gn m T) Q → SubI p s n (Gn m T) (bSt p (Q.2 + Q.2 * Q.2) (morT p s n Q) (2 ^ n)) ∧ Q.2 ≤ (bSt p (Q.2 + Q.2 * Q.2) (morT p s n Q) (2 ^ n)).2 ∧ ((bSt p (Q.2 + Q.2 * Q.2) (morT p s n Q) (2 ^ n)).2 = Q.2 → Clo p s n Q)) := fun Q hQ => hQ.step hpr
    have HLe : Hid (∀ Q, SubI p s n (Gn m T) Q → Q.2 ≤ 2 ^ n) := fun Q hQ => hQ.le
    have HIn : Hid (∀ Q, SubI p s n (Gn m T) Q → RowsIn p Q.2 (2 ^ n) Q.1) := fun Q hQ => hQ.inp
    have HMin : Hid (∀ Q, SubI p s n (Gn m T) Q → RowsIn p (Q.2 + Q.2 * Q.2) (2 ^ n) (morT p s n Q)) := fun Q hQ => morT_in (by omega) hQ.inp _
    have HSame : Hid (∀ Q, SubI p s n (Gn m T) Q → Clo p s n Q → Q.2 = Z.2 ∧ ∀ r j, r < Q.2 → j < 2 ^ n → Q.1 r j = Z.1 r j) := fun Q hQ hc => hZ ▸ hQ.same hpr hc
    have HTC : Hid (∀ W B g cg, OTab W B g cg (m + 1) (fun i => if i = m then 2 ^ n else 2 ^ n) (fun i => if i = m then dltU 0 else T i) → Tab W (.slice (some ⟨g, 0, none⟩) (m + 1) cg) (m + 1) (fun _ => 2 ^ n) T0) := fun W B g cg h => (h.congr (L' := fun _ => 2 ^ n) (T' := T0) (fun i _ => by show (if i = m then 2 ^ n else 2 ^ n) = 2 ^ n; split <;> rfl) (fun i j _ _ => by rw [← hT0])).tab
    have HC0 := Lib.hid hcc
    have HT0 := Lib.hid hT0i
    have HT0m := Lib.hid hT0m
    have HT0o := Lib.hid hT0o
    have HSt := Lib.hid hSt
    rw [hZ]
    obtain ⟨M, hM⟩ : ∃ M, 2 ^ n = M := ⟨_, rfl⟩
    rw [hM] at HClL HCl HEl HTm HB HStep HLe HIn HMin HSame HTC HT0 HSt hM16 hM0 ⊢
    subst h0
    clear h hl hcc hok hel hv hrows hZ hM hTL hT0 hT0i hT0m hT0o hSt h' hl' hpr hn4
    go_enter Try.func60, Try.ntmps60
    go_wp2_with fail
    refine Calls.makes' HC.out _ fun w1 hb1 => ?_
    obtain ⟨f0, f1, f2, f3⟩ := boxKeep hb1 BX.out
    clear e0 e1 e2 e3 BX HC hb1
    go_wp2_with fail
    go_region_held3 (fun W => W.cell? ⟨w.heap.size, 0, none⟩ = some (.int .i64 p) ∧ W.cell? ⟨w.heap.size, 1, none⟩ = some (.slice ao n c) ∧ w.heap.size < W.heap.size ∧ Below w.heap.size w W)
      ((first | assumption | exact boxDrew ⟨f0, f1, f2, f3⟩ | exact boxKeep (by assumption) (by assumption) | exact boxKeep ((Below.refl _ _).alloc (Nat.le_refl _) _) (by assumption) | exact boxGrown hgr7 hg5 bx6))
      ((first
        | (go_at_call 115; have hx := hgr7; refine (HB.out _ _ _ T0 (HTC.out _ _ _ _ (hpush _ _ _ _ _ _ _ _ hb6 hO6 hg6 hO7 hg7 hgr7)) hm1 HT0.out).mono ?_; rintro e w8 ⟨g8, c8, rfl, hb8, hO8⟩)
        | (refine step_push rfl _ _ _ _ elR rfl hV6 (.slice (some ⟨g6, 0, none⟩) M c6) rfl rfl rfl (by omega) (by omega) ?_; intro g7 c7 w7 hO7 hg7 hgr7)
        | (go_at_call 99; refine (HEl.out _ (boxBelow (by assumption))).mono ?_; rintro e w6 ⟨g6, c6, rfl, hg6, hb6, hO6⟩; have bx6 : BoxD w p ao n c w6 := boxKeep hb6 (by assumption); obtain ⟨V6, hVa, hpush⟩ := hT5.pushAt (by have := hb5.size; omega); have hV6 := hVa.kept hb6)
        | (go_at_call 116; refine (HClL.out _ (boxBelow (by assumption))).mono ?_; rintro e w5 ⟨g5, c5, rfl, hb5, hT5⟩; have hg5 : w.heap.size < g5 := by have h1 := hT5.base; have h2 := hb4.size; simp at h2; omega)
        | (go_at_call 80; refine Calls.makes' (iField_c _ _ _) _ fun w4 hb4 => ?_)))
    have BX8 : Hid (BoxD w p ao n c w8) := Lib.hid (by assumption)
    have l8 : w.heap.size ≤ w7.heap.size := by
      have h1 := hb4.size
      have h2 := hb5.size
      have h3 := hb6.size
      have h4 := hgr7.size
      have h5 := f3.size
      simp at h1
      omega
    have HO8 := Lib.hid (hO8.mono l8)
    obtain ⟨Q0, hQ0⟩ : ∃ Q0, bSt p (m + 1) T0 M = Q0 := ⟨_, rfl⟩
    rw [hQ0] at HO8 HSt ⊢
    clear f0 f1 f2 f3 hb4 hb5 hb6 hT5 hVa hpush hV6 hO6 hO7 hgr7 hg5 hg6 hg7 hb8 hO8 hQ0 l8
    go_wp2_with fail
    go_loopg [7] (M + 1 - Q0.2) (fun g o wr => ∃ Q : (Nat → Nat → Int) × Nat, g = M + 1 - Q.2 ∧ Hid (SubI p s n (Gn m T) Q) ∧ BoxD w p ao n c wr ∧ ∃ g' c', o = .slice (some ⟨g', 0, none⟩) Q.2 c' ∧ Hid (OTab wr w.heap.size g' c' Q.2 (fun _ => M) Q.1))
    case atStart => exact ⟨Q0, rfl, HSt.out, BX8.out, _, _, rfl, HO8.out⟩
    case round =>
      obtain ⟨Q, rfl, hI, ⟨f0, f1, f2, f3⟩, g', c', rfl, hO⟩ := hrel
      obtain ⟨wo, rfl⟩ : ∃ wo, wo = wr := ⟨_, rfl⟩
      have BXo := Lib.hid (show BoxD w p ao n c wo from ⟨f0, f1, f2, f3⟩)
      clear BX8 HO8 HSt
      have hle := HLe.out Q hI.out
      have hin := Lib.hid (HIn.out Q hI.out)
      have hmin := Lib.hid (HMin.out Q hI.out)
      have hstep := Lib.hid (HStep.out Q hI.out)
      have hsame := Lib.hid (HSame.out Q hI.out)
      have hMo : Hid (∀ r, r < Q.2 → morT p s n Q r = Q.1 r) := fun r hr => morT_old hr
      have hMn : Hid (∀ i k, k < Q.2 → morT p s n Q (Q.2 + (i * Q.2 + k)) = mulF p s n (Q.1 i) (Q.1 k)) := fun i k hk => morT_new hk
      obtain ⟨MT, hMT⟩ : ∃ MT, morT p s n Q = MT := ⟨_, rfl⟩
      rw [hMT] at hmin hstep hMo hMn
      obtain ⟨d, hd⟩ : ∃ d, Q.2 = d := ⟨_, rfl⟩
      have HD := Lib.hid hd
      rw [hd] at hle hin hmin hstep hsame hMo hMn hO ⊢
      have hdd : d * d ≤ 16 * 16 := Nat.mul_le_mul (by omega) (by omega)
      have hpl : Hid (∀ i k, i < d → k < d → i * d + k < d * d) := fun i k hi hk => pair_lt hi hk
      clear hMT hd
      go_wp2_with fail
      go_at_call 116
      refine (HCl.out wo _ d Q.1 hle hO.out.tab).mono ?_
      rintro e w1 ⟨g1, c1, rfl, hb1, hT1⟩
      have BX1 := Lib.hid (boxKeep hb1 BXo.out)
      have HT1 : Hid (OTab w1 wo.heap.size g1 c1 d (fun _ => M) MT) := hT1.congr (fun _ _ => rfl) (fun i j hi _ => by rw [hMo.out i hi])
      have HB1 := Lib.hid hb1
      clear hT1 hb1
      go_wp2_with fail
      go_loopg [8, 32] d (fun g o i wq => ∃ x : Nat, x ≤ d ∧ g = d - x ∧ i = .int .i64 x ∧ BoxD w p ao n c wq ∧ Hid (Below wo.heap.size wo wq) ∧ ∃ g1 c1 K, o = .slice (some ⟨g1, 0, none⟩) K c1 ∧ Hid (K = d + x * d) ∧ Hid (OTab wq wo.heap.size g1 c1 K (fun _ => M) MT))
      case atStart => exact ⟨0, Nat.zero_le _, rfl, rfl, BX1.out, HB1.out, _, _, _, rfl, by show d = d + 0 * d; omega, HT1.out⟩
      case round =>
        obtain ⟨x, hx, rfl, rfl, ⟨h0, h1, h2, h3⟩, hbq, g2, c2, K, rfl, hK, hTq⟩ := hrel
        obtain ⟨wp, rfl⟩ : ∃ wp, wp = wr := ⟨_, rfl⟩
        have BXp := Lib.hid (show BoxD w p ao n c wp from ⟨h0, h1, h2, h3⟩)
        clear BX1 HT1 HB1
        by_cases hxd : x < d
        · obtain ⟨rx, cx, hcx, hrx⟩ := hO.out.bound.row hxd
          have hcx2 : wp.cell? ⟨g', x, none⟩ = some (.slice (some ⟨rx, 0, none⟩) M cx) := by rw [hbq.out.cell (p := ⟨g', x, none⟩) (lt_of_cell hcx)]; exact hcx
          have HRX := Lib.hid hrx
          clear hrx hcx
          go_wp2_with fail
          go_loopg [8, 38] d (fun g o i wq => ∃ y : Nat, y ≤ d ∧ g = d - y ∧ i = .int .i64 y ∧ BoxD w p ao n c wq ∧ Hid (Below wo.heap.size wo wq) ∧ ∃ g1 c1 K, o = .slice (some ⟨g1, 0, none⟩) K c1 ∧ Hid (K = d + (x * d + y)) ∧ Hid (OTab wq wo.heap.size g1 c1 K (fun _ => M) MT))
          case atStart => exact ⟨0, Nat.zero_le _, rfl, rfl, BXp.out, hbq.out, _, _, _, rfl, hK.out, hTq.out⟩
          case round =>
            obtain ⟨y, hy, rfl, rfl, ⟨j0, j1, j2, j3⟩, hbr, g3, c3, J, rfl, hJ, hTr⟩ := hrel
            have BXr := Lib.hid (show BoxD w p ao n c wr from ⟨j0, j1, j2, j3⟩)
            clear hcx2
            by_cases hyd : y < d
            · obtain ⟨ry, cy, hcy, hry⟩ := hO.out.bound.row hyd
              have hcy2 : wr.cell? ⟨g', y, none⟩ = some (.slice (some ⟨ry, 0, none⟩) M cy) := by rw [hbr.out.cell (p := ⟨g', y, none⟩) (lt_of_cell hcy)]; exact hcy
              have HA : Hid (Calls Try.prog 91 #[dbl p (.slice ao n c), .slice (some ⟨rx, 0, none⟩) M cx, .slice (some ⟨ry, 0, none⟩) M cy] wr fun e w' => ∃ g cg, e = .returned (.slice (some ⟨g, 0, none⟩) M cg) ∧ wr.heap.size ≤ g ∧ Below wr.heap.size wr w' ∧ Own w' 2 g cg M (fun i => .int .i64 (mulF p s n (Q.1 x) (Q.1 y) i))) :=
                HTm.out wr _ _ _ _ j3 (HRX.out.below hbr.out) (hin.out x hxd) (hry.below hbr.out) (hin.out y hyd)
              have hJK := hJ.out
              have hpl1 := hpl.out x y hxd hyd
              have hJ3 : J ≤ 1000 := by omega
              have HP := hTr.out.pushAt hbr.out.size
              obtain ⟨V, hV, hpush⟩ := HP
              have HPU := Lib.hid hpush
              have HV := Lib.hid hV
              have hgB := hTr.out.base
              have hbrs := hbr.out.size
              clear hry hcy hpush hV hJK hpl1
              go_wp2_with fail
              go_at_call 91
              refine HA.out.mono ?_
              rintro e w5 ⟨g5, c5, rfl, hg5, hb5, hO5⟩
              have hV2 := HV.out.kept hb5
              have BX5 := Lib.hid (boxKeep hb5 BXr.out)
              go_wp2_with (at_builtin; refine wpList_push _ rfl _ _ _ _ elR rfl hV2 (.slice (some ⟨g5, 0, none⟩) M c5) rfl rfl rfl (by omega) (by omega) ?_; intro g6 c6 w6 hO6 hg6 hgr6)
              have hs5 := hb5.size
              go_roundg (d - (y + 1))
              case measure => omega
              case rel =>
                have hT6 := HPU.out _ _ _ _ _ _ _ _ hb5 hO5 hg5 hO6 hg6 hgr6
                refine ⟨y + 1, by omega, rfl, by go_num, boxGrown hgr6 (by have := f3.size; omega) BX5.out, (hbr.out.trans (hb5.mono hbrs)).grown hgr6 (by omega) (fun q e => by injection e with e; omega), g6, c6, _, rfl, by show J + 1 = d + (x * d + (y + 1)); have := hJ.out; omega, hT6.congr (fun i hi => by by_cases e : i = J <;> simp [e]) (fun i j hi hj => ?_)⟩
                by_cases e : i = J
                · subst e
                  simp only [if_pos]
                  rw [← hMn.out x y hyd, ← hJ.out]
                · simp [e]
            · obtain rfl : y = d := by omega
              go_wp2
              go_roundg (y - (x + 1))
              case measure => omega
              case rel => exact ⟨x + 1, by omega, rfl, by go_num, BXr.out, hbr.out, _, _, _, rfl, by have := hJ.out; show J = y + (x + 1) * y; rw [Nat.succ_mul]; exact this, hTr.out⟩
        · obtain rfl : x = d := by omega
          have hK2 := hK.out
          subst hK2
          obtain ⟨Q', hQ'⟩ : ∃ Q', bSt p (x + x * x) MT M = Q' := ⟨_, rfl⟩
          obtain ⟨d', hd'⟩ : ∃ d', Q'.2 = d' := ⟨_, rfl⟩
          have HBq : Hid (∀ W v, Tab W v (x + x * x) (fun _ => M) MT → Calls Try.prog 115 #[.int .i64 p, v] W fun e w' => CopyT W w' e d' (fun _ => M) Q'.1) := fun W v h => by
            have := HB.out W v _ MT h (by omega) hmin.out
            rw [hQ', hd'] at this
            exact this
          rw [hQ', hd'] at hstep
          have HD' := Lib.hid hd'
          have HQL := HLe.out Q' hstep.out.1
          rw [hd'] at HQL
          have hstep2 := hstep.out.2.1
          obtain ⟨K, hK3⟩ : ∃ K, x + x * x = K := ⟨_, rfl⟩
          rw [hK3] at HBq hTq ⊢
          clear hQ' hd' hK3 hK hmin
          go_wp2_with fail
          refine Calls.makes' (iField_c _ _ _) _ fun w2 hb2 => ?_
          have hTab2 := Lib.hid ((hTq.out.kept hb2).tab)
          have BX2 := Lib.hid (boxKeep hb2 BXp.out)
          have HB2 := Lib.hid (hbq.out.trans (hb2.mono hbq.out.size))
          clear hb2
          go_wp2_with fail
          go_at_call 115
          refine (HBq.out _ _ hTab2.out).mono ?_
          rintro e w4 ⟨g4, c4, rfl, hb4, hO4⟩
          have BX4 := Lib.hid (boxKeep hb4 BX2.out)
          have HB4 := Lib.hid (HB2.out.trans (hb4.mono HB2.out.size))
          have HO4 := Lib.hid (hO4.mono (show w.heap.size ≤ w2.heap.size from Nat.le_trans f3.size HB2.out.size))
          clear hb4 hO4
          by_cases he : d' = x
          · subst he
            have hclo := Lib.hid (hstep.out.2.2 rfl)
            clear hstep
            go_wp2
            go_ret2
            have hZd := hsame.out hclo.out
            refine ⟨BX4.out.2.2.2, Or.inl ⟨HC0.out, g', c', ?_, ?_⟩⟩
            · rw [hZd.1]; rfl
            · exact hZd.1 ▸ ((hO.out.kept HB4.out).congr (fun _ _ => rfl) (fun i j hi hj => hZd.2 i j hi hj))
          · have hne : ((d' : Int) == (x : Int)) = false := by simp; omega
            go_wp2
            go_roundg (M + 1 - d')
            case measure => have := HD.out; omega
            case rel => exact ⟨Q', by rw [HD'.out], hstep.out.1, BX4.out, g4, c4, by rw [HD'.out], by rw [HD'.out]; exact HO4.out⟩
  · have hne : (cc != 0) = true := by rw [bne_iff_ne]; exact h0
    rw [hcc, hZ]
    obtain ⟨M, hM⟩ : ∃ M, 2 ^ n = M := ⟨_, rfl⟩
    rw [hM]
    clear hM hZ hcc
    go_enter Try.func60, Try.ntmps60
    go_wp2_with fail
    refine Calls.makes' HC.out _ fun w1 hb1 => ?_
    go_wp2
    go_ret2
    exact ⟨e3.trans (hb1.mono e3.size), Or.inr ⟨h0, rfl⟩⟩


end Go.Proofs.Ytnnacligfoonbaa

/-
  SubalgebraFrom by the reference. No condition beside sizes.
-/
set_option linter.unusedVariables false
set_option linter.unusedSimpArgs false
namespace Go.Proofs.Ytnnacligfoonbaa
open Go.RowKit

/-- an append of no values -/
theorem run_app0 {P : Program} (w : World) {t e : TypeId} {z : Value} {bytes : Nat} (el : Elem P t e z bytes) (ty : TypeId) (a : Addr) (n cap : Nat) (hle : n ≤ cap) (ao : Option Addr) (c : Nat) :
    (Builtin.append_ #[t, t] ty #[.slice (some a) n cap, .slice ao 0 c]).run P w = .ok (.slice (some a) n cap) w := by
  obtain ⟨i, hi, hz0, hz1, hz2⟩ := info_parts el.info
  cases ao with
  | none => simp [Builtin.append_, run_underlying el.und, sizeOf, typeInfo, hi, Builtin.lenOf, hle, Builtin.firstCells, storeCells]
  | some x => simp [Builtin.append_, run_underlying el.und, sizeOf, typeInfo, hi, Builtin.lenOf, hle, Builtin.firstCells, storeCells, loadCells, loadCellsFrom]
theorem grown_refl (w : World) (r : Option Nat) : w.grownBy w r := ⟨rfl, rfl, rfl, Nat.le_refl _, fun _ _ _ => rfl⟩

/-- Append of a list that may be nil, as a step of a region that draws its order. -/
theorem step_appL {P : Program} {ops : Array Oper} {o : Oper} {a : Act} {w : World} {K : Act → World → Prop} {Q : Exit → Act → World → Prop} {E : Prop} (hgd : o.guard = none) (s x : Operand) (t e : TypeId) {z : Value} {bytes : Nat} (el : Elem P t e z bytes)
    (ho : o.op = .call { callee := .builtin .append, args := #[s, x], argTypes := #[t, t] })
    {g cap n : Nat} {V : Nat → Value} (hown : Own w e g cap n V) (hs : a.eval s = .slice (some ⟨g, 0, none⟩) n cap)
    (ao : Option Addr) (b off m c : Nat) (N : Nat → Value) (hx : a.eval x = .slice ao m c) (hao : 0 < m → ao = some ⟨b, off, none⟩) (hN : ∀ j, j < m → w.cell? ⟨b, off + j, none⟩ = some (N j)) (h1 : ∀ j, j < m → (N j).oneCell' = true)
    (h63 : n + m ≤ 9223372036854775807) (hbytes : (n + m) * bytes ≤ 140737488355328)
    (h : ∀ g' cap' w', Own w' e g' cap' (n + m) (fun j => if j < n then V j else N (j - n)) → (g' = g ∨ g' = w.heap.size) → w.grownBy w' (some g) → K (a.put o.dst (.slice (some ⟨g', 0, none⟩) (n + m) cap')) w') :
    if Region.wanted o (yielded ops a.tmps) = true then Oper.wp P o a w K Q else E := by
  by_cases hm : m = 0
  · subst hm
    have hw : Region.wanted o (yielded ops a.tmps) = true := by simp [Region.wanted, hgd]
    rw [if_pos hw]
    have hr := run_app0 (P := P) w el o.type ⟨g, 0, none⟩ n cap hown.le ao c
    unfold Oper.wp execOp
    simp only [ho, resolve, invoke, builtin, Sem.run_bind, Sem.run_pure, Result.andThen_ok, List.map_toArray, List.map_cons, List.map_nil, hs, hx, hr, Oper.upon_value]
    exact h g cap w (hown.congr fun j hj => by rw [if_pos hj]) (Or.inl rfl) (grown_refl w _)
  · obtain rfl := hao (by omega)
    exact step_app hgd s x t e el ho hown hs b off m c N hx hN h1 h63 hbytes h

theorem own1 (w : World) (e : TypeId) (v : Value) : Own (w.alloc (.cells #[v] e)) e w.heap.size 1 1 (fun _ => v) :=
  Own.new w e #[v] (fun _ => v) (by simp) fun i hi => by
    have h : i = 0 := by simpa using hi
    subst h; rfl
theorem keepR {w W W' w0 : World} {p : Int} {ao : Option Addr} {n c b1 o1 b2 o2 : Nat} {v1 v2 : Value} (hb : Below W.heap.size W W')
    (h : BoxD w p ao n c W ∧ W.cell? ⟨b1, o1, none⟩ = some v1 ∧ W.cell? ⟨b2, o2, none⟩ = some v2 ∧ Below w0.heap.size w0 W) : BoxD w p ao n c W' ∧ W'.cell? ⟨b1, o1, none⟩ = some v1 ∧ W'.cell? ⟨b2, o2, none⟩ = some v2 ∧ Below w0.heap.size w0 W' :=
  ⟨boxKeep hb h.1, cellKp hb h.2.1, cellKp hb h.2.2.1, h.2.2.2.trans (hb.mono h.2.2.2.size)⟩
theorem belowR {w W w0 : World} {p : Int} {ao : Option Addr} {n c b1 o1 b2 o2 : Nat} {v1 v2 : Value}
    (h : BoxD w p ao n c W ∧ W.cell? ⟨b1, o1, none⟩ = some v1 ∧ W.cell? ⟨b2, o2, none⟩ = some v2 ∧ Below w0.heap.size w0 W) : BoxD w p ao n c W ∧ Below w0.heap.size w0 W := ⟨h.1, h.2.2.2⟩

set_option maxRecDepth 100000 in
set_option maxHeartbeats 8000000 in
theorem sSub_c (p : Int) (sv lv : Value) (n m : Nat) (s : Nat → Int) (L : Nat → Nat) (T : Nat → Nat → Int) (w : World) (h : Ints w sv n s) (hl : Tab w lv m L T) (hm : m + sumL L m ≤ 1048576) :
    Calls Try.prog 61 #[dbl p sv, lv] w fun e w' => ResCT w w' e (codeE (dblB p n s) p n m L T) (subQ p s n m T).2 (fun _ => 2 ^ n) (subQ p s n m T).1 := by
  have h' := Lib.hid h
  have hl' := Lib.hid hl
  obtain ⟨ao, c, b, o, rfl, p2, p3, qx⟩ := h.out
  have HLO := hl.out
  obtain ⟨la, lc, lb, lo, A, C, RB, RO, rfl, q2, q3, q4, q5, q6, q7, q8⟩ := HLO
  clear qx
  obtain ⟨e0, e1, e2, e3⟩ := box0 w p ao n c 26
  have BX := Lib.hid (box0 w p ao n c 26)
  obtain ⟨cc, hcc⟩ : ∃ cc, codeE (dblB p n s) p n m L T = cc := ⟨_, rfl⟩
  have HC : Hid (Calls Try.prog 92 #[dbl p (.slice ao n c), .slice la m lc] (w.alloc (.cells #[.int .i64 p, .slice ao n c] 26)) fun e w' => Makes (w.alloc (.cells #[.int .i64 p, .slice ao n c] 26)) w' e (.int .i64 cc)) := hcc ▸ sCode_c p _ _ n m s L T _ (h.below e3) (hl.below e3)
  obtain ⟨Z, hZ⟩ : ∃ Z, subQ p s n m T = Z := ⟨_, rfl⟩
  by_cases h0 : cc = 0
  · obtain ⟨hok, hel⟩ := codeE_zero (hcc.trans h0)
    have hpr := (dblB_ok hok).prime
    have hbd := primeB_bd hpr
    have hv := dv_of h'.out hok
    have hn4 := hv.le
    have hM16 := pow_le hn4
    have hM0 : 0 < 2 ^ n := Nat.pos_of_ne_zero (by simp)
    have hrows := elRows hl'.out hel
    have hm1 := room1 hl'.out hel hm
    have hTL : Hid (∀ W, Below w.heap.size w W → Tab W (.slice la m lc) m (fun _ => 2 ^ n) T) := fun W hb => hrows.1.below hb
    have hLn := elLen hl'.out hel
    have hOne : Hid (∀ W, Below w.heap.size w W → Calls Try.prog 118 #[dbl p (.slice ao n c), .int .i64 0] W fun e w' => ∃ g cg, e = .returned (.slice (some ⟨g, 0, none⟩) (2 ^ n) cg) ∧ W.heap.size ≤ g ∧ Below W.heap.size W w' ∧ Own w' 2 g cg (2 ^ n) (fun i => .int .i64 (dltU 0 i))) := fun W hb =>
      (sOne_c p _ n s 0 W (hv.below hb) (by omega) hM0).mono fun e w' h => by
        obtain ⟨g, cg, q1, q2, q3, q4, _⟩ := h.out
        exact ⟨g, cg, q1, q2, q3, q4⟩
    have HTm : Hid (∀ W xv yv X Y, Below w.heap.size w W → Ints W xv (2 ^ n) X → InP p (2 ^ n) X → Ints W yv (2 ^ n) Y → InP p (2 ^ n) Y → Calls Try.prog 93 #[dbl p (.slice ao n c), xv, yv] W fun e w' => ∃ g cg, e = .returned (.slice (some ⟨g, 0, none⟩) (2 ^ n) cg) ∧ W.heap.size ≤ g ∧ Below W.heap.size W w' ∧ Own w' 2 g cg (2 ^ n) (fun i => .int .i64 (mulF p s n X Y i))) := fun W xv yv X Y hb h1 h2 h3 h4 =>
      (sTimes_c p _ _ _ n s X Y W (hv.below hb) ⟨h1, h2⟩ ⟨h3, h4⟩).mono fun e w' h => by
        obtain ⟨g, cg, q1, q2, q3, q4, _⟩ := h.out
        exact ⟨g, cg, q1, q2, q3, q4⟩
    obtain ⟨T1, hT1⟩ : ∃ T1 : Nat → Nat → Int, (fun i => if i = 0 then dltU 0 else T (i - 1)) = T1 := ⟨_, rfl⟩
    have hT1i : RowsIn p (1 + m) (2 ^ n) T1 := fun i hi j hj => by
      rw [← hT1]
      show 0 ≤ (if i = 0 then dltU 0 else T (i - 1)) j ∧ (if i = 0 then dltU 0 else T (i - 1)) j < p
      split
      · unfold dltU; split <;> omega
      · exact hrows.2 (i - 1) (by omega) j hj
    have hT1m : T1 0 = dltU 0 := by rw [← hT1]; simp
    have hT1o : ∀ i, T1 (i + 1) = T i := fun i => by rw [← hT1]; simp
    have hSt : SubI p s n (Gn m T) (putA p (2 ^ n) T1 (1 + m)) := SubI.start (putA_of hpr hT1i)
      (fun u hu => by
        rcases hu with ⟨r, hr, rfl⟩ | rfl
        · exact ⟨r + 1, by omega, (hT1o r).symm⟩
        · exact ⟨0, by omega, hT1m.symm⟩)
      (fun u hu => by
        obtain ⟨r, hr, rfl⟩ := hu
        cases r with
        | zero => rw [hT1m]; exact Or.inr rfl
        | succ r => rw [hT1o r]; exact Or.inl ⟨r, by omega, rfl⟩)
    have HRd : Hid (∀ W v, Tab W v (1 + m) (fun _ => 2 ^ n) T1 → Calls Try.prog 117 #[.int .i64 p, v] W fun e w' => CopyT W w' e (putA p (2 ^ n) T1 (1 + m)).2 (fun _ => 2 ^ n) (putA p (2 ^ n) T1 (1 + m)).1) := fun W v h => sReduced_c p v (1 + m) (2 ^ n) T1 W h ⟨hM0, by omega⟩ (by omega) hpr hT1i
    have LC : Hid (∀ W, Below w.heap.size w W → ∀ j, j < m → W.cell? ⟨lb, lo + j, none⟩ = some (.slice (A j) (2 ^ n) (C j))) := fun W hb j hj => by
      rw [hb.cell (p := ⟨lb, lo + j, none⟩) (lt_of_cell (q5 j hj)), q5 j hj, hLn j hj]
    have HMk : Hid (∀ (w6 w7 : World) (g6 c6 g7 c7 : Nat), Own w6 2 g6 c6 (2 ^ n) (fun i => .int .i64 (dltU 0 i)) → Own w7 24 g7 c7 (1 + m) (fun j => if j < 1 then .slice (some ⟨g6, 0, none⟩) (2 ^ n) c6 else .slice (A (j - 1)) (2 ^ n) (C (j - 1))) →
        (w6.alloc (.cells #[.slice (some ⟨g6, 0, none⟩) (2 ^ n) c6] 24)).grownBy w7 (some w6.heap.size) → Below w.heap.size w w7 → Tab w7 (.slice (some ⟨g7, 0, none⟩) (1 + m) c7) (1 + m) (fun _ => 2 ^ n) T1) := fun w6 w7 g6 c6 g7 c7 h1 h2 h3 h4 => by
      have h5 : Own w7 2 g6 c6 (2 ^ n) (fun i => .int .i64 (dltU 0 i)) := (h1.alloc _).grown h3 (by intro e; injection e with e; have := h1.lt; omega)
      refine ⟨_, c7, g7, 0, fun i => if i < 1 then some ⟨g6, 0, none⟩ else A (i - 1), fun i => if i < 1 then c6 else C (i - 1), fun i => if i < 1 then g6 else RB (i - 1), fun i => if i < 1 then 0 else RO (i - 1), rfl, h2.le, h2.max, fun _ => rfl, fun i hi => ?_, fun i hi => ?_, fun i hi _ => ?_, fun i j hi hj => ?_⟩
      · rw [Nat.zero_add, h2.cell hi]
        by_cases e : i < 1 <;> simp [e]
      · by_cases e : i < 1
        · simp only [if_pos e]; exact ⟨h5.le, h5.max⟩
        · simp only [if_neg e]
          have := q6 (i - 1) (by omega); rwa [hLn (i - 1) (by omega)] at this
      · by_cases e : i < 1
        · simp only [if_pos e]
        · simp only [if_neg e]
          exact q7 (i - 1) (by omega) (by rw [hLn (i - 1) (by omega)]; exact hM0)
      · show w7.cell? ⟨if i < 1 then g6 else RB (i - 1), (if i < 1 then 0 else RO (i - 1)) + j, none⟩ = _
        by_cases e : i < 1
        · obtain rfl : i = 0 := by omega
          rw [if_pos e, if_pos e, hT1m, Nat.zero_add]; exact h5.cell hj
        · obtain ⟨k, rfl⟩ : ∃ k, i = k + 1 := ⟨i - 1, by omega⟩
          rw [if_neg e, if_neg e, hT1o, Nat.add_sub_cancel]
          have := q8 k j (by omega) (by rw [hLn k (by omega)]; exact hj)
          rw [h4.cell (p := ⟨RB k, RO k + j, none⟩) (lt_of_cell this)]; exact this
    have HPut : Hid (∀ Q : (Nat → Nat → Int) × Nat, SubI p s n (Gn m T) Q → ∀ W g cap v X, OTab W w.heap.size g cap Q.2 (fun _ => 2 ^ n) Q.1 → w.heap.size ≤ W.heap.size → Ints W v (2 ^ n) X → InP p (2 ^ n) X → Calls Try.prog 119 #[.int .i64 p, .slice (some ⟨g, 0, none⟩) Q.2 cap, v] W fun e w' => ∃ g' c', e = .returned (.slice (some ⟨g', 0, none⟩) (putS p (2 ^ n) X Q).2 c') ∧ Below W.heap.size W w' ∧ OTab w' w.heap.size g' c' (putS p (2 ^ n) X Q).2 (fun _ => 2 ^ n) (putS p (2 ^ n) X Q).1) := fun Q hQ W g cap v X h1 h2 h3 h4 => sPut_c p g cap Q.2 (2 ^ n) w.heap.size Q.1 v X W h1 h2 h3 ⟨hM0, by omega⟩ hpr h4 hQ.red
    have HSP : Hid (∀ Q, SubI p s n (Gn m T) Q → ∀ i k, i < Q.2 → k < Q.2 → ((putS p (2 ^ n) (mulF p s n (Q.1 i) (Q.1 k)) Q).2 = Q.2 → Spn p (2 ^ n) (RowS Q.2 Q.1) (mulF p s n (Q.1 i) (Q.1 k))) ∧ (Q.2 < (putS p (2 ^ n) (mulF p s n (Q.1 i) (Q.1 k)) Q).2 → SubI p s n (Gn m T) (putS p (2 ^ n) (mulF p s n (Q.1 i) (Q.1 k)) Q)) ∧ Q.2 ≤ (putS p (2 ^ n) (mulF p s n (Q.1 i) (Q.1 k)) Q).2) := fun Q hQ i k hi hk => hQ.put hpr hi hk
    have HMI : Hid (∀ X Y, InP p (2 ^ n) (mulF p s n X Y)) := fun X Y => mulF_in (by omega) s n X Y _
    have HLe : Hid (∀ Q, SubI p s n (Gn m T) Q → Q.2 ≤ 2 ^ n) := fun Q hQ => hQ.le
    have HIn : Hid (∀ Q, SubI p s n (Gn m T) Q → RowsIn p Q.2 (2 ^ n) Q.1) := fun Q hQ => hQ.inp
    have HSame : Hid (∀ Q, SubI p s n (Gn m T) Q → (∀ i k, i < Q.2 → k < Q.2 → Spn p (2 ^ n) (RowS Q.2 Q.1) (mulF p s n (Q.1 i) (Q.1 k))) → Q.2 = Z.2 ∧ ∀ r j, r < Q.2 → j < 2 ^ n → Q.1 r j = Z.1 r j) := fun Q hQ hc => hZ ▸ hQ.same hpr hc
    have HC0 := Lib.hid hcc
    have HSt := Lib.hid hSt
    have hq4 := Lib.hid q4
    rw [hZ]
    obtain ⟨M, hM⟩ : ∃ M, 2 ^ n = M := ⟨_, rfl⟩
    rw [hM] at hOne HTm HRd LC HMk HPut HSP HMI HLe HIn HSame HSt hM16 hM0 ⊢
    obtain ⟨Q0, hQ0⟩ : ∃ Q0, putA p M T1 (1 + m) = Q0 := ⟨_, rfl⟩
    rw [hQ0] at HRd HSt
    subst h0
    clear h hl hcc hok hel hv hrows hZ hM hTL hT1 hT1i hT1m hT1o hSt h' hl' hpr hn4 hLn q4 q5 q6 q7 q8 hQ0
    go_enter Try.func61, Try.ntmps61
    go_wp2_with fail
    refine Calls.makes' HC.out _ fun w1 hb1 => ?_
    obtain ⟨f0, f1, f2, f3⟩ := boxKeep hb1 BX.out
    clear e0 e1 e2 e3 BX HC hb1
    go_wp2_with fail
    go_region_held3 (fun W => W.cell? ⟨w.heap.size, 0, none⟩ = some (.int .i64 p) ∧ W.cell? ⟨w.heap.size, 1, none⟩ = some (.slice ao n c) ∧ w.heap.size < W.heap.size ∧ Below w.heap.size w W)
      ((first | assumption | exact boxDrew ⟨f0, f1, f2, f3⟩ | exact boxKeep (by assumption) (by assumption) | exact boxKeep ((Below.refl _ _).alloc (Nat.le_refl _) _) (by assumption) | exact boxGrown hgr7 hg6b (boxKeep ((Below.refl _ _).alloc (Nat.le_refl _) _) bx6)))
      ((first
        | (go_at_call 117; have hx := hgr7; refine (HRd.out _ _ (HMk.out _ _ _ _ _ _ hO6 hO7 hgr7 (boxBelow (by assumption)))).mono ?_; rintro e w8 ⟨g8, c8, rfl, hb8, hO8⟩)
        | (refine step_appL rfl _ _ _ _ elR rfl hown1 rfl la lb lo m lc (fun j => .slice (A j) M (C j)) rfl hq4.out (fun j hj => LC.out _ (boxBelow (by assumption)) j hj) (fun _ _ => rfl) (by omega) (by omega) ?_; intro g7 c7 w7 hO7 hg7 hgr7)
        | (go_at_call 118; refine (hOne.out _ (boxBelow (by assumption))).mono ?_; rintro e w6 ⟨g6, c6, rfl, hg6, hb6, hO6⟩; have bx6 : BoxD w p ao n c w6 := boxKeep hb6 (by assumption); have hown1 := own1 w6 24 (.slice (some ⟨g6, 0, none⟩) M c6); have hg6b : w.heap.size < w6.heap.size := by have h1 := hO6.lt; have h2 : w1.heap.size ≤ g6 := hg6; omega)))
    have BX8 : Hid (BoxD w p ao n c w8) := Lib.hid (by assumption)
    have l8 : w.heap.size ≤ w7.heap.size := by
      have h4 := hgr7.size
      simp at h4
      omega
    have HO8 := Lib.hid (hO8.mono l8)
    clear f0 f1 f2 f3 hb6 hO6 hO7 hgr7 hg6 hg6b hg7 hb8 hO8 l8 hown1 HMk LC hq4 HRd hOne
    go_wp2_with fail
    go_loopg [7, 8] (M + 1 - Q0.2) (fun g o b wr => ∃ (Q : (Nat → Nat → Int) × Nat) (bb : Bool), g = (if bb = true then M + 1 - Q.2 else 0) ∧ b = .bool bb ∧ Hid (SubI p s n (Gn m T) Q) ∧ Hid (bb = false → ∀ i k, i < Q.2 → k < Q.2 → Spn p M (RowS Q.2 Q.1) (mulF p s n (Q.1 i) (Q.1 k))) ∧ BoxD w p ao n c wr ∧ ∃ g' c', o = .slice (some ⟨g', 0, none⟩) Q.2 c' ∧ Hid (OTab wr w.heap.size g' c' Q.2 (fun _ => M) Q.1))
    case atStart => exact ⟨Q0, true, by simp, rfl, HSt.out, (fun h => Bool.noConfusion h), BX8.out, _, _, rfl, HO8.out⟩
    case round =>
      obtain ⟨Q, bb, hgq, rfl, hI, hClo, ⟨f0, f1, f2, f3⟩, g', c', rfl, hO⟩ := hrel
      have BXo := Lib.hid (show BoxD w p ao n c wr from ⟨f0, f1, f2, f3⟩)
      clear BX8 HO8 HSt
      have hle := HLe.out Q hI.out
      have hin := Lib.hid (HIn.out Q hI.out)
      have hsp := Lib.hid (HSP.out Q hI.out)
      have hput := Lib.hid (HPut.out Q hI.out)
      have hsame := Lib.hid (HSame.out Q hI.out)
      obtain ⟨d, hd⟩ : ∃ d, Q.2 = d := ⟨_, rfl⟩
      have HD := Lib.hid hd
      rw [hd] at hle hin hsp hput hsame hClo hO hgq ⊢
      clear hd
      cases bb
      · have hclo := Lib.hid (hClo.out rfl)
        clear hgq hClo
        go_wp2
        go_ret2
        have hZd := hsame.out hclo.out
        refine ⟨BXo.out.2.2.2, Or.inl ⟨HC0.out, g', c', ?_, ?_⟩⟩
        · rw [hZd.1]; rfl
        · exact hZd.1 ▸ (hO.out.congr (fun _ _ => rfl) (fun i j hi hj => hZd.2 i j hi hj))
      · rw [if_pos rfl] at hgq
        subst hgq
        clear hClo
        go_wp2
        go_loopg [7, 8, 9] d (fun g o b i wq => BoxD w p ao n c wq ∧ ((∃ x : Nat, x ≤ d ∧ g = d - x ∧ i = .int .i64 x ∧ b = .bool false ∧ o = .slice (some ⟨g', 0, none⟩) d c' ∧ Hid (OTab wq w.heap.size g' c' d (fun _ => M) Q.1) ∧ Hid (∀ a k, a < x → k < d → Spn p M (RowS d Q.1) (mulF p s n (Q.1 a) (Q.1 k)))) ∨
          (g = 0 ∧ b = .bool true ∧ ∃ (x : Nat) (Q2 : (Nat → Nat → Int) × Nat) (g2 c2 : Nat), i = .int .i64 x ∧ Hid (SubI p s n (Gn m T) Q2) ∧ d < Q2.2 ∧ o = .slice (some ⟨g2, 0, none⟩) Q2.2 c2 ∧ Hid (OTab wq w.heap.size g2 c2 Q2.2 (fun _ => M) Q2.1))))
        case atStart => exact ⟨BXo.out, Or.inl ⟨0, Nat.zero_le _, rfl, rfl, rfl, rfl, hO.out, fun a k ha => absurd ha (Nat.not_lt_zero _)⟩⟩
        case round =>
          obtain ⟨⟨h0, h1, h2, h3⟩, hph⟩ := hrel
          have BXp := Lib.hid (show BoxD w p ao n c wr from ⟨h0, h1, h2, h3⟩)
          clear hO
          rcases hph with ⟨x, hx, rfl, rfl, rfl, rfl, hO, hX⟩ | ⟨rfl, rfl, x, Q2, g2, c2, rfl, hI2, hd2, rfl, hO2⟩
          · by_cases hxd : x < d
            · go_wp2
              go_loopg [7, 8, 10] d (fun g o b i wq => BoxD w p ao n c wq ∧ ((∃ y : Nat, y ≤ d ∧ g = d - y ∧ i = .int .i64 y ∧ b = .bool false ∧ o = .slice (some ⟨g', 0, none⟩) d c' ∧ Hid (OTab wq w.heap.size g' c' d (fun _ => M) Q.1) ∧ Hid (∀ k, k < y → Spn p M (RowS d Q.1) (mulF p s n (Q.1 x) (Q.1 k)))) ∨
                (g = 0 ∧ b = .bool true ∧ ∃ (y : Nat) (Q2 : (Nat → Nat → Int) × Nat) (g2 c2 : Nat), i = .int .i64 y ∧ Hid (SubI p s n (Gn m T) Q2) ∧ d < Q2.2 ∧ o = .slice (some ⟨g2, 0, none⟩) Q2.2 c2 ∧ Hid (OTab wq w.heap.size g2 c2 Q2.2 (fun _ => M) Q2.1))))
              case atStart => exact ⟨BXp.out, Or.inl ⟨0, Nat.zero_le _, rfl, rfl, rfl, rfl, hO.out, fun k hk => absurd hk (Nat.not_lt_zero _)⟩⟩
              case round =>
                obtain ⟨⟨j0, j1, j2, j3⟩, hph⟩ := hrel
                have BXr := Lib.hid (show BoxD w p ao n c wr from ⟨j0, j1, j2, j3⟩)
                clear hO
                rcases hph with ⟨y, hy, rfl, rfl, rfl, rfl, hO, hY⟩ | ⟨rfl, rfl, y, Q2, g2, c2, rfl, hI2, hd2, rfl, hO2⟩
                · by_cases hyd : y < d
                  · obtain ⟨rx, cx, hcx, hrx⟩ := hO.out.bound.row hxd
                    obtain ⟨ry, cy, hcy, hry⟩ := hO.out.bound.row hyd
                    have hsz := j3.size
                    have HA : Hid (∀ W, BoxD w p ao n c W ∧ Below wr.heap.size wr W → Calls Try.prog 93 #[dbl p (.slice ao n c), .slice (some ⟨rx, 0, none⟩) M cx, .slice (some ⟨ry, 0, none⟩) M cy] W fun e w' => ∃ g cg, e = .returned (.slice (some ⟨g, 0, none⟩) M cg) ∧ W.heap.size ≤ g ∧ Below W.heap.size W w' ∧ Own w' 2 g cg M (fun i => .int .i64 (mulF p s n (Q.1 x) (Q.1 y) i))) := fun W hb =>
                      HTm.out W _ _ _ _ hb.1.2.2.2 (hrx.below hb.2) (hin.out x hxd) (hry.below hb.2) (hin.out y hyd)
                    obtain ⟨Q2, hQ2⟩ : ∃ Q2, putS p M (mulF p s n (Q.1 x) (Q.1 y)) Q = Q2 := ⟨_, rfl⟩
                    have hspx := Lib.hid (hsp.out x y hxd hyd)
                    obtain ⟨d2, hdd2⟩ : ∃ d2, Q2.2 = d2 := ⟨_, rfl⟩
                    rw [hQ2, hdd2] at hspx
                    have HPx : Hid (∀ W v, BoxD w p ao n c W ∧ Below wr.heap.size wr W → Ints W v M (mulF p s n (Q.1 x) (Q.1 y)) → Calls Try.prog 119 #[.int .i64 p, .slice (some ⟨g', 0, none⟩) d c', v] W fun e w' => ∃ g2 c2, e = .returned (.slice (some ⟨g2, 0, none⟩) d2 c2) ∧ Below W.heap.size W w' ∧ OTab w' w.heap.size g2 c2 d2 (fun _ => M) Q2.1) := fun W v hb hv => by
                      have := hput.out W g' c' v _ (hO.out.kept hb.2) hb.1.2.2.2.size hv (HMI.out _ _)
                      rw [hQ2, hdd2] at this
                      exact this
                    have hSx : Hid (BoxD w p ao n c wr ∧ wr.cell? ⟨g', x, none⟩ = some (.slice (some ⟨rx, 0, none⟩) M cx) ∧ wr.cell? ⟨g', y, none⟩ = some (.slice (some ⟨ry, 0, none⟩) M cy) ∧ Below wr.heap.size wr wr) := ⟨⟨j0, j1, j2, j3⟩, hcx, hcy, Below.refl _ _⟩
                    have HD2 := Lib.hid hdd2
                    have i0 : (0 : Int) ≤ (x : Int) := by omega
                    have i1 : (x : Int) < (d : Int) := by omega
                    have i2 : (0 : Int) ≤ (y : Int) := by omega
                    have i3 : (y : Int) < (d : Int) := by omega
                    clear hcx hcy hrx hry hQ2 hdd2
                    go_wp2_with fail
                    go_region_held3 (fun W => (W.cell? ⟨w.heap.size, 0, none⟩ = some (.int .i64 p) ∧ W.cell? ⟨w.heap.size, 1, none⟩ = some (.slice ao n c) ∧ w.heap.size < W.heap.size ∧ Below w.heap.size w W) ∧ W.cell? ⟨g', x, none⟩ = some (.slice (some ⟨rx, 0, none⟩) M cx) ∧ W.cell? ⟨g', y, none⟩ = some (.slice (some ⟨ry, 0, none⟩) M cy) ∧ Below wr.heap.size wr W)
                      ((first | assumption | exact keepR (drewB _) hSx.out | exact keepR (by assumption) (by assumption)))
                      ((first
                        | (go_at_call 119; have hx := hO5; refine (HPx.out _ _ (belowR (by assumption)) hO5.ints).mono ?_; rintro e w6 ⟨g6, c6, rfl, hb6, hO6⟩)
                        | (go_at_call 93; refine (HA.out _ (belowR (by assumption))).mono ?_; rintro e w5 ⟨g5, c5, rfl, hg5, hb5, hO5⟩)))
                    have HS6 : Hid (BoxD w p ao n c w6 ∧ w6.cell? ⟨g', x, none⟩ = some (.slice (some ⟨rx, 0, none⟩) M cx) ∧ w6.cell? ⟨g', y, none⟩ = some (.slice (some ⟨ry, 0, none⟩) M cy) ∧ Below wr.heap.size wr w6) := Lib.hid (by assumption)
                    have HO6 := Lib.hid hO6
                    clear hb5 hO5 hb6 hO6 hg5
                    by_cases hgt : d < d2
                    · have hdec : decide ((d : Int) < (d2 : Int)) = true := by simp; omega
                      go_wp2
                      go_roundg 0
                      case measure => omega
                      case rel => exact ⟨HS6.out.1, Or.inr ⟨rfl, rfl, y + 1, Q2, g6, c6, by go_num, hspx.out.2.1 hgt, by rw [HD2.out]; exact hgt, by rw [HD2.out], by rw [HD2.out]; exact HO6.out⟩⟩
                    · have hdec : decide ((d : Int) < (d2 : Int)) = false := by simp; omega
                      have hde : d2 = d := by have := hspx.out.2.2; omega
                      go_wp2
                      go_roundg (d - (y + 1))
                      case measure => omega
                      case rel => exact ⟨HS6.out.1, Or.inl ⟨y + 1, by omega, rfl, by go_num, rfl, rfl, hO.out.kept HS6.out.2.2.2, fun k hk => by
                        by_cases e : k = y
                        · rw [e]; exact hspx.out.1 hde
                        · exact hY.out k (by omega)⟩⟩
                  · obtain rfl : y = d := by omega
                    go_wp2
                    go_roundg (y - (x + 1))
                    case measure => omega
                    case rel => exact ⟨BXr.out, Or.inl ⟨x + 1, by omega, rfl, by go_num, rfl, rfl, hO.out, fun a k ha hk => by
                      by_cases e : a = x
                      · rw [e]; exact hY.out k hk
                      · exact hX.out a k (by omega) hk⟩⟩
                · obtain ⟨d2, hdd2⟩ : ∃ d2, Q2.2 = d2 := ⟨_, rfl⟩
                  have HD2 := Lib.hid hdd2
                  rw [hdd2] at hO2 ⊢
                  clear hdd2
                  rw [HD2.out] at hd2
                  by_cases hyd : y < d2
                  · go_wp2
                    go_roundg 0
                    case measure => omega
                    case rel => exact ⟨BXr.out, Or.inr ⟨rfl, rfl, x + 1, Q2, g2, c2, by go_num, hI2.out, by rw [HD2.out]; exact hd2, by rw [HD2.out], by rw [HD2.out]; exact hO2.out⟩⟩
                  · go_wp2
                    go_roundg 0
                    case measure => omega
                    case rel => exact ⟨BXr.out, Or.inr ⟨rfl, rfl, x + 1, Q2, g2, c2, by go_num, hI2.out, by rw [HD2.out]; exact hd2, by rw [HD2.out], by rw [HD2.out]; exact hO2.out⟩⟩
            · obtain rfl : x = d := by omega
              go_wp2
              go_roundg 0
              case measure => omega
              case rel => exact ⟨Q, false, by simp, rfl, hI.out, fun _ i k hi hk => by rw [HD.out] at hi hk ⊢; exact hX.out i k hi hk, BXp.out, g', c', by rw [HD.out], by rw [HD.out]; exact hO.out⟩
          · obtain ⟨d2, hdd2⟩ : ∃ d2, Q2.2 = d2 := ⟨_, rfl⟩
            have HD2 := Lib.hid hdd2
            have hQL2 := HLe.out Q2 hI2.out
            rw [hdd2] at hO2 hd2 hQL2 ⊢
            clear hdd2
            by_cases hyd : x < d2
            · go_wp2
              go_roundg (M + 1 - d2)
              case measure => omega
              case rel => exact ⟨Q2, true, by rw [HD2.out]; simp, rfl, hI2.out, (fun h => Bool.noConfusion h), BXp.out, g2, c2, by rw [HD2.out], by rw [HD2.out]; exact hO2.out⟩
            · go_wp2
              go_roundg (M + 1 - d2)
              case measure => omega
              case rel => exact ⟨Q2, true, by rw [HD2.out]; simp, rfl, hI2.out, (fun h => Bool.noConfusion h), BXp.out, g2, c2, by rw [HD2.out], by rw [HD2.out]; exact hO2.out⟩
  · have hne : (cc != 0) = true := by rw [bne_iff_ne]; exact h0
    rw [hcc, hZ]
    obtain ⟨M, hM⟩ : ∃ M, 2 ^ n = M := ⟨_, rfl⟩
    rw [hM]
    clear hM hZ hcc
    go_enter Try.func61, Try.ntmps61
    go_wp2_with fail
    refine Calls.makes' HC.out _ fun w1 hb1 => ?_
    go_wp2
    go_ret2
    exact ⟨e3.trans (hb1.mono e3.size), Or.inr ⟨h0, rfl⟩⟩


end Go.Proofs.Ytnnacligfoonbaa
