/-
  The kernel by the reference: l12Kernel. No condition beside sizes.
-/
import Derived.Test.YtnnacligfoonbaaRJ
import Derived.Test.YtnnacligfoonbaaRD1
set_option linter.unusedVariables false
set_option linter.unusedSimpArgs false
namespace Go.Proofs.Ytnnacligfoonbaa
open Go.RowKit

theorem idx_nonneg (X : Nat → Int) (x : Int) : ∀ n, (0 ≤ idx X x n ↔ ∃ j, j < n ∧ X j = x) := by
  intro n
  constructor
  · intro h
    by_cases e : ∃ j, j < n ∧ X j = x
    · exact e
    · have := idx_none (f := X) (x := x) (n := n) fun j hj hx => e ⟨j, hj, hx⟩
      omega
  · rintro ⟨j, hj, hx⟩
    have key : ∀ m, (∃ j, j < m ∧ X j = x) → ∃ k, k < m ∧ (∀ i, i < k → X i ≠ x) ∧ X k = x := by
      intro m
      induction m with
      | zero => rintro ⟨j, hj, _⟩; omega
      | succ m ih =>
        rintro ⟨j, hj, hx⟩
        by_cases e : ∃ j, j < m ∧ X j = x
        · obtain ⟨k, h1, h2, h3⟩ := ih e
          exact ⟨k, by omega, h2, h3⟩
        · have : j = m := by
            by_cases e2 : j < m
            · exact absurd ⟨j, e2, hx⟩ e
            · omega
          subst this
          exact ⟨j, by omega, fun i hi hxi => e ⟨i, hi, hxi⟩, hx⟩
    obtain ⟨k, h1, h2, h3⟩ := key n ⟨j, hj, hx⟩
    rw [idx_at h1 h2 h3]
    omega

set_option maxRecDepth 100000 in
set_option maxHeartbeats 400000 in
/-- the pivots have a place just if it is not free -/
theorem sHasP_c (v : Value) (d j : Nat) (c : Nat → Nat) (w : World) (h : Ints w v d (fun i => ((c i : Nat) : Int))) (hd : d ≤ 1048576) :
    Calls Try.prog 153 #[v, .int .i64 j] w fun e w' => e = .returned (.bool (!frB c d j)) ∧ w = w' := by
  obtain ⟨q, hq⟩ : ∃ q, idx (fun i => ((c i : Nat) : Int)) (j : Int) d = q := ⟨_, rfl⟩
  have hI : Hid (Calls Try.prog 159 #[v, .int .i64 j] w fun e w' => e = .returned (.int .i64 q) ∧ w = w') := hq ▸ sIndex_c v d (fun i => ((c i : Nat) : Int)) (j : Int) w h
  have hb : Hid (decide (0 ≤ q) = !frB c d j) := by
    have h1 := idx_nonneg (fun i => ((c i : Nat) : Int)) (j : Int) d
    rw [hq] at h1
    show decide (0 ≤ q) = !frB c d j
    cases hf : frB c d j
    · have hl := pvt_le c d j
      have hne : pvt c d j ≠ d := by simpa [frB] using hf
      have := pvt_is (show pvt c d j < d by omega)
      simp only [Bool.not_false, decide_eq_true_eq]
      exact h1.2 ⟨pvt c d j, by omega, by show ((c (pvt c d j) : Nat) : Int) = j; rw [this]⟩
    · have he : pvt c d j = d := by simpa [frB] using hf
      simp only [Bool.not_true, decide_eq_false_iff_not]
      intro h0
      obtain ⟨i, hi, hx⟩ := h1.1 h0
      exact pvt_none he hi (by exact_mod_cast hx)
  clear hq
  go_enter Try.func153, Try.ntmps153
  go_wp2_with fail
  refine hI.out.mono ?_
  rintro e w1 ⟨rfl, rfl⟩
  go_wp2
  go_ret
  exact ⟨by rw [← hb.out]; rfl, rfl⟩

set_option maxRecDepth 100000 in
set_option maxHeartbeats 4000000 in
theorem sK12_c (p : Int) (v : Value) (G n : Nat) (T : Nat → Nat → Int) (w : World) (h : Tab w v G (fun _ => n) T) (hn : 1 ≤ n ∧ n ≤ 1000) (hG : G ≤ 1048576) (hpr : primeB p = true) (hT : RowsIn p G n T) :
    Calls Try.prog 127 #[.int .i64 p, .int .i64 n, v] w fun e w' => CopyT w w' e (kerA p n (putA p n T G)).2 (fun _ => n) (kerA p n (putA p n T G)).1 := by
  have hp := primeB_bd hpr
  have hp0 : p ≠ 0 := by omega
  obtain ⟨c0, hRed0⟩ := (putA_of hpr hT).red
  have hdle := (putA_of hpr hT).le
  have hBas := sReduced_c p v G n T w h hn hG hpr hT
  generalize hQ : putA p n T G = Q at hRed0 hBas hdle ⊢
  obtain ⟨S, d⟩ := Q
  have hRed : Red p n d S (fun r => ldd n (S r)) := hRed0.lddc
  have hdle : d ≤ n := hdle
  obtain ⟨c, hc⟩ : ∃ c : Nat → Nat, (fun r => ldd n (S r)) = c := ⟨_, rfl⟩
  have hker : kerA p n (S, d) = putA p n (kerT p n d S c) (cnt (frB c d) n) := by unfold kerA; rw [← hc]
  have hcl : ∀ r, r < d → ldd n (S r) = c r := fun r _ => by rw [← hc]
  rw [hker]
  rw [hc] at hRed
  have HRed := Lib.hid hRed
  have HCL := Lib.hid hcl
  have HBas := Lib.hid hBas
  obtain ⟨Z, hZ⟩ : ∃ Z, putA p n (kerT p n d S c) (cnt (frB c d) n) = Z := ⟨_, rfl⟩
  have HZ := Lib.hid hZ
  rw [hZ]
  have hZd : Z.2 ≤ n := by
    have h1 := (putA_of hpr (kerT_in (p := p) (by omega) n d S c (cnt (frB c d) n))).le
    rwa [hZ] at h1
  clear h hRed hRed0 hcl hBas hc hker hQ hZ hT
  go_enter Try.func127, Try.ntmps127
  go_wp2_with fail
  go_at_call 117
  refine HBas.out.mono ?_
  rintro e w2 ⟨g0, cap0, rfl, hb2, hO2'⟩
  have hbw := hb2
  have hO2 := Lib.hid hO2'
  have hgb0 := hO2.out.base
  have hOM := hO2.out.bound
  obtain ⟨U, hU⟩ : ∃ U, w2.heap.size = U := ⟨_, rfl⟩
  rw [hU] at hOM
  have hwU : w.heap.size ≤ U := by rw [← hU]; exact hbw.size
  have hE1 : Hid (Own ((w2.alloc (.cells #[] 24)).alloc (.cells #[] 2)) 2 (U + 1) 0 0 (fun i => .int .i64 ((c i : Nat) : Int))) := by
    have h := Own.empty (w2.alloc (.cells #[] 24)) 2 (fun i => .int .i64 ((c i : Nat) : Int))
    rw [alloc_size, hU] at h
    exact h
  have hE2 : Hid (Own ((w2.alloc (.cells #[] 24)).alloc (.cells #[] 2)) 24 U 0 0 (fun _ => .int .i64 0)) := by rw [← hU]; exact (Own.empty w2 24 _).alloc _
  have hB3 : Below w2.heap.size w2 ((w2.alloc (.cells #[] 24)).alloc (.cells #[] 2)) := ((Below.refl _ _).alloc (Nat.le_refl _) _).alloc (by simp) _
  have hOM3 := Lib.hid (hOM.kept hB3)
  have hb3 := Lib.hid (hbw.trans (hB3.mono hbw.size))
  clear hOM hB3 hb2 hO2 hbw hO2'
  go_wp2_with fail
  go_loopg [9, 10] d (fun g s i wr => ∃ k : Nat, k ≤ d ∧ g = d - k ∧ i = .int .i64 k ∧ ∃ gp cp, s = .slice (some ⟨gp, 0, none⟩) k cp ∧ U ≤ gp ∧ gp ≠ U ∧ Hid (Below w.heap.size w wr) ∧ Hid (Own wr 2 gp cp k (fun i => .int .i64 ((c i : Nat) : Int))) ∧ Hid (OTabM wr w.heap.size U g0 cap0 d (fun _ => n) S) ∧ Hid (Own wr 24 U 0 0 (fun _ => .int .i64 0)))
  case atStart => exact ⟨0, Nat.zero_le _, rfl, rfl, U + 1, 0, by first | rfl | simp [hU], Nat.le_succ U, by omega, hb3.out, hE1.out, hOM3.out, hE2.out⟩
  case round =>
    obtain ⟨k, hk, rfl, rfl, gp, cp, rfl, hgU, hgne, hb, hP, hOM, hL⟩ := hrel
    clear hb3 hE1 hE2 hOM3
    by_cases hkd : k < d
    · obtain ⟨r, cr, hcell, hrow⟩ := hOM.out.row hkd
      have HF : Hid (Calls Try.prog 147 #[.slice (some ⟨r, 0, none⟩) n cr] wr fun e w' => e = .returned (.int .i64 ((c k : Nat) : Int)) ∧ wr = w') := by
        have h := sFst_c _ n (S k) wr hrow (by omega)
        rw [HCL.out k hkd] at h
        exact h
      have i0 : (0 : Int) ≤ (k : Int) := by omega
      have i1 : (k : Int) < (d : Int) := by omega
      have hPP := hP.out
      clear hrow
      go_wp2_with (first
        | (go_at_call 147; refine HF.out.mono ?_; rintro e w' ⟨rfl, rfl⟩)
        | (at_builtin; go_must (refine wpList_push _ rfl _ _ _ _ elI rfl hPP (.int .i64 ((c k : Nat) : Int)) rfl rfl rfl (by omega) (by omega) ?_); intro g3 c3 w3 hO3 hg3 hgr3))
      go_roundg (d - (k + 1))
      case measure => omega
      case rel =>
        have hs := hb.out.size
        have hl := hL.out.lt
        have hgl := hPP.lt
        refine ⟨k + 1, by omega, rfl, by go_num, g3, c3, rfl, by omega, by omega, hb.out.grown hgr3 hs (fun q e => by injection e with e; omega), hO3.congr fun i hi => ?_, hOM.out.grown hgr3 (Or.inr hgU), hL.out.grown hgr3 (by intro e; injection e with e; omega)⟩
        by_cases e : i = k
        · subst e; simp
        · simp [e]
    · obtain rfl : k = d := by omega
      have hT0 : Hid (OTab wr U U 0 (cnt (frB c k) 0) (fun _ => n) (kerT p n k S c)) := ⟨fun _ => 0, fun _ => 0, ⟨hL.out.out.imp fun cur h => ⟨h.1, h.2.1, fun i hi => absurd hi (Nat.not_lt_zero _)⟩, Nat.zero_le _, Nat.zero_le _⟩, Nat.le_refl U, fun i hi => absurd hi (Nat.not_lt_zero _), fun i j hi => absurd hi (Nat.not_lt_zero _)⟩
      clear hL
      go_wp2_with fail
      go_loopg [8, 11] n (fun g s i wr => ∃ j : Nat, j ≤ n ∧ g = n - j ∧ i = .int .i64 j ∧ ∃ gl cl, s = .slice (some ⟨gl, 0, none⟩) (cnt (frB c k) j) cl ∧ U ≤ gl ∧ gl ≠ gp ∧ Hid (Below w.heap.size w wr) ∧ Hid (Own wr 2 gp cp k (fun i => .int .i64 ((c i : Nat) : Int))) ∧ Hid (OTabM wr w.heap.size U g0 cap0 k (fun _ => n) S) ∧ Hid (OTab wr U gl cl (cnt (frB c k) j) (fun _ => n) (kerT p n k S c)))
      case atStart => exact ⟨0, Nat.zero_le _, rfl, rfl, U, 0, by first | rfl | simp [hU, cnt], Nat.le_refl U, fun e => hgne e.symm, hb.out, hP.out, hOM.out, hT0.out⟩
      case round =>
        obtain ⟨j, hj, rfl, rfl, gl, cl, rfl, hglU, hglne, hb', hP', hOM', hT'⟩ := hrel
        clear hb hP hOM hT0
        obtain ⟨wo, rfl⟩ : ∃ wo, wo = wr := ⟨_, rfl⟩
        by_cases hjn : j < n
        · have HH : Hid (Calls Try.prog 153 #[.slice (some ⟨gp, 0, none⟩) k cp, .int .i64 j] wo fun e w' => e = .returned (.bool (!frB c k j)) ∧ wo = w') := sHasP_c _ k j c wo hP'.out.ints (by omega)
          cases hfr : frB c k j
          · rw [hfr] at HH
            have hc1 := cnt_no hfr
            go_wp2_with (first | (go_at_call 153; refine HH.out.mono ?_; rintro e w' ⟨rfl, rfl⟩))
            go_roundg (n - (j + 1))
            case measure => omega
            case rel => exact ⟨j + 1, by omega, rfl, by go_num, gl, cl, by rw [hc1], hglU, hglne, hb'.out, hP'.out, hOM'.out, by rw [hc1]; exact hT'.out⟩
          · rw [hfr] at HH
            have hc1 := cnt_yes hfr
            have i0 : (0 : Int) ≤ (j : Int) := by omega
            have i1 : (j : Int) < (n : Int) := by omega
            obtain ⟨V, hV, hpush⟩ := hT'.out.pushAt (show U ≤ wo.heap.size by have := hT'.out.lt; omega)
            have HP := Lib.hid hpush
            have HV := Lib.hid hV
            have hcl := cnt_le (frB c k) j
            have HMK : Hid (∀ W1 : World, Below wo.heap.size wo W1 → Own W1 2 wo.heap.size n n (fun _ => .int .i64 0) → Hid (Own (W1.setCell ⟨wo.heap.size, j, none⟩ (.int .i64 1)) 2 wo.heap.size n n (fun i => .int .i64 (kvK p S c j 0 i)) ∧ Below wo.heap.size wo (W1.setCell ⟨wo.heap.size, j, none⟩ (.int .i64 1)))) := fun W1 h1 h2 =>
              ⟨(h2.set j _).congr fun i hi => by unfold kvK; by_cases e : i = j <;> simp [e], h1.setCell (p := ⟨wo.heap.size, j, none⟩) (Nat.le_refl _) _⟩
            obtain ⟨gv, hgv⟩ : ∃ gv, wo.heap.size = gv := ⟨_, rfl⟩
            have hgvU : U ≤ gv := by have := hT'.out.lt; omega
            rw [hgv] at HMK
            have HGV := Lib.hid hgv
            have HFR := Lib.hid hfr
            have HC1 := Lib.hid hc1
            clear hpush hV hfr hc1
            go_wp2_with (first
              | (go_at_call 153; refine HH.out.mono ?_; rintro e w' ⟨rfl, rfl⟩)
              | (at_make; refine wpList_mkA _ rfl _ _ _ _ elI rfl rfl .i64 .i64 n rfl rfl (by omega) (by omega) ?_; rw [hgv]; intro W1 hB1 hS1 hO1; have hu := hO1.cell hjn; have hf := hO1.frozen j; have HO2 := HMK.out W1 hB1 hO1; clear hS1))
            obtain ⟨hOv, hBv⟩ := HO2.out
            clear hu hf hB1 hO1 HO2 HMK
            go_loopg [13] k (fun g i wq => ∃ q : Nat, q ≤ k ∧ g = k - q ∧ i = .int .i64 q ∧ Hid (Below gv wo wq) ∧ Hid (Own wq 2 gv n n (fun i => .int .i64 (kvK p S c j q i))))
            case atStart => exact ⟨0, Nat.zero_le _, rfl, rfl, hBv, hOv⟩
            case round =>
              obtain ⟨q, hq, rfl, rfl, hbq', hOq⟩ := hrel
              clear hBv hOv
              have hbq : Below wo.heap.size wo wr := by rw [HGV.out]; exact hbq'.out
              by_cases hqk : q < k
              · obtain ⟨RR, RC, w1, w2, w3, w4⟩ := (hOM'.out.kept hbq).out
                have e1 := (hP'.out.kept hbq).cell hqk
                have e2 := w1.cell hqk
                have e3 := (w3 q hqk).1.cell hjn
                obtain ⟨x, hx⟩ : ∃ x, S q j = x := ⟨_, rfl⟩
                have hxb := HRed.out.inp q hqk j hjn
                rw [hx] at e3 hxb
                have hwn : IntKind.i64.wrap (-x) = -x := wrap_in _ (by omega)
                obtain ⟨z, hz⟩ : ∃ z, (-x) % p = z := ⟨_, rfl⟩
                have HMod : Hid (∀ W, Calls Try.prog 82 #[.int .i64 p, .int .i64 (-x)] W fun e w' => e = .returned (.int .i64 z) ∧ W = w') := fun W => hz ▸ sMod_c p (-x) W (by omega) (by omega) (by omega) (by omega)
                have hcq := HRed.out.piv q hqk
                have e4 := hOq.out.cell hcq
                have e5 := hOq.out.frozen (c q)
                have HX := Lib.hid hx
                have HZ2 := Lib.hid hz
                have t0 : (0 : Int) ≤ (q : Int) := by omega
                have t1 : (q : Int) < (k : Int) := by omega
                have t2 : (0 : Int) ≤ (c q : Int) := by omega
                have t3 : (c q : Int) < (n : Int) := by omega
                clear hx hz w1 w3 w4 hbq
                go_wp2
                go_region_law (first | (go_simp; go_at_call 82; refine (HMod.out _).mono ?_; rintro e w' ⟨rfl, rfl⟩))
                all_goals go_wp2
                all_goals go_roundg (k - (q + 1))
                all_goals first
                  | omega
                  | exact ⟨q + 1, by omega, rfl, by go_num, (hbq'.out.setCell (p := ⟨gv, c q, none⟩) (Nat.le_refl _) _).drew, ((hOq.out.set (c q) _).drew).congr fun i hi => by
                      rw [kvK_succ]
                      by_cases e : i = c q
                      · rw [if_pos e, if_pos e, HX.out, HZ2.out]
                      · rw [if_neg e, if_neg e]⟩
              · obtain rfl : q = k := by omega
                have hV2 := HV.out.kept hbq
                go_wp2_with (at_builtin; go_must (refine wpList_push _ rfl _ _ _ _ elR rfl hV2 (.slice (some ⟨gv, 0, none⟩) n n) rfl rfl rfl (by omega) (by omega) ?_); intro g3 c3 w3 hO3 hg3 hgr3)
                go_roundg (n - (j + 1))
                case measure => omega
                case rel =>
                  have hs1 := hb'.out.size
                  have hs2 := hbq.size
                  have hgl := hT'.out.lt
                  have hgpl := hP'.out.lt
                  refine ⟨j + 1, by omega, rfl, by go_num, g3, c3, by rw [HC1.out], by omega, by omega, (hb'.out.trans (hbq.mono hs1)).grown hgr3 (by omega) (fun q e => by injection e with e; omega), (hP'.out.kept hbq).grown hgr3 (by intro e; injection e with e; omega), (hOM'.out.kept hbq).grown hgr3 (Or.inr hglU), ?_⟩
                  show OTab _ U g3 c3 (cnt (frB c q) (j + 1)) (fun _ => n) (kerT p n q S c)
                  rw [HC1.out]
                  refine (HP.out _ _ _ _ _ _ _ _ hbq hOq.out (Nat.le_of_eq HGV.out) hO3 hg3 hgr3).congr (fun i hi => by by_cases e : i = cnt (frB c q) j <;> simp [e]) fun i i' hi hi' => ?_
                  by_cases e : i = cnt (frB c q) j
                  · rw [if_pos e, e]
                    unfold kerT
                    have e2 := sel_new (p := frB c q) HFR.out
                    have e3 := sel_le (p := frB c q) (m := j + 1) (i := cnt (frB c q) j) (by rw [HC1.out]; omega) (n - (j + 1))
                    rw [show j + 1 + (n - (j + 1)) = n by omega, e2] at e3
                    rw [e3]
                    exact kvK_eq HRed.out HFR.out i'
                  · rw [if_neg e]
        · obtain rfl : j = n := by omega
          have hml := cnt_le (frB c k) j
          have HB2 : Hid (Calls Try.prog 117 #[.int .i64 p, .slice (some ⟨gl, 0, none⟩) (cnt (frB c k) j) cl] wo fun e w' => CopyT wo w' e Z.2 (fun _ => j) Z.1) := by
            have h := sReduced_c p _ (cnt (frB c k) j) j (kerT p j k S c) wo hT'.out.tab hn (by omega) hpr (kerT_in (by omega) j k S c _)
            rw [HZ.out] at h
            exact h
          go_wp2_with fail
          go_at_call 117
          refine HB2.out.mono ?_
          rintro e w4 ⟨g4, c4, rfl, hb4, hO4⟩
          have hs1 := hb'.out.size
          go_wp2
          go_ret
          exact ⟨g4, c4, rfl, hb'.out.trans (hb4.mono hs1), hO4.mono hs1⟩

end Go.Proofs.Ytnnacligfoonbaa
