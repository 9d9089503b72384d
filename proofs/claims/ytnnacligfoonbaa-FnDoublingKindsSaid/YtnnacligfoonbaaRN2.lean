/-
  solutions: the kernel of the rows of functions, by the program. No condition beside sizes.
-/
import Derived.Test.YtnnacligfoonbaaRN1
set_option linter.unusedVariables false
set_option linter.unusedSimpArgs false
namespace Go.Proofs.Ytnnacligfoonbaa
open Go.RowKit

theorem keepOD {w wo W W' : World} {p : Int} {ao : Option Addr} {n c : Nat} (hb : Below W.heap.size W W') (h : BoxD w p ao n c W ∧ Below wo.heap.size wo W) : BoxD w p ao n c W' ∧ Below wo.heap.size wo W' := ⟨boxKeep hb h.1, h.2.trans (hb.mono h.2.size)⟩
theorem belowOD {w wo W : World} {p : Int} {ao : Option Addr} {n c : Nat} (h : BoxD w p ao n c W ∧ Below wo.heap.size wo W) : Below wo.heap.size wo W := h.2
/-- a table with the rows of another one appended, to be read -/
theorem OTab.appAll {w : World} {B B5 g cap g5 c5 d m M : Nat} {U U' : Nat → Nat → Int} (h : OTab w B g cap d (fun _ => M) U) (h5 : OTab w B5 g5 c5 m (fun _ => M) U') (hg : g < B5) : ∃ V N : Nat → Value, Own w 24 g cap d V ∧ (∀ j, j < m → w.cell? ⟨g5, 0 + j, none⟩ = some (N j)) ∧ (∀ j, j < m → (N j).oneCell' = true) ∧
    ∀ (w' : World) (g' c' : Nat), Own w' 24 g' c' (d + m) (fun j => if j < d then V j else N (j - d)) → w.grownBy w' (some g) → Tab w' (.slice (some ⟨g', 0, none⟩) (d + m) c') (d + m) (fun _ => M) (fun r => if r < d then U r else U' (r - d)) := by
  obtain ⟨R, C, h1, h2, h3, h4⟩ := h.out
  obtain ⟨R5, C5, k1, k2, k3, k4⟩ := h5.out
  refine ⟨_, fun j => .slice (some ⟨R5 j, 0, none⟩) M (C5 j), h1, fun j hj => by rw [Nat.zero_add]; exact k1.cell hj, fun j _ => rfl, fun w' g' c' hO hgr => ?_⟩
  have o1 : ∀ i, i < d → Own w' 2 (R i) (C i) M (fun j => .int .i64 (U i j)) := fun i hi => (h3 i hi).1.grown hgr (by intro e; injection e with e; exact (h3 i hi).2.2 e.symm)
  have o2 : ∀ i, i < m → Own w' 2 (R5 i) (C5 i) M (fun j => .int .i64 (U' i j)) := fun i hi => (k3 i hi).1.grown hgr (by intro e; injection e with e; have := (k3 i hi).2.1; omega)
  refine ⟨_, c', g', 0, fun i => if i < d then some ⟨R i, 0, none⟩ else some ⟨R5 (i - d), 0, none⟩, fun i => if i < d then C i else C5 (i - d), fun i => if i < d then R i else R5 (i - d), fun _ => 0, rfl, hO.le, hO.max, fun _ => rfl, fun i hi => ?_, fun i hi => ?_, fun i hi _ => ?_, fun i j hi hj => ?_⟩
  · rw [Nat.zero_add, hO.cell hi]
    by_cases e : i < d <;> simp [e]
  · by_cases e : i < d
    · simp only [if_pos e]; exact ⟨(o1 i e).le, (o1 i e).max⟩
    · simp only [if_neg e]; exact ⟨(o2 (i - d) (by omega)).le, (o2 (i - d) (by omega)).max⟩
  · by_cases e : i < d <;> simp [e]
  · by_cases e : i < d
    · simp only [if_pos e, Nat.zero_add]; exact (o1 i e).cell hj
    · simp only [if_neg e, Nat.zero_add]; exact (o2 (i - d) (by omega)).cell hj
theorem OFns.max {w : World} {p : Int} {m B g cap K : Nat} {F : Nat → (Nat → Int) → Nat → Int} (h : OFns w p m B g cap K F) : K ≤ 9223372036854775807 := by
  obtain ⟨V, h1, h2, h3⟩ := h.out
  exact Nat.le_trans h1.le h1.max
theorem OFns.at {w : World} {p : Int} {m B g cap K : Nat} {F : Nat → (Nat → Int) → Nat → Int} (h : OFns w p m B g cap K F) {t : Nat} (ht : t < K) : ∃ v, w.cell? ⟨g, t, none⟩ = some v ∧ FnOk w g p m v (F t) := by
  obtain ⟨V, h1, h2, h3⟩ := h.out
  exact ⟨V t, h1.cell ht, h3 t ht⟩

set_option maxRecDepth 100000 in
set_option maxHeartbeats 8000000 in
theorem iSol_c (p : Int) (sv : Value) (n : Nat) (s : Nat → Int) (B0 g0 c0 K : Nat) (F : Nat → (Nat → Int) → Nat → Int) (w : World) (hd : DV w sv p n s) (hpr : primeB p = true) (hF : OFns w p (2 ^ n) B0 g0 c0 K F) (hFin : ∀ r j q, r < K → j < 2 ^ n → q < 2 ^ n → 0 ≤ F r (dltU j) q ∧ F r (dltU j) q < p) :
    Calls Try.prog 103 #[dbl p sv, .slice (some ⟨g0, 0, none⟩) K c0] w fun e w' => CopyT w w' e (kerS p (2 ^ n) (bSt p (solQ p (2 ^ n) F K).2 (solQ p (2 ^ n) F K).1 (2 ^ n))).2 (fun _ => 2 ^ n) (kerS p (2 ^ n) (bSt p (solQ p (2 ^ n) F K).2 (solQ p (2 ^ n) F K).1 (2 ^ n))).1 := by
  obtain ⟨ao, c, _, _, rfl, qq⟩ := hd.ints.out
  clear qq
  have hbd := primeB_bd hpr
  have hp2 : 2 ≤ p := by omega
  obtain ⟨e0, e1, e2, e3⟩ := box0 w p ao n c 26
  have BX := Lib.hid (box0 w p ao n c 26)
  have hn4 := hd.le
  have hM0 : 0 < 2 ^ n := Nat.pos_of_ne_zero (by simp)
  have hOf : ∀ t, t ≤ K → RedOf p (2 ^ n) (FnS (2 ^ n) F t) (solQ p (2 ^ n) F t) := fun t ht => solQ_of hpr fun r j q hr => hFin r j q (by omega)
  have hM16 := pow_le hn4
  have HLe : Hid (∀ t, t ≤ K → (solQ p (2 ^ n) F t).2 ≤ 2 ^ n) := fun t ht => (hOf t ht).le
  have HB : Hid (∀ W v t, t < K → Tab W v ((solQ p (2 ^ n) F t).2 + 2 ^ n) (fun _ => 2 ^ n) (fun r => if r < (solQ p (2 ^ n) F t).2 then (solQ p (2 ^ n) F t).1 r else (fun q j => F t (dltU j) q) (r - (solQ p (2 ^ n) F t).2)) →
      Calls Try.prog 115 #[.int .i64 p, v] W fun e w' => CopyT W w' e (solQ p (2 ^ n) F (t + 1)).2 (fun _ => 2 ^ n) (solQ p (2 ^ n) F (t + 1)).1) := fun W v t ht h => by
    have := (hOf t (by omega)).le
    exact iBasis_c p v _ (2 ^ n) _ W h ⟨hM0, by omega⟩ (by omega) hbd (appT_in (hOf t (by omega)).inp (fun j q hj hq => hFin t j q ht hj hq) (Nat.le_refl _))
  have HK : Hid (∀ W v, Tab W v (solQ p (2 ^ n) F K).2 (fun _ => 2 ^ n) (solQ p (2 ^ n) F K).1 → Calls Try.prog 125 #[.int .i64 p, v, .int .i64 ((2 ^ n : Nat) : Int)] W fun e w' => CopyT W w' e (kerS p (2 ^ n) (bSt p (solQ p (2 ^ n) F K).2 (solQ p (2 ^ n) F K).1 (2 ^ n))).2 (fun _ => 2 ^ n) (kerS p (2 ^ n) (bSt p (solQ p (2 ^ n) F K).2 (solQ p (2 ^ n) F K).1 (2 ^ n))).1) := fun W v h =>
    iKernel_c p v _ (2 ^ n) _ W h ⟨hM0, by omega⟩ (by have := (hOf K (Nat.le_refl _)).le; omega) hpr (hOf K (Nat.le_refl _)).inp
  obtain ⟨Z, hZ⟩ : ∃ Z, kerS p (2 ^ n) (bSt p (solQ p (2 ^ n) F K).2 (solQ p (2 ^ n) F K).1 (2 ^ n)) = Z := ⟨_, rfl⟩
  rw [hZ] at HK ⊢
  have HF := Lib.hid hF
  obtain ⟨M, hM⟩ : ∃ M, 2 ^ n = M := ⟨_, rfl⟩
  have HZ : Hid (∀ W, Calls Try.prog 88 #[dbl p (.slice ao n c)] W fun e w' => Makes W w' e (.int .i64 ((M : Nat) : Int))) := fun W => hM ▸ iSize_c p ao n c W hn4
  rw [hM] at HLe HB HK HF hM0 hM16 ⊢
  have hgF := HF.out.lt
  have hKm := HF.out.max
  clear hM hZ hd hF hFin hOf
  have hT0 : OTab ((w.alloc (.cells #[.int .i64 p, .slice ao n c] 26)).alloc (.cells #[] 24)) (w.heap.size + 1) (w.heap.size + 1) 0 0 (fun _ => M) (fun _ _ => 0) := by
    have h := OTab.empty (w.alloc (.cells #[.int .i64 p, .slice ao n c] 26))
    rw [alloc_size] at h
    exact h.congr (fun i hi => absurd hi (Nat.not_lt_zero _)) (fun i j hi => absurd hi (Nat.not_lt_zero _))
  have bA : Below (w.alloc (.cells #[.int .i64 p, .slice ao n c] 26)).heap.size (w.alloc (.cells #[.int .i64 p, .slice ao n c] 26)) ((w.alloc (.cells #[.int .i64 p, .slice ao n c] 26)).alloc (.cells #[] 24)) := (Below.refl _ _).alloc (Nat.le_refl _) _
  have BXA := Lib.hid (boxKeep bA BX.out)
  have HTA := Lib.hid hT0
  clear hT0 bA e0 e1 e2 e3 BX
  go_enter Try.func103, Try.ntmps103
  go_wp2_with fail
  go_loopg [5, 14] K (fun g o i wr => ∃ t : Nat, t ≤ K ∧ g = K - t ∧ i = .int .i64 t ∧ BoxD w p ao n c wr ∧ ∃ g' c', o = .slice (some ⟨g', 0, none⟩) (solQ p M F t).2 c' ∧ Hid (OTab wr (w.heap.size + 1) g' c' (solQ p M F t).2 (fun _ => M) (solQ p M F t).1))
  case atStart => exact ⟨0, Nat.zero_le _, rfl, rfl, BXA.out, _, _, rfl, HTA.out⟩
  case round =>
    obtain ⟨t, ht, rfl, rfl, ⟨f0, f1, f2, f3⟩, g', c', rfl, hO⟩ := hrel
    obtain ⟨wo, rfl⟩ : ∃ wo, wo = wr := ⟨_, rfl⟩
    have BXo := Lib.hid (show BoxD w p ao n c wo from ⟨f0, f1, f2, f3⟩)
    have hle := HLe.out t ht
    obtain ⟨d, hd⟩ : ∃ d, (solQ p M F t).2 = d := ⟨_, rfl⟩
    have HD := Lib.hid hd
    rw [hd] at hO hle ⊢
    clear BXA HTA hd
    by_cases htK : t < K
    · obtain ⟨v, hvc, hFo⟩ := HF.out.at htK
      have hvo : wo.cell? ⟨g0, t, none⟩ = some v := by rw [f3.cell (p := ⟨g0, t, none⟩) hgF]; exact hvc
      obtain ⟨f, hf⟩ : ∃ f, F t = f := ⟨_, rfl⟩
      have HF1 := Lib.hid hf
      rw [hf] at hFo
      have HT0 : Hid (OTab (wo.alloc (.cells #[] 24)) wo.heap.size wo.heap.size 0 0 (fun _ => M) (fun j => f (dltU j))) := (OTab.empty wo).congr (fun i hi => absurd hi (Nat.not_lt_zero _)) (fun i j hi => absurd hi (Nat.not_lt_zero _))
      have HBA : Hid (Below wo.heap.size wo (wo.alloc (.cells #[] 24))) := (Below.refl _ _).alloc (Nat.le_refl _) _
      obtain ⟨fid, hcf, hsh⟩ := hFo.out
      clear hvc hf hFo
      rcases hsh with ⟨k1, k2, k3, rfl, hcl⟩ | ⟨k1, k2, rfl, hcl⟩
      · have hFn := Lib.hid hcl
        clear hcl
        go_wp2_with fail
        refine Calls.makes' (HZ.out _) _ fun w1 hb1 => ?_
        have hb1a : Below wo.heap.size wo w1 := HBA.out.trans (hb1.mono HBA.out.size)
        have hT1 := HT0.out.kept hb1
        have l1 : wo.heap.size + 1 ≤ w1.heap.size := by have := hb1.size; simp only [alloc_size] at this; omega
        clear hb1
        go_wp2_with fail
        go_at_call 106
        refine (iUnit_c M _ (by omega)).mono ?_
        rintro e w2 ⟨gu, cu, rfl, hb2, hU⟩
        have hU2 := Lib.hid hU.bound
        have l2 := hb2.size
        have HT2 := Lib.hid (hT1.kept hb2)
        have HB2 := Lib.hid (hb1a.trans (hb2.mono hb1a.size))
        clear hU hT1 hb2 hb1a
        have BX2 := Lib.hid (boxKeep HB2.out BXo.out)
        obtain ⟨B1, hB1⟩ : ∃ B, w1.heap.size = B := ⟨_, rfl⟩
        obtain ⟨U1, hU1⟩ : ∃ U, w2.heap.size = U := ⟨_, rfl⟩
        have hU3 : Hid (OTabM w2 B1 U1 gu cu M (fun _ => M) dlt) := by subst hB1; subst hU1; exact hU2
        have l3 : Hid (U1 ≤ w2.heap.size) := Nat.le_of_eq hU1.symm
        rw [hB1] at l1 l2
        rw [hU1] at l2
        clear hU1 hB1 hU2 HT0 HBA
        go_wp2
        go_loopg [8, 23] M (fun g o i wq => ∃ j : Nat, j ≤ M ∧ g = M - j ∧ i = .int .i64 j ∧ BoxD w p ao n c wq ∧ Hid (Below wo.heap.size wo wq) ∧ Hid (U1 ≤ wq.heap.size) ∧ Hid (OTabM wq B1 U1 gu cu M (fun _ => M) dlt) ∧ ∃ g' c', o = .slice (some ⟨g', 0, none⟩) j c' ∧ Hid (g' < B1 ∨ U1 ≤ g') ∧ Hid (OTab wq wo.heap.size g' c' j (fun _ => M) (fun j => f (dltU j))))
        case atStart => exact ⟨0, Nat.zero_le _, rfl, rfl, BX2.out, HB2.out, l3.out, hU3.out, _, _, rfl, Or.inl (by omega), HT2.out⟩
        case round =>
          obtain ⟨j, hj, rfl, rfl, ⟨h0, h1, h2, h3⟩, hbq, hul, hu, g2, c2, rfl, hgd, hT⟩ := hrel
          have BXr := Lib.hid (show BoxD w p ao n c wr from ⟨h0, h1, h2, h3⟩)
          clear BX2 l3 hU3 HT2 HB2
          by_cases hlt : j < M
          · obtain ⟨V, hV, hpush⟩ := hT.out.pushAt hbq.out.size
            have HP := Lib.hid hpush
            obtain ⟨ru, cru, hcu, hrow⟩ := hu.out.row hlt
            have HR := Lib.hid hrow
            have hCl2 : Hid (Calls Try.prog fid #[.slice (some ⟨ru, 0, none⟩) M cru, k1, k2, k3] wr fun e w' => CopyI wr w' e M (f (dltU j))) := hFn.out wr (Chg.of_below (f3.trans (hbq.out.mono f3.size)) _) _ _ HR.out (dlt_in hp2 _ _)
            have hgB := hT.out.base
            clear hpush hrow
            go_wp2_with fail
            refine hCl2.out.mono ?_
            rintro e w4 ⟨g4, c4, rfl, hg4, hb4, hO4⟩
            have hV2 := hV.kept hb4
            have hs2 := hb4.size
            have bx4 := Lib.hid (boxKeep hb4 BXr.out)
            clear h0 h1 hcu
            go_wp2_with (at_builtin; refine wpList_push _ rfl _ _ _ _ elR rfl hV2 (.slice (some ⟨g4, 0, none⟩) M c4) rfl rfl rfl (by omega) (by omega) ?_; intro g3 c3 w3 hO3 hg3 hgr3)
            go_roundg (M - (j + 1))
            case measure => omega
            case rel =>
              have a1 := hul.out
              have a2 := hgd.out
              have a3 := hgr3.size
              have a4 := hbq.out.size
              have a5 := f3.size
              exact ⟨j + 1, by omega, rfl, by go_num, boxGrown hgr3 (by omega) bx4.out, (hbq.out.trans (hb4.mono a4)).grown hgr3 (by omega) (fun q e => by injection e with e; omega), (show U1 ≤ w3.heap.size by omega), ((hu.out.kept hb4).grown hgr3 a2), g3, c3, rfl, (show g3 < B1 ∨ U1 ≤ g3 by omega), (HP.out _ _ _ _ _ _ _ _ hb4 hO4 hg4 hO3 hg3 hgr3).congr (fun i hi => by by_cases e : i = j <;> simp [e]) (fun i q hi hq => by by_cases e : i = j <;> simp [e])⟩
          · obtain rfl : j = M := by omega
            have hO4 := Lib.hid (hO.out.kept hbq.out)
            have a4 := hbq.out.size
            go_wp2_with fail
            refine Calls.makes' (iField_c _ _ _) _ fun w4 hb4 => ?_
            have hT4 := Lib.hid (hT.out.kept hb4)
            have hO5 := Lib.hid (hO4.out.kept hb4)
            have BX4 := Lib.hid (boxKeep hb4 BXr.out)
            have HB4 := Lib.hid (hbq.out.trans (hb4.mono a4))
            clear hb4 hT hO4 h0 h1
            go_wp2_with fail
            go_at_call 141
            refine (iTranspose_c _ j j _ _ _ hT4.out.tab hM0 (by omega) (by omega) rfl (fun i hi => Nat.le_refl _)).mono ?_
            rintro e w5 ⟨g5, c5, rfl, hb5, hT5⟩
            have hO6 := hO5.out.kept hb5
            have hgl := hO.out.lt
            have l4 := HB4.out.size
            obtain ⟨V, N, hVo, hNc, hN1, htab⟩ := hO6.appAll hT5 (by omega)
            have HTab := Lib.hid htab
            have HNc := Lib.hid hNc
            have HN1 := Lib.hid hN1
            have BX5 := Lib.hid (boxKeep hb5 BX4.out)
            have HB5 := Lib.hid (HB4.out.trans (hb5.mono HB4.out.size))
            have hgB := hO.out.base
            clear htab hNc hN1 hT5 hb5 hO6
            go_wp2_with (at_builtin; refine wpList_app _ rfl _ _ _ _ elR rfl hVo rfl g5 0 j c5 N rfl HNc.out HN1.out (by omega) (by omega) ?_; intro g6 c6 w6 hO6 hg6 hgr6)
            have hT6 := Lib.hid (HTab.out w6 g6 c6 hO6 hgr6)
            have l5 := HB5.out.size
            have l6 := hgr6.size
            have BX6 := Lib.hid (boxGrown hgr6 (by omega) BX5.out)
            have HBas : Hid (Calls Try.prog 115 #[.int .i64 p, .slice (some ⟨g6, 0, none⟩) (d + j) c6] w6 fun e w' => CopyT w6 w' e (solQ p j F (t + 1)).2 (fun _ => j) (solQ p j F (t + 1)).1) := HB.out w6 _ t htK (by rw [HD.out, HF1.out]; exact hT6.out)
            clear hO6 hg6 hgr6 hVo hT6
            go_wp2_with fail
            go_at_call 115
            refine HBas.out.mono ?_
            rintro e w7 ⟨g7, c7, rfl, hb7, hO7⟩
            have a5 := f3.size
            go_wp2
            go_roundg (K - (t + 1))
            case measure => omega
            case rel => exact ⟨t + 1, by omega, rfl, by go_num, boxKeep hb7 BX6.out, g7, c7, rfl, hO7.mono (show w.heap.size + 1 ≤ w6.heap.size by omega)⟩
      · have hFn := Lib.hid hcl
        clear hcl
        go_wp2_with fail
        refine Calls.makes' (HZ.out _) _ fun w1 hb1 => ?_
        have hb1a : Below wo.heap.size wo w1 := HBA.out.trans (hb1.mono HBA.out.size)
        have hT1 := HT0.out.kept hb1
        have l1 : wo.heap.size + 1 ≤ w1.heap.size := by have := hb1.size; simp only [alloc_size] at this; omega
        clear hb1
        go_wp2_with fail
        go_at_call 106
        refine (iUnit_c M _ (by omega)).mono ?_
        rintro e w2 ⟨gu, cu, rfl, hb2, hU⟩
        have hU2 := Lib.hid hU.bound
        have l2 := hb2.size
        have HT2 := Lib.hid (hT1.kept hb2)
        have HB2 := Lib.hid (hb1a.trans (hb2.mono hb1a.size))
        clear hU hT1 hb2 hb1a
        have BX2 := Lib.hid (boxKeep HB2.out BXo.out)
        obtain ⟨B1, hB1⟩ : ∃ B, w1.heap.size = B := ⟨_, rfl⟩
        obtain ⟨U1, hU1⟩ : ∃ U, w2.heap.size = U := ⟨_, rfl⟩
        have hU3 : Hid (OTabM w2 B1 U1 gu cu M (fun _ => M) dlt) := by subst hB1; subst hU1; exact hU2
        have l3 : Hid (U1 ≤ w2.heap.size) := Nat.le_of_eq hU1.symm
        rw [hB1] at l1 l2
        rw [hU1] at l2
        clear hU1 hB1 hU2 HT0 HBA
        go_wp2
        go_loopg [8, 23] M (fun g o i wq => ∃ j : Nat, j ≤ M ∧ g = M - j ∧ i = .int .i64 j ∧ BoxD w p ao n c wq ∧ Hid (Below wo.heap.size wo wq) ∧ Hid (U1 ≤ wq.heap.size) ∧ Hid (OTabM wq B1 U1 gu cu M (fun _ => M) dlt) ∧ ∃ g' c', o = .slice (some ⟨g', 0, none⟩) j c' ∧ Hid (g' < B1 ∨ U1 ≤ g') ∧ Hid (OTab wq wo.heap.size g' c' j (fun _ => M) (fun j => f (dltU j))))
        case atStart => exact ⟨0, Nat.zero_le _, rfl, rfl, BX2.out, HB2.out, l3.out, hU3.out, _, _, rfl, Or.inl (by omega), HT2.out⟩
        case round =>
          obtain ⟨j, hj, rfl, rfl, ⟨h0, h1, h2, h3⟩, hbq, hul, hu, g2, c2, rfl, hgd, hT⟩ := hrel
          have BXr := Lib.hid (show BoxD w p ao n c wr from ⟨h0, h1, h2, h3⟩)
          clear BX2 l3 hU3 HT2 HB2
          by_cases hlt : j < M
          · obtain ⟨V, hV, hpush⟩ := hT.out.pushAt hbq.out.size
            have HP := Lib.hid hpush
            obtain ⟨ru, cru, hcu, hrow⟩ := hu.out.row hlt
            have HR := Lib.hid hrow
            have hCl2 : Hid (Calls Try.prog fid #[.slice (some ⟨ru, 0, none⟩) M cru, k1, k2] wr fun e w' => CopyI wr w' e M (f (dltU j))) := hFn.out wr (Chg.of_below (f3.trans (hbq.out.mono f3.size)) _) _ _ HR.out (dlt_in hp2 _ _)
            have hgB := hT.out.base
            clear hpush hrow
            go_wp2_with fail
            refine hCl2.out.mono ?_
            rintro e w4 ⟨g4, c4, rfl, hg4, hb4, hO4⟩
            have hV2 := hV.kept hb4
            have hs2 := hb4.size
            have bx4 := Lib.hid (boxKeep hb4 BXr.out)
            clear h0 h1 hcu
            go_wp2_with (at_builtin; refine wpList_push _ rfl _ _ _ _ elR rfl hV2 (.slice (some ⟨g4, 0, none⟩) M c4) rfl rfl rfl (by omega) (by omega) ?_; intro g3 c3 w3 hO3 hg3 hgr3)
            go_roundg (M - (j + 1))
            case measure => omega
            case rel =>
              have a1 := hul.out
              have a2 := hgd.out
              have a3 := hgr3.size
              have a4 := hbq.out.size
              have a5 := f3.size
              exact ⟨j + 1, by omega, rfl, by go_num, boxGrown hgr3 (by omega) bx4.out, (hbq.out.trans (hb4.mono a4)).grown hgr3 (by omega) (fun q e => by injection e with e; omega), (show U1 ≤ w3.heap.size by omega), ((hu.out.kept hb4).grown hgr3 a2), g3, c3, rfl, (show g3 < B1 ∨ U1 ≤ g3 by omega), (HP.out _ _ _ _ _ _ _ _ hb4 hO4 hg4 hO3 hg3 hgr3).congr (fun i hi => by by_cases e : i = j <;> simp [e]) (fun i q hi hq => by by_cases e : i = j <;> simp [e])⟩
          · obtain rfl : j = M := by omega
            have hO4 := Lib.hid (hO.out.kept hbq.out)
            have a4 := hbq.out.size
            go_wp2_with fail
            refine Calls.makes' (iField_c _ _ _) _ fun w4 hb4 => ?_
            have hT4 := Lib.hid (hT.out.kept hb4)
            have hO5 := Lib.hid (hO4.out.kept hb4)
            have BX4 := Lib.hid (boxKeep hb4 BXr.out)
            have HB4 := Lib.hid (hbq.out.trans (hb4.mono a4))
            clear hb4 hT hO4 h0 h1
            go_wp2_with fail
            go_at_call 141
            refine (iTranspose_c _ j j _ _ _ hT4.out.tab hM0 (by omega) (by omega) rfl (fun i hi => Nat.le_refl _)).mono ?_
            rintro e w5 ⟨g5, c5, rfl, hb5, hT5⟩
            have hO6 := hO5.out.kept hb5
            have hgl := hO.out.lt
            have l4 := HB4.out.size
            obtain ⟨V, N, hVo, hNc, hN1, htab⟩ := hO6.appAll hT5 (by omega)
            have HTab := Lib.hid htab
            have HNc := Lib.hid hNc
            have HN1 := Lib.hid hN1
            have BX5 := Lib.hid (boxKeep hb5 BX4.out)
            have HB5 := Lib.hid (HB4.out.trans (hb5.mono HB4.out.size))
            have hgB := hO.out.base
            clear htab hNc hN1 hT5 hb5 hO6
            go_wp2_with (at_builtin; refine wpList_app _ rfl _ _ _ _ elR rfl hVo rfl g5 0 j c5 N rfl HNc.out HN1.out (by omega) (by omega) ?_; intro g6 c6 w6 hO6 hg6 hgr6)
            have hT6 := Lib.hid (HTab.out w6 g6 c6 hO6 hgr6)
            have l5 := HB5.out.size
            have l6 := hgr6.size
            have BX6 := Lib.hid (boxGrown hgr6 (by omega) BX5.out)
            have HBas : Hid (Calls Try.prog 115 #[.int .i64 p, .slice (some ⟨g6, 0, none⟩) (d + j) c6] w6 fun e w' => CopyT w6 w' e (solQ p j F (t + 1)).2 (fun _ => j) (solQ p j F (t + 1)).1) := HB.out w6 _ t htK (by rw [HD.out, HF1.out]; exact hT6.out)
            clear hO6 hg6 hgr6 hVo hT6
            go_wp2_with fail
            go_at_call 115
            refine HBas.out.mono ?_
            rintro e w7 ⟨g7, c7, rfl, hb7, hO7⟩
            have a5 := f3.size
            go_wp2
            go_roundg (K - (t + 1))
            case measure => omega
            case rel => exact ⟨t + 1, by omega, rfl, by go_num, boxKeep hb7 BX6.out, g7, c7, rfl, hO7.mono (show w.heap.size + 1 ≤ w6.heap.size by omega)⟩
    · obtain rfl : t = K := by omega
      have HK2 : Hid (∀ W v, Tab W v d (fun _ => M) (solQ p M F t).1 → Calls Try.prog 125 #[.int .i64 p, v, .int .i64 ((M : Nat) : Int)] W fun e w' => CopyT W w' e Z.2 (fun _ => M) Z.1) := fun W v h => HK.out W v (by rw [HD.out]; exact h)
      have HOo : Hid (∀ W, Below wo.heap.size wo W → Tab W (.slice (some ⟨g', 0, none⟩) d c') d (fun _ => M) (solQ p M F t).1) := fun W hb => (hO.out.kept hb).tab
      go_wp2_with fail
      go_region_held3 (fun W => (W.cell? ⟨w.heap.size, 0, none⟩ = some (.int .i64 p) ∧ W.cell? ⟨w.heap.size, 1, none⟩ = some (.slice ao n c) ∧ w.heap.size < W.heap.size ∧ Below w.heap.size w W) ∧ Below wo.heap.size wo W)
        ((first | assumption | exact ⟨boxDrew ⟨f0, f1, f2, f3⟩, drewB _⟩ | exact keepOD (by assumption) (by assumption)))
        ((first
          | (go_at_call 125; refine (HK2.out _ _ (HOo.out _ (belowOD (by assumption)))).mono ?_; rintro e w4 ⟨g4, c4, rfl, hb4, hOF⟩)
          | (go_at_call 88; refine Calls.makes' (HZ.out _) _ fun w2 hb2 => ?_)
          | (go_at_call 80; refine Calls.makes' (iField_c _ _ _) _ fun w1 hb1 => ?_)))
      have hS : (BoxD w p ao n c w4) ∧ Below wo.heap.size wo w4 := by assumption
      have t1 := hb1.size
      have t2 := hb2.size
      have t3 := f3.size
      simp at t1
      go_wp2
      go_ret
      exact ⟨g4, c4, rfl, hS.1.2.2.2, hOF.mono (by omega)⟩


end Go.Proofs.Ytnnacligfoonbaa
