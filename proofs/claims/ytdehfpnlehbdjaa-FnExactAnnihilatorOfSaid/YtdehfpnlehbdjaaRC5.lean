/-
  l12Put: reduced rows with one more list, by the reference. No condition beside sizes.
-/
import Derived.Test.YtdehfpnlehbdjaaRC1
set_option linter.unusedVariables false
set_option linter.unusedSimpArgs false
namespace Go.Proofs.Ytdehfpnlehbdjaa
open Go.RowKit

/-- 'out = append(out, row)': a row that is older than those of the table -/
theorem OTab.pushOld {w : World} {B B0 g cap G : Nat} {L : Nat → Nat} {T : Nat → Nat → Int} (h : OTab w B g cap G L T) {r c n : Nat} {X : Nat → Int} (hr : Own w 2 r c n (fun j => .int .i64 (X j))) (hrB : B0 ≤ r) (hrlt : r < B) (hB0 : B0 ≤ B) : ∃ V, Own w 22 g cap G V ∧
    ∀ (w' : World) (g' cap' : Nat), Own w' 22 g' cap' (G + 1) (fun j => if j = G then .slice (some ⟨r, 0, none⟩) n c else V j) → (g' = g ∨ w.heap.size ≤ g') → w.grownBy w' (some g) →
      OTab w' B0 g' cap' (G + 1) (fun i => if i = G then n else L i) (fun i => if i = G then X else T i) := by
  obtain ⟨R, C, h1, h2, h3, h4⟩ := h.out
  refine ⟨_, h1, fun w' g' cap' hO hg hgr => ?_⟩
  have hgl := h1.lt
  have hrl := hr.lt
  refine ⟨fun i => if i = G then r else R i, fun i => if i = G then c else C i, hO.congr fun i hi => ?_, by omega, fun i hi => ?_, fun i j hi hj => ?_⟩
  · by_cases e : i = G
    · subst e; simp
    · simp [e]
  · by_cases e : i = G
    · subst e; simp only [if_true]
      exact ⟨hr.grown hgr (by intro e; injection e with e; omega), hrB, by omega⟩
    · have hi' : i < G := by omega
      simp only [if_neg e]
      have h5 := (h3 i hi').1.lt
      refine ⟨(h3 i hi').1.grown hgr (by intro e; injection e with e; exact (h3 i hi').2.2 e.symm), by have := (h3 i hi').2.1; omega, ?_⟩
      rcases hg with h | h
      · rw [h]; exact (h3 i hi').2.2
      · omega
  · by_cases e : i = G
    · subst e
      have := (h3 j hj).2.1
      simp only [if_true, if_neg (show j ≠ i by omega)]; omega
    · simp only [if_neg e, if_neg (show j ≠ G by omega)]; exact h4 i j (by omega) hj
theorem keepP2 {W W' : World} {a1 a2 : Addr} {v1 v2 : Value} (hb : Below W.heap.size W W') (h : W.cell? a1 = some v1 ∧ W.cell? a2 = some v2) : W'.cell? a1 = some v1 ∧ W'.cell? a2 = some v2 :=
  ⟨by rw [hb.cell (p := a1) (World.block_lt_of_cell? W a1 h.1)]; exact h.1, by rw [hb.cell (p := a2) (World.block_lt_of_cell? W a2 h.2)]; exact h.2⟩
theorem keepP2g {W W' : World} {a1 a2 : Addr} {v1 v2 : Value} {g : Nat} (hg : a1.block ≠ g ∧ a2.block ≠ g) (hgr : W.grownBy W' (some g)) (h : W.cell? a1 = some v1 ∧ W.cell? a2 = some v2) : W'.cell? a1 = some v1 ∧ W'.cell? a2 = some v2 := by
  have hc : ∀ (a : Addr) (v : Value), a.block ≠ g → W.cell? a = some v → W'.cell? a = some v := fun a v ha hv => by
    rw [World.cell?_of_block (w := W) (hgr.block a.block (World.block_lt_of_cell? W a hv) (by intro e; injection e with e; exact ha e))]; exact hv
  exact ⟨hc _ _ hg.1 h.1, hc _ _ hg.2 h.2⟩
theorem ins_lt {α : Type} {q r : Nat} {x : α} {f : Nat → α} (h : r < q) : ins q x f r = f r := by unfold ins; rw [if_pos h]
theorem ins_eq {α : Type} {q : Nat} {x : α} {f : Nat → α} : ins q x f q = x := by unfold ins; rw [if_neg (Nat.lt_irrefl _), if_pos rfl]
theorem ins_gt {α : Type} {q r : Nat} {x : α} {f : Nat → α} (h : q < r) : ins q x f r = f (r - 1) := by unfold ins; rw [if_neg (by omega), if_neg (by omega)]

/-- what the loop of l12Put has made of the first k rows -/
structure PutK (w : World) (wr : World) (U g' c' k q n : Nat) (placed : Bool) (len : Nat) (N : Nat → Int) (E : Nat → Nat → Int) : Prop where
  out : (k ≤ q ∧ placed = false ∧ len = k ∧ OTab wr U g' c' k (fun _ => n) E) ∨ (q < k ∧ placed = true ∧ len = k + 1 ∧ OTab wr w.heap.size g' c' (k + 1) (fun _ => n) (ins q N E))

set_option maxRecDepth 100000 in
set_option maxHeartbeats 4000000 in
theorem sPut_c (p : Int) (g cap d n B : Nat) (T : Nat → Nat → Int) (v : Value) (X : Nat → Int) (w : World) (hO : OTab w B g cap d (fun _ => n) T) (hB : B ≤ w.heap.size) (hv : Ints w v n X) (hn : 1 ≤ n ∧ n ≤ 1000) (hpr : primeB p = true) (hX : InP p n X) (hRed : ∃ c, Red p n d T c) :
    Calls Try.prog 41 #[.int .i64 p, .slice (some ⟨g, 0, none⟩) d cap, v] w fun e w' => ∃ g' c', e = .returned (.slice (some ⟨g', 0, none⟩) (putS p n X (T, d)).2 c') ∧ Below w.heap.size w w' ∧ OTab w' B g' c' (putS p n X (T, d)).2 (fun _ => n) (putS p n X (T, d)).1 := by
  have hp := primeB_bd hpr
  have hp0 : p ≠ 0 := by omega
  obtain ⟨cc, hR0⟩ := hRed
  have hdn := hR0.le
  have hle := hO.tab
  have hRs := sRest_c p _ v d n T X w hO.tab hv ⟨hn.1, by omega⟩ (by omega) hp hR0.inp hX (fun i hi => by rw [hR0.ldd hi]; exact hR0.piv i hi)
  have hRin : InP p n (rsF p T (fun i => ldd n (T i)) X d) := by
    cases d with
    | zero => exact hX
    | succ k => exact elm_in (by omega) _ _ _ _
  obtain ⟨c, hc⟩ : ∃ c : Nat → Nat, (fun i => ldd n (T i)) = c := ⟨_, rfl⟩
  have hci : ∀ i, ldd n (T i) = c i := fun i => by rw [← hc]
  rw [hc] at hRs hRin
  obtain ⟨R, hR⟩ : ∃ R, rsF p T c X d = R := ⟨_, rfl⟩
  rw [hR] at hRs hRin
  obtain ⟨a, ha⟩ : ∃ a, ldd n R = a := ⟨_, rfl⟩
  have hal : a ≤ n := by rw [← ha]; exact ldd_le n R
  have hput : putS p n X (T, d) = if a = n then (T, d) else (ins (fst (fun i => decide (a < c i)) d) (nrm p n R) (fun i => elm p (T i) (nrm p n R) (-(T i a))), d + 1) := by
    unfold putS
    simp only [hci]
    have e : rsF p T (fun i => c i) X d = R := hR
    rw [e, ha]
  rw [hput]
  have HO := Lib.hid hO
  have HRs := Lib.hid hRs
  have HCI := Lib.hid hci
  have HIn := Lib.hid hR0.inp
  have HA := Lib.hid ha
  by_cases han : a = n
  · rw [if_pos han]
    have hF : ∀ W vv, Ints W vv n R → Calls Try.prog 33 #[vv] W fun e w' => e = .returned (.int .i64 ((n : Nat) : Int)) ∧ W = w' := fun W vv h => by
      have h2 := sFst_c vv n R W h (by omega)
      rw [ha, han] at h2
      exact h2
    have HF := Lib.hid hF
    clear hO hRs hput hR hc hci hle hv hF
    go_enter Try.func41, Try.ntmps41
    go_wp2_with fail
    go_at_call 70
    refine HRs.out.mono ?_
    rintro e w1 ⟨g1, c1, rfl, hg1, hb1, hO1⟩
    have HI := Lib.hid hO1.ints
    have HB1 := Lib.hid hb1
    clear hO1 hb1
    go_wp2_with (first | (go_at_call 33; refine (HF.out _ _ HI.out).mono ?_; rintro e w' ⟨rfl, rfl⟩))
    go_ret
    exact ⟨g, cap, rfl, HB1.out, HO.out.kept HB1.out⟩
  · rw [if_neg han]
    have hF : ∀ W vv, Ints W vv n R → Calls Try.prog 33 #[vv] W fun e w' => e = .returned (.int .i64 ((a : Nat) : Int)) ∧ W = w' := fun W vv h => by
      have h2 := sFst_c vv n R W h (by omega)
      rw [ha] at h2
      exact h2
    have HF := Lib.hid hF
    obtain ⟨y, hy⟩ : ∃ y, R a = y := ⟨_, rfl⟩
    have hy0 : y ≠ 0 := by rw [← hy, ← ha]; exact ldd_is (by omega)
    have hyb := hRin a (by omega)
    rw [hy] at hyb
    obtain ⟨u, hu⟩ : ∃ u, invM p y = u := ⟨_, rfl⟩
    have hub : 0 ≤ u ∧ u < p := by rw [← hu]; exact powM_bd (by omega) _
    have HInv : Hid (∀ W, Calls Try.prog 72 #[.int .i64 p, .int .i64 y] W fun e w' => e = .returned (.int .i64 u) ∧ W = w') := fun W => hu ▸ sInv_c p y W hpr (by omega) (by omega)
    obtain ⟨N, hN⟩ : ∃ N, nrm p n R = N := ⟨_, rfl⟩
    have hNj : ∀ j, N j = (u * R j) % p := fun j => by rw [← hN]; unfold nrm; rw [ha, hy, hu]
    have hNin : Hid (InP p n N) := fun j _ => by rw [hNj]; exact mod_bd _ _ (by omega)
    have HSc : Hid (∀ W vv, Ints W vv n R → Calls Try.prog 71 #[.int .i64 p, .int .i64 u, vv] W fun e w' => CopyI W w' e n N) := fun W vv h => by
      refine (sScale_c p vv n R u W h (by omega) (by omega) (by omega) (fun i hi => by have := hRin i hi; omega) (by omega)).mono fun e w' h => ?_
      obtain ⟨g, c, q1, q2, q3, q4⟩ := h
      exact ⟨g, c, q1, q2, q3, q4.congr fun j hj => by rw [hNj]⟩
    rw [hN]
    obtain ⟨E, hE⟩ : ∃ E : Nat → Nat → Int, (fun i => elm p (T i) N (-(T i a))) = E := ⟨_, rfl⟩
    have hEi : ∀ i j, E i j = (T i j + -(T i a) * N j) % p := fun i j => by rw [← hE]; rfl
    rw [hE]
    obtain ⟨q, hq⟩ : ∃ q, fst (fun i => decide (a < c i)) d = q := ⟨_, rfl⟩
    have hqd : q ≤ d := by rw [← hq]; exact fst_le _ _
    have HQ1 : Hid (∀ i, i < q → ¬ a < c i) := fun i hi => by
      have := fst_before (fun i => decide (a < c i)) d i (by omega)
      simpa using this
    have HQ2 : Hid (q < d → a < c q) := fun h => by
      have := fst_is (fun i => decide (a < c i)) d (by omega)
      rw [hq] at this
      simpa using this
    rw [hq]
    have HEi := Lib.hid hEi
    have HY := Lib.hid hy
    have hcin : ∀ i, i < d → c i < n := fun i hi => by rw [← hci i, hR0.ldd hi]; exact hR0.piv i hi
    have HCN := Lib.hid hcin
    have a0 : (0 : Int) ≤ (a : Int) := by omega
    have a1 : (a : Int) < (n : Int) := by omega
    have han1 : ((a : Int) == (n : Int)) = false := by simp; omega
    clear hO hRs hput hR hc hci hle hv hF hy hu hN hNj hE hEi hq hcin
    go_enter Try.func41, Try.ntmps41
    go_wp2_with fail
    go_at_call 70
    refine HRs.out.mono ?_
    rintro e w1 ⟨g1, c1, rfl, hg1, hb1, hO1⟩
    have HI := Lib.hid hO1.ints
    have HB1 := Lib.hid hb1
    have z1 := hO1.cell (show a < n by omega)
    rw [HY.out] at z1
    clear hO1 hb1
    go_wp2_with (first
      | (go_at_call 33; refine (HF.out _ _ HI.out).mono ?_; rintro e w' ⟨rfl, rfl⟩)
      | (go_at_call 72; refine (HInv.out _).mono ?_; rintro e w' ⟨rfl, rfl⟩)
      | (go_at_call 71; refine (HSc.out _ _ HI.out).mono ?_; rintro e w2 ⟨g2, c2, rfl, hg2, hb2, hO2⟩; have hb3 := HB1.out.trans (hb2.mono HB1.out.size)))
    obtain ⟨U, hU⟩ : ∃ U, w2.heap.size = U := ⟨_, rfl⟩
    have hg2U : g2 < U := by have := hO2.lt; omega
    have hwU : w.heap.size ≤ U := by rw [← hU]; exact hb3.size
    have hg2w : w.heap.size ≤ g2 := by have := HB1.out.size; omega
    have hT0 : Hid (OTab (w2.alloc (.cells #[] 22)) U U 0 0 (fun _ => n) E) := by
      have h := OTab.empty w2
      rw [hU] at h
      exact h.congr (fun i hi => absurd hi (Nat.not_lt_zero _)) (fun i j hi => absurd hi (Nat.not_lt_zero _))
    have hBA : Below w2.heap.size w2 (w2.alloc (.cells #[] 22)) := (Below.refl _ _).alloc (Nat.le_refl _) _
    have hbA := Lib.hid (hb3.trans (hBA.mono hb3.size))
    have hNA := Lib.hid (hO2.kept hBA)
    have HU := Lib.hid hU
    clear hb2 hb3 hO2 hBA z1 hU
    go_wp2_with fail
    go_loopg [9, 10, 11] d (fun gg s pl i wr => ∃ k : Nat, k ≤ d ∧ gg = d - k ∧ i = .int .i64 k ∧ ∃ g' c' len placed, s = .slice (some ⟨g', 0, none⟩) len c' ∧ pl = .bool placed ∧ U ≤ g' ∧ len ≤ d + 1 ∧ Hid (Below w.heap.size w wr) ∧ Hid (Own wr 2 g2 c2 n (fun j => .int .i64 (N j))) ∧ Hid (PutK w wr U g' c' k q n placed len N E))
    case atStart => exact ⟨0, Nat.zero_le _, rfl, rfl, U, 0, 0, false, by first | rfl | simp [HU.out], rfl, Nat.le_refl _, Nat.zero_le _, hbA.out, hNA.out, ⟨Or.inl ⟨Nat.zero_le _, rfl, rfl, hT0.out⟩⟩⟩
    case round =>
      obtain ⟨k, hk, rfl, rfl, g', c', len, placed, rfl, rfl, hgU, hlen, hb, hNw, hPK⟩ := hrel
      obtain ⟨wo, rfl⟩ : ∃ wo, wo = wr := ⟨_, rfl⟩
      clear hbA hNA hT0
      by_cases hkd : k < d
      · obtain ⟨RR, RC, v1, v2, v3, v4⟩ := (HO.out.kept hb.out).out
        have y1 := v1.cell hkd
        have hrow : Hid (Ints wo (.slice (some ⟨RR k, 0, none⟩) n (RC k)) n (T k)) := (v3 k hkd).1.ints
        have hck := HCN.out k hkd
        have HFk : Hid (Calls Try.prog 33 #[.slice (some ⟨RR k, 0, none⟩) n (RC k)] wo fun e w' => e = .returned (.int .i64 ((c k : Nat) : Int)) ∧ wo = w') := by
          have h := sFst_c _ n (T k) wo hrow.out (by omega)
          rw [HCI.out k] at h
          exact h
        obtain ⟨t, ht⟩ : ∃ t, T k a = t := ⟨_, rfl⟩
        have y2 := (v3 k hkd).1.cell (show a < n by omega)
        have htb := HIn.out k hkd a (by omega)
        rw [ht] at y2 htb
        have HT := Lib.hid ht
        have hgw : g < w.heap.size := HO.out.lt
        have hRw : RR k < w.heap.size ∧ Hid (RR k < wo.heap.size) := by
          obtain ⟨R0, C0, u1, u2, u3, u4⟩ := HO.out.out
          have e1 := u1.cell hkd
          have e2 : wo.cell? ⟨g, k, none⟩ = some (.slice (some ⟨R0 k, 0, none⟩) n (C0 k)) := by rw [hb.out.cell (p := ⟨g, k, none⟩) hgw]; exact e1
          rw [y1] at e2
          injection e2 with e2
          injection e2 with e2
          injection e2 with e2
          injection e2 with e2
          rw [e2]
          exact ⟨(u3 k hkd).1.lt, by rw [← e2]; exact (v3 k hkd).1.lt⟩
        have hRowAll : ∀ W, Below w.heap.size w W → Ints W (.slice (some ⟨RR k, 0, none⟩) n (RC k)) n (T k) := fun W hW => by
          obtain ⟨R0, C0, u1, u2, u3, u4⟩ := HO.out.out
          have e1 := u1.cell hkd
          have e2 : wo.cell? ⟨g, k, none⟩ = some (.slice (some ⟨R0 k, 0, none⟩) n (C0 k)) := by rw [hb.out.cell (p := ⟨g, k, none⟩) hgw]; exact e1
          rw [y1] at e2
          have e3 : Value.slice (some ⟨RR k, 0, none⟩) n (RC k) = .slice (some ⟨R0 k, 0, none⟩) n (C0 k) := by injection e2
          rw [e3]
          exact ((u3 k hkd).1.kept hW).ints
        have k0 : (0 : Int) ≤ (k : Int) := by omega
        have k1 : (k : Int) < (d : Int) := by omega
        clear v1 v2 v3 v4 ht
        have hRK := hRw.1
        have hdd : d ≤ 1000 := by omega
        -- ROUND
        have HRowAll : Hid (∀ W, Below w.heap.size w W → Ints W (.slice (some ⟨RR k, 0, none⟩) n (RC k)) n (T k)) := fun W hW => hRowAll W hW
        rcases hPK.out with ⟨hkq, hpl, hle, hT⟩ | ⟨hkq, hpl, hle, hT⟩
        · have hnp : (!placed) = true := by rw [hpl]; rfl
          have HPL := Lib.hid hpl
          have HLE := Lib.hid hle
          have HTT := Lib.hid hT
          clear hpl hle hT hPK
          by_cases e : k = q
          · have hgt : (a : Int) < (c k : Int) := by have := HQ2.out (by omega); rw [e]; omega
            have HE := Lib.hid e
            clear e
            go_upto_if 49 with (go_at_call 33; refine HFk.out.mono ?_; rintro e w' ⟨rfl, rfl⟩)
            go_cut [9, 10] (fun s9 s10 wx => ∃ gm cm lm pm, s9 = .slice (some ⟨gm, 0, none⟩) lm cm ∧ s10 = .bool pm ∧ U ≤ gm ∧ lm ≤ d + 1 ∧ Hid (Below w.heap.size w wx) ∧ Hid (Own wx 2 g2 c2 n (fun j => .int .i64 (N j))) ∧ ∃ B' Tm, w.heap.size ≤ B' ∧ Hid (OTab wx B' gm cm lm (fun _ => n) Tm) ∧ lm ≤ k + 1 ∧ Hid (∀ wr2 g3 c3, OTab wr2 B' g3 c3 (lm + 1) (fun _ => n) (fun i => if i = lm then E k else Tm i) → PutK w wr2 U g3 c3 (k + 1) q n pm (lm + 1) N E))
            case first =>
              have hkU : U ≤ wo.heap.size := by have := HTT.out.lt; omega
              obtain ⟨V, hV, hpush⟩ := HTT.out.pushOld hNw.out hg2w hg2U hwU
              have HPo := Lib.hid hpush
              have hLk : len = k := HLE.out
              subst hLk
              clear hpush
              go_wp2_with (at_builtin; go_must (refine wpList_push _ rfl _ _ _ _ elR rfl hV (.slice (some ⟨g2, 0, none⟩) n c2) rfl rfl rfl (by omega) (by omega) ?_); intro g3 c3 w3 hO3 hg3 hgr3)
              go_meet
              exact ⟨g3, c3, len + 1, true, rfl, rfl, by omega, by omega, hb.out.grown hgr3 hb.out.size (fun q e => by injection e with e; omega), hNw.out.grown hgr3 (by intro e; injection e with e; omega), w.heap.size, _, Nat.le_refl _, (HPo.out _ _ _ hO3 hg3 hgr3).congr (fun i hi => by by_cases e : i = len <;> simp [e]) (fun _ _ _ _ => rfl), Nat.le_refl _, fun wr2 g4 c4 h => ⟨Or.inr ⟨by rw [← HE.out]; omega, rfl, rfl, h.congr (fun _ _ => rfl) fun i j hi hj => by
                have he := HE.out
                by_cases e1 : i = len + 1
                · rw [if_pos e1, e1, ins_gt (by omega), Nat.add_sub_cancel]
                · rw [if_neg e1]
                  by_cases e2 : i = len
                  · rw [if_pos e2, e2, ← he, ins_eq]
                  · rw [if_neg e2, ins_lt (by omega)]⟩⟩⟩
            case rest =>
              obtain ⟨gm, cm, lm, pm, rfl, rfl, hgm, hlm, hbm, hNm, B', Tm, hB', hTm, hlk, hPm⟩ := hcut
              have hgml := hTm.out.lt
              have hgmb := hTm.out.base
              obtain ⟨V, hV, hpush⟩ := hTm.out.pushAt (show B' ≤ wc.heap.size by omega)
              have HP := Lib.hid hpush
              have hw0 := hb.out.size
              have x1 : wc.cell? ⟨g, k, none⟩ = some (.slice (some ⟨RR k, 0, none⟩) n (RC k)) := by rw [hbm.out.cell (p := ⟨g, k, none⟩) hgw, ← hb.out.cell (p := ⟨g, k, none⟩) hgw]; exact y1
              have x2 : wc.cell? ⟨RR k, a, none⟩ = some (.int .i64 t) := by rw [hbm.out.cell (p := ⟨RR k, a, none⟩) hRK, ← hb.out.cell (p := ⟨RR k, a, none⟩) hRK]; exact y2
              have hrw : Hid (Ints wc (.slice (some ⟨RR k, 0, none⟩) n (RC k)) n (T k)) := HRowAll.out wc hbm.out
              have HS2 : Hid (∀ W, Below wc.heap.size wc W → Calls Try.prog 71 #[.int .i64 p, .int .i64 t, .slice (some ⟨g2, 0, none⟩) n c2] W fun e w' => CopyI W w' e n (fun j => (t * N j) % p)) := fun W hbb =>
                sScale_c p _ n N t W (hNm.out.ints.below hbb) (by omega) (by omega) (by omega) (fun i hi => by have := hNin.out i hi; omega) (by omega)
              have HM2 : Hid (∀ (W : World) (v2 : Value), Below wc.heap.size wc W → Ints W v2 n (fun j => (t * N j) % p) → Calls Try.prog 61 #[.int .i64 p, .slice (some ⟨RR k, 0, none⟩) n (RC k), v2] W fun e w' => CopyI W w' e n (E k)) := fun W v2 hbb hv2 => by
                refine (sMinus_c p _ _ n (T k) _ W (hrw.out.below hbb) hv2 (by omega) (by omega) (by omega) (fun i hi => by have := HIn.out k hkd i hi; omega) (fun i hi => by have := mod_bd (t * N i) p (by omega); show -1000 ≤ (t * N i) % p ∧ (t * N i) % p ≤ 1000; omega)).mono fun e w' h => ?_
                obtain ⟨g, c, q1, q2, q3, q4⟩ := h
                exact ⟨g, c, q1, q2, q3, q4.congr fun j hj => by
                  rw [HEi.out, HT.out]
                  congr 1
                  refine Cg.eq (p := p) ((Cg.mod p _).trans (Cg.trans ?_ (Cg.mod' p _))) (mod_bd _ _ (by omega)) (mod_bd _ _ (by omega))
                  refine ((Cg.rfl' p (T k j)).add ((Cg.rfl' p (-1)).mul (Cg.mod p _))).trans (Cg.of_eq ?_)
                  grind⟩
              have hgne : g ≠ gm ∧ RR k ≠ gm := ⟨by omega, by omega⟩
              have HK0 : Hid (wc.drew.cell? ⟨g, k, none⟩ = some (.slice (some ⟨RR k, 0, none⟩) n (RC k)) ∧ wc.drew.cell? ⟨RR k, a, none⟩ = some (.int .i64 t)) := ⟨cellKp (drewB wc) x1, cellKp (drewB wc) x2⟩
              have hd2 : wc.drew.heap.size = wc.heap.size := rfl
              clear hpush y1 y2 x1 x2
              go_wp2_with fail
              go_region_held3 (fun W => W.cell? ⟨g, k, none⟩ = some (.slice (some ⟨RR k, 0, none⟩) n (RC k)) ∧ W.cell? ⟨RR k, a, none⟩ = some (.int .i64 t))
                ((first | assumption | exact HK0.out | exact keepP2 (by assumption) (by assumption) | exact keepP2 ((Below.refl _ _).alloc (Nat.le_refl _) _) (by assumption) | exact keepP2g hgne (by assumption) (by assumption)))
                ((first
                  | (go_at_call 71; refine (HS2.out _ (drewB _)).mono ?_; rintro e w4 ⟨g4, c4, rfl, hg4, hb4, hO4⟩; have hS4 := keepP2 hb4 HK0.out)
                  | (go_at_call 61; refine (HM2.out _ _ ((drewB _).trans hb4) hO4.ints).mono ?_; rintro e w5 ⟨g5, c5, rfl, hg5, hb5, hO5⟩; have hbb : Below wc.heap.size wc w5 := (((drewB wc).trans hb4).trans (hb5.mono (((drewB wc).trans hb4).size))); have hV5 := hV.kept hbb; have hS5 := keepP2 (hb4.trans (hb5.mono hb4.size)) HK0.out)
                  | (refine step_push rfl _ _ _ _ elR rfl hV5 (.slice (some ⟨g5, 0, none⟩) n c5) rfl rfl rfl (by omega) (by omega) ?_; intro g6 c6 w6 hO6 hg6 hgr6)))
              all_goals go_wp2
              all_goals go_roundg (d - (k + 1))
              all_goals first
                | omega
                | (have s0 := hbm.out.size
                   have s1 := hbb.size
                   have s4 : wc.heap.size ≤ w4.heap.size := ((drewB wc).trans hb4).size
                   have hg6' : g6 = gm ∨ w5.heap.size ≤ g6 := hg6
                   have hgrA : w5.grownBy w6 (some gm) := ⟨hgr6.os, hgr6.tape, hgr6.output, hgr6.size, hgr6.block⟩
                   exact ⟨k + 1, by omega, rfl, by go_num, g6, c6, lm + 1, pm, rfl, rfl, by omega, by omega, (hbm.out.trans (hbb.mono s0)).grown hgrA (by omega) (fun q e => by injection e with e; omega), (hNm.out.kept hbb).grown hgrA (by intro e; injection e with e; omega),
                    hPm.out w6 g6 c6 ((HP.out _ _ _ _ _ _ _ _ hbb hO5 (by omega) hO6 hg6 hgrA).congr (fun i hi => by by_cases e : i = lm <;> simp [e]) (fun _ _ _ _ => rfl))⟩)
          · have hgt : ¬ (a : Int) < (c k : Int) := by have := HQ1.out k (by omega); omega
            have HE := Lib.hid e
            clear e
            go_upto_if 49 with (go_at_call 33; refine HFk.out.mono ?_; rintro e w' ⟨rfl, rfl⟩)
            go_cut [9, 10] (fun s9 s10 wx => ∃ gm cm lm pm, s9 = .slice (some ⟨gm, 0, none⟩) lm cm ∧ s10 = .bool pm ∧ U ≤ gm ∧ lm ≤ d + 1 ∧ Hid (Below w.heap.size w wx) ∧ Hid (Own wx 2 g2 c2 n (fun j => .int .i64 (N j))) ∧ ∃ B' Tm, w.heap.size ≤ B' ∧ Hid (OTab wx B' gm cm lm (fun _ => n) Tm) ∧ lm ≤ k + 1 ∧ Hid (∀ wr2 g3 c3, OTab wr2 B' g3 c3 (lm + 1) (fun _ => n) (fun i => if i = lm then E k else Tm i) → PutK w wr2 U g3 c3 (k + 1) q n pm (lm + 1) N E))
            case first =>
              go_wp2
              go_meet
              exact ⟨g', c', len, placed, rfl, rfl, hgU, hlen, hb.out, hNw.out, U, E, hwU, by rw [HLE.out]; exact HTT.out, by rw [HLE.out]; omega, fun wr2 g4 c4 h => ⟨Or.inl ⟨by have := HE.out; omega, HPL.out, by rw [HLE.out], by
                rw [HLE.out] at h
                exact h.congr (fun _ _ => rfl) fun i j hi hj => by
                  by_cases e1 : i = k
                  · rw [if_pos e1, e1]
                  · rw [if_neg e1]⟩⟩⟩
            case rest =>
              obtain ⟨gm, cm, lm, pm, rfl, rfl, hgm, hlm, hbm, hNm, B', Tm, hB', hTm, hlk, hPm⟩ := hcut
              have hgml := hTm.out.lt
              have hgmb := hTm.out.base
              obtain ⟨V, hV, hpush⟩ := hTm.out.pushAt (show B' ≤ wc.heap.size by omega)
              have HP := Lib.hid hpush
              have hw0 := hb.out.size
              have x1 : wc.cell? ⟨g, k, none⟩ = some (.slice (some ⟨RR k, 0, none⟩) n (RC k)) := by rw [hbm.out.cell (p := ⟨g, k, none⟩) hgw, ← hb.out.cell (p := ⟨g, k, none⟩) hgw]; exact y1
              have x2 : wc.cell? ⟨RR k, a, none⟩ = some (.int .i64 t) := by rw [hbm.out.cell (p := ⟨RR k, a, none⟩) hRK, ← hb.out.cell (p := ⟨RR k, a, none⟩) hRK]; exact y2
              have hrw : Hid (Ints wc (.slice (some ⟨RR k, 0, none⟩) n (RC k)) n (T k)) := HRowAll.out wc hbm.out
              have HS2 : Hid (∀ W, Below wc.heap.size wc W → Calls Try.prog 71 #[.int .i64 p, .int .i64 t, .slice (some ⟨g2, 0, none⟩) n c2] W fun e w' => CopyI W w' e n (fun j => (t * N j) % p)) := fun W hbb =>
                sScale_c p _ n N t W (hNm.out.ints.below hbb) (by omega) (by omega) (by omega) (fun i hi => by have := hNin.out i hi; omega) (by omega)
              have HM2 : Hid (∀ (W : World) (v2 : Value), Below wc.heap.size wc W → Ints W v2 n (fun j => (t * N j) % p) → Calls Try.prog 61 #[.int .i64 p, .slice (some ⟨RR k, 0, none⟩) n (RC k), v2] W fun e w' => CopyI W w' e n (E k)) := fun W v2 hbb hv2 => by
                refine (sMinus_c p _ _ n (T k) _ W (hrw.out.below hbb) hv2 (by omega) (by omega) (by omega) (fun i hi => by have := HIn.out k hkd i hi; omega) (fun i hi => by have := mod_bd (t * N i) p (by omega); show -1000 ≤ (t * N i) % p ∧ (t * N i) % p ≤ 1000; omega)).mono fun e w' h => ?_
                obtain ⟨g, c, q1, q2, q3, q4⟩ := h
                exact ⟨g, c, q1, q2, q3, q4.congr fun j hj => by
                  rw [HEi.out, HT.out]
                  congr 1
                  refine Cg.eq (p := p) ((Cg.mod p _).trans (Cg.trans ?_ (Cg.mod' p _))) (mod_bd _ _ (by omega)) (mod_bd _ _ (by omega))
                  refine ((Cg.rfl' p (T k j)).add ((Cg.rfl' p (-1)).mul (Cg.mod p _))).trans (Cg.of_eq ?_)
                  grind⟩
              have hgne : g ≠ gm ∧ RR k ≠ gm := ⟨by omega, by omega⟩
              have HK0 : Hid (wc.drew.cell? ⟨g, k, none⟩ = some (.slice (some ⟨RR k, 0, none⟩) n (RC k)) ∧ wc.drew.cell? ⟨RR k, a, none⟩ = some (.int .i64 t)) := ⟨cellKp (drewB wc) x1, cellKp (drewB wc) x2⟩
              have hd2 : wc.drew.heap.size = wc.heap.size := rfl
              clear hpush y1 y2 x1 x2
              go_wp2_with fail
              go_region_held3 (fun W => W.cell? ⟨g, k, none⟩ = some (.slice (some ⟨RR k, 0, none⟩) n (RC k)) ∧ W.cell? ⟨RR k, a, none⟩ = some (.int .i64 t))
                ((first | assumption | exact HK0.out | exact keepP2 (by assumption) (by assumption) | exact keepP2 ((Below.refl _ _).alloc (Nat.le_refl _) _) (by assumption) | exact keepP2g hgne (by assumption) (by assumption)))
                ((first
                  | (go_at_call 71; refine (HS2.out _ (drewB _)).mono ?_; rintro e w4 ⟨g4, c4, rfl, hg4, hb4, hO4⟩; have hS4 := keepP2 hb4 HK0.out)
                  | (go_at_call 61; refine (HM2.out _ _ ((drewB _).trans hb4) hO4.ints).mono ?_; rintro e w5 ⟨g5, c5, rfl, hg5, hb5, hO5⟩; have hbb : Below wc.heap.size wc w5 := (((drewB wc).trans hb4).trans (hb5.mono (((drewB wc).trans hb4).size))); have hV5 := hV.kept hbb; have hS5 := keepP2 (hb4.trans (hb5.mono hb4.size)) HK0.out)
                  | (refine step_push rfl _ _ _ _ elR rfl hV5 (.slice (some ⟨g5, 0, none⟩) n c5) rfl rfl rfl (by omega) (by omega) ?_; intro g6 c6 w6 hO6 hg6 hgr6)))
              all_goals go_wp2
              all_goals go_roundg (d - (k + 1))
              all_goals first
                | omega
                | (have s0 := hbm.out.size
                   have s1 := hbb.size
                   have s4 : wc.heap.size ≤ w4.heap.size := ((drewB wc).trans hb4).size
                   have hg6' : g6 = gm ∨ w5.heap.size ≤ g6 := hg6
                   have hgrA : w5.grownBy w6 (some gm) := ⟨hgr6.os, hgr6.tape, hgr6.output, hgr6.size, hgr6.block⟩
                   exact ⟨k + 1, by omega, rfl, by go_num, g6, c6, lm + 1, pm, rfl, rfl, by omega, by omega, (hbm.out.trans (hbb.mono s0)).grown hgrA (by omega) (fun q e => by injection e with e; omega), (hNm.out.kept hbb).grown hgrA (by intro e; injection e with e; omega),
                    hPm.out w6 g6 c6 ((HP.out _ _ _ _ _ _ _ _ hbb hO5 (by omega) hO6 hg6 hgrA).congr (fun i hi => by by_cases e : i = lm <;> simp [e]) (fun _ _ _ _ => rfl))⟩)
        · have hnp : (!placed) = false := by rw [hpl]; rfl
          have HPL := Lib.hid hpl
          have HLE := Lib.hid hle
          have HTT := Lib.hid hT
          clear hpl hle hT hPK
          go_upto_if 49 with (go_at_call 33; refine HFk.out.mono ?_; rintro e w' ⟨rfl, rfl⟩)
          go_cut [9, 10] (fun s9 s10 wx => ∃ gm cm lm pm, s9 = .slice (some ⟨gm, 0, none⟩) lm cm ∧ s10 = .bool pm ∧ U ≤ gm ∧ lm ≤ d + 1 ∧ Hid (Below w.heap.size w wx) ∧ Hid (Own wx 2 g2 c2 n (fun j => .int .i64 (N j))) ∧ ∃ B' Tm, w.heap.size ≤ B' ∧ Hid (OTab wx B' gm cm lm (fun _ => n) Tm) ∧ lm ≤ k + 1 ∧ Hid (∀ wr2 g3 c3, OTab wr2 B' g3 c3 (lm + 1) (fun _ => n) (fun i => if i = lm then E k else Tm i) → PutK w wr2 U g3 c3 (k + 1) q n pm (lm + 1) N E))
          case first =>
            go_wp2
            go_meet
            exact ⟨g', c', len, placed, rfl, rfl, hgU, hlen, hb.out, hNw.out, w.heap.size, ins q N E, Nat.le_refl _, by rw [HLE.out]; exact HTT.out, by rw [HLE.out]; exact Nat.le_refl _, fun wr2 g4 c4 h => ⟨Or.inr ⟨by omega, HPL.out, by rw [HLE.out], by
              rw [HLE.out] at h
              exact h.congr (fun _ _ => rfl) fun i j hi hj => by
                by_cases e1 : i = k + 1
                · rw [if_pos e1, e1, ins_gt (by omega), Nat.add_sub_cancel]
                · rw [if_neg e1]⟩⟩⟩
          case rest =>
            obtain ⟨gm, cm, lm, pm, rfl, rfl, hgm, hlm, hbm, hNm, B', Tm, hB', hTm, hlk, hPm⟩ := hcut
            have hgml := hTm.out.lt
            have hgmb := hTm.out.base
            obtain ⟨V, hV, hpush⟩ := hTm.out.pushAt (show B' ≤ wc.heap.size by omega)
            have HP := Lib.hid hpush
            have hw0 := hb.out.size
            have x1 : wc.cell? ⟨g, k, none⟩ = some (.slice (some ⟨RR k, 0, none⟩) n (RC k)) := by rw [hbm.out.cell (p := ⟨g, k, none⟩) hgw, ← hb.out.cell (p := ⟨g, k, none⟩) hgw]; exact y1
            have x2 : wc.cell? ⟨RR k, a, none⟩ = some (.int .i64 t) := by rw [hbm.out.cell (p := ⟨RR k, a, none⟩) hRK, ← hb.out.cell (p := ⟨RR k, a, none⟩) hRK]; exact y2
            have hrw : Hid (Ints wc (.slice (some ⟨RR k, 0, none⟩) n (RC k)) n (T k)) := HRowAll.out wc hbm.out
            have HS2 : Hid (∀ W, Below wc.heap.size wc W → Calls Try.prog 71 #[.int .i64 p, .int .i64 t, .slice (some ⟨g2, 0, none⟩) n c2] W fun e w' => CopyI W w' e n (fun j => (t * N j) % p)) := fun W hbb =>
              sScale_c p _ n N t W (hNm.out.ints.below hbb) (by omega) (by omega) (by omega) (fun i hi => by have := hNin.out i hi; omega) (by omega)
            have HM2 : Hid (∀ (W : World) (v2 : Value), Below wc.heap.size wc W → Ints W v2 n (fun j => (t * N j) % p) → Calls Try.prog 61 #[.int .i64 p, .slice (some ⟨RR k, 0, none⟩) n (RC k), v2] W fun e w' => CopyI W w' e n (E k)) := fun W v2 hbb hv2 => by
              refine (sMinus_c p _ _ n (T k) _ W (hrw.out.below hbb) hv2 (by omega) (by omega) (by omega) (fun i hi => by have := HIn.out k hkd i hi; omega) (fun i hi => by have := mod_bd (t * N i) p (by omega); show -1000 ≤ (t * N i) % p ∧ (t * N i) % p ≤ 1000; omega)).mono fun e w' h => ?_
              obtain ⟨g, c, q1, q2, q3, q4⟩ := h
              exact ⟨g, c, q1, q2, q3, q4.congr fun j hj => by
                rw [HEi.out, HT.out]
                congr 1
                refine Cg.eq (p := p) ((Cg.mod p _).trans (Cg.trans ?_ (Cg.mod' p _))) (mod_bd _ _ (by omega)) (mod_bd _ _ (by omega))
                refine ((Cg.rfl' p (T k j)).add ((Cg.rfl' p (-1)).mul (Cg.mod p _))).trans (Cg.of_eq ?_)
                grind⟩
            have hgne : g ≠ gm ∧ RR k ≠ gm := ⟨by omega, by omega⟩
            have HK0 : Hid (wc.drew.cell? ⟨g, k, none⟩ = some (.slice (some ⟨RR k, 0, none⟩) n (RC k)) ∧ wc.drew.cell? ⟨RR k, a, none⟩ = some (.int .i64 t)) := ⟨cellKp (drewB wc) x1, cellKp (drewB wc) x2⟩
            have hd2 : wc.drew.heap.size = wc.heap.size := rfl
            clear hpush y1 y2 x1 x2
            go_wp2_with fail
            go_region_held3 (fun W => W.cell? ⟨g, k, none⟩ = some (.slice (some ⟨RR k, 0, none⟩) n (RC k)) ∧ W.cell? ⟨RR k, a, none⟩ = some (.int .i64 t))
              ((first | assumption | exact HK0.out | exact keepP2 (by assumption) (by assumption) | exact keepP2 ((Below.refl _ _).alloc (Nat.le_refl _) _) (by assumption) | exact keepP2g hgne (by assumption) (by assumption)))
              ((first
                | (go_at_call 71; refine (HS2.out _ (drewB _)).mono ?_; rintro e w4 ⟨g4, c4, rfl, hg4, hb4, hO4⟩; have hS4 := keepP2 hb4 HK0.out)
                | (go_at_call 61; refine (HM2.out _ _ ((drewB _).trans hb4) hO4.ints).mono ?_; rintro e w5 ⟨g5, c5, rfl, hg5, hb5, hO5⟩; have hbb : Below wc.heap.size wc w5 := (((drewB wc).trans hb4).trans (hb5.mono (((drewB wc).trans hb4).size))); have hV5 := hV.kept hbb; have hS5 := keepP2 (hb4.trans (hb5.mono hb4.size)) HK0.out)
                | (refine step_push rfl _ _ _ _ elR rfl hV5 (.slice (some ⟨g5, 0, none⟩) n c5) rfl rfl rfl (by omega) (by omega) ?_; intro g6 c6 w6 hO6 hg6 hgr6)))
            all_goals go_wp2
            all_goals go_roundg (d - (k + 1))
            all_goals first
              | omega
              | (have s0 := hbm.out.size
                 have s1 := hbb.size
                 have s4 : wc.heap.size ≤ w4.heap.size := ((drewB wc).trans hb4).size
                 have hg6' : g6 = gm ∨ w5.heap.size ≤ g6 := hg6
                 have hgrA : w5.grownBy w6 (some gm) := ⟨hgr6.os, hgr6.tape, hgr6.output, hgr6.size, hgr6.block⟩
                 exact ⟨k + 1, by omega, rfl, by go_num, g6, c6, lm + 1, pm, rfl, rfl, by omega, by omega, (hbm.out.trans (hbb.mono s0)).grown hgrA (by omega) (fun q e => by injection e with e; omega), (hNm.out.kept hbb).grown hgrA (by intro e; injection e with e; omega),
                  hPm.out w6 g6 c6 ((HP.out _ _ _ _ _ _ _ _ hbb hO5 (by omega) hO6 hg6 hgrA).congr (fun i hi => by by_cases e : i = lm <;> simp [e]) (fun _ _ _ _ => rfl))⟩)
      · obtain rfl : k = d := by omega
        rcases hPK.out with ⟨hkq, hpl, hle, hT⟩ | ⟨hkq, hpl, hle, hT⟩
        · have hnp : (!placed) = true := by rw [hpl]; rfl
          have hqk : q = k := by omega
          obtain ⟨V, hV, hpush⟩ := hT.pushOld hNw.out hg2w hg2U hwU
          have HPo := Lib.hid hpush
          subst hle
          have HQK := Lib.hid hqk
          clear hpush hpl hPK hqk hkq
          go_wp2_with (at_builtin; go_must (refine wpList_push _ rfl _ _ _ _ elR rfl hV (.slice (some ⟨g2, 0, none⟩) n c2) rfl rfl rfl (by omega) (by omega) ?_); intro g3 c3 w3 hO3 hg3 hgr3)
          go_ret
          exact ⟨g3, c3, rfl, hb.out.grown hgr3 hb.out.size (fun q e => by injection e with e; omega), ((HPo.out _ _ _ hO3 hg3 hgr3).mono hB).congr (fun i hi => by by_cases e : i = len <;> simp [e]) fun i j hi hj => by
            have he := HQK.out
            by_cases e2 : i = len
            · rw [if_pos e2, e2, he, ins_eq]
            · rw [if_neg e2, ins_lt (by omega)]⟩
        · have hnp : (!placed) = false := by rw [hpl]; rfl
          subst hle
          clear hpl hPK
          go_wp2
          go_ret
          exact ⟨g', c', rfl, hb.out, hT.mono hB⟩

end Go.Proofs.Ytdehfpnlehbdjaa
