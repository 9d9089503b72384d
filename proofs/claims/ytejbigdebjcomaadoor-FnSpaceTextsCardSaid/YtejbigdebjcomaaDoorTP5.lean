/-
  ParseSpace, the reference's: the walk. Conditions: the text's size.
-/
import Derived.Test.YtejbigdebjcomaaDoorTP4
set_option linter.unusedVariables false
set_option linter.unusedSimpArgs false
set_option maxRecDepth 100000
namespace Go.Proofs.YtejbigdebjcomaaDoor
open Go.RowKit


theorem sq2Keep {w W W' : World} {a1 o1 a2 o2 : Nat} {v1 v2 : Value} (hb : Below W.heap.size W W') (h : W.cell? ⟨a1, o1, none⟩ = some v1 ∧ W.cell? ⟨a2, o2, none⟩ = some v2 ∧ Below w.heap.size w W) : W'.cell? ⟨a1, o1, none⟩ = some v1 ∧ W'.cell? ⟨a2, o2, none⟩ = some v2 ∧ Below w.heap.size w W' := ⟨cellKp hb h.1, cellKp hb h.2.1, h.2.2.trans (hb.mono h.2.2.size)⟩


theorem OI.congrX {w : World} {B U : Nat} {a : Option Addr} {c n : Nat} {X Y : Nat → Int} (h : OI w B U a c n X) (he : ∀ i, i < n → X i = Y i) : OI w B U a c n Y := by
  rcases h.out with h | ⟨g, h1, h2, hO⟩
  · exact ⟨Or.inl h⟩
  · exact ⟨Or.inr ⟨g, h1, h2, hO.congr fun i hi => by rw [he i hi]⟩⟩


theorem sSplit58_c (T : ByteArray) (w : World) (hs : T.size ≤ 1000000000) :
    Calls Tryd.prog 19 #[.string T, .int .u8 58] w fun e w' => ∃ (G : Nat) (P : Nat → ByteArray) (g cap : Nat), e = .returned (.slice (some ⟨g, 0, none⟩) (G + 1) cap) ∧ w.heap.size ≤ g ∧ Below w.heap.size w w' ∧ G ≤ T.size ∧ Own w' 9 g cap (G + 1) (fun i => .string (P i)) ∧ (∀ i, i < G + 1 → (P i).size ≤ T.size) ∧ splL 58 T.data.toList = (List.range (G + 1)).map fun i => (P i).data.toList := sSplit_c T 58 w hs

theorem sSplit32_c (T : ByteArray) (w : World) (hs : T.size ≤ 1000000000) :
    Calls Tryd.prog 19 #[.string T, .int .u8 32] w fun e w' => ∃ (G : Nat) (P : Nat → ByteArray) (g cap : Nat), e = .returned (.slice (some ⟨g, 0, none⟩) (G + 1) cap) ∧ w.heap.size ≤ g ∧ Below w.heap.size w w' ∧ G ≤ T.size ∧ Own w' 9 g cap (G + 1) (fun i => .string (P i)) ∧ (∀ i, i < G + 1 → (P i).size ≤ T.size) ∧ splL 32 T.data.toList = (List.range (G + 1)).map fun i => (P i).data.toList := sSplit_c T 32 w hs


set_option maxRecDepth 100000 in
set_option maxHeartbeats 4000000 in
theorem sParseSpace_c (T : ByteArray) (w : World) (hs : T.size ≤ 1000000000) :
    Calls Tryd.prog 6 #[.string T] w fun e w' => PsR w w' e T.data.toList := by
  obtain ⟨W0, hW0⟩ : ∃ W0, w.alloc (.cells #[.int .i64 0, .slice none 0 0] 24) = W0 := ⟨_, rfl⟩
  have hb0 : Below w.heap.size w W0 := hW0 ▸ (Below.refl _ _).alloc (Nat.le_refl _) _
  have hO0 : Own W0 24 w.heap.size 2 2 (box2 (.int .i64 0) (.slice none 0 0)) := hW0 ▸ own_box w _ _ _
  have HS := Lib.hid (sSplit58_c T W0 hs)
  have B0 := Lib.hid hb0
  have O0 := Lib.hid hO0
  clear hb0 hO0
  go_enter Tryd.func6, Tryd.ntmps6
  go_wp2_with fail
  refine HS.out.mono ?_
  rintro e w1 ⟨G, P, g1, cap1, rfl, hg1, hb1, hG, hO1, hP, hsp⟩
  have bel1 := B0.out.trans (hb1.mono B0.out.size)
  have res1 := O0.out.kept hb1
  clear HS B0 O0 hW0 hb1
  by_cases hG1 : G = 1
  · subst hG1
    obtain ⟨H, hH⟩ : ∃ H, P 0 = H := ⟨_, rfl⟩
    obtain ⟨R, hR⟩ : ∃ R, P 1 = R := ⟨_, rfl⟩
    have q : Hid (PsH w w1 g1 cap1 H R) := ⟨bel1, res1, hO1.congr fun i hi => by
      have h : i = 0 ∨ i = 1 := by omega
      rcases h with rfl | rfl
      · rw [hH]; rfl
      · rw [hR]; rfl⟩
    have hsp2 : Hid (splL 58 T.data.toList = [H.data.toList, R.data.toList]) := by
      show splL 58 T.data.toList = _
      rw [hsp, ← hH, ← hR]; rfl
    have hHs : H.size ≤ 1000000000 := by rw [← hH]; have := hP 0 (by omega); omega
    have hRs : R.size ≤ 1000000000 := by rw [← hR]; have := hP 1 (by omega); omega
    have HRs := Lib.hid hRs
    have HV : Hid (∀ W, Calls Tryd.prog 21 #[.string H] W fun e w' => Makes W w' e (.int .i64 (valZ H))) := fun W => sValue_c H W hHs
    clear bel1 res1 hO1 hG hP hsp hH hR hHs hRs
    obtain ⟨v, hv⟩ : ∃ v, valZ H = v := ⟨_, rfl⟩
    rw [hv] at HV
    have HVV := Lib.hid hv
    clear hv
    obtain ⟨z0, z1, f0, f1, y0, y1⟩ := q.out.facts
    cases hp : primeB v
    · have HPR : Hid (∀ W, Calls Tryd.prog 20 #[.int .i64 v] W fun e w' => e = .returned (.bool false) ∧ W = w') := fun W => hp ▸ sPrime_c v W
      have hno : Hid (∀ p n s, ¬ PsOk T.data.toList p n s) := fun p n s h => by
        have h1 := hsp2.out
        rw [ps_splL h] at h1
        have h2 := valZ_prime (spB_ok h.sp).prime (List.cons.inj h1).1.symm
        rw [HVV.out] at h2
        subst h2
        rw [(spB_ok h.sp).prime] at hp
        cases hp
      clear hp
      go_wp2_with (first | (go_at_call 21; refine Calls.makes' (HV.out _) _ fun w2 hb2 => ?_; replace q := Lib.hid (q.out.kept hb2); clear z0 z1 f0 f1 y0 y1; obtain ⟨z0, z1, f0, f1, y0, y1⟩ := q.out.facts) | (go_at_call 20; refine (HPR.out _).mono ?_; rintro e w' ⟨rfl, rfl⟩))
      have hst := box_store q.out.bel q.out.res (Nat.le_refl _) (.int .i64 0) (.slice none 0 0)
      generalize (w2.setCell ⟨w.heap.size, 0, none⟩ (.int .i64 0)).setCell ⟨w.heap.size, 1, none⟩ (.slice none 0 0) = W2 at hst ⊢
      obtain ⟨z0, z1⟩ := hst.1.box0
      (try simp only [Exit.inBlock, Exit.then])
      refine bodyPost_ret (by simp [results, Tryd.results6, go_sem, z0, z1]; try rfl) rfl ?_
      exact ⟨hst.2, Or.inr ⟨rfl, hno.out⟩⟩
    · have HPR : Hid (∀ W, Calls Tryd.prog 20 #[.int .i64 v] W fun e w' => e = .returned (.bool true) ∧ W = w') := fun W => hp ▸ sPrime_c v W
      obtain ⟨PN, rfl⟩ := Int.eq_ofNat_of_zero_le (show 0 ≤ v by have := primeB_bd hp; omega)
      have HP := Lib.hid hp
      clear hp
      go_wp2_with (first | (go_at_call 21; refine Calls.makes' (HV.out _) _ fun w2 hb2 => ?_; replace q := Lib.hid (q.out.kept hb2); clear z0 z1 f0 f1 y0 y1; obtain ⟨z0, z1, f0, f1, y0, y1⟩ := q.out.facts; have y3 := (q.out.box PN rfl).1.facts.2.2.2.2.2) | (go_at_call 20; refine (HPR.out _).mono ?_; rintro e w' ⟨rfl, rfl⟩))
      refine ((sSplit32_c R _ HRs.out)).mono ?_
      obtain ⟨W3, hW3⟩ : ∃ W3, w2.alloc (.cells #[.int .i64 PN, .slice none 0 0] 24) = W3 := ⟨_, rfl⟩
      rw [hW3]
      rintro e w4 ⟨G2, P2, g2, cap2, rfl, hg2, hb4, hG2, hO2, hP2, hsp3⟩
      have q3b := q.out.res.lt
      obtain ⟨q3, qb3, qs3, qw3⟩ := q.out.box PN hW3
      clear hb2 q z0 z1 f0 f1 y0 y1 y3 hg1 HV HPR hW3
      obtain ⟨B, hB⟩ : ∃ B, w4.heap.size = B := ⟨_, rfl⟩
      obtain ⟨b5, hb5⟩ : ∃ b5, w2.heap.size = b5 := ⟨_, rfl⟩
      have n1 : w.heap.size < b5 := by rw [← hb5]; exact q3b
      have n2 : b5 < B := by rw [← hb5, ← hB]; have := hb4.size; omega
      have n3 : g2 < B := by rw [← hB]; exact hO2.lt
      have n4 : g2 ≠ b5 := by rw [← hb5]; omega
      have l0 : Hid (PsL w w4 b5 B g2 cap2 G2 P2 PN none 0 0 (sqX PN P2)) := ⟨q3.bel.trans (hb4.mono q3.bel.size), by rw [hB]; exact Nat.le_refl _, q3.res.kept hb4, by rw [← hb5]; exact qb3.kept hb4, hO2, ⟨Or.inl ⟨rfl, rfl, rfl⟩⟩⟩
      have hG2b : G2 ≤ 1000000000 := by have := HRs.out; omega
      have HS3 := Lib.hid hsp3
      rw [hb5]
      clear hB hb5 hsp3 hb4 hO2 hP2 hG2 q3 qb3 qs3 qw3 q3b hg2
      go_wp2
      go_loopg [7] G2 (fun g i wr => ∃ k : Nat, k ≤ G2 ∧ g = G2 - k ∧ ∃ r : Nat, i = .int .i64 r ∧ Hid (r = k + 1) ∧ ∃ a c, Hid (PsL w wr b5 B g2 cap2 G2 P2 PN a c k (sqX PN P2)) ∧ Hid (∀ j, j < k → ctxN PN (P2 (j + 1)) < PN))
      case atStart => exact ⟨0, Nat.zero_le _, rfl, 1, rfl, rfl, none, 0, l0.out, fun j hj => absurd hj (Nat.not_lt_zero _)⟩
      case round =>
        obtain ⟨k, hk, rfl, r, rfl, hr, a, c, L, hall⟩ := hrel
        clear l0
        obtain ⟨z0, z1, f0, f1, y0, y1, fy⟩ := L.out.facts
        have hNO := Lib.hid (fun p n s (h : PsOk T.data.toList p n s) => ps_same h hsp2.out HS3.out HVV.out)
        by_cases hlt : k < G2
        · have i0 : (0 : Int) ≤ (r : Int) := by omega
          have i1 : (r : Int) < (G2 : Int) + 1 := by have := hr.out; omega
          have yw : wr.cell? ⟨g2, r, none⟩ = some (.string (P2 r)) := L.out.wds.cell (by have := hr.out; omega)
          obtain ⟨Wd, hWd⟩ : ∃ Wd, P2 r = Wd := ⟨_, rfl⟩
          rw [hWd] at yw
          have HW : Hid (P2 (k + 1) = Wd) := by show P2 (k + 1) = Wd; rw [← hr.out]; exact hWd
          clear hWd
          have hS0 : wr.drew.cell? ⟨b5, 0, none⟩ = some (.int .i64 PN) ∧ wr.drew.cell? ⟨g2, r, none⟩ = some (.string Wd) ∧ Below wr.heap.size wr wr.drew := ⟨cellKp (drewB _) y0, cellKp (drewB _) yw, drewB _⟩
          by_cases hcx : ctxN PN Wd < PN
          · have HPN : Hid (∀ W, Calls Tryd.prog 22 #[.int .i64 PN, .string Wd] W fun e w' => Makes W w' e (.tuple #[.int .i64 (ctxN PN Wd : Nat), .int .i64 0])) := fun W => by
              have h := sParseNum_c PN Wd W HP.out
              rw [if_pos hcx, if_pos hcx] at h; exact h
            obtain ⟨x, hx⟩ : ∃ x : Int, ((ctxN PN Wd : Nat) : Int) = x := ⟨_, rfl⟩
            rw [hx] at HPN
            have HX : Hid (sqX PN P2 k = x) := by show ((ctxN PN (P2 (k + 1)) : Nat) : Int) = x; rw [HW.out]; exact hx
            have HCX : Hid (ctxN PN (P2 (k + 1)) < PN) := by show ctxN PN (P2 (k + 1)) < PN; rw [HW.out]; exact hcx
            clear hx hcx
            go_wp2
            go_region_held3 (fun W => W.cell? ⟨b5, 0, none⟩ = some (.int .i64 PN) ∧ W.cell? ⟨g2, r, none⟩ = some (.string Wd) ∧ Below wr.heap.size wr W)
              ((first | assumption | exact hS0 | exact sq2Keep (by assumption) (by assumption)))
              ((first
                | (go_at_call 22; refine Calls.makes' (HPN.out _) _ fun v1 hv1 => ?_)))
            rename_i hHeld
            replace L := Lib.hid (L.out.kept hHeld.2.2)
            clear hHeld hS0 z0 z1 f0 f1 y0 y1 fy yw
            obtain ⟨z0, z1, f0, f1, y0, y1, fy⟩ := L.out.facts
            have hl := L.out.lst
            have hszB := L.out.sz
            go_wp2_with (at_builtin; refine wpList_pushI v1 rfl _ _ rfl (by omega) hl (by omega) x rfl rfl ?_; intro a3 c3 w3 hl3 hc3; have hbx3 := hc3.own L.out.box (fun e => by have := e.1; omega); have y3 := hbx3.box0.2; have fy3 := hbx3.frozen 1)
            go_roundg (G2 - (k + 1))
            case measure => omega
            case rel => exact ⟨k + 1, by omega, rfl, r + 1, by go_num, by show r + 1 = k + 1 + 1; rw [hr.out], a3, c3, L.out.push (by omega) (by omega) (by omega) (by omega) n4 (hl3.congrX fun i hi => by
                by_cases e : i = k
                · subst e; rw [if_pos rfl, HX.out]
                · rw [if_neg e]) hc3, fun j hj => by
                by_cases e : j = k
                · subst e; exact HCX.out
                · exact hall.out j (by omega)⟩
          · have HPN : Hid (∀ W, Calls Tryd.prog 22 #[.int .i64 PN, .string Wd] W fun e w' => Makes W w' e (.tuple #[.int .i64 0, .int .i64 6])) := fun W => by
              have h := sParseNum_c PN Wd W HP.out
              rw [if_neg hcx, if_neg hcx] at h; exact h
            have hno : Hid (∀ p n s, ¬ PsOk T.data.toList p n s) := fun p n s h => hcx (by
              have h1 := (hNO.out p n s h).1 k hlt
              rw [HW.out] at h1; exact h1)
            clear hcx
            go_wp2
            go_region_held3 (fun W => W.cell? ⟨b5, 0, none⟩ = some (.int .i64 PN) ∧ W.cell? ⟨g2, r, none⟩ = some (.string Wd) ∧ Below wr.heap.size wr W)
              ((first | assumption | exact hS0 | exact sq2Keep (by assumption) (by assumption)))
              ((first
                | (go_at_call 22; refine Calls.makes' (HPN.out _) _ fun v1 hv1 => ?_)))
            rename_i hHeld
            replace L := Lib.hid (L.out.kept hHeld.2.2)
            clear hHeld hS0 z0 z1 f0 f1 y0 y1 fy yw
            obtain ⟨z0, z1, f0, f1, y0, y1, fy⟩ := L.out.facts
            go_wp2
            have hdn := L.out.done (by omega) (.int .i64 0) (.slice none 0 0) _ rfl
            generalize (v1.setCell ⟨w.heap.size, 0, none⟩ (.int .i64 0)).setCell ⟨w.heap.size, 1, none⟩ (.slice none 0 0) = W2 at hdn ⊢
            obtain ⟨d0, d1, d2, d3⟩ := hdn
            (try simp only [Exit.inBlock, Exit.then])
            refine bodyPost_ret (by simp [results, Tryd.results6, go_sem, d1, d2]; try rfl) rfl ?_
            exact ⟨d0, Or.inr ⟨rfl, hno.out⟩⟩
        · obtain rfl : k = G2 := by omega
          have i1 : ¬ (r : Int) < (k : Int) + 1 := by have := hr.out; omega
          have HIs : Hid (∀ W a c, Ints W (.slice a k c) k (sqX PN P2) → Calls Tryd.prog 23 #[dbl PN (.slice a k c)] W fun e w' => Makes W w' e (.bool (spB PN k (sqX PN P2)))) := fun W a c h => sIsSp_c _ _ _ _ W h
          cases hsp : spB PN k (sqX PN P2)
          · have hno : Hid (∀ p n s, ¬ PsOk T.data.toList p n s) := fun p n s h => by
              have h1 := (hNO.out p n s h).2.sp
              rw [hsp] at h1; cases h1
            rw [hsp] at HIs
            clear hsp
            go_wp2_with (go_at_call 23; refine Calls.makes' (HIs.out _ _ _ L.out.lst.ints) _ fun v1 hv1 => ?_; replace L := Lib.hid (L.out.kept hv1); clear z0 z1 f0 f1 y0 y1 fy; obtain ⟨z0, z1, f0, f1, y0, y1, fy⟩ := L.out.facts)
            have hdn := L.out.done (by omega) (.int .i64 0) (.slice none 0 0) _ rfl
            generalize (v1.setCell ⟨w.heap.size, 0, none⟩ (.int .i64 0)).setCell ⟨w.heap.size, 1, none⟩ (.slice none 0 0) = W2 at hdn ⊢
            obtain ⟨d0, d1, d2, d3⟩ := hdn
            (try simp only [Exit.inBlock, Exit.then])
            refine bodyPost_ret (by simp [results, Tryd.results6, go_sem, d1, d2]; try rfl) rfl ?_
            exact ⟨d0, Or.inr ⟨rfl, hno.out⟩⟩
          · rw [hsp] at HIs
            have HTX : Hid (∀ W a c, Ints W (.slice a k c) k (sqX PN P2) → Calls Tryd.prog 24 #[dbl PN (.slice a k c)] W fun e w' => Makes W w' e (.string (strB (txtL PN (sqX PN P2) k)))) := fun W a c h => sSpText_c _ _ _ _ W ⟨h, spB_ok hsp⟩
            have HSP := Lib.hid hsp
            clear hsp
            obtain ⟨C, hC⟩ : ∃ C, strB (txtL PN (sqX PN P2) k) = C := ⟨_, rfl⟩
            rw [hC] at HTX
            have HC := Lib.hid hC
            clear hC
            by_cases hCT : C = T
            · subst hCT
              go_wp2_with (first | (go_at_call 23; refine Calls.makes' (HIs.out _ _ _ L.out.lst.ints) _ fun v1 hv1 => ?_; replace L := Lib.hid (L.out.kept hv1); clear z0 z1 f0 f1 y0 y1 fy; obtain ⟨z0, z1, f0, f1, y0, y1, fy⟩ := L.out.facts) | (go_at_call 24; refine Calls.makes' (HTX.out _ _ _ L.out.lst.ints) _ fun v1 hv1 => ?_; replace L := Lib.hid (L.out.kept hv1); clear z0 z1 f0 f1 y0 y1 fy; obtain ⟨z0, z1, f0, f1, y0, y1, fy⟩ := L.out.facts))
              have hdn := L.out.done (by omega) (.int .i64 PN) (.slice a k c) _ rfl
              generalize (v1.setCell ⟨w.heap.size, 0, none⟩ (.int .i64 PN)).setCell ⟨w.heap.size, 1, none⟩ (.slice a k c) = W2 at hdn ⊢
              obtain ⟨d0, d1, d2, d3⟩ := hdn
              (try simp only [Exit.inBlock, Exit.then])
              refine bodyPost_ret (by simp [results, Tryd.results6, go_sem, d1, d2]; try rfl) rfl ?_
              exact ⟨d0, Or.inl ⟨_, _, _, _, _, rfl, d3, HSP.out, by rw [← HC.out]; simp [strB]⟩⟩
            · have hno : Hid (∀ p n s, ¬ PsOk T.data.toList p n s) := fun p n s h => hCT (by
                have h1 := (hNO.out p n s h).2.tx
                rw [← HC.out, h1]
                exact (of_strB rfl).symm)
              have hne := neB hCT
              clear hCT
              go_wp2_with (first | (go_at_call 23; refine Calls.makes' (HIs.out _ _ _ L.out.lst.ints) _ fun v1 hv1 => ?_; replace L := Lib.hid (L.out.kept hv1); clear z0 z1 f0 f1 y0 y1 fy; obtain ⟨z0, z1, f0, f1, y0, y1, fy⟩ := L.out.facts) | (go_at_call 24; refine Calls.makes' (HTX.out _ _ _ L.out.lst.ints) _ fun v1 hv1 => ?_; replace L := Lib.hid (L.out.kept hv1); clear z0 z1 f0 f1 y0 y1 fy; obtain ⟨z0, z1, f0, f1, y0, y1, fy⟩ := L.out.facts))
              have hdn := L.out.done (by omega) (.int .i64 0) (.slice none 0 0) _ rfl
              generalize (v1.setCell ⟨w.heap.size, 0, none⟩ (.int .i64 0)).setCell ⟨w.heap.size, 1, none⟩ (.slice none 0 0) = W2 at hdn ⊢
              obtain ⟨d0, d1, d2, d3⟩ := hdn
              (try simp only [Exit.inBlock, Exit.then])
              refine bodyPost_ret (by simp [results, Tryd.results6, go_sem, d1, d2]; try rfl) rfl ?_
              exact ⟨d0, Or.inr ⟨rfl, hno.out⟩⟩
  · have hno : Hid (∀ p n s, ¬ PsOk T.data.toList p n s) := fun p n s h => by
      have h1 := congrArg List.length hsp
      rw [ps_splL h] at h1
      simp at h1
      omega
    obtain ⟨z0, z1⟩ := res1.box0
    have f0 := res1.frozen 0
    have f1 := res1.frozen 1
    have hne : ((G : Int) + 1 == 2) = false := beq_eq_false_iff_ne.2 (by omega)
    have RES1 := Lib.hid res1
    clear hO1 hP hsp res1
    go_wp2
    have hst := box_store bel1 RES1.out (Nat.le_refl _) (.int .i64 0) (.slice none 0 0)
    generalize (w1.setCell ⟨w.heap.size, 0, none⟩ (.int .i64 0)).setCell ⟨w.heap.size, 1, none⟩ (.slice none 0 0) = W2 at hst ⊢
    obtain ⟨z0, z1⟩ := hst.1.box0
    (try simp only [Exit.inBlock, Exit.then])
    refine bodyPost_ret (by simp [results, Tryd.results6, go_sem, z0, z1]; try rfl) rfl ?_
    exact ⟨hst.2, Or.inr ⟨rfl, hno.out⟩⟩
end Go.Proofs.YtejbigdebjcomaaDoor
