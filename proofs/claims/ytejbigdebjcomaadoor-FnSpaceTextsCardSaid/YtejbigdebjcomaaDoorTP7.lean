/-
  ParseSpace, the program's: the walk. Conditions: the text's size, and that the library's variables read as their text lays them.
-/
import Derived.Test.YtejbigdebjcomaaDoorTP6
set_option linter.unusedVariables false
set_option linter.unusedSimpArgs false
set_option maxRecDepth 100000
namespace Go.Proofs.YtejbigdebjcomaaDoor
open Go.RowKit


/-- the result's box -/
structure PsQ (w W : World) : Prop where
  bel : Below w.heap.size w W
  res : Own W 24 w.heap.size 2 2 (box2 (.int .i64 0) (.slice none 0 0))

theorem PsQ.kept {w W W' : World} (h : PsQ w W) (hb : Below W.heap.size W W') : PsQ w W' := ⟨h.bel.trans (hb.mono h.bel.size), h.res.kept hb⟩

theorem PsQ.facts {w W : World} (h : PsQ w W) : W.cell? ⟨w.heap.size, 0, none⟩ = some (.int .i64 0) ∧ W.cell? ⟨w.heap.size, 1, none⟩ = some (.slice none 0 0) ∧ W.frozen? ⟨w.heap.size, 0, none⟩ = false ∧ W.frozen? ⟨w.heap.size, 1, none⟩ = false := ⟨h.res.box0.1, h.res.box0.2, h.res.frozen 0, h.res.frozen 1⟩

theorem PsQ.err {w W : World} (h : PsQ w W) (W2 : World) (e : (W.setCell ⟨w.heap.size, 0, none⟩ (.int .i64 0)).setCell ⟨w.heap.size, 1, none⟩ (.slice none 0 0) = W2) : Below w.heap.size w W2 ∧ W2.cell? ⟨w.heap.size, 0, none⟩ = some (.int .i64 0) ∧ W2.cell? ⟨w.heap.size, 1, none⟩ = some (.slice none 0 0) := by
  have hst := box_store h.bel h.res (Nat.le_refl _) (.int .i64 0) (.slice none 0 0)
  rw [e] at hst
  exact ⟨hst.2, hst.1.box0.1, hst.1.box0.2⟩

theorem PsQ.box {w W W' : World} (h : PsQ w W) (v : Int) (e : W.alloc (.cells #[.int .i64 v, .slice none 0 0] 24) = W') : PsQ w W' ∧ Own W' 24 W.heap.size 2 2 (box2 (.int .i64 v) (.slice none 0 0)) ∧ W'.heap.size = W.heap.size + 1 := by
  subst e
  exact ⟨h.kept ((Below.refl _ _).alloc (Nat.le_refl _) _), own_box _ _ _ _, by simp⟩


set_option maxRecDepth 100000 in
set_option maxHeartbeats 4000000 in
theorem iParseSpace_c (T : ByteArray) (w : World) (hs : T.size ≤ 1000000000) (hL : LibW w) :
    Calls Tryd.prog 7 #[.string T] w fun e w' => PsR w w' e T.data.toList := by
  obtain ⟨W0, hW0⟩ : ∃ W0, w.alloc (.cells #[.int .i64 0, .slice none 0 0] 24) = W0 := ⟨_, rfl⟩
  have q0 : PsQ w W0 := ⟨hW0 ▸ (Below.refl _ _).alloc (Nat.le_refl _) _, hW0 ▸ own_box w _ _ _⟩
  have HLB : Hid (∀ W, Below w.heap.size w W → LibW W) := fun W hb => hL.below hb
  have HS := Lib.hid (iCut_c T W0 hs (HLB.out _ q0.bel))
  have hlen := cut_len T.data.toList 58
  have hts : T.data.toList.length ≤ 1000000000 := by rw [← Lib.size_eq]; exact hs
  obtain ⟨H, hH⟩ : ∃ H, H = strB (Lib.cut T.data.toList [58]).1 := ⟨_, rfl⟩
  obtain ⟨R, hR⟩ : ∃ R, R = strB (Lib.cut T.data.toList [58]).2.1 := ⟨_, rfl⟩
  obtain ⟨bb, hbb⟩ : ∃ bb, bb = (Lib.cut T.data.toList [58]).2.2 := ⟨_, rfl⟩
  have hHs : Hid (H.size ≤ 1000000000) := by show H.size ≤ _; rw [hH, strB_size]; omega
  have hRs : Hid (R.size ≤ 1000000000) := by show R.size ≤ _; rw [hR, strB_size]; omega
  rw [← hH, ← hR, ← hbb] at HS
  have HH := Lib.hid hH
  have HR := Lib.hid hR
  have q := Lib.hid q0
  clear hlen hts hbb q0 hL hH hR
  go_enter Tryd.func7, Tryd.ntmps7
  go_wp2_with fail
  refine Calls.makes' HS.out _ fun w1 hb1 => ?_
  replace q := Lib.hid (q.out.kept hb1)
  clear HS hb1 hW0
  have HPI := Lib.hid (iParseInt_c H w1 hHs.out (HLB.out _ q.out.bel))
  go_wp2_with fail
  refine HPI.out.mono ?_
  rintro e w2 ⟨v, er, rfl, hb2, hcs⟩
  replace q := Lib.hid (q.out.kept hb2)
  clear HPI hb2
  obtain ⟨z0, z1, f0, f1⟩ := q.out.facts
  rcases hcs with ⟨rfl, hok⟩ | ⟨⟨N, rfl⟩, hbad⟩
  · have HOK := Lib.hid hok
    clear hok
    cases hp : primeB v
    · have HPR : Hid (∀ W, Calls Tryd.prog 27 #[.int .i64 v] W fun e w' => e = .returned (.bool false) ∧ W = w') := fun W => hp ▸ iPrime_c v W
      have hno : Hid (∀ p n s, ¬ PsOk T.data.toList p n s) := fun p n s h => by
        have ok := spB_ok h.sp
        have h1 := HOK.out
        rw [HH.out, ps_head h, strB_list, parse_prime ok.prime] at h1
        injection h1 with h1
        subst h1
        rw [ok.prime] at hp
        cases hp
      clear hp
      go_wp2_with (first | (go_at_call 27; refine (HPR.out _).mono ?_; rintro e w' ⟨rfl, rfl⟩))
      have hdn := q.out.err _ rfl
      generalize (w2.setCell ⟨w.heap.size, 0, none⟩ (.int .i64 0)).setCell ⟨w.heap.size, 1, none⟩ (.slice none 0 0) = W2 at hdn ⊢
      obtain ⟨d0, d1, d2⟩ := hdn
      (try simp only [Exit.inBlock, Exit.then])
      refine bodyPost_ret (by simp [results, Tryd.results7, go_sem, d1, d2]; try rfl) rfl ?_
      exact ⟨d0, Or.inr ⟨rfl, hno.out⟩⟩
    · obtain ⟨PN, rfl⟩ := Int.eq_ofNat_of_zero_le (show 0 ≤ v by have := primeB_bd hp; omega)
      have HPR : Hid (∀ W, Calls Tryd.prog 27 #[.int .i64 PN] W fun e w' => e = .returned (.bool true) ∧ W = w') := fun W => hp ▸ iPrime_c PN W
      have HP := Lib.hid hp
      clear hp
      go_wp2_with (first | (go_at_call 27; refine (HPR.out _).mono ?_; rintro e w' ⟨rfl, rfl⟩))
      obtain ⟨W3, hW3⟩ : ∃ W3, w2.alloc (.cells #[.int .i64 PN, .slice none 0 0] 24) = W3 := ⟨_, rfl⟩
      rw [hW3]
      obtain ⟨q3, qb3, qs3⟩ := q.out.box PN hW3
      have q3b := q.out.res.lt
      refine (iSplit_c R W3 hRs.out (HLB.out _ q3.bel)).mono ?_
      rintro e w4 ⟨G2, P2, rfl, hb4, hG2, hO2, hsp3⟩
      obtain ⟨B, hB⟩ : ∃ B, w4.heap.size = B := ⟨_, rfl⟩
      obtain ⟨b5, hb5⟩ : ∃ b5, w2.heap.size = b5 := ⟨_, rfl⟩
      obtain ⟨g2, hg2⟩ : ∃ g2, W3.heap.size = g2 := ⟨_, rfl⟩
      rw [hg2] at hO2
      have n1 : w.heap.size < b5 := by rw [← hb5]; exact q3b
      have n2 : b5 < B := by rw [← hb5, ← hB]; have := hb4.size; omega
      have n3 : g2 < B := by rw [← hB]; exact hO2.lt
      have n4 : g2 ≠ b5 := by rw [← hb5]; omega
      have l0 : Hid (PsL w w4 b5 B g2 (G2 + 1) G2 P2 PN none 0 0 (sqX PN P2)) := ⟨q3.bel.trans (hb4.mono q3.bel.size), by rw [hB]; exact Nat.le_refl _, q3.res.kept hb4, by rw [← hb5]; exact qb3.kept hb4, hO2, ⟨Or.inl ⟨rfl, rfl, rfl⟩⟩⟩
      have HS3 := Lib.hid hsp3
      rw [hb5, hg2]
      clear hB hb5 hg2 hsp3 hb4 hO2 q3 qb3 qs3 q3b q z0 z1 f0 f1 HPR
      have hNO : Hid (∀ p n s, PsOk T.data.toList p n s → (∀ k, k < G2 → ctxN PN (P2 (k + 1)) < PN) ∧ PsOk T.data.toList PN G2 (sqX PN P2)) := fun p n s h => ps_sameI h HH.out HR.out HOK.out HS3.out
      by_cases hG0 : G2 = 0
      · subst hG0
        have L := l0
        clear l0
        obtain ⟨z0, z1, f0, f1, y0, y1, fy⟩ := L.out.facts
        have HIs : Hid (∀ W a c, Ints W (.slice a 0 c) 0 (sqX PN P2) → Calls Tryd.prog 30 #[dbl PN (.slice a 0 c)] W fun e w' => Makes W w' e (.bool false)) := fun W a c h => by
          have h1 := iIsSp_c (PN : Int) _ _ _ W h
          rw [spB_len (by omega)] at h1; exact h1
        have hno : Hid (∀ p n s, ¬ PsOk T.data.toList p n s) := fun p n s h => by
          have h1 := (spB_ok (hNO.out p n s h).2.sp).n1
          omega
        go_wp2
        go_loopg [39] 0 (fun g i wr => g = 0 ∧ i = .int .i64 0 ∧ wr = w4)
        case atStart => exact ⟨rfl, rfl, rfl⟩
        case round =>
          obtain ⟨rfl, rfl, rfl⟩ := hrel
          go_wp2_with (go_at_call 30; refine Calls.makes' (HIs.out _ _ _ L.out.lst.ints) _ fun v1 hv1 => ?_; replace L := Lib.hid (L.out.kept hv1); clear z0 z1 f0 f1 y0 y1 fy; obtain ⟨z0, z1, f0, f1, y0, y1, fy⟩ := L.out.facts)
          have hdn := L.out.done (by omega) (.int .i64 0) (.slice none 0 0) _ rfl
          generalize (v1.setCell ⟨w.heap.size, 0, none⟩ (.int .i64 0)).setCell ⟨w.heap.size, 1, none⟩ (.slice none 0 0) = W2 at hdn ⊢
          obtain ⟨d0, d1, d2, d3⟩ := hdn
          (try simp only [Exit.inBlock, Exit.then])
          refine bodyPost_ret (by simp [results, Tryd.results7, go_sem, d1, d2]; try rfl) rfl ?_
          exact ⟨d0, Or.inr ⟨rfl, hno.out⟩⟩
      · go_wp2
        clear hG0
        go_loopg [39] G2 (fun g i wr => ∃ k : Nat, k ≤ G2 ∧ g = G2 - k ∧ i = .int .i64 k ∧ ∃ a c, Hid (PsL w wr b5 B g2 (G2 + 1) G2 P2 PN a c k (sqX PN P2)) ∧ Hid (∀ j, j < k → ctxN PN (P2 (j + 1)) < PN))
        case atStart => exact ⟨0, Nat.zero_le _, rfl, rfl, none, 0, l0.out, fun j hj => absurd hj (Nat.not_lt_zero _)⟩
        case round =>
          obtain ⟨k, hk, rfl, rfl, a, c, L, hall⟩ := hrel
          clear l0
          obtain ⟨z0, z1, f0, f1, y0, y1, fy⟩ := L.out.facts
          by_cases hlt : k < G2
          · have i0 : (0 : Int) ≤ (k : Int) := by omega
            have i1 : (k : Int) < (G2 : Int) := by omega
            have yw : wr.cell? ⟨g2, 1 + k, none⟩ = some (.string (P2 (1 + k))) := L.out.wds.cell (by omega)
            obtain ⟨Wd, hWd⟩ : ∃ Wd, P2 (1 + k) = Wd := ⟨_, rfl⟩
            rw [hWd] at yw
            have HW : Hid (P2 (k + 1) = Wd) := by show P2 (k + 1) = Wd; rw [Nat.add_comm]; exact hWd
            clear hWd
            by_cases hcx : ctxN PN Wd < PN
            · have HPN : Hid (∀ W, Below w.heap.size w W → Calls Tryd.prog 29 #[.int .i64 PN, .string Wd] W fun e w' => Makes W w' e (.tuple #[.int .i64 (ctxN PN Wd : Nat), .bool true])) := fun W hb => by
                have h := iFParse_c PN Wd W (primeB_bd HP.out) (HLB.out W hb).tab
                rw [if_pos hcx, decide_eq_true hcx] at h; exact h
              obtain ⟨x, hx⟩ : ∃ x : Int, ((ctxN PN Wd : Nat) : Int) = x := ⟨_, rfl⟩
              rw [hx] at HPN
              have HX : Hid (sqX PN P2 k = x) := by show ((ctxN PN (P2 (k + 1)) : Nat) : Int) = x; rw [HW.out]; exact hx
              have HCX : Hid (ctxN PN (P2 (k + 1)) < PN) := by show ctxN PN (P2 (k + 1)) < PN; rw [HW.out]; exact hcx
              clear hx hcx
              by_cases h6 : k = 6
              · have hno : Hid (∀ p n s, ¬ PsOk T.data.toList p n s) := fun p n s h => by
                  have h1 := (spB_ok (hNO.out p n s h).2.sp).n6
                  omega
                have h6b : ((k : Int) == 6) = true := by rw [h6]; rfl
                clear h6
                go_wp2_with (go_at_call 29; refine Calls.makes' (HPN.out _ L.out.bel) _ fun v1 hv1 => ?_; replace L := Lib.hid (L.out.kept hv1); clear z0 z1 f0 f1 y0 y1 fy; obtain ⟨z0, z1, f0, f1, y0, y1, fy⟩ := L.out.facts; have hl := L.out.lst; have hszB := L.out.sz)
                have hdn := L.out.done (by omega) (.int .i64 0) (.slice none 0 0) _ rfl
                generalize (v1.setCell ⟨w.heap.size, 0, none⟩ (.int .i64 0)).setCell ⟨w.heap.size, 1, none⟩ (.slice none 0 0) = W2 at hdn ⊢
                obtain ⟨d0, d1, d2, d3⟩ := hdn
                (try simp only [Exit.inBlock, Exit.then])
                refine bodyPost_ret (by simp [results, Tryd.results7, go_sem, d1, d2]; try rfl) rfl ?_
                exact ⟨d0, Or.inr ⟨rfl, hno.out⟩⟩
              · have h6b : ((k : Int) == 6) = false := beq_eq_false_iff_ne.2 (by omega)
                go_wp2_with (first | (go_at_call 29; refine Calls.makes' (HPN.out _ L.out.bel) _ fun v1 hv1 => ?_; replace L := Lib.hid (L.out.kept hv1); clear z0 z1 f0 f1 y0 y1 fy; obtain ⟨z0, z1, f0, f1, y0, y1, fy⟩ := L.out.facts; have hl := L.out.lst; have hszB := L.out.sz) | (at_builtin; refine wpList_pushI v1 rfl _ _ rfl (by omega) hl (by omega) x rfl rfl ?_; intro a3 c3 w3 hl3 hc3; have hbx3 := hc3.own L.out.box (fun e => by have := e.1; omega); have y3 := hbx3.box0.2; have fy3 := hbx3.frozen 1))
                go_roundg (G2 - (k + 1))
                case measure => omega
                case rel => exact ⟨k + 1, by omega, rfl, by go_num, a3, c3, L.out.push (by omega) (by omega) (by omega) (by omega) n4 (hl3.congrX fun i hi => by
                    by_cases e : i = k
                    · subst e; rw [if_pos rfl, HX.out]
                    · rw [if_neg e]) hc3, fun j hj => by
                    by_cases e : j = k
                    · subst e; exact HCX.out
                    · exact hall.out j (by omega)⟩
            · have HPN : Hid (∀ W, Below w.heap.size w W → Calls Tryd.prog 29 #[.int .i64 PN, .string Wd] W fun e w' => Makes W w' e (.tuple #[.int .i64 0, .bool false])) := fun W hb => by
                have h := iFParse_c PN Wd W (primeB_bd HP.out) (HLB.out W hb).tab
                rw [if_neg hcx, decide_eq_false hcx] at h; exact h
              have hno : Hid (∀ p n s, ¬ PsOk T.data.toList p n s) := fun p n s h => hcx (by
                have h1 := (hNO.out p n s h).1 k hlt
                rw [HW.out] at h1; exact h1)
              clear hcx
              go_wp2_with (go_at_call 29; refine Calls.makes' (HPN.out _ L.out.bel) _ fun v1 hv1 => ?_; replace L := Lib.hid (L.out.kept hv1); clear z0 z1 f0 f1 y0 y1 fy; obtain ⟨z0, z1, f0, f1, y0, y1, fy⟩ := L.out.facts; have hl := L.out.lst; have hszB := L.out.sz)
              have hdn := L.out.done (by omega) (.int .i64 0) (.slice none 0 0) _ rfl
              generalize (v1.setCell ⟨w.heap.size, 0, none⟩ (.int .i64 0)).setCell ⟨w.heap.size, 1, none⟩ (.slice none 0 0) = W2 at hdn ⊢
              obtain ⟨d0, d1, d2, d3⟩ := hdn
              (try simp only [Exit.inBlock, Exit.then])
              refine bodyPost_ret (by simp [results, Tryd.results7, go_sem, d1, d2]; try rfl) rfl ?_
              exact ⟨d0, Or.inr ⟨rfl, hno.out⟩⟩
          · obtain rfl : k = G2 := by omega
            have HIs : Hid (∀ W a c, Ints W (.slice a k c) k (sqX PN P2) → Calls Tryd.prog 30 #[dbl PN (.slice a k c)] W fun e w' => Makes W w' e (.bool (spB PN k (sqX PN P2)))) := fun W a c h => iIsSp_c _ _ _ _ W h
            cases hsp : spB PN k (sqX PN P2)
            · have hno : Hid (∀ p n s, ¬ PsOk T.data.toList p n s) := fun p n s h => by
                have h1 := (hNO.out p n s h).2.sp
                rw [hsp] at h1; cases h1
              rw [hsp] at HIs
              clear hsp
              go_wp2_with (go_at_call 30; refine Calls.makes' (HIs.out _ _ _ L.out.lst.ints) _ fun v1 hv1 => ?_; replace L := Lib.hid (L.out.kept hv1); clear z0 z1 f0 f1 y0 y1 fy; obtain ⟨z0, z1, f0, f1, y0, y1, fy⟩ := L.out.facts)
              have hdn := L.out.done (by omega) (.int .i64 0) (.slice none 0 0) _ rfl
              generalize (v1.setCell ⟨w.heap.size, 0, none⟩ (.int .i64 0)).setCell ⟨w.heap.size, 1, none⟩ (.slice none 0 0) = W2 at hdn ⊢
              obtain ⟨d0, d1, d2, d3⟩ := hdn
              (try simp only [Exit.inBlock, Exit.then])
              refine bodyPost_ret (by simp [results, Tryd.results7, go_sem, d1, d2]; try rfl) rfl ?_
              exact ⟨d0, Or.inr ⟨rfl, hno.out⟩⟩
            · rw [hsp] at HIs
              have HTX : Hid (∀ W a c, Ints W (.slice a k c) k (sqX PN P2) → LibW W → Calls Tryd.prog 31 #[dbl PN (.slice a k c)] W fun e w' => Makes W w' e (.string (strB (txtL PN (sqX PN P2) k)))) := fun W a c h hl => iSpText_c _ _ _ _ W ⟨h, spB_ok hsp⟩ hl.tab
              have HSP := Lib.hid hsp
              clear hsp
              obtain ⟨C, hC⟩ : ∃ C, strB (txtL PN (sqX PN P2) k) = C := ⟨_, rfl⟩
              rw [hC] at HTX
              have HC := Lib.hid hC
              clear hC
              by_cases hCT : C = T
              · subst hCT
                go_wp2_with (first | (go_at_call 30; refine Calls.makes' (HIs.out _ _ _ L.out.lst.ints) _ fun v1 hv1 => ?_; replace L := Lib.hid (L.out.kept hv1); clear z0 z1 f0 f1 y0 y1 fy; obtain ⟨z0, z1, f0, f1, y0, y1, fy⟩ := L.out.facts) | (go_at_call 31; refine Calls.makes' (HTX.out _ _ _ L.out.lst.ints (HLB.out _ L.out.bel)) _ fun v1 hv1 => ?_; replace L := Lib.hid (L.out.kept hv1); clear z0 z1 f0 f1 y0 y1 fy; obtain ⟨z0, z1, f0, f1, y0, y1, fy⟩ := L.out.facts))
                have hdn := L.out.done (by omega) (.int .i64 PN) (.slice a k c) _ rfl
                generalize (v1.setCell ⟨w.heap.size, 0, none⟩ (.int .i64 PN)).setCell ⟨w.heap.size, 1, none⟩ (.slice a k c) = W2 at hdn ⊢
                obtain ⟨d0, d1, d2, d3⟩ := hdn
                (try simp only [Exit.inBlock, Exit.then])
                refine bodyPost_ret (by simp [results, Tryd.results7, go_sem, d1, d2]; try rfl) rfl ?_
                exact ⟨d0, Or.inl ⟨_, _, _, _, _, rfl, d3, HSP.out, by rw [← HC.out]; simp [strB]⟩⟩
              · have hno : Hid (∀ p n s, ¬ PsOk T.data.toList p n s) := fun p n s h => hCT (by
                  have h1 := (hNO.out p n s h).2.tx
                  rw [← HC.out, h1]
                  exact (of_strB rfl).symm)
                have hne := neB hCT
                clear hCT
                go_wp2_with (first | (go_at_call 30; refine Calls.makes' (HIs.out _ _ _ L.out.lst.ints) _ fun v1 hv1 => ?_; replace L := Lib.hid (L.out.kept hv1); clear z0 z1 f0 f1 y0 y1 fy; obtain ⟨z0, z1, f0, f1, y0, y1, fy⟩ := L.out.facts) | (go_at_call 31; refine Calls.makes' (HTX.out _ _ _ L.out.lst.ints (HLB.out _ L.out.bel)) _ fun v1 hv1 => ?_; replace L := Lib.hid (L.out.kept hv1); clear z0 z1 f0 f1 y0 y1 fy; obtain ⟨z0, z1, f0, f1, y0, y1, fy⟩ := L.out.facts))
                have hdn := L.out.done (by omega) (.int .i64 0) (.slice none 0 0) _ rfl
                generalize (v1.setCell ⟨w.heap.size, 0, none⟩ (.int .i64 0)).setCell ⟨w.heap.size, 1, none⟩ (.slice none 0 0) = W2 at hdn ⊢
                obtain ⟨d0, d1, d2, d3⟩ := hdn
                (try simp only [Exit.inBlock, Exit.then])
                refine bodyPost_ret (by simp [results, Tryd.results7, go_sem, d1, d2]; try rfl) rfl ?_
                exact ⟨d0, Or.inr ⟨rfl, hno.out⟩⟩
  · have hno : Hid (∀ p n s, ¬ PsOk T.data.toList p n s) := fun p n s h => by
      have ok := spB_ok h.sp
      refine hbad p ?_
      rw [HH.out, ps_head h, strB_list, parse_prime ok.prime]
    clear hbad
    go_wp2
    have hdn := q.out.err _ rfl
    generalize (w2.setCell ⟨w.heap.size, 0, none⟩ (.int .i64 0)).setCell ⟨w.heap.size, 1, none⟩ (.slice none 0 0) = W2 at hdn ⊢
    obtain ⟨d0, d1, d2⟩ := hdn
    (try simp only [Exit.inBlock, Exit.then])
    refine bodyPost_ret (by simp [results, Tryd.results7, go_sem, d1, d2]; try rfl) rfl ?_
    exact ⟨d0, Or.inr ⟨rfl, hno.out⟩⟩

end Go.Proofs.YtejbigdebjcomaaDoor
