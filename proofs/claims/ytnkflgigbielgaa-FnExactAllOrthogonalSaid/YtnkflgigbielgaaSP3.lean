/-
  GramOf, in both programs. No condition beside sizes.
-/
import Derived.Test.YtnkflgigbielgaaSP2
import Derived.Test.YtnkflgigbielgaaD31
set_option linter.unusedVariables false
set_option linter.unusedSimpArgs false
namespace Go.Proofs.Ytnkflgigbielgaa
open Go.RowKit

/-- the table of products -/
def gramT (p : Int) (s : Nat → Int) (n : Nat) (T : Nat → Nat → Int) (i j : Nat) : Int := pairF p s n (T i) (T j)

set_option maxRecDepth 100000 in
set_option maxHeartbeats 4000000 in
theorem iGramOf_c (p : Int) (sv lv : Value) (n m : Nat) (s : Nat → Int) (L : Nat → Nat) (T : Nat → Nat → Int) (w : World) (h : Ints w sv n s) (hl : Tab w lv m L T) :
    Calls Try.prog 21 #[dbl p sv, lv] w fun e w' => ResCT w w' e (codeSl (spB p n s) p n m L T) m (fun _ => m) (gramT p s n T) := by
  have h' := Lib.hid h
  obtain ⟨ao, c, b, o, rfl, p2, p3, qx⟩ := h.out
  obtain ⟨la, lc, lb, lo, A, C, RB, RO, rfl, q2, q3, q4, q5, q6, q7, q8⟩ := hl.out
  have hr : ∀ i, i < m → Ints w (.slice (A i) (L i) (C i)) (L i) (T i) := fun i hi => Tab.rowAt q6 q7 q8 hi
  have P5 := Lib.hid q5
  clear qx q5 q6 q7 q8
  obtain ⟨e0, e1, e2, e3⟩ := box0 w p ao n c 26
  have BX := Lib.hid (box0 w p ao n c 26)
  obtain ⟨cc, hcc⟩ : ∃ cc, codeSl (spB p n s) p n m L T = cc := ⟨_, rfl⟩
  have HC : Hid (Calls Try.prog 74 #[dbl p (.slice ao n c), .slice la m lc] (w.alloc (.cells #[.int .i64 p, .slice ao n c] 26)) fun e w' => Makes (w.alloc (.cells #[.int .i64 p, .slice ao n c] 26)) w' e (.int .i64 cc)) := hcc ▸ iCkL_c p _ _ n m s L T _ (h.below e3) (hl.below e3)
  rw [hcc]
  by_cases h0 : cc = 0
  · obtain ⟨hok, hvec, hm16⟩ := codeSl_zero (hcc.trans h0)
    have hsp := spB_ok hok
    have HV : Hid (∀ W, Below w.heap.size w W → SV W (.slice ao n c) p n s) := fun W hb => ⟨h'.out.below hb, hsp⟩
    have HR : Hid (∀ i W, i < m → Below w.heap.size w W → Vc W (.slice (A i) (L i) (C i)) p n (T i)) := fun i W hi hb => (vecB_vc (hr i hi) (hvec i hi)).2.below hb
    subst h0
    clear hr h hl hcc hvec hok hsp
    go_enter Try.func21, Try.ntmps21
    go_wp2_with fail
    refine Calls.makes' HC.out _ fun w1 hb1 => ?_
    obtain ⟨f0, f1, f2, f3⟩ := boxKeep hb1 BX.out
    have hT0 : OTab (w1.alloc (.cells #[] 24)) (w.heap.size + 1) w1.heap.size 0 0 (fun _ => m) (gramT p s n T) :=
      ((OTab.empty w1).mono (by omega)).congr (fun i hi => absurd hi (Nat.not_lt_zero _)) (fun i j hi => absurd hi (Nat.not_lt_zero _))
    have BX1 := Lib.hid (boxKeep ((Below.refl w1.heap.size w1).alloc (Nat.le_refl _) (.cells #[] 24)) (show BoxD w p ao n c w1 from ⟨f0, f1, f2, f3⟩))
    have HT0 := Lib.hid hT0
    clear hT0 e0 e1 e2 e3 hb1 f0 f1 f2 f3
    go_wp2
    go_loopg [7, 22] m (fun g o i wr => ∃ k : Nat, k ≤ m ∧ g = m - k ∧ i = .int .i64 k ∧ BoxD w p ao n c wr ∧ ∃ g' c', o = .slice (some ⟨g', 0, none⟩) k c' ∧ OTab wr (w.heap.size + 1) g' c' k (fun _ => m) (gramT p s n T))
    case atStart => exact ⟨0, Nat.zero_le _, rfl, rfl, BX1.out, _, _, rfl, HT0.out⟩
    case round =>
      obtain ⟨k, hk, rfl, rfl, ⟨f0, f1, f2, f3⟩, g', c', rfl, hT⟩ := hrel
      obtain ⟨wo, rfl⟩ : ∃ wo, wo = wr := ⟨_, rfl⟩
      have BXr := Lib.hid (show BoxD w p ao n c wo from ⟨f0, f1, f2, f3⟩)
      by_cases hlt : k < m
      · obtain rfl := q4 (by omega)
        obtain ⟨V, hV, hpush⟩ := hT.pushAt (show w.heap.size + 1 ≤ wo.heap.size by omega)
        have HP := Lib.hid hpush
        have HVV := Lib.hid hV
        have hgB := hT.base
        have y1 : wo.cell? ⟨lb, lo + k, none⟩ = some (.slice (A k) (L k) (C k)) := by rw [f3.cell (p := ⟨lb, lo + k, none⟩) (lt_of_cell (P5.out k hlt))]; exact P5.out k hlt
        have hR0 : Own (wo.alloc (.cells #[] 2)) 2 wo.heap.size 0 0 (fun j => .int .i64 (gramT p s n T k j)) := Own.empty _ _ _
        have bE : Below wo.heap.size wo (wo.alloc (.cells #[] 2)) := (Below.refl _ _).alloc (Nat.le_refl _) _
        have BXE := Lib.hid (boxKeep bE BXr.out)
        have HR0 := Lib.hid hR0
        have BE := Lib.hid bE
        have hlo := f3.size
        clear hpush hV hR0 bE hT f0 f1
        go_wp2
        clear y1
        go_loopg [10, 29] m (fun g o i wq => ∃ j : Nat, j ≤ m ∧ g = m - j ∧ i = .int .i64 j ∧ BoxD w p ao n c wq ∧ Hid (Below wo.heap.size wo wq) ∧ ∃ g2 c2, o = .slice (some ⟨g2, 0, none⟩) j c2 ∧ wo.heap.size ≤ g2 ∧ Own wq 2 g2 c2 j (fun j => .int .i64 (gramT p s n T k j)))
        case atStart => exact ⟨0, Nat.zero_le _, rfl, rfl, BXE.out, BE, _, _, rfl, Nat.le_refl _, HR0.out⟩
        case round =>
          obtain ⟨j, hj, rfl, rfl, ⟨f0, f1, f2', f3'⟩, hbel, g2, c2, rfl, hg2, hO⟩ := hrel
          have BXq := Lib.hid (show BoxD w p ao n c wr from ⟨f0, f1, f2', f3'⟩)
          by_cases hlt2 : j < m
          · have y1 : wr.cell? ⟨lb, lo + j, none⟩ = some (.slice (A j) (L j) (C j)) := by rw [f3'.cell (p := ⟨lb, lo + j, none⟩) (lt_of_cell (P5.out j hlt2))]; exact P5.out j hlt2
            go_wp2_with fail
            go_at_call 64
            refine Calls.makes' (iPair_c p _ _ _ n s (T k) (T j) _ (HV.out _ f3') (HR.out k _ hlt f3') (HR.out j _ hlt2 f3')) _ fun w4 hb4 => ?_
            have hO5 := hO.kept hb4
            have bx4 := Lib.hid (boxKeep hb4 BXq.out)
            have hs4 := hb4.size
            clear f0 f1 y1
            go_wp2_with (at_builtin; refine wpList_push _ rfl _ _ _ _ elI rfl hO5 (.int .i64 (pairF p s n (T k) (T j))) rfl rfl rfl (by omega) (by omega) ?_; rotate_right; intro g3 c3 w3 hO3 hg3 hgr3)
            go_roundg (m - (j + 1))
            case measure => omega
            case rel =>
              have a4 := hbel.out.size
              refine ⟨j + 1, by omega, rfl, by go_num, boxGrown hgr3 (by omega) bx4.out, ((hbel.out.trans (hb4.mono a4)).grown hgr3 (by omega) (fun k e => by injection e with e; omega)), g3, c3, rfl, by omega, hO3.congr fun i hi => ?_⟩
              by_cases e2 : i = j
              · subst e2; simp only [if_true]; rfl
              · simp [e2]
          · obtain rfl : j = m := by omega
            have hV2 := HVV.out.kept hbel.out
            clear f0 f1
            go_wp2_with (at_builtin; refine wpList_push _ rfl _ _ _ _ elR rfl hV2 (.slice (some ⟨g2, 0, none⟩) j c2) rfl rfl rfl (by omega) (by omega) ?_; intro g3 c3 w3 hO3 hg3 hgr3)
            have hs2 := hbel.out.size
            go_roundg (j - (k + 1))
            case measure => omega
            case rel => exact ⟨k + 1, by omega, rfl, by go_num, boxGrown hgr3 (by omega) BXq.out, g3, c3, rfl, (HP.out _ _ _ _ _ _ _ _ hbel.out hO hg2 hO3 hg3 hgr3).congr (fun i hi => by by_cases e : i = k <;> simp [e]) (fun i j hi hj => by by_cases e : i = k <;> simp [e])⟩
      · obtain rfl : k = m := by omega
        go_wp2
        go_ret2
        exact ⟨f3, Or.inl ⟨rfl, g', c', rfl, hT.mono (by omega)⟩⟩
  · have hne : (cc != 0) = true := by rw [bne_iff_ne]; exact h0
    go_enter Try.func21, Try.ntmps21
    go_wp2_with fail
    refine Calls.makes' HC.out _ fun w1 hb1 => ?_
    go_wp2
    go_ret2
    exact ⟨e3.trans (hb1.mono e3.size), Or.inr ⟨h0, rfl⟩⟩

theorem codeSl_out {p : Int} {n m : Nat} {s : Nat → Int} {L : Nat → Nat} {T : Nat → Nat → Int} (h : spB p n s = false) : codeSl (spB p n s) p n m L T = 1 := by unfold codeSl; rw [h]; rfl
theorem codeSl_in {p : Int} {n m : Nat} {s : Nat → Int} {L : Nat → Nat} {T : Nat → Nat → Int} (h : spB p n s = true) : codeSl (spB p n s) p n m L T = if (anyB (fun i => !vecB p n (L i) (T i)) m || decide (16 < m)) then 2 else 0 := by unfold codeSl; rw [h]; rfl

end Go.Proofs.Ytnkflgigbielgaa
