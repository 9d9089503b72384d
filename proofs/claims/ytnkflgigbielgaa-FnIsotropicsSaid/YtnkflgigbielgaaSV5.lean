/-
  VectorsOfNorm, by the program. No condition beside sizes.
-/
import Derived.Test.YtnkflgigbielgaaSV4
import Derived.Test.YtnkflgigbielgaaD42
set_option linter.unusedVariables false
set_option linter.unusedSimpArgs false
namespace Go.Proofs.Ytnkflgigbielgaa
open Go.RowKit

/-- the two boxes of VectorsOfNorm -/
def BoxV (w : World) (p : Int) (ao : Option Addr) (n c : Nat) (k : Int) (W : World) : Prop :=
  W.cell? ⟨w.heap.size, 0, none⟩ = some (.int .i64 p) ∧ W.cell? ⟨w.heap.size, 1, none⟩ = some (.slice ao n c) ∧ W.cell? ⟨w.heap.size + 1, 0, none⟩ = some (.int .i64 k) ∧ w.heap.size + 1 < W.heap.size ∧ Below w.heap.size w W
theorem boxV0 (w : World) (p : Int) (ao : Option Addr) (n c : Nat) (k : Int) : BoxV w p ao n c k ((w.alloc (.cells #[.int .i64 p, .slice ao n c] 26)).alloc (.cells #[.int .i64 k] 2)) := by
  obtain ⟨e0, e1, e2, e3⟩ := box0 w p ao n c 26
  have ba : Below (w.alloc (.cells #[.int .i64 p, .slice ao n c] 26)).heap.size (w.alloc (.cells #[.int .i64 p, .slice ao n c] 26)) ((w.alloc (.cells #[.int .i64 p, .slice ao n c] 26)).alloc (.cells #[.int .i64 k] 2)) := (Below.refl _ _).alloc (Nat.le_refl _) _
  have hsz : (w.alloc (.cells #[.int .i64 p, .slice ao n c] 26)).heap.size = w.heap.size + 1 := alloc_size _ _
  have hs2 : ((w.alloc (.cells #[.int .i64 p, .slice ao n c] 26)).alloc (.cells #[.int .i64 k] 2)).heap.size = (w.alloc (.cells #[.int .i64 p, .slice ao n c] 26)).heap.size + 1 := alloc_size _ _
  have hO := Own.new (w.alloc (.cells #[.int .i64 p, .slice ao n c] 26)) 2 #[.int .i64 k] (fun _ => .int .i64 k) (by simp) (fun i hi => by
    obtain rfl : i = 0 := by simp at hi; omega
    rfl)
  have h := hO.cell (i := 0) (by simp)
  rw [hsz] at h
  exact ⟨cellKp ba e0, cellKp ba e1, h, by omega, e3.trans (ba.mono e3.size)⟩
theorem boxVKeep {w W W' : World} {p : Int} {ao : Option Addr} {n c : Nat} {k : Int} (hb : Below W.heap.size W W') (h : BoxV w p ao n c k W) : BoxV w p ao n c k W' :=
  ⟨cellKp hb h.1, cellKp hb h.2.1, cellKp hb h.2.2.1, by have := hb.size; have := h.2.2.2.1; omega, h.2.2.2.2.trans (hb.mono h.2.2.2.2.size)⟩
theorem boxVAlloc {w W : World} {p : Int} {ao : Option Addr} {n c : Nat} {k : Int} (o : Obj) (h : BoxV w p ao n c k W) : BoxV w p ao n c k (W.alloc o) := boxVKeep ((Below.refl _ _).alloc (Nat.le_refl _) _) h

set_option maxRecDepth 100000 in
set_option maxHeartbeats 4000000 in
theorem iVectorsOfNorm_c (p : Int) (sv : Value) (n : Nat) (s : Nat → Int) (k : Int) (w : World) (h : Ints w sv n s) :
    Calls Try.prog 25 #[dbl p sv, .int .i64 k] w fun e w' => ResCT w w' e (vCode p n s k) (cnt (okV p s n k) (p ^ n).toNat) (fun _ => n) (vonT p s n k) := by
  have H' := Lib.hid h
  obtain ⟨ao, c, b, o, rfl, p2, p3, qx⟩ := h.out
  clear qx
  have hbx := boxV0 w p ao n c k
  have BX := Lib.hid hbx
  obtain ⟨e0, e1, e2, e4, e3⟩ := hbx
  cases hok : spB p n s
  · have hvc : vCode p n s k = 1 := by unfold vCode; rw [hok]; rfl
    rw [hvc]
    go_enter Try.func25, Try.ntmps25
    go_wp2_with fail
    refine Calls.makes' (iIsSp_c _ _ _ _ _ (H'.out.below e3)) _ fun w1 hb1 => ?_
    rw [hok]
    go_wp2
    go_ret2
    exact ⟨e3.trans (hb1.mono e3.size), Or.inr ⟨by decide, rfl⟩⟩
  · have hsp := spB_ok hok
    have hpb := hsp.bd
    have hn6 := hsp.n6
    have hvc : vCode p n s k = if inB k 0 (p - 1) then (if 5000 < p ^ n then 3 else 0) else 2 := by unfold vCode; rw [hok]; rfl
    rw [hvc]
    have HOK := Lib.hid hok
    have HV : Hid (∀ W, Below w.heap.size w W → SV W (.slice ao n c) p n s) := fun W hb => ⟨H'.out.below hb, hsp⟩
    obtain ⟨q, hq⟩ : ∃ q, inB k 0 (p - 1) = q := ⟨_, rfl⟩
    have HIS : Hid (∀ W v, Ints W v 1 (fun _ => k) → Calls Try.prog 72 #[.int .i64 p, v] W fun e w' => e = .returned (.bool q) ∧ W = w') := fun W v hv => (by rw [inPB_one, hq] : inPB 0 p 1 (fun _ => k) = q) ▸ iIs_c p v 1 _ W hv (by omega) (by omega)
    rw [hq]
    cases q
    · rw [if_neg (by simp)]
      clear hok hsp hvc hq h
      go_enter Try.func25, Try.ntmps25
      go_wp2_with fail
      refine Calls.makes' (iIsSp_c _ _ _ _ _ (H'.out.below e3)) _ fun w1 hb1 => ?_
      rw [HOK.out]
      have bx1 := boxVKeep hb1 BX.out
      have BX1 := Lib.hid (boxVKeep (drewB w1) bx1)
      obtain ⟨f0, f1, f2, f4, f3⟩ := BX1.out
      obtain ⟨a0, a1, a2, _, _⟩ := boxVAlloc (.cells #[.int .i64 k] 2) bx1
      clear e0 e1 e2
      go_wp2
      go_region_law (first
        | (go_simp; go_at_call 72; (first | refine (HIS.out _ _ (ints1 _ _ _)).mono ?_ | refine (HIS.out _ _ ((ints1 w1.drew k 2).below hb2)).mono ?_); rintro e w' ⟨rfl, rfl⟩)
        | (go_simp; go_at_call 71; refine Calls.makes' (iSField_c _ _ _) _ fun w2 hb2 => ?_; have bx2 := boxVKeep hb2 (by first | exact BX1.out | exact boxVAlloc _ BX1.out); obtain ⟨k0, k1, k2, k4, k3⟩ := bx2))
      all_goals go_wp2
      all_goals go_ret2
      all_goals exact ⟨by first | exact k3 | exact k3.alloc k3.size _, Or.inr ⟨by decide, rfl⟩⟩
    · rw [if_pos rfl]
      have hpn := pow_sm hpb.1 hpb.2 hn6
      obtain ⟨tT, hT⟩ := Int.eq_ofNat_of_zero_le (show 0 ≤ p ^ n by omega)
      have HM : Hid (∀ W, Below w.heap.size w W → Calls Try.prog 78 #[dbl p (.slice ao n c)] W fun e w' => Makes W w' e (.bool (decide (5000 < (tT : Int))))) := fun W hb => hT ▸ iMany_c p _ n s W (HV.out W hb)
      have HTT := Lib.hid hT
      rw [hT, Int.toNat_natCast]
      by_cases hmany : 5000 < tT
      · have hdm : decide (5000 < (tT : Int)) = true := decide_eq_true (by omega)
        rw [if_pos (by omega)]
        rw [hdm] at HM
        clear hok hsp hvc hq h hT hpn
        go_enter Try.func25, Try.ntmps25
        go_wp2_with fail
        refine Calls.makes' (iIsSp_c _ _ _ _ _ (H'.out.below e3)) _ fun w1 hb1 => ?_
        rw [HOK.out]
        have bx1 := boxVKeep hb1 BX.out
        have BX1 := Lib.hid (boxVKeep (drewB w1) bx1)
        obtain ⟨f0, f1, f2, f4, f3⟩ := BX1.out
        obtain ⟨a0, a1, a2, _, _⟩ := boxVAlloc (.cells #[.int .i64 k] 2) bx1
        clear e0 e1 e2
        go_wp2
        go_region_law (first
          | (go_simp; go_at_call 72; (first | refine (HIS.out _ _ (ints1 _ _ _)).mono ?_ | refine (HIS.out _ _ ((ints1 w1.drew k 2).below hb2)).mono ?_); rintro e w' ⟨rfl, rfl⟩)
          | (go_simp; go_at_call 71; refine Calls.makes' (iSField_c _ _ _) _ fun w2 hb2 => ?_; have bx2 := boxVKeep hb2 (by first | exact BX1.out | exact boxVAlloc _ BX1.out); have BX2 := Lib.hid bx2; have ax2 := boxVAlloc (.cells #[.int .i64 k] 2) bx2; obtain ⟨k0, k1, k2, k4, k3⟩ := bx2; obtain ⟨m0, m1, m2, m4, m3⟩ := ax2))
        all_goals go_wp2_with fail
        all_goals refine Calls.makes' (HM.out _ (by first | exact k3 | exact m3)) _ fun w3 hb3 => ?_
        all_goals go_wp2
        all_goals go_ret2
        all_goals exact ⟨by first | exact k3.trans (hb3.mono k3.size) | exact m3.trans (hb3.mono m3.size), Or.inr ⟨by decide, rfl⟩⟩
      · have hdm : decide (5000 < (tT : Int)) = false := decide_eq_false (by omega)
        rw [if_neg (by omega)]
        rw [hdm] at HM
        clear hok hsp hvc hq h hpn
        go_enter Try.func25, Try.ntmps25
        go_wp2_with fail
        refine Calls.makes' (iIsSp_c _ _ _ _ _ (H'.out.below e3)) _ fun w1 hb1 => ?_
        rw [HOK.out]
        have bx1 := boxVKeep hb1 BX.out
        have BX1 := Lib.hid (boxVKeep (drewB w1) bx1)
        obtain ⟨f0, f1, f2, f4, f3⟩ := BX1.out
        obtain ⟨a0, a1, a2, _, _⟩ := boxVAlloc (.cells #[.int .i64 k] 2) bx1
        clear e0 e1 e2
        go_wp2
        go_region_law (first
          | (go_simp; go_at_call 72; (first | refine (HIS.out _ _ (ints1 _ _ _)).mono ?_ | refine (HIS.out _ _ ((ints1 w1.drew k 2).below hb2)).mono ?_); rintro e w' ⟨rfl, rfl⟩)
          | (go_simp; go_at_call 71; refine Calls.makes' (iSField_c _ _ _) _ fun w2 hb2 => ?_; have bx2 := boxVKeep hb2 (by first | exact BX1.out | exact boxVAlloc _ BX1.out); have BX2 := Lib.hid bx2; have ax2 := boxVAlloc (.cells #[.int .i64 k] 2) bx2; obtain ⟨k0, k1, k2, k4, k3⟩ := bx2; obtain ⟨m0, m1, m2, m4, m3⟩ := ax2))
        all_goals go_wp2_with fail
        all_goals refine Calls.makes' (HM.out _ (by first | exact k3 | exact m3)) _ fun w3 hb3 => ?_
        all_goals have BX3 : Hid (BoxV w p ao n c k w3) := boxVKeep hb3 (by first | exact ⟨k0, k1, k2, k4, k3⟩ | exact ⟨m0, m1, m2, m4, m3⟩)
        all_goals clear k0 k1 k2 k4 k3 m0 m1 m2 m4 m3 BX2 hb3 hb2 a0 a1 a2 f0 f1 f2 f4 f3 BX1 bx1
        all_goals have hmf : ∀ (fn : Fn) (first cap : Array Value) (w : World), (Instr.makeFunc fn first cap).run Try.prog w = .ok (.func fn first cap) w := fun _ _ _ _ => rfl
        all_goals
          have bx3 := boxVAlloc (.cells #[] 24) BX3.out
          have bx4 := boxVAlloc (.cells #[.slice (some ⟨w3.heap.size, 0, none⟩) 0 0] 39) bx3
          have BX4 := Lib.hid bx4
          have hsA : (w3.alloc (.cells #[] 24)).heap.size = w3.heap.size + 1 := alloc_size _ _
          have hsB : ((w3.alloc (.cells #[] 24)).alloc (.cells #[.slice (some ⟨w3.heap.size, 0, none⟩) 0 0] 39)).heap.size = (w3.alloc (.cells #[] 24)).heap.size + 1 := alloc_size _ _
          have hOb := Own.new (w3.alloc (.cells #[] 24)) 39 #[.slice (some ⟨w3.heap.size, 0, none⟩) 0 0] (fun _ => .slice (some ⟨w3.heap.size, 0, none⟩) 0 0) (by simp) (fun i hi => by
            obtain rfl : i = 0 := by simp at hi; omega
            rfl)
          have hOt : Own ((w3.alloc (.cells #[] 24)).alloc (.cells #[.slice (some ⟨w3.heap.size, 0, none⟩) 0 0] 39)) 24 w3.heap.size 0 0 (fun _ => undef) := (Own.empty w3 24 (fun _ => undef)).alloc _
          have hcb := hOb.cell (i := 0) (by simp)
          have hfb := hOb.frozen 0
          rw [hsA] at hcb hfb
          have hl3 := BX3.out.2.2.2.1
          have HCall := Lib.hid (iVectors_c w p s ao n c k w.heap.size (w.heap.size + 1) (w3.heap.size + 1) w3.heap.size tT _ (HV.out w (Below.refl _ _)) HTT.out (by omega) (Nat.le_refl _) (by omega) (by omega) (by omega) (by omega) ⟨by omega, by omega, by omega⟩ bx4.2.2.2.2 bx4.1 bx4.2.1 bx4.2.2.1 hfb hcb hOt)
          obtain ⟨k0, k1, k2, k4, k3⟩ := bx4
          clear bx3 hOb hOt hfb hl3 hT
          go_wp2_with fail
          go_at_call 79
          refine HCall.out.mono ?_
          rintro e w5 ⟨rfl, gv, hv5⟩
          obtain ⟨g', c', G, q1, q2, q3⟩ := hv5.tab
          have hbl := hv5.below
          clear hv5
          go_wp2
          go_ret2
          subst q2
          refine ⟨hbl, Or.inl ⟨rfl, g', c', rfl, ?_⟩⟩
          have e : vonT p s n k = fun i => vecT p n (sel (okV p s n k) tT i) := by funext i; unfold vonT; rw [HTT.out, Int.toNat_natCast]
          rw [e]; exact q3.otab

end Go.Proofs.Ytnkflgigbielgaa
