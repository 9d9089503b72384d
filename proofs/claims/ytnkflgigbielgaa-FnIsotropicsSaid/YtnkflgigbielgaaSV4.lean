/-
  VectorsOfNorm, by the program: all vectors in their order. No condition beside sizes.
-/
import Derived.Test.YtnkflgigbielgaaSV3
set_option linter.unusedVariables false
set_option linter.unusedSimpArgs false
namespace Go.Proofs.Ytnkflgigbielgaa
open Go.RowKit

set_option maxRecDepth 100000 in
set_option maxHeartbeats 4000000 in
theorem iVectors_c (w0 : World) (p : Int) (s : Nat → Int) (ao : Option Addr) (n c : Nat) (k : Int) (b1 b2 b3 g0 tT : Nat) (w : World) (hd : SV w0 (.slice ao n c) p n s) (hT : p ^ n = (tT : Int)) (hT1 : tT ≤ 5000)
    (l1 : w0.heap.size ≤ b1) (l2 : b1 < b2) (l3 : b2 < b3) (l4 : b3 < w.heap.size) (l5 : w0.heap.size ≤ g0) (l6 : g0 ≠ b1 ∧ g0 ≠ b2 ∧ g0 ≠ b3)
    (hb : Below w0.heap.size w0 w) (c0 : w.cell? ⟨b1, 0, none⟩ = some (.int .i64 p)) (c1 : w.cell? ⟨b1, 1, none⟩ = some (.slice ao n c)) (c2 : w.cell? ⟨b2, 0, none⟩ = some (.int .i64 k)) (f3 : w.frozen? ⟨b3, 0, none⟩ = false)
    (c3 : w.cell? ⟨b3, 0, none⟩ = some (.slice (some ⟨g0, 0, none⟩) 0 0)) (hO : Own w 24 g0 0 0 (fun _ => undef)) :
    Calls Try.prog 79 #[dbl p (.slice ao n c), .func (.func 80) #[] #[.pointer (some ⟨b1, 0, none⟩), .pointer (some ⟨b2, 0, none⟩), .pointer (some ⟨b3, 0, none⟩)]] w fun e w' => e = .returned (.bool false) ∧ ∃ gv, VS w0 p s ao n c k b1 b2 b3 w.heap.size gv tT w' := by
  have hpb := hd.ok.bd
  have hn6 := hd.ok.n6
  have hp0 : 1 ≤ tT := by
    have := pow_sm hpb.1 hpb.2 hn6
    omega
  obtain ⟨e0, e1, e2, e3⟩ := box0 w p ao n c 26
  have BX := Lib.hid (box0 w p ao n c 26)
  have hgl := hO.lt
  have HO := Lib.hid hO
  have HB := Lib.hid hb
  have HD := Lib.hid hd
  have HT := Lib.hid hT
  have C0 := Lib.hid c0
  have C1 := Lib.hid c1
  have C2 := Lib.hid c2
  have C3 := Lib.hid c3
  have F3 := Lib.hid f3
  have hmf : ∀ (fn : Fn) (first cap : Array Value) (w : World), (Instr.makeFunc fn first cap).run Try.prog w = .ok (.func fn first cap) w := fun _ _ _ _ => rfl
  clear hO hb hd hT c0 c1 c2 c3 f3
  go_enter Try.func79, Try.ntmps79
  go_wp2_with fail
  refine Calls.makes' (iDim_c _ _ _ _ _ (by omega)) _ fun w1 hb1 => ?_
  have bx1 := boxKeep hb1 ⟨e0, e1, e2, e3⟩
  have BX1 := Lib.hid bx1
  have hs1 := hb1.size
  have hsb : (w.alloc (.cells #[.int .i64 p, .slice ao n c] 26)).heap.size = w.heap.size + 1 := alloc_size _ _
  clear e0 e1 e2 e3
  go_wp2_with (at_make; refine wpList_mkA _ rfl _ _ _ _ elI rfl rfl .i64 .i64 n rfl rfl (by omega) (by omega) ?_; intro W3 hB3 hS3 hO3; have HS3 := Lib.hid hS3; clear hS3)
  rw [hsb] at hs1
  obtain ⟨bx, hbx⟩ : ∃ bx, w.heap.size = bx := ⟨_, rfl⟩
  obtain ⟨gv, hgv⟩ : ∃ gv, w1.heap.size = gv := ⟨_, rfl⟩
  have hvb : VB w0 b1 b2 b3 bx gv := ⟨l1, l2, l3, by omega, by omega⟩
  have hbw3 : Below w.heap.size w W3 := bx1.2.2.2.trans (hB3.mono bx1.2.2.2.size)
  have hv0 : VS w0 p s ao n c k b1 b2 b3 bx gv 0 W3 := by
    refine ⟨HB.out.trans (hbw3.mono HB.out.size), cellKp hbw3 C0.out, cellKp hbw3 C1.out, cellKp hbw3 C2.out, ?_, ?_, g0, 0, 0, cellKp hbw3 C3.out, rfl, ⟨fun _ => 0, fun _ => 0, ?_, ⟨l5, fun h => ?_⟩, fun i hi => absurd hi (Nat.not_lt_zero _), fun i j hi => absurd hi (Nat.not_lt_zero _)⟩⟩
    · rw [← hbx]; exact cellKp hB3 bx1.1
    · rw [frz_of_block (w := w) (hbw3.block b3 (by omega))]; exact F3.out
    · exact (HO.out.kept hbw3).congr fun i hi => absurd hi (Nat.not_lt_zero _)
    · rcases h with h | h | h | h | h
      · exact l6.1 h
      · exact l6.2.1 h
      · exact l6.2.2 h
      · omega
      · omega
  have HV0 := Lib.hid hv0
  have HVB := Lib.hid hvb
  rw [hgv] at hO3
  have HO3 : Hid (Own W3 2 gv n n (fun i => .int .i64 (vecT p n 0 i))) := hO3.congr fun i hi => by rw [vecT_zero]
  have hbg : bx ≠ gv := by omega
  rw [hbx, hgv]
  clear hv0 hvb hbw3 hO3 hB3 HS3 hb1 bx1 BX BX1 HO HB C0 C1 C2 C3 F3 hsb
  go_loopg [6] tT (fun g (i : Value) wr => ∃ t : Nat, t < tT ∧ g = tT - t ∧ Hid (VS w0 p s ao n c k b1 b2 b3 bx gv t wr) ∧ Hid (Own wr 2 gv n n (fun i => .int .i64 (vecT p n t i))))
  case atStart => exact ⟨0, by omega, rfl, HV0.out, HO3.out⟩
  case round =>
    obtain ⟨t, ht, rfl, hV, hO⟩ := hrel
    obtain ⟨wo, rfl⟩ : ∃ wo, wo = wr := ⟨_, rfl⟩
    clear HV0 HO3
    go_wp2_with (go_at_call 80; refine (iVonCl_c w0 p s ao n c k b1 b2 b3 bx gv t _ HVB.out HD.out hV.out hO.out (by omega)).mono ?_; rintro e w5 ⟨rfl, hV5, hO5⟩; have HV5 := Lib.hid hV5; have HO5 := Lib.hid hO5; clear hV5 hO5)
    go_loopg [6] n (fun gg i wq => ∃ r : Nat, r ≤ n ∧ r = gg ∧ i = .int .i64 ((r : Int) - 1) ∧ Chg w5 wq (· = gv) ∧ Own wq 2 gv n n (fun i => .int .i64 (clr r (vecT p n t) i)) ∧ Hid (maxFrom p n r (vecT p n t)))
    case atStart => exact ⟨n, Nat.le_refl _, rfl, rfl, Chg.refl _ _, HO5.out.congr fun i hi => by unfold clr; rw [if_neg (by omega)], fun i h1 h2 => absurd h2 (by omega)⟩
    case round =>
      obtain ⟨r, hr, rfl, rfl, hc, hOq, hmx⟩ := hrel
      have yb := hc.cellN hbg HV5.out.cx
      by_cases hlt : 0 < r
      · obtain ⟨i, rfl⟩ : ∃ i, r = i + 1 := ⟨r - 1, by omega⟩
        rw [show (((i + 1 : Nat) : Int) - 1) = (i : Int) by omega]
        have hxi := vecT_in (p := p) (by omega) n t n i (by omega)
        have y1 : wr.cell? ⟨gv, i, none⟩ = some (.int .i64 (vecT p n t i)) := by
          have h := hOq.cell (show i < n by omega)
          rw [h]; unfold clr; rw [if_neg (by omega)]
        obtain ⟨xi, hxe⟩ : ∃ xi, vecT p n t i = xi := ⟨_, rfl⟩
        rw [hxe] at y1 hxi
        have HXE := Lib.hid hxe
        have y2 := hOq.frozen i
        have i1 : (0 : Int) ≤ (i : Int) := by omega
        have i2 : (i : Int) < (n : Int) := by omega
        have hw1 : IntKind.i64.wrap (p - 1) = p - 1 := wrap_in _ (by omega)
        clear hxe
        have HC := Lib.hid hc
        have HOq := Lib.hid hOq
        have HY2 := Lib.hid y2
        by_cases hmax : xi = p - 1
        · have HMX := Lib.hid (HXE.out.trans hmax)
          subst hmax
          have HY1 := Lib.hid y1
          clear hOq hc HXE
          go_wp2
          go_quiet (fail)
          have z1 : (wr.drewN nq).cell? ⟨gv, i, none⟩ = some (.int .i64 (p - 1)) := HY1.out
          have z2 : (wr.drewN nq).frozen? ⟨gv, i, none⟩ = false := HY2.out
          have HC9 : Hid (Chg w5 (wr.drewN nq) (· = gv)) := ⟨HC.out.os, HC.out.tape, HC.out.output, HC.out.size, HC.out.block⟩
          have HO9 := Lib.hid ((HOq.out.drewN nq).set i (.int .i64 0))
          clear yb y1 y2
          go_wp2
          go_roundg i
          case measure => omega
          case rel => exact ⟨i, by omega, rfl, by go_num, HC9.out.setCell (a := ⟨gv, i, none⟩) rfl _, HO9.out.congr fun j hj => by
              unfold clr
              by_cases e : j = i
              · subst e; simp
              · rw [if_neg e]
                by_cases e2 : i + 1 ≤ j
                · rw [if_pos e2, if_pos (by omega)]
                · rw [if_neg e2, if_neg (by omega)], fun j h1 h2 => by
              by_cases e : j = i
              · subst e; exact HMX.out
              · exact hmx.out j (by omega) h2⟩
        · have HMX : Hid (vecT p n t i ≠ p - 1) := fun e => hmax (HXE.out.symm.trans e)
          have hne : decide (xi = p - 1) = false := decide_eq_false hmax
          have HY1 := Lib.hid y1
          have hwx : IntKind.i64.wrap (xi + 1) = xi + 1 := wrap_in _ (by omega)
          clear hOq hc
          go_wp2
          go_quiet (fail)
          have z1 : (wr.drewN nq).cell? ⟨gv, i, none⟩ = some (.int .i64 xi) := HY1.out
          have z2 : (wr.drewN nq).frozen? ⟨gv, i, none⟩ = false := HY2.out
          have HC9 : Hid (Chg w5 (wr.drewN nq) (· = gv)) := ⟨HC.out.os, HC.out.tape, HC.out.output, HC.out.size, HC.out.block⟩
          have HO9 := Lib.hid ((HOq.out.drewN nq).set i (.int .i64 (xi + 1)))
          clear yb y1 y2
          go_wp2
          have hnx := next_vecT (show 1 ≤ p by omega) (t := t) (b := true) (X' := inc i (vecT p n t)) (by rw [HT.out]; omega) (Or.inl ⟨rfl, inc_in (by omega) (vecT_in (by omega) n t n) HMX.out, val_inc (by omega) hmx.out⟩)
          rcases hnx with ⟨_, h1, h2⟩ | ⟨h1, _⟩
          · rw [HT.out] at h1
            go_roundg (tT - (t + 1))
            case measure => omega
            case rel => exact ⟨t + 1, by omega, rfl, HV5.out.chgV HVB.out (HC9.out.setCell (a := ⟨gv, i, none⟩) rfl _), HO9.out.congr fun j hj => by
                rw [← h2 j hj]
                unfold clr inc
                by_cases e : j = i
                · subst e; rw [if_pos rfl, if_pos rfl, HXE.out]
                · rw [if_neg e, if_neg e]
                  by_cases e2 : i + 1 ≤ j
                  · rw [if_pos e2, if_pos (by omega)]
                  · rw [if_neg e2, if_neg (by omega)]⟩
          · exact absurd h1 (by decide)
      · obtain rfl : r = 0 := by omega
        rw [show (((0 : Nat) : Int) - 1) = -1 by omega]
        have HC := Lib.hid hc
        clear hOq hc
        go_wp2
        go_quiet (fail)
        go_wp2
        go_ret
        have HC9 : Hid (Chg w5 (wr.drewN nq) (· = gv)) := ⟨HC.out.os, HC.out.tape, HC.out.output, HC.out.size, HC.out.block⟩
        have hnx := next_vecT (show 1 ≤ p by omega) (t := t) (b := false) (X' := fun _ => 0) (by rw [HT.out]; omega) (Or.inr ⟨rfl, val_top hmx.out⟩)
        rcases hnx with ⟨h1, _⟩ | ⟨_, h1⟩
        · exact absurd h1 (by decide)
        · rw [HT.out] at h1
          obtain rfl : t + 1 = tT := by omega
          refine ⟨rfl, gv, ?_⟩
          rw [hbx]
          exact HV5.out.chgV HVB.out HC9.out

end Go.Proofs.Ytnkflgigbielgaa
