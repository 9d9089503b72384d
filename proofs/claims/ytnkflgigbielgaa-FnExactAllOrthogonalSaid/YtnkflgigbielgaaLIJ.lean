/-
  All vectors in their order, by the program, for a closure that is told by what it keeps. No condition beside sizes.
-/
import Derived.Test.YtnkflgigbielgaaSVJ
import Derived.Test.YtnkflgigbielgaaSKJ
import Derived.Test.YtnkflgigbielgaaLV1
import Derived.Test.YtnkflgigbielgaaDX
import Derived.Test.YtnkflgigbielgaaD15
import Derived.Test.YtnkflgigbielgaaQD
import Derived.Test.YtnkflgigbielgaaLS4
set_option linter.unusedVariables false
set_option linter.unusedSimpArgs false
namespace Go.Proofs.Ytnkflgigbielgaa
open Go.RowKit

set_option maxRecDepth 100000 in
set_option maxHeartbeats 4000000 in
theorem iVectorsIso_c (p : Int) (ao : Option Addr) (n c : Nat) (v1 v2 : Value) (tT : Nat) (w : World) (hpb : 3 ≤ p ∧ p ≤ 13) (hn6 : n ≤ 6) (hT : p ^ n = (tT : Int)) (J : Nat → Nat → World → Prop) (stop : Nat → Bool)
    (H0 : ∀ gv W, Below w.heap.size w W → w.heap.size < gv → gv < W.heap.size → W.cell? ⟨w.heap.size, 0, none⟩ = some (.int .i64 p) → J 0 gv W)
    (HK : ∀ t gv W W', J t gv W → Chg W W' (· = gv) → w.heap.size < gv → J t gv W')
    (HX : ∀ t gv W, J t gv W → W.cell? ⟨w.heap.size, 0, none⟩ = some (.int .i64 p))
    (HF : ∀ t gv W, t < tT → w.heap.size < gv → J t gv W → Own W 2 gv n n (fun i => .int .i64 (vecT p n t i)) → Calls Try.prog 88 #[.slice (some ⟨gv, 0, none⟩) n n, v1, v2] W fun e w' => e = .returned (.bool (stop t)) ∧ J (t + 1) gv w' ∧ Own w' 2 gv n n (fun i => .int .i64 (vecT p n t i))) :
    Calls Try.prog 79 #[dbl p (.slice ao n c), .func (.func 88) #[] #[v1, v2]] w fun e w' => ∃ gv, (e = .returned (.bool false) ∧ (∀ t, t < tT → stop t = false) ∧ J tT gv w') ∨ (∃ t, t < tT ∧ e = .returned (.bool true) ∧ stop t = true ∧ (∀ u, u < t → stop u = false) ∧ J (t + 1) gv w') := by
  have hp0 : 1 ≤ tT := by
    have := pow_sm hpb.1 hpb.2 hn6
    omega
  obtain ⟨e0, e1, e2, e3⟩ := box0 w p ao n c 26
  have BX := Lib.hid (box0 w p ao n c 26)
  have HT := Lib.hid hT
  have H0 := Lib.hid H0
  have HK := Lib.hid HK
  have HX := Lib.hid HX
  have HF := Lib.hid HF
  have hmf : ∀ (fn : Fn) (first cap : Array Value) (w : World), (Instr.makeFunc fn first cap).run Try.prog w = .ok (.func fn first cap) w := fun _ _ _ _ => rfl
  clear hT
  go_enter Try.func79, Try.ntmps79
  go_wp2_with fail
  refine Calls.makes' (iDim_c _ _ _ _ _ (by omega)) _ fun w1 hb1 => ?_
  have bx1 := boxKeep hb1 ⟨e0, e1, e2, e3⟩
  have BX1 := Lib.hid bx1
  have hs1 := hb1.size
  have hsb : (w.alloc (.cells #[.int .i64 p, .slice ao n c] 26)).heap.size = w.heap.size + 1 := alloc_size _ _
  clear e0 e1 e2 e3
  go_wp2_with (at_make; refine wpList_mkA _ rfl _ _ _ _ elI rfl rfl .i64 .i64 n rfl rfl (by omega) (by omega) ?_; intro W3 hB3 hS3 hO3; have HS3 := Lib.hid hS3; clear hS3)
  rw [hsb] at hs1
  obtain ⟨bx, hbx⟩ : ∃ bx, w.heap.size = bx := ⟨_, rfl⟩
  obtain ⟨gv, hgv⟩ : ∃ gv, w1.heap.size = gv := ⟨_, rfl⟩
  have hbw3 : Below w.heap.size w W3 := bx1.2.2.2.trans (hB3.mono bx1.2.2.2.size)
  have hbg : bx ≠ gv := by omega
  have hbl : bx < gv := by omega
  rw [hgv] at hO3
  have hv0 : J 0 gv W3 := H0.out gv W3 hbw3 (by omega) hO3.lt (cellKp hB3 bx1.1)
  have HV0 := Lib.hid hv0
  have HO3 : Hid (Own W3 2 gv n n (fun i => .int .i64 (vecT p n 0 i))) := hO3.congr fun i hi => by rw [vecT_zero]
  rw [hbx] at HK HX HF
  rw [hbx, hgv]
  clear hv0 hbw3 hO3 hB3 HS3 hb1 bx1 BX BX1 hsb H0 hs1 hgv
  go_loopg [6] tT (fun g (i : Value) wr => ∃ t : Nat, t < tT ∧ g = tT - t ∧ Hid (J t gv wr) ∧ Hid (Own wr 2 gv n n (fun i => .int .i64 (vecT p n t i))) ∧ Hid (∀ u, u < t → stop u = false))
  case atStart => exact ⟨0, by omega, rfl, HV0.out, HO3.out, fun u hu => absurd hu (Nat.not_lt_zero _)⟩
  case round =>
    obtain ⟨t, ht, rfl, hV, hO, hU⟩ := hrel
    obtain ⟨wo, rfl⟩ : ∃ wo, wo = wr := ⟨_, rfl⟩
    clear HV0 HO3
    obtain ⟨b, hb⟩ : ∃ b, stop t = b := ⟨_, rfl⟩
    have HFt := HF.out t gv wo ht hbl hV.out hO.out
    rw [hb] at HFt
    have HFt := Lib.hid HFt
    have HB := Lib.hid hb
    clear hb
    cases b
    rotate_left
    · go_wp2_with (go_at_call 88; refine HFt.out.mono ?_; rintro e w5 ⟨rfl, hV5, hO5⟩; have HV5 := Lib.hid hV5; clear hV5 hO5)
      go_ret
      exact ⟨gv, Or.inr ⟨t, ht, rfl, HB.out, hU.out, HV5.out⟩⟩
    go_wp2_with (go_at_call 88; refine HFt.out.mono ?_; rintro e w5 ⟨rfl, hV5, hO5⟩; have HV5 := Lib.hid hV5; have HO5 := Lib.hid hO5; clear hV5 hO5)
    have hU5 : Hid (∀ u, u < t + 1 → stop u = false) := fun u hu => by
      by_cases e : u = t
      · subst e; exact HB.out
      · exact hU.out u (by omega)
    clear HFt HB hU hV hO
    go_loopg [6] n (fun gg i wq => ∃ r : Nat, r ≤ n ∧ r = gg ∧ i = .int .i64 ((r : Int) - 1) ∧ Chg w5 wq (· = gv) ∧ Own wq 2 gv n n (fun i => .int .i64 (clr r (vecT p n t) i)) ∧ Hid (maxFrom p n r (vecT p n t)))
    case atStart => exact ⟨n, Nat.le_refl _, rfl, rfl, Chg.refl _ _, HO5.out.congr fun i hi => by unfold clr; rw [if_neg (by omega)], fun i h1 h2 => absurd h2 (by omega)⟩
    case round =>
      obtain ⟨r, hr, rfl, rfl, hc, hOq, hmx⟩ := hrel
      have yb := hc.cellN hbg (HX.out _ _ _ HV5.out)
      by_cases hlt : 0 < r
      · obtain ⟨i, rfl⟩ : ∃ i, r = i + 1 := ⟨r - 1, by omega⟩
        rw [show (((i + 1 : Nat) : Int) - 1) = (i : Int) by omega]
        have hxi := vecT_in (p := p) (by omega) n t n i (by omega)
        have y1 : wr.cell? ⟨gv, i, none⟩ = some (.int .i64 (vecT p n t i)) := by
          have h := hOq.cell (show i < n by omega)
          rw [h]; unfold clr; rw [if_neg (by omega)]
        obtain ⟨xi, hxe⟩ : ∃ xi, vecT p n t i = xi := ⟨_, rfl⟩
        rw [hxe] at y1 hxi
        have HXE := Lib.hid hxe
        have y2 := hOq.frozen i
        have i1 : (0 : Int) ≤ (i : Int) := by omega
        have i2 : (i : Int) < (n : Int) := by omega
        have hw1 : IntKind.i64.wrap (p - 1) = p - 1 := wrap_in _ (by omega)
        clear hxe
        have HC := Lib.hid hc
        have HOq := Lib.hid hOq
        have HY2 := Lib.hid y2
        by_cases hmax : xi = p - 1
        · have HMX := Lib.hid (HXE.out.trans hmax)
          subst hmax
          have HY1 := Lib.hid y1
          clear hOq hc HXE
          go_wp2
          go_quiet (fail)
          have z1 : (wr.drewN nq).cell? ⟨gv, i, none⟩ = some (.int .i64 (p - 1)) := HY1.out
          have z2 : (wr.drewN nq).frozen? ⟨gv, i, none⟩ = false := HY2.out
          have HC9 : Hid (Chg w5 (wr.drewN nq) (· = gv)) := ⟨HC.out.os, HC.out.tape, HC.out.output, HC.out.size, HC.out.block⟩
          have HO9 := Lib.hid ((HOq.out.drewN nq).set i (.int .i64 0))
          clear yb y1 y2
          go_wp2
          go_roundg i
          case measure => omega
          case rel => exact ⟨i, by omega, rfl, by go_num, HC9.out.setCell (a := ⟨gv, i, none⟩) rfl _, HO9.out.congr fun j hj => by
              unfold clr
              by_cases e : j = i
              · subst e; simp
              · rw [if_neg e]
                by_cases e2 : i + 1 ≤ j
                · rw [if_pos e2, if_pos (by omega)]
                · rw [if_neg e2, if_neg (by omega)], fun j h1 h2 => by
              by_cases e : j = i
              · subst e; exact HMX.out
              · exact hmx.out j (by omega) h2⟩
        · have HMX : Hid (vecT p n t i ≠ p - 1) := fun e => hmax (HXE.out.symm.trans e)
          have hne : decide (xi = p - 1) = false := decide_eq_false hmax
          have HY1 := Lib.hid y1
          have hwx : IntKind.i64.wrap (xi + 1) = xi + 1 := wrap_in _ (by omega)
          clear hOq hc
          go_wp2
          go_quiet (fail)
          have z1 : (wr.drewN nq).cell? ⟨gv, i, none⟩ = some (.int .i64 xi) := HY1.out
          have z2 : (wr.drewN nq).frozen? ⟨gv, i, none⟩ = false := HY2.out
          have HC9 : Hid (Chg w5 (wr.drewN nq) (· = gv)) := ⟨HC.out.os, HC.out.tape, HC.out.output, HC.out.size, HC.out.block⟩
          have HO9 := Lib.hid ((HOq.out.drewN nq).set i (.int .i64 (xi + 1)))
          clear yb y1 y2
          go_wp2
          have hnx := next_vecT (show 1 ≤ p by omega) (t := t) (b := true) (X' := inc i (vecT p n t)) (by rw [HT.out]; omega) (Or.inl ⟨rfl, inc_in (by omega) (vecT_in (by omega) n t n) HMX.out, val_inc (by omega) hmx.out⟩)
          rcases hnx with ⟨_, h1, h2⟩ | ⟨h1, _⟩
          · rw [HT.out] at h1
            go_roundg (tT - (t + 1))
            case measure => omega
            case rel => exact ⟨t + 1, by omega, rfl, HK.out _ _ _ _ HV5.out (HC9.out.setCell (a := ⟨gv, i, none⟩) rfl _) hbl, HO9.out.congr fun j hj => by
                rw [← h2 j hj]
                unfold clr inc
                by_cases e : j = i
                · subst e; rw [if_pos rfl, if_pos rfl, HXE.out]
                · rw [if_neg e, if_neg e]
                  by_cases e2 : i + 1 ≤ j
                  · rw [if_pos e2, if_pos (by omega)]
                  · rw [if_neg e2, if_neg (by omega)], hU5.out⟩
          · exact absurd h1 (by decide)
      · obtain rfl : r = 0 := by omega
        rw [show (((0 : Nat) : Int) - 1) = -1 by omega]
        have HC := Lib.hid hc
        clear hOq hc
        go_wp2
        go_quiet (fail)
        go_wp2
        go_ret
        have HC9 : Hid (Chg w5 (wr.drewN nq) (· = gv)) := ⟨HC.out.os, HC.out.tape, HC.out.output, HC.out.size, HC.out.block⟩
        have hnx := next_vecT (show 1 ≤ p by omega) (t := t) (b := false) (X' := fun _ => 0) (by rw [HT.out]; omega) (Or.inr ⟨rfl, val_top hmx.out⟩)
        rcases hnx with ⟨h1, _⟩ | ⟨_, h1⟩
        · exact absurd h1 (by decide)
        · rw [HT.out] at h1
          obtain rfl : t + 1 = tT := by omega
          exact ⟨gv, Or.inl ⟨rfl, hU5.out, HK.out _ _ _ _ HV5.out HC9.out hbl⟩⟩

end Go.Proofs.Ytnkflgigbielgaa

/-
  IsotropicVector, in both programs: the first vector other than 0 with the norm 0. No condition beside sizes.
-/
set_option linter.unusedVariables false
set_option linter.unusedSimpArgs false
namespace Go.Proofs.Ytnkflgigbielgaa
open Go.RowKit

def isoB (p : Int) (s : Nat → Int) (n t : Nat) : Bool := (t != 0) && okV p s n 0 t
/-- which vector it is -/
def isoN (p : Int) (s : Nat → Int) (n : Nat) : Nat := fst (isoB p s n) (p ^ n).toNat
def isoC (p : Int) (n : Nat) (s : Nat → Int) : Int := if spB p n s then (if isoN p s n < (p ^ n).toNat then 0 else 4) else 1

theorem val_zero {p : Int} {n : Nat} {X : Nat → Int} (h : ∀ i, i < n → X i = 0) : valV p X n = 0 := by
  induction n with
  | zero => rfl
  | succ n ih =>
    rw [valV, ih (fun i hi => h i (by omega)), h n (by omega)]; simp
theorem lead_vecT {p : Int} (hp : 1 ≤ p) {n t : Nat} (ht : (t : Int) < p ^ n) : ((ldd n (vecT p n t) : Int) == (n : Int)) = (t == 0) := by
  by_cases h0 : t = 0
  · subst h0
    have h1 : ldd n (vecT p n 0) = n := by
      have hle := ldd_le n (vecT p n 0)
      rcases Nat.lt_or_ge (ldd n (vecT p n 0)) n with h | h
      · exact absurd (vecT_zero p n _) (ldd_is h)
      · omega
    rw [h1]; simp
  · have h1 : ldd n (vecT p n t) ≠ n := fun e => by
      have hv := val_vecT hp n t n (Nat.le_refl _)
      rw [val_zero (X := vecT p n t) (fun i hi => ldd_before (n := n) (by rw [e]; exact hi))] at hv
      rw [Nat.sub_self, Int.pow_zero, Int.ediv_one, Int.emod_eq_of_lt (by omega) ht] at hv
      omega
    have h2 : ((ldd n (vecT p n t) : Int) == (n : Int)) = false := by simp; omega
    rw [h2]; simp [h0]

theorem iIsZero_c (v : Value) (n : Nat) (X : Nat → Int) (w : World) (h : Ints w v n X) (hn : n ≤ 1048576) :
    Calls Try.prog 89 #[v] w fun e w' => e = .returned (.bool ((ldd n X : Int) == (n : Int))) ∧ w = w' := by
  have H := Lib.hid h
  obtain ⟨ao, c, b, o, rfl, p2, p3, qx⟩ := h.out
  clear h qx
  obtain ⟨l, hl⟩ : ∃ l, ldd n X = l := ⟨_, rfl⟩
  have HC := Lib.hid (hl ▸ iLead_c _ n X w H.out hn)
  rw [hl]
  go_enter Try.func89, Try.ntmps89
  go_wp2_with (go_at_call 133; refine HC.out.mono ?_; rintro e w' ⟨rfl, rfl⟩)
  go_ret
  exact ⟨rfl, rfl⟩

/-- what stands while the closure runs: the boxes of the space and of the list -/
structure IsoJ (w0 : World) (p : Int) (s : Nat → Int) (ao : Option Addr) (n c bS bO bx t gv : Nat) (W : World) : Prop where
  below : Below w0.heap.size w0 W
  c0 : W.cell? ⟨bS, 0, none⟩ = some (.int .i64 p)
  c1 : W.cell? ⟨bS, 1, none⟩ = some (.slice ao n c)
  cx : W.cell? ⟨bx, 0, none⟩ = some (.int .i64 p)
  f3 : W.frozen? ⟨bO, 0, none⟩ = false
  ord : w0.heap.size ≤ bS ∧ bS < bO ∧ bO < bx ∧ bx < gv ∧ gv < W.heap.size
  out : ∃ g' c' m', W.cell? ⟨bO, 0, none⟩ = some (.slice (some ⟨g', 0, none⟩) m' c') ∧ (t ≠ 0 → m' = n ∧ w0.heap.size ≤ g' ∧ g' ≠ gv ∧ Own W 2 g' c' n (fun i => .int .i64 (vecT p n (t - 1) i)))

theorem IsoJ.chgV {w0 : World} {p : Int} {s : Nat → Int} {ao : Option Addr} {n c bS bO bx t gv : Nat} {W W' : World} (h : IsoJ w0 p s ao n c bS bO bx t gv W) (hc : Chg W W' (· = gv)) : IsoJ w0 p s ao n c bS bO bx t gv W' := by
  obtain ⟨o1, o2, o3, o4, o5⟩ := h.ord
  have hs := hc.size
  obtain ⟨g', c', m', h1, h2⟩ := h.out
  refine ⟨h.below.trans (hc.below h.below.size (fun x hx => by have hx : x = gv := hx; omega)), hc.cellN (by omega) h.c0, hc.cellN (by omega) h.c1, hc.cellN (by omega) h.cx, ?_, ⟨o1, o2, o3, o4, by omega⟩, g', c', m', hc.cellN (by omega) h1, fun ht => ?_⟩
  · rw [frz_of_block (w := W) (hc.block bO (lt_of_cell h1) (by intro e; have e : bO = gv := e; omega))]; exact h.f3
  · obtain ⟨q1, q2, q3, q4⟩ := h2 ht
    exact ⟨q1, q2, q3, hc.own q4 (by show ¬ g' = gv; exact q3)⟩

set_option maxRecDepth 100000 in
set_option maxHeartbeats 2000000 in
theorem iIsoCl_c (w0 : World) (p : Int) (s : Nat → Int) (ao : Option Addr) (n c bS bO bx t gv : Nat) (w : World) (hd : SV w0 (.slice ao n c) p n s) (h : IsoJ w0 p s ao n c bS bO bx t gv w) (hO : Own w 2 gv n n (fun i => .int .i64 (vecT p n t i))) (ht : (t : Int) < p ^ n) :
    Calls Try.prog 88 #[.slice (some ⟨gv, 0, none⟩) n n, .pointer (some ⟨bO, 0, none⟩), .pointer (some ⟨bS, 0, none⟩)] w fun e w' => e = .returned (.bool (isoB p s n t)) ∧ IsoJ w0 p s ao n c bS bO bx (t + 1) gv w' ∧ Own w' 2 gv n n (fun i => .int .i64 (vecT p n t i)) := by
  have hpb := hd.ok.bd
  have hn6 := hd.ok.n6
  have hord := h.ord
  obtain ⟨o1, o2, o3, o4, o5⟩ := h.ord
  obtain ⟨a, ha⟩ : ∃ a, pairF p s n (vecT p n t) (vecT p n t) = a := ⟨_, rfl⟩
  have HN : Hid (∀ W, Below w0.heap.size w0 W → Own W 2 gv n n (fun i => .int .i64 (vecT p n t i)) → Calls Try.prog 73 #[dbl p (.slice ao n c), .slice (some ⟨gv, 0, none⟩) n n] W fun e w' => Makes W w' e (.int .i64 a)) := fun W hb hO => ha ▸ iSNorm_c p _ _ n s _ W (hd.below hb) ⟨hO.ints, vecT_in (by omega) n t n⟩
  obtain ⟨q, hq⟩ : ∃ q, (t == 0) = q := ⟨_, rfl⟩
  have HZ : Hid (∀ W, Own W 2 gv n n (fun i => .int .i64 (vecT p n t i)) → Calls Try.prog 89 #[.slice (some ⟨gv, 0, none⟩) n n] W fun e w' => e = .returned (.bool q) ∧ W = w') := fun W hO => by
    have h1 := iIsZero_c (.slice (some ⟨gv, 0, none⟩) n n) n (vecT p n t) W hO.ints (by omega)
    rw [lead_vecT (by omega) ht, hq] at h1
    exact h1
  have hoke : Hid (isoB p s n t = (!q && (a == 0))) := by
    show isoB p s n t = (!q && (a == 0))
    unfold isoB okV; rw [ha, ← hq]; rfl
  obtain ⟨g', c', m', q1, _⟩ := h.out
  have c0 := h.c0
  have c1 := h.c1
  have CX := Lib.hid h.cx
  have f3 := h.f3
  have hbel := Lib.hid h.below
  have HCL := Lib.hid (iClone_c gv n n (vecT p n t) w hO (by omega))
  have HO := Lib.hid hO
  clear hd h hO ha hq ht
  go_enter Try.func88, Try.ntmps88
  go_wp2_with fail
  refine HCL.out.mono ?_
  rintro e w1 ⟨g1, c1', rfl, hg1, hb1, hO1⟩
  have x0 := cellKp hb1 q1
  have xf : w1.frozen? ⟨bO, 0, none⟩ = false := by rw [frz_of_block (w := w) (hb1.block bO (by omega))]; exact f3
  obtain ⟨W2, hW2⟩ : ∃ W2, w1.setCell ⟨bO, 0, none⟩ (.slice (some ⟨g1, 0, none⟩) n c1') = W2 := ⟨_, rfl⟩
  have hc2 : Chg w1 W2 (· = bO) := hW2 ▸ (Chg.refl w1 (· = bO)).setCell (a := ⟨bO, 0, none⟩) rfl _
  have k0 := hc2.cellN (show bS ≠ bO by omega) (cellKp hb1 c0)
  have k1 := hc2.cellN (show bS ≠ bO by omega) (cellKp hb1 c1)
  have k2 : W2.cell? ⟨bO, 0, none⟩ = some (.slice (some ⟨g1, 0, none⟩) n c1') := hW2 ▸ World.cell?_setCell_same _ _ _ x0
  have k3 : W2.frozen? ⟨bO, 0, none⟩ = false := by rw [← hW2, World.frozen?_setCell]; exact xf
  have hs1 := hb1.size
  have hs2 := hc2.size
  have hB2 : Hid (Below w0.heap.size w0 W2) := (hbel.out.trans (hb1.mono hbel.out.size)).trans (hc2.below (by have := hbel.out.size; omega) (fun x hx => by have hx : x = bO := hx; omega))
  have HO2 : Hid (Own W2 2 gv n n (fun i => .int .i64 (vecT p n t i))) := hc2.own (HO.out.kept hb1) (by show ¬ gv = bO; omega)
  have HL2 : Hid (Own W2 2 g1 c1' n (fun i => .int .i64 (vecT p n t i))) := hc2.own hO1 (by show ¬ g1 = bO; omega)
  have HJ : Hid (∀ W, Below W2.heap.size W2 W → IsoJ w0 p s ao n c bS bO bx (t + 1) gv W ∧ Own W 2 gv n n (fun i => .int .i64 (vecT p n t i))) := fun W hb => by
    have hs3 := hb.size
    refine ⟨⟨hB2.out.trans (hb.mono hB2.out.size), cellKp hb k0, cellKp hb k1, cellKp hb (hc2.cellN (show bx ≠ bO by omega) (cellKp hb1 CX.out)), ?_, ⟨o1, o2, o3, o4, by omega⟩, g1, c1', n, cellKp hb k2, fun _ => ⟨rfl, by have := hbel.out.size; omega, by omega, ?_⟩⟩, HO2.out.kept hb⟩
    · rw [frz_of_block (w := W2) (hb.block bO (by omega))]; exact k3
    · exact HL2.out.kept hb
  have HN2 := Lib.hid (fun W (hb : Below W2.heap.size W2 W) => HN.out W (hB2.out.trans (hb.mono hB2.out.size)) (HO2.out.kept hb))
  have HZ2 := Lib.hid (HZ.out W2 HO2.out)
  clear HN HZ HCL q1 c0 c1 f3 hO1 hc2 k2 k3 HL2
  cases q
  · go_wp2_with fail
    go_at_call 89
    refine HZ2.out.mono ?_
    rintro e w' ⟨rfl, rfl⟩
    go_wp2_with fail
    go_at_call 73
    refine Calls.makes' (HN2.out _ (by first | exact Below.refl _ _ | exact below_drewN _ _)) _ fun w3 hb3 => ?_
    have hfin := Lib.hid (HJ.out w3 (by first | exact hb3 | exact (below_drewN _ _).trans (hb3.mono (below_drewN _ _).size)))
    clear hb3 HN2 HZ2
    go_wp2
    go_ret
    exact ⟨by rw [hoke.out]; rfl, hfin.out⟩
  · go_wp2_with fail
    go_at_call 89
    refine HZ2.out.mono ?_
    rintro e w' ⟨rfl, rfl⟩
    have hfin := HJ.out
    clear HN2 HZ2
    go_wp2
    go_ret
    exact ⟨by rw [hoke.out]; rfl, hfin _ (by first | exact Below.refl _ _ | exact below_drewN _ _)⟩

/-- the code and the list of both -/
theorem iso_none {p : Int} {s : Nat → Int} {n tT : Nat} (hT : p ^ n = (tT : Int)) (h : ∀ t, t < tT → isoB p s n t = false) : isoN p s n = tT := by
  unfold isoN
  rw [hT, Int.toNat_natCast]
  rcases Nat.lt_or_ge (fst (isoB p s n) tT) tT with h1 | h1
  · have := fst_is _ _ h1
    rw [h _ h1] at this; exact absurd this (by simp)
  · have := fst_le (isoB p s n) tT; omega
theorem iso_some {p : Int} {s : Nat → Int} {n tT t : Nat} (hT : p ^ n = (tT : Int)) (ht : t < tT) (h1 : isoB p s n t = true) (h : ∀ u, u < t → isoB p s n u = false) : isoN p s n = t := by
  unfold isoN
  rw [hT, Int.toNat_natCast]
  exact fst_at ht (fun j hj => h j hj) h1

set_option maxRecDepth 100000 in
set_option maxHeartbeats 4000000 in
theorem iIsotropicVector_c (p : Int) (sv : Value) (n : Nat) (s : Nat → Int) (w : World) (h : Ints w sv n s) :
    Calls Try.prog 30 #[dbl p sv] w fun e w' => ResO w w' e (isoC p n s) (if isoC p n s = 0 then n else 0) (vecT p n (isoN p s n)) := by
  obtain ⟨M0, hM0⟩ : ∃ M, (if isoC p n s = 0 then n else 0) = M := ⟨_, rfl⟩
  rw [hM0]
  obtain ⟨cc, hcc⟩ : ∃ cc, isoC p n s = cc := ⟨_, rfl⟩
  rw [hcc] at hM0
  rw [hcc]
  have HM0 := Lib.hid hM0
  have HCC := Lib.hid hcc
  clear hM0 hcc
  have H' := Lib.hid h
  obtain ⟨ao, c, b, o, rfl, p2, p3, qx⟩ := h.out
  clear qx
  have BX := Lib.hid (box0 w p ao n c 26)
  obtain ⟨e0, e1, e2, e3⟩ := BX.out
  cases hok : spB p n s
  · have hvc : isoC p n s = 1 := by unfold isoC; rw [hok]; rfl
    have e1 : cc = 1 := by rw [← HCC.out, hvc]
    have e2 : M0 = 0 := by rw [← HM0.out, e1]; rfl
    subst e1
    subst e2
    clear HM0 HCC hvc
    go_enter Try.func30, Try.ntmps30
    go_wp2_with fail
    refine Calls.makes' (iIsSp_c _ _ _ _ _ (H'.out.below e3)) _ fun w1 hb1 => ?_
    rw [hok]
    have hf := e3.trans (hb1.mono e3.size)
    go_wp2
    go_ret2
    exact ⟨none, 0, rfl, hf, ⟨Or.inl ⟨rfl, rfl, rfl⟩⟩⟩
  · have hsp := spB_ok hok
    have hpb := hsp.bd
    have hn6 := hsp.n6
    have hvc : isoC p n s = if isoN p s n < (p ^ n).toNat then 0 else 4 := by unfold isoC; rw [hok]; rfl
    have HVC := Lib.hid hvc
    have HOK := Lib.hid hok
    have HV : Hid (∀ W, Below w.heap.size w W → SV W (.slice ao n c) p n s) := fun W hb => ⟨H'.out.below hb, hsp⟩
    have hpn := pow_sm hpb.1 hpb.2 hn6
    obtain ⟨tT, hT⟩ := Int.eq_ofNat_of_zero_le (show 0 ≤ p ^ n by omega)
    have HTT := Lib.hid hT
    have hmf : ∀ (fn : Fn) (first cap : Array Value) (w : World), (Instr.makeFunc fn first cap).run Try.prog w = .ok (.func fn first cap) w := fun _ _ _ _ => rfl
    clear hok hsp hvc h hpn hT
    go_enter Try.func30, Try.ntmps30
    go_wp2_with fail
    refine Calls.makes' (iIsSp_c _ _ _ _ _ (H'.out.below e3)) _ fun w3 hb3 => ?_
    rw [HOK.out]
    have BX3 := Lib.hid (boxKeep hb3 BX.out)
    obtain ⟨f0, f1, f2, f3⟩ := BX3.out
    have hsA : (w3.alloc (.cells #[] 2)).heap.size = w3.heap.size + 1 := alloc_size _ _
    have hsB : ((w3.alloc (.cells #[] 2)).alloc (.cells #[.slice (some ⟨w3.heap.size, 0, none⟩) 0 0] 24)).heap.size = (w3.alloc (.cells #[] 2)).heap.size + 1 := alloc_size _ _
    have BX4 := boxKeep ((Below.refl _ _).alloc (Nat.le_refl _) (.cells #[] 2)) BX3.out
    have BX5 := Lib.hid (boxKeep ((Below.refl _ _).alloc (Nat.le_refl _) (.cells #[.slice (some ⟨w3.heap.size, 0, none⟩) 0 0] 24)) BX4)
    have hOb := Own.new (w3.alloc (.cells #[] 2)) 24 #[.slice (some ⟨w3.heap.size, 0, none⟩) 0 0] (fun _ => .slice (some ⟨w3.heap.size, 0, none⟩) 0 0) (by simp) (fun i hi => by
      obtain rfl : i = 0 := by simp at hi; omega
      rfl)
    have hcb := hOb.cell (i := 0) (by simp)
    have hfb := hOb.frozen 0
    obtain ⟨W4, hW4⟩ : ∃ W4, (w3.alloc (.cells #[] 2)).alloc (.cells #[.slice (some ⟨w3.heap.size, 0, none⟩) 0 0] 24) = W4 := ⟨_, rfl⟩
    have HW4 := Lib.hid hW4
    rw [hW4] at BX5 hOb hcb hfb hsB
    rw [hsA] at hcb hfb
    obtain ⟨g0, g1, g2, g3⟩ := BX5.out
    have hVS := iVectorsIso_c p ao n c (.pointer (some ⟨w3.heap.size + 1, 0, none⟩)) (.pointer (some ⟨w.heap.size, 0, none⟩)) tT W4 hpb hn6 HTT.out (fun t gv W => IsoJ w p s ao n c w.heap.size (w3.heap.size + 1) W4.heap.size t gv W) (isoB p s n)
      (fun gv W hb h1 h2 h3 => by
        refine ⟨g3.trans (hb.mono g3.size), cellKp hb g0, cellKp hb g1, h3, ?_, ⟨Nat.le_refl _, by have := f3.size; omega, by omega, h1, h2⟩, w3.heap.size, 0, 0, cellKp hb hcb, fun e => absurd rfl e⟩
        rw [frz_of_block (w := W4) (hb.block _ (by show w3.heap.size + 1 < _; omega))]; exact hfb)
      (fun t gv W W' h hc _ => h.chgV hc)
      (fun t gv W h => h.cx)
      (fun t gv W ht _ h hO => iIsoCl_c w p s ao n c _ _ _ t gv W (HV.out w (Below.refl _ _)) h hO (by rw [HTT.out]; omega))
    have HVS := Lib.hid hVS
    clear hVS BX4 BX5 hOb g3 g2
    go_wp2_with fail
    go_at_call 79
    refine HVS.out.mono ?_
    rintro e w5 ⟨gv, ⟨rfl, hno, hJ⟩ | ⟨t, ht, rfl, h1, h2, hJ⟩⟩
    · have HI := Lib.hid (iso_none HTT.out hno)
      have hf := hJ.below
      clear hno hJ HVS
      go_wp2
      go_ret2
      have e1 : cc = 4 := by rw [← HCC.out, HVC.out, HTT.out, Int.toNat_natCast, HI.out, if_neg (Nat.lt_irrefl _)]
      have e2 : M0 = 0 := by rw [← HM0.out, e1]; rfl
      subst e1
      subst e2
      exact ⟨none, 0, rfl, hf, ⟨Or.inl ⟨rfl, rfl, rfl⟩⟩⟩
    · have HI := Lib.hid (iso_some HTT.out ht h1 h2)
      obtain ⟨g', c', m', q1, q2⟩ := hJ.out
      obtain ⟨rfl, q3, q4, q5⟩ := q2 (by omega)
      have hf := hJ.below
      rw [Nat.add_sub_cancel] at q5
      have Q5 := Lib.hid q5
      have HLT := Lib.hid ht
      clear h1 h2 hJ HVS q2 q5 ht
      go_wp2
      go_ret2
      have e1 : cc = 0 := by rw [← HCC.out, HVC.out, HTT.out, Int.toNat_natCast, HI.out, if_pos HLT.out]
      have e2 : M0 = m' := by rw [← HM0.out, e1]; rfl
      subst e1
      subst e2
      rw [HI.out]
      exact ⟨some ⟨g', 0, none⟩, c', rfl, hf, ⟨Or.inr ⟨g', rfl, ⟨q3, Q5.out.lt⟩, Q5.out⟩⟩⟩

theorem sNextT_c (p : Int) (n tT t : Nat) (W : World) (g : Nat) (hp : 2 ≤ p ∧ p ≤ 1000) (hn : n ≤ 1000) (hT : p ^ n = (tT : Int)) (ht : t < tT) (hO : Own W 2 g n n (fun i => .int .i64 (vecT p n t i))) :
    Calls Try.prog 84 #[.int .i64 p, .slice (some ⟨g, 0, none⟩) n n] W fun e w' => ∃ b, e = .returned (.bool b) ∧ Chg W w' (· = g) ∧ ((b = true ∧ t + 1 < tT ∧ Own w' 2 g n n (fun i => .int .i64 (vecT p n (t + 1) i))) ∨ (b = false ∧ t + 1 = tT)) :=
  (sNextV_c p g n (vecT p n t) W hO (vecT_in (by omega) n t n) (by omega) (by omega) (by omega)).mono fun e w' ⟨b, he, hnv⟩ => by
    obtain ⟨X', hO', hcase⟩ := hnv.out
    rcases next_vecT (show 1 ≤ p by omega) (t := t) (by rw [hT]; omega) hcase with ⟨rfl, h1, h2⟩ | ⟨rfl, h1⟩
    · exact ⟨true, he, hnv.chg, Or.inl ⟨rfl, by rw [hT] at h1; omega, hO'.congr fun i hi => by rw [h2 i hi]⟩⟩
    · exact ⟨false, he, hnv.chg, Or.inr ⟨rfl, by rw [hT] at h1; omega⟩⟩

set_option maxRecDepth 100000 in
set_option maxHeartbeats 4000000 in
theorem sIsotropic_c (p : Int) (sv : Value) (n : Nat) (s : Nat → Int) (tT : Nat) (w : World) (hd : SV w sv p n s) (hT : p ^ n = (tT : Int)) :
    Calls Try.prog 90 #[dbl p sv] w fun e w' => ∃ a M c, e = .returned (.slice a M c) ∧ Below w.heap.size w w' ∧ OI w' w.heap.size w'.heap.size a c M (vecT p n (isoN p s n)) ∧ M = if isoN p s n < tT then n else 0 := by
  have hpb := hd.ok.bd
  have hn6 := hd.ok.n6
  have hp0 : 1 ≤ tT := by
    have := pow_sm hpb.1 hpb.2 hn6
    omega
  have HT := Lib.hid hT
  obtain ⟨MM, hMM⟩ : ∃ M, (if isoN p s n < tT then n else 0) = M := ⟨_, rfl⟩
  rw [hMM]
  have HMM := Lib.hid hMM
  clear hMM
  have HD := Lib.hid hd
  obtain ⟨ao, c, b, o, rfl, p2, p3, qx⟩ := hd.ints.out
  clear qx hT hd
  have BX := Lib.hid (box0 w p ao n c 26)
  obtain ⟨e0, e1, e2, e3⟩ := BX.out
  have hsb : (w.alloc (.cells #[.int .i64 p, .slice ao n c] 26)).heap.size = w.heap.size + 1 := alloc_size _ _
  go_enter Try.func90, Try.ntmps90
  go_wp2_with (at_make; refine wpList_mkA _ rfl _ _ _ _ elI rfl rfl .i64 .i64 n rfl rfl (by omega) (by omega) ?_; intro W3 hB3 hS3 hO3; have HS3 := Lib.hid hS3; clear hS3)
  rw [hsb] at hO3
  obtain ⟨gv, hgv⟩ : ∃ gv, w.heap.size + 1 = gv := ⟨_, rfl⟩
  rw [hgv] at hO3
  try rw [hsb]
  try rw [hgv]
  have HO3 : Hid (Own W3 2 gv n n (fun i => .int .i64 (vecT p n 0 i))) := hO3.congr fun i hi => by rw [vecT_zero]
  have BX3 := Lib.hid (boxKeep hB3 BX.out)
  have hwg : w.heap.size < gv := by omega
  clear hO3 hB3 HS3 BX e0 e1 e2 e3 hsb
  go_loopg [11] tT (fun g (o : Value) wr => ∃ t : Nat, t < tT ∧ g = tT - t ∧ BoxD w p ao n c wr ∧ Hid (Own wr 2 gv n n (fun i => .int .i64 (vecT p n t i))) ∧ Hid (∀ u, u ≤ t → isoB p s n u = false))
  case atStart => exact ⟨0, by omega, rfl, BX3.out, HO3.out, fun u hu => by
    obtain rfl : u = 0 := by omega
    rfl⟩
  case round =>
    obtain ⟨t, ht, rfl, hbx, hO, hU⟩ := hrel
    clear HO3 BX3
    have BXr := Lib.hid hbx
    obtain ⟨f0, f1, f2, f3⟩ := hbx
    have HN := Lib.hid (sNextT_c p n tT t _ gv (by omega) (by omega) HT.out ht hO.out)
    clear hO
    go_wp2_with fail
    go_at_call 84
    refine HN.out.mono ?_
    rintro e w5 ⟨b, rfl, hc, hcase⟩
    have BX5 := Lib.hid (boxChg hc hwg ⟨f0, f1, f2, f3⟩)
    obtain ⟨k0, k1, k2, k3⟩ := BX5.out
    clear hc f0 f1 f2 f3 HN BXr
    rcases hcase with ⟨rfl, hn1, hO5⟩ | ⟨rfl, hn1⟩
    · obtain ⟨a, ha⟩ : ∃ a, pairF p s n (vecT p n (t + 1)) (vecT p n (t + 1)) = a := ⟨_, rfl⟩
      have HP := Lib.hid (ha ▸ sPair_c p _ _ _ n s _ _ w5 (HD.out.below k3) ⟨hO5.ints, vecT_in (by omega) n (t + 1) n⟩ ⟨hO5.ints, vecT_in (by omega) n (t + 1) n⟩)
      have hoke : Hid (isoB p s n (t + 1) = (a == 0)) := by
        show isoB p s n (t + 1) = (a == 0)
        unfold isoB okV; rw [ha]; rfl
      have HO5 := Lib.hid hO5
      clear ha hO5
      cases hq : (a == 0)
      · go_wp2_with fail
        go_at_call 67
        refine Calls.makes' HP.out _ fun w6 hb6 => ?_
        have BX6 := Lib.hid (boxKeep hb6 BX5.out)
        have HO6 := Lib.hid (HO5.out.kept hb6)
        clear hb6 HP HO5 k0 k1 k3
        go_wp2
        go_roundg (tT - (t + 1))
        case measure => omega
        case rel => exact ⟨t + 1, hn1, rfl, BX6.out, HO6.out, fun u hu => by
          by_cases e : u = t + 1
          · subst e; exact hoke.out.trans hq
          · exact hU.out u (by omega)⟩
      · go_wp2_with fail
        go_at_call 67
        refine Calls.makes' HP.out _ fun w6 hb6 => ?_
        have hf := k3.trans (hb6.mono k3.size)
        have HO6 := Lib.hid (HO5.out.kept hb6)
        have hi := Lib.hid (iso_some HT.out hn1 (hoke.out.trans hq) (fun u hu => hU.out u (by omega)))
        have HN1 := Lib.hid hn1
        clear hb6 HP HO5 k0 k1 k3
        go_wp2
        go_ret
        exact ⟨_, _, _, rfl, hf, by rw [hi.out]; exact ⟨Or.inr ⟨gv, rfl, ⟨by omega, HO6.out.lt⟩, HO6.out⟩⟩, by rw [← HMM.out, hi.out, if_pos HN1.out]⟩
    · have hi : Hid (isoN p s n = tT) := iso_none HT.out (fun u hu => hU.out u (by omega))
      go_wp2
      go_ret
      exact ⟨none, 0, 0, rfl, k3, ⟨Or.inl ⟨rfl, rfl, rfl⟩⟩, by rw [← HMM.out, hi.out, if_neg (Nat.lt_irrefl _)]⟩

set_option maxRecDepth 100000 in
set_option maxHeartbeats 2000000 in
theorem sIsotropicVector_c (p : Int) (sv : Value) (n : Nat) (s : Nat → Int) (w : World) (h : Ints w sv n s) :
    Calls Try.prog 31 #[dbl p sv] w fun e w' => ResO w w' e (isoC p n s) (if isoC p n s = 0 then n else 0) (vecT p n (isoN p s n)) := by
  obtain ⟨M0, hM0⟩ : ∃ M, (if isoC p n s = 0 then n else 0) = M := ⟨_, rfl⟩
  rw [hM0]
  obtain ⟨cc, hcc⟩ : ∃ cc, isoC p n s = cc := ⟨_, rfl⟩
  rw [hcc] at hM0
  rw [hcc]
  have HM0 := Lib.hid hM0
  have HCC := Lib.hid hcc
  clear hM0 hcc
  have H' := Lib.hid h
  obtain ⟨ao, c, b, o, rfl, p2, p3, qx⟩ := h.out
  clear qx
  have BX := Lib.hid (box0 w p ao n c 26)
  obtain ⟨e0, e1, e2, e3⟩ := BX.out
  cases hok : spB p n s
  · have hvc : isoC p n s = 1 := by unfold isoC; rw [hok]; rfl
    have e1 : cc = 1 := by rw [← HCC.out, hvc]
    have e2 : M0 = 0 := by rw [← HM0.out, e1]; rfl
    subst e1
    subst e2
    clear HM0 HCC hvc
    go_enter Try.func31, Try.ntmps31
    go_wp2_with fail
    refine Calls.makes' (sIsSp_c _ _ _ _ _ (H'.out.below e3)) _ fun w1 hb1 => ?_
    rw [hok]
    have hf := e3.trans (hb1.mono e3.size)
    go_wp2
    go_ret2
    exact ⟨none, 0, rfl, hf, ⟨Or.inl ⟨rfl, rfl, rfl⟩⟩⟩
  · have hsp := spB_ok hok
    have hpb := hsp.bd
    have hn6 := hsp.n6
    have hn1 := hsp.n1
    have hvc : isoC p n s = if isoN p s n < (p ^ n).toNat then 0 else 4 := by unfold isoC; rw [hok]; rfl
    have HVC := Lib.hid hvc
    have HOK := Lib.hid hok
    have hpn := pow_sm hpb.1 hpb.2 hn6
    obtain ⟨tT, hT⟩ := Int.eq_ofNat_of_zero_le (show 0 ≤ p ^ n by omega)
    have HTT := Lib.hid hT
    have HI : Hid (∀ W, Below w.heap.size w W → Calls Try.prog 90 #[dbl p (.slice ao n c)] W fun e w' => ∃ a M c, e = .returned (.slice a M c) ∧ Below W.heap.size W w' ∧ OI w' W.heap.size w'.heap.size a c M (vecT p n (isoN p s n)) ∧ M = if isoN p s n < tT then n else 0) := fun W hb => sIsotropic_c p _ n s tT W ⟨H'.out.below hb, hsp⟩ HTT.out
    clear hok hsp hvc h hpn hT
    by_cases hlt : isoN p s n < tT
    · have e1 : cc = 0 := by rw [← HCC.out, HVC.out, HTT.out, Int.toNat_natCast, if_pos hlt]
      have e2 : M0 = n := by rw [← HM0.out, e1]; rfl
      subst e1
      replace e2 := e2.symm
      subst e2
      rw [if_pos hlt] at HI
      have HLT := Lib.hid hlt
      clear hlt
      go_enter Try.func31, Try.ntmps31
      go_wp2_with fail
      refine Calls.makes' (sIsSp_c _ _ _ _ _ (H'.out.below e3)) _ fun w1 hb1 => ?_
      rw [HOK.out]
      have BX1 := Lib.hid (boxKeep hb1 BX.out)
      obtain ⟨f0, f1, f2, f3⟩ := BX1.out
      clear e0 e1 e2 e3
      go_wp2_with fail
      go_at_call 90
      refine (HI.out w1 f3).mono ?_
      rintro e w2 ⟨a, M, c2, rfl, hb2, hO2, hM⟩
      replace hM := hM.symm
      subst hM
      have hf := f3.trans (hb2.mono f3.size)
      have HO2 := Lib.hid (hO2.low f3.size)
      have hne : ((n : Int) == 0) = false := by simp; omega
      clear hb2 hO2 HI f0 f1 f2 f3
      go_wp2
      go_ret2
      exact ⟨a, c2, rfl, hf, HO2.out⟩
    · have e1 : cc = 4 := by rw [← HCC.out, HVC.out, HTT.out, Int.toNat_natCast, if_neg hlt]
      have e2 : M0 = 0 := by rw [← HM0.out, e1]; rfl
      subst e1
      subst e2
      rw [if_neg hlt] at HI
      have HLT := Lib.hid hlt
      clear hlt
      go_enter Try.func31, Try.ntmps31
      go_wp2_with fail
      refine Calls.makes' (sIsSp_c _ _ _ _ _ (H'.out.below e3)) _ fun w1 hb1 => ?_
      rw [HOK.out]
      have BX1 := Lib.hid (boxKeep hb1 BX.out)
      obtain ⟨f0, f1, f2, f3⟩ := BX1.out
      clear e0 e1 e2 e3
      go_wp2_with fail
      go_at_call 90
      refine (HI.out w1 f3).mono ?_
      rintro e w2 ⟨a, M, c2, rfl, hb2, hO2, hM⟩
      subst hM
      have hf := f3.trans (hb2.mono f3.size)
      clear hb2 hO2 HI f0 f1 f2 f3
      go_wp2
      go_ret2
      exact ⟨none, 0, rfl, hf, ⟨Or.inl ⟨rfl, rfl, rfl⟩⟩⟩

end Go.Proofs.Ytnkflgigbielgaa

/-
  Which spaces have an isotropic vector: the Witt index in plain form. No condition beside sizes.
-/
set_option linter.unusedVariables false
set_option linter.unusedSimpArgs false
namespace Go.Proofs.Ytnkflgigbielgaa
open Go.RowKit

/-! ### tables -/
def rangeAny (f : Nat → Bool) : Nat → Bool
  | 0 => false
  | n + 1 => f n || rangeAny f n
def rangeAll (f : Nat → Bool) : Nat → Bool
  | 0 => true
  | n + 1 => f n && rangeAll f n
theorem rangeAny_iff {f : Nat → Bool} : ∀ {n : Nat}, rangeAny f n = true ↔ ∃ i, i < n ∧ f i = true
  | 0 => by simp [rangeAny]
  | n + 1 => by
    simp only [rangeAny, Bool.or_eq_true, rangeAny_iff (n := n)]
    constructor
    · rintro (h | ⟨i, h1, h2⟩)
      · exact ⟨n, by omega, h⟩
      · exact ⟨i, by omega, h2⟩
    · rintro ⟨i, h1, h2⟩
      by_cases e : i = n
      · subst e; exact Or.inl h2
      · exact Or.inr ⟨i, by omega, h2⟩
theorem rangeAll_at {f : Nat → Bool} : ∀ {n : Nat}, rangeAll f n = true → ∀ i, i < n → f i = true
  | 0, _, i, hi => absurd hi (Nat.not_lt_zero _)
  | n + 1, h, i, hi => by
    simp only [rangeAll, Bool.and_eq_true] at h
    by_cases e : i = n
    · subst e; exact h.1
    · exact rangeAll_at h.2 i (by omega)

def tab2 (P : Nat) : Bool := rangeAll (fun a => rangeAll (fun b => a == 0 || b == 0 ||
  ((rangeAny (fun x => rangeAny (fun y => !(x == 0 && y == 0) && (a * x * x + b * y * y) % P == 0) P) P) == rangeAny (fun r => r * r % P == (P - a * b % P) % P) P)) P) P
def tab3 (P : Nat) : Bool := rangeAll (fun a => rangeAll (fun b => rangeAll (fun c => a == 0 || b == 0 || rangeAny (fun x => rangeAny (fun y => (a * x * x + b * y * y + c) % P == 0) P) P) P) P) P
theorem tab2_3 : tab2 3 = true := by decide +kernel
theorem tab2_5 : tab2 5 = true := by decide +kernel
theorem tab2_7 : tab2 7 = true := by decide +kernel
theorem tab2_11 : tab2 11 = true := by decide +kernel
theorem tab2_13 : tab2 13 = true := by decide +kernel
theorem tab3_3 : tab3 3 = true := by decide +kernel
theorem tab3_5 : tab3 5 = true := by decide +kernel
theorem tab3_7 : tab3 7 = true := by decide +kernel
theorem tab3_11 : tab3 11 = true := by decide +kernel
theorem tab3_13 : tab3 13 = true := by decide +kernel
theorem tabs {P : Nat} (hp : primeB (P : Int) = true) : tab2 P = true ∧ tab3 P = true := by
  have hc := primeB_cases hp
  have h : P = 3 ∨ P = 5 ∨ P = 7 ∨ P = 11 ∨ P = 13 := by omega
  rcases h with rfl | rfl | rfl | rfl | rfl
  · exact ⟨tab2_3, tab3_3⟩
  · exact ⟨tab2_5, tab3_5⟩
  · exact ⟨tab2_7, tab3_7⟩
  · exact ⟨tab2_11, tab3_11⟩
  · exact ⟨tab2_13, tab3_13⟩
theorem hasRoot_iff {P : Nat} {a : Int} : hasRoot P a = true ↔ ∃ r : Nat, r < P ∧ ((r : Int) * r) % P = a := by
  unfold hasRoot
  rw [decide_eq_true_iff]
  constructor
  · intro h
    have := fst_is _ _ h
    exact ⟨_, h, by simpa [rootB] using this⟩
  · rintro ⟨r, h1, h2⟩
    rcases Nat.lt_or_ge (fst (rootB P a) P) P with h | h
    · exact h
    · have := fst_before (rootB P a) P r (by omega)
      simp [rootB, h2] at this
/-- two squares -/
theorem two_iff {P a b : Nat} (hp : primeB (P : Int) = true) (ha : 0 < a ∧ a < P) (hb : 0 < b ∧ b < P) :
    (∃ x y : Nat, x < P ∧ y < P ∧ ¬ (x = 0 ∧ y = 0) ∧ (a * x * x + b * y * y) % P = 0) ↔ hasRoot P ((((P - a * b % P) % P : Nat)) : Int) = true := by
  have h := rangeAll_at (rangeAll_at (tabs hp).1 a ha.2) b hb.2
  have ha0 : (a == 0) = false := by simp; omega
  have hb0 : (b == 0) = false := by simp; omega
  rw [ha0, hb0, Bool.false_or, Bool.false_or] at h
  have h2 : ∀ u v : Bool, (u == v) = true → (u = true ↔ v = true) := by decide
  have h3 := h2 _ _ h
  have e1 : (rangeAny (fun x => rangeAny (fun y => !(x == 0 && y == 0) && (a * x * x + b * y * y) % P == 0) P) P) = true ↔ ∃ x y : Nat, x < P ∧ y < P ∧ ¬ (x = 0 ∧ y = 0) ∧ (a * x * x + b * y * y) % P = 0 := by
    rw [rangeAny_iff]
    constructor
    · rintro ⟨x, hx, h⟩
      obtain ⟨y, hy, h⟩ := rangeAny_iff.1 h
      simp only [Bool.and_eq_true, beq_iff_eq] at h
      exact ⟨x, y, hx, hy, fun e => by rw [e.1, e.2] at h; exact absurd h.1 (by decide), h.2⟩
    · rintro ⟨x, y, hx, hy, h1, h2⟩
      refine ⟨x, hx, rangeAny_iff.2 ⟨y, hy, ?_⟩⟩
      simp only [Bool.and_eq_true, beq_iff_eq]
      refine ⟨?_, h2⟩
      cases hxy : (x == 0 && y == 0)
      · rfl
      · simp only [Bool.and_eq_true, beq_iff_eq] at hxy
        exact absurd hxy h1
  have e2 : rangeAny (fun r => r * r % P == (P - a * b % P) % P) P = true ↔ hasRoot P ((((P - a * b % P) % P : Nat)) : Int) = true := by
    rw [rangeAny_iff, hasRoot_iff]
    constructor
    · rintro ⟨r, hr, h⟩
      simp only [beq_iff_eq] at h
      exact ⟨r, hr, by rw [← h]; push_cast; rfl⟩
    · rintro ⟨r, hr, h⟩
      refine ⟨r, hr, ?_⟩
      simp only [beq_iff_eq]
      have h4 : ((r * r % P : Nat) : Int) = (((P - a * b % P) % P : Nat) : Int) := by rw [← h]; push_cast; rfl
      exact Int.ofNat.inj h4
  exact e1.symm.trans (h3.trans e2)
theorem three_ex {P a b c : Nat} (hp : primeB (P : Int) = true) (ha : 0 < a ∧ a < P) (hb : 0 < b ∧ b < P) (hc : c < P) : ∃ x y : Nat, x < P ∧ y < P ∧ (a * x * x + b * y * y + c) % P = 0 := by
  have h := rangeAll_at (rangeAll_at (rangeAll_at (tabs hp).2 a ha.2) b hb.2) c hc
  have ha0 : (a == 0) = false := by simp; omega
  have hb0 : (b == 0) = false := by simp; omega
  rw [ha0, hb0, Bool.false_or, Bool.false_or] at h
  obtain ⟨x, hx, h⟩ := rangeAny_iff.1 h
  obtain ⟨y, hy, h⟩ := rangeAny_iff.1 h
  exact ⟨x, y, hx, hy, by simpa using h⟩

/-! ### vectors -/
theorem sumF_few {f : Nat → Int} {k : Nat} : ∀ {n : Nat}, k ≤ n → (∀ i, k ≤ i → i < n → f i = 0) → sumF f n = sumF f k
  | 0, h, _ => by obtain rfl : k = 0 := by omega
                  rfl
  | n + 1, h, hz => by
    by_cases e : k = n + 1
    · rw [e]
    · rw [sumF, hz n (by omega) (by omega), sumF_few (by omega) (fun i h1 h2 => hz i h1 (by omega))]; simp
theorem pairF_congr2 {p : Int} {s X X' : Nat → Int} {n : Nat} (h : ∀ i, i < n → X i = X' i) : pairF p s n X X = pairF p s n X' X' := by
  unfold pairF
  rw [sumF_congr fun i hi => by rw [h i hi]]
/-- a vector gives a number -/
theorem iso_of_vec {p : Int} {s X : Nat → Int} {n tT i : Nat} (hp : 1 ≤ p) (hT : p ^ n = (tT : Int)) (hX : InP p n X) (hi : i < n) (hx : X i ≠ 0) (h : pairF p s n X X = 0) : isoN p s n < tT := by
  have hb := valV_bd hp hX
  obtain ⟨t, ht⟩ := Int.eq_ofNat_of_zero_le hb.1
  have htl : (t : Int) < p ^ n := by omega
  have hv := vecT_val hp htl hX ht
  have h1 : isoB p s n t = true := by
    unfold isoB okV
    rw [← pairF_congr2 hv, h]
    have : t ≠ 0 := fun e => by subst e; exact hx (by rw [hv i hi, vecT_zero])
    simp [this]
  unfold isoN
  rw [hT, Int.toNat_natCast]
  have hlt : t < tT := by omega
  rcases Nat.lt_or_ge (fst (isoB p s n) tT) tT with h2 | h2
  · exact h2
  · have := fst_before (isoB p s n) tT t (by omega)
    rw [h1] at this; exact absurd this (by simp)
/-- a number gives a vector -/
theorem vec_of_iso {p : Int} {s : Nat → Int} {n tT : Nat} (hp : 1 ≤ p) (hT : p ^ n = (tT : Int)) (h : isoN p s n < tT) : pairF p s n (vecT p n (isoN p s n)) (vecT p n (isoN p s n)) = 0 ∧ ∃ i, i < n ∧ vecT p n (isoN p s n) i ≠ 0 := by
  have h1 : isoB p s n (isoN p s n) = true := by
    have h' := h
    unfold isoN at h' ⊢
    rw [hT, Int.toNat_natCast] at h' ⊢
    exact fst_is _ _ h'
  unfold isoB okV at h1
  simp only [Bool.and_eq_true, beq_iff_eq, bne_iff_ne, ne_eq] at h1
  have hl := lead_vecT hp (n := n) (t := isoN p s n) (by rw [hT]; omega)
  have hne : ldd n (vecT p n (isoN p s n)) ≠ n := fun e => by
    rw [e] at hl; simp at hl; exact h1.1 hl
  have hle := ldd_le n (vecT p n (isoN p s n))
  exact ⟨h1.2, ldd n _, by omega, ldd_is (by omega)⟩

/-! ### the Witt index -/
def witV (p : Int) (n : Nat) (s : Nat → Int) : Int :=
  if n % 2 = 1 then ((n / 2 : Nat) : Int) else if hasRoot p.toNat (if n / 2 % 2 = 1 then (p - dF p s n) % p else dF p s n) then ((n / 2 : Nat) : Int) else ((n / 2 : Nat) : Int) - 1
def regB (s : Nat → Int) (n : Nat) : Bool := !decide (0 ≤ idx s 0 n)
theorem regB_at {s : Nat → Int} {n : Nat} (h : regB s n = true) : ∀ j, j < n → s j ≠ 0 := by
  unfold regB at h
  have h2 : ¬ 0 ≤ idx s 0 n := by simpa using h
  exact idx_neg h2
theorem regB_not {s : Nat → Int} {n : Nat} (h : regB s n = false) : ∃ j, j < n ∧ s j = 0 := by
  unfold regB at h
  exact idx_some (by simpa using h)

/-- a space that is not regular has an isotropic vector -/
theorem iso_flat {p : Int} {n tT : Nat} {s : Nat → Int} (hok : SpOk p n s) (hT : p ^ n = (tT : Int)) (h : regB s n = false) : isoN p s n < tT := by
  have hpb := hok.bd
  obtain ⟨j, hj, h0⟩ := regB_not h
  refine iso_of_vec (X := fun i => if i = j then 1 else 0) (i := j) (by omega) hT (fun i hi => ?_) hj (by simp) ?_
  · show 0 ≤ (if i = j then (1 : Int) else 0) ∧ (if i = j then (1 : Int) else 0) < p
    by_cases e : i = j <;> simp [e] <;> omega
  · unfold pairF
    rw [sumF_congr (g := fun _ => 0) fun i hi => ?_, sumF_zero]; · rfl
    show s i * (if i = j then 1 else 0) * (if i = j then 1 else 0) = 0
    by_cases e : i = j
    · subst e; rw [h0]; simp
    · simp [e]

theorem nat_of {p : Int} {n : Nat} {s : Nat → Int} (hok : SpOk p n s) (hr : regB s n = true) {i : Nat} (hi : i < n) : ∃ a : Nat, s i = a ∧ 0 < a ∧ (a : Int) < p := by
  have h1 := hok.inp i hi
  have h2 := regB_at hr i hi
  obtain ⟨a, ha⟩ := Int.eq_ofNat_of_zero_le h1.1
  exact ⟨a, ha, by omega, by omega⟩

/-- a regular space has an isotropic vector exactly if its Witt index is positive -/
theorem iso_witt {p : Int} {n tT : Nat} {s : Nat → Int} (hok : SpOk p n s) (hT : p ^ n = (tT : Int)) (hr : regB s n = true) : (isoN p s n < tT ↔ 0 < witV p n s) ∧ 0 ≤ witV p n s := by
  have hpb := hok.bd
  have hn1 := hok.n1
  have hpr := hok.prime
  obtain ⟨P, rfl⟩ := Int.eq_ofNat_of_zero_le (show 0 ≤ p by omega)
  by_cases h3 : 3 ≤ n
  · have hw : 0 < witV (P : Int) n s := by
      unfold witV
      split
      · omega
      · split <;> omega
    refine ⟨⟨fun _ => hw, fun _ => ?_⟩, by omega⟩
    obtain ⟨a, ha, a0, aP⟩ := nat_of hok hr (i := 0) (by omega)
    obtain ⟨b, hb, b0, bP⟩ := nat_of hok hr (i := 1) (by omega)
    obtain ⟨c, hc, c0, cP⟩ := nat_of hok hr (i := 2) (by omega)
    obtain ⟨x, y, hx, hy, h⟩ := three_ex (P := P) (a := a) (b := b) (c := c) hpr ⟨a0, by omega⟩ ⟨b0, by omega⟩ (by omega)
    refine iso_of_vec (X := fun i => if i = 0 then (x : Int) else if i = 1 then (y : Int) else if i = 2 then 1 else 0) (i := 2) (by omega) hT (fun i hi => ?_) (by omega) (by simp) ?_
    · show 0 ≤ (if i = 0 then (x : Int) else if i = 1 then (y : Int) else if i = 2 then 1 else 0) ∧ (if i = 0 then (x : Int) else if i = 1 then (y : Int) else if i = 2 then 1 else 0) < (P : Int)
      split
      · omega
      · split
        · omega
        · split <;> omega
    · unfold pairF
      rw [sumF_few h3 (fun i h1 h2 => by simp [show ¬ i = 0 by omega, show ¬ i = 1 by omega, show ¬ i = 2 by omega])]
      simp only [sumF]
      simp only [if_pos, if_neg (show ¬ (1 : Nat) = 0 by omega), if_neg (show ¬ (2 : Nat) = 0 by omega), if_neg (show ¬ (2 : Nat) = 1 by omega), ha, hb, hc]
      have h4 : (((a * x * x + b * y * y + c) % P : Nat) : Int) = 0 := by rw [h]; rfl
      push_cast at h4
      rw [← h4]; congr 1; grind
  · by_cases h2 : n = 2
    · subst h2
      obtain ⟨a, ha, a0, aP⟩ := nat_of hok hr (i := 0) (by omega)
      obtain ⟨b, hb, b0, bP⟩ := nat_of hok hr (i := 1) (by omega)
      have h2 := two_iff (P := P) (a := a) (b := b) hpr ⟨a0, by omega⟩ ⟨b0, by omega⟩
      have hd : (((P : Int) - dF (P : Int) s 2) % (P : Int)) = ((((P - a * b % P) % P : Nat)) : Int) := by
        have e : dF (P : Int) s 2 = ((a * b % P : Nat) : Int) := by
          show ((1 * s 0) % (P : Int) * s 1) % (P : Int) = _
          rw [ha, hb, mod_mul_mod]; push_cast; congr 1; grind
        rw [e]
        have := Nat.mod_lt (a * b) (show 0 < P by omega)
        rw [show (P : Int) - ((a * b % P : Nat) : Int) = ((P - a * b % P : Nat) : Int) by omega]
        push_cast; rfl
      have hw : witV (P : Int) 2 s = if hasRoot P ((((P - a * b % P) % P : Nat)) : Int) then 1 else 0 := by
        unfold witV
        rw [if_neg (show ¬ (2 : Nat) % 2 = 1 by decide), if_pos (show (2 : Nat) / 2 % 2 = 1 by decide), Int.toNat_natCast, hd]
        split <;> rfl
      rw [hw]
      refine ⟨⟨fun hi => ?_, fun hi => ?_⟩, by split <;> decide⟩
      · obtain ⟨h4, i, hi2, hne⟩ := vec_of_iso (by omega) hT hi
        have hin := vecT_in (p := (P : Int)) (by omega) 2 (isoN (P : Int) s 2) 2
        obtain ⟨x, hx⟩ := Int.eq_ofNat_of_zero_le (hin 0 (by omega)).1
        obtain ⟨y, hy⟩ := Int.eq_ofNat_of_zero_le (hin 1 (by omega)).1
        have l1 := (hin 0 (by omega)).2
        have l2 := (hin 1 (by omega)).2
        have h5 : (((a * x * x + b * y * y) % P : Nat) : Int) = 0 := by
          unfold pairF at h4
          simp only [sumF, hx, hy, ha, hb] at h4
          push_cast
          rw [← h4]; congr 1; grind
        have h6 := h2.1 ⟨x, y, by omega, by omega, fun e => by
          have h7 : i = 0 ∨ i = 1 := by omega
          rcases h7 with rfl | rfl
          · rw [hx] at hne; exact hne (by rw [e.1]; rfl)
          · rw [hy] at hne; exact hne (by rw [e.2]; rfl), by omega⟩
        rw [h6]; decide
      · have h6 : hasRoot P ((((P - a * b % P) % P : Nat)) : Int) = true := by
          cases h : hasRoot P ((((P - a * b % P) % P : Nat)) : Int)
          · rw [h] at hi; exact absurd hi (by decide)
          · rfl
        obtain ⟨x, y, hx, hy, h0, h⟩ := h2.2 h6
        have hX : ∀ k, k < 2 → (k = 0 ∧ x ≠ 0) ∨ (k = 1 ∧ y ≠ 0) → isoN (P : Int) s 2 < tT := fun k hk hkk => by
          refine iso_of_vec (X := fun i => if i = 0 then (x : Int) else (y : Int)) (i := k) (by omega) hT (fun i hi => ?_) hk ?_ ?_
          · show 0 ≤ (if i = 0 then (x : Int) else (y : Int)) ∧ (if i = 0 then (x : Int) else (y : Int)) < (P : Int)
            split <;> omega
          · show (if k = 0 then (x : Int) else (y : Int)) ≠ 0
            rcases hkk with ⟨rfl, h⟩ | ⟨rfl, h⟩
            · simp; omega
            · simp; omega
          · unfold pairF
            simp only [sumF, if_pos, if_neg (show ¬ (1 : Nat) = 0 by omega), ha, hb]
            have h4 : (((a * x * x + b * y * y) % P : Nat) : Int) = 0 := by rw [h]; rfl
            push_cast at h4
            rw [← h4]; congr 1; grind
        by_cases hx0 : x = 0
        · exact hX 1 (by omega) (Or.inr ⟨rfl, fun e => h0 ⟨hx0, e⟩⟩)
        · exact hX 0 (by omega) (Or.inl ⟨rfl, hx0⟩)
    · obtain rfl : n = 1 := by omega
      obtain ⟨a, ha, a0, aP⟩ := nat_of hok hr (i := 0) (by omega)
      have hw : witV (P : Int) 1 s = 0 := by unfold witV; rw [if_pos (by decide)]; rfl
      rw [hw]
      refine ⟨⟨fun hi => ?_, fun hi => absurd hi (by decide)⟩, by decide⟩
      obtain ⟨h4, i, hi2, hne⟩ := vec_of_iso (by omega) hT hi
      obtain rfl : i = 0 := by omega
      have hin := vecT_in (p := (P : Int)) (by omega) 1 (isoN (P : Int) s 1) 1 0 (by omega)
      unfold pairF at h4
      simp only [sumF, ha] at h4
      have h1 := mul_nz hpr (a := (a : Int)) (b := vecT (P : Int) 1 (isoN (P : Int) s 1) 0) (by omega) (by omega) (by omega) hin.2
      have h2 := mod_bd ((a : Int) * vecT (P : Int) 1 (isoN (P : Int) s 1) 0) P (by omega)
      have h3 := mul_nz hpr (a := ((a : Int) * vecT (P : Int) 1 (isoN (P : Int) s 1) 0) % P) (b := vecT (P : Int) 1 (isoN (P : Int) s 1) 0) (by omega) h2.2 (by omega) hin.2
      rw [mod_mul_mod] at h3
      rw [Int.zero_add] at h4
      exact absurd h4 h3

end Go.Proofs.Ytnkflgigbielgaa

/-
  WittIndex in both programs. No condition beside sizes.
-/
set_option linter.unusedVariables false
set_option linter.unusedSimpArgs false
namespace Go.Proofs.Ytnkflgigbielgaa
open Go.RowKit

theorem root_ge (P : Nat) (a : Int) : decide (0 ≤ idxB (rootB P a) P) = hasRoot P a := by
  unfold hasRoot
  by_cases h : fst (rootB P a) P < P
  · have e : idxB (rootB P a) P = fst (rootB P a) P := idxB_at h (fun j hj => fst_before _ _ _ hj) (fst_is _ _ h)
    rw [e, decide_eq_true h]; simp
  · have hl := fst_le (rootB P a) P
    have e : idxB (rootB P a) P = -1 := idxB_none (fun j hj => fst_before _ P j (by omega))
    rw [e, decide_eq_false h]; rfl

set_option maxRecDepth 100000 in
set_option maxHeartbeats 2000000 in
theorem iDiscS_c (p : Int) (sv : Value) (n : Nat) (s : Nat → Int) (w : World) (hd : SV w sv p n s) :
    Calls Try.prog 94 #[dbl p sv] w fun e w' => Makes w w' e (.int .i64 (dF p s n)) := by
  have hpb := hd.ok.bd
  have hs := hd.ok.inp
  obtain ⟨ao, c, b, o, rfl, p2, p3, p4, p5⟩ := hd.ints.out
  have P5 := Lib.hid p5
  have HS := Lib.hid hs
  obtain ⟨e0, e1, e2, e3⟩ := box0 w p ao n c 26
  clear p5 hs hd
  go_enter Try.func94, Try.ntmps94
  go_wp2
  go_loopg [3, 9] n (fun g u i wr => ∃ k : Nat, k ≤ n ∧ g = n - k ∧ i = .int .i64 k ∧ u = .int .i64 (dF p s k) ∧ BoxD w p ao n c wr)
  case atStart => exact ⟨0, Nat.zero_le _, rfl, rfl, rfl, ⟨e0, e1, e2, e3⟩⟩
  case round =>
    obtain ⟨k, hk, rfl, rfl, rfl, ⟨f0, f1, f2, f3⟩⟩ := hrel
    have BXr := Lib.hid (show BoxD w p ao n c wr from ⟨f0, f1, f2, f3⟩)
    clear e0 e1 e2 e3
    by_cases hlt : k < n
    · obtain rfl := p4 (by omega)
      have hlb := lt_of_cell (P5.out k hlt)
      have z1 : wr.cell? ⟨b, o + k, none⟩ = some (.int .i64 (s k)) := by rw [f3.cell (p := ⟨b, o + k, none⟩) hlb]; exact P5.out k hlt
      have hsk := HS.out k hlt
      have hq := dF_in (p := p) (by omega) s k
      have hdn : Hid (dF p s (k + 1) = (dF p s k * s k) % p) := rfl
      obtain ⟨u, hu⟩ : ∃ u, dF p s k = u := ⟨_, rfl⟩
      obtain ⟨v, hv⟩ : ∃ v, s k = v := ⟨_, rfl⟩
      rw [hu, hv] at hdn
      rw [hu] at hq
      rw [hv] at hsk z1
      rw [hu]
      have hx : 0 ≤ u * v ∧ u * v ≤ 144 := ⟨Int.mul_nonneg hq.1 hsk.1, by have := Int.mul_le_mul (show u ≤ 12 by omega) (show v ≤ 12 by omega) hsk.1 (by omega : (0:Int) ≤ 12); omega⟩
      obtain ⟨x, hxe⟩ : ∃ x, u * v = x := ⟨_, rfl⟩
      rw [hxe] at hx hdn
      have v1 : IntKind.i64.wrap (u * v) = x := wrap_as hxe (by omega)
      have CM : Hid (∀ W, Calls Try.prog 86 #[.int .i64 p, .int .i64 x] W fun e w' => e = .returned (.int .i64 (x % p)) ∧ W = w') := fun W => iNum_c p x W (by omega) (by omega) (by omega) (by omega)
      obtain ⟨y, hy⟩ : ∃ y, x % p = y := ⟨_, rfl⟩
      rw [hy] at CM hdn
      have i4 : (0 : Int) ≤ (k : Int) := by omega
      have i5 : (k : Int) < (n : Int) := by omega
      clear hu hv hxe hy hx
      go_wp2_with fail
      go_at_call 71
      refine Calls.makes' (iSField_c _ _ _) _ fun w5 hb5 => ?_
      have HBX5 := Lib.hid (boxKeep hb5 BXr.out)
      clear hb5 f0 f1 z1
      go_wp2_with fail
      go_at_call 86
      refine (CM.out _).mono ?_
      rintro e w' ⟨rfl, rfl⟩
      go_wp2
      go_roundg (n - (k + 1))
      case measure => omega
      case rel => exact ⟨k + 1, by omega, rfl, by go_num, by rw [hdn.out], HBX5.out⟩
    · obtain rfl : k = n := by omega
      go_wp2
      go_ret
      exact ⟨rfl, f3⟩

/-- an operation of a region that is not wanted is taken first -/
theorem tkOff {P : Program} {md : Region.Mode} {ops : Array Oper} {Q : Exit → Act → World → Prop} {S : World → Prop} (i d : Nat) {oi : Oper} {fuel : Nat} {listed : Array Bool} {a : Act} {w : World} (hi : ops[i]? = some oi) (hdst : oi.dst = some d)
    (hs : Region.noSelect ops = true) (hf : Region.free md ops listed i = true) (hr : (Region.ready md ops listed).contains i = true)
    (hQ : ∀ c a w, Q (.panic c) (a.put (some d) undef) w → Q (.panic c) a w) (hw : Region.wanted oi (yielded ops a.tmps) = false) (hS : S w)
    (h : wpAnyH P md ops Q S fuel (listed.setIfInBounds i true) (a.put (some d) undef) w) : wpAnyH P md ops Q S (fuel + 1) listed a w := by
  rw [← hdst] at h hQ
  exact wpAnyH_take hi hs hf hr hQ (Or.inr ⟨hw, rfl⟩) hS h
/-- an operation that yields a value is taken first -/
theorem tkRun {P : Program} {md : Region.Mode} {ops : Array Oper} {Q : Exit → Act → World → Prop} {S : World → Prop} (i d : Nat) (v : Value) {oi : Oper} {fuel : Nat} {listed : Array Bool} {a : Act} {w : World} (hi : ops[i]? = some oi) (hdst : oi.dst = some d)
    (hs : Region.noSelect ops = true) (hf : Region.free md ops listed i = true) (hr : (Region.ready md ops listed).contains i = true)
    (hQ : ∀ c a w, Q (.panic c) (a.put (some d) v) w → Q (.panic c) a w) (hw : Region.wanted oi (yielded ops a.tmps) = true) (hy : ∀ w, S w → (execOp a.eval oi).run P w = .ok (.value v) w) (hS : S w)
    (h : wpAnyH P md ops Q S fuel (listed.setIfInBounds i true) (a.put (some d) v) w) : wpAnyH P md ops Q S (fuel + 1) listed a w := by
  rw [← hdst] at h hQ
  exact wpAnyH_take hi hs hf hr hQ (Or.inl ⟨hw, hy⟩) hS h

/-- the numbers of the Witt index -/
structure WitN (p : Int) (n : Nat) (s : Nat → Int) (k e y : Int) (q : Bool) : Prop where
  k1 : Int.tdiv (n : Int) 2 = k
  k0 : 0 ≤ k ∧ k ≤ 3
  e1 : Int.tmod k 2 = e
  e0 : e = 0 ∨ e = 1
  y1 : (dF p s n * (1 - 2 * e)) % p = y
  y2 : (e = 1 → y = Int.tmod (p - dF p s n) p) ∧ (e = 0 → y = dF p s n)
  q1 : hasRoot p.toNat y = q
  r0 : Int.tmod (n : Int) 2 = 0 ∨ Int.tmod (n : Int) 2 = 1
  val : witV p n s = if Int.tmod (n : Int) 2 = 1 then k else if q then k else k - 1
theorem witN {p : Int} {n : Nat} {s : Nat → Int} (hok : SpOk p n s) : ∃ k e y q, WitN p n s k e y q := by
  have hpb := hok.bd
  have hn6 := hok.n6
  have hd := dF_in (p := p) (by omega) s n
  have t1 : Int.tdiv (n : Int) 2 = ((n / 2 : Nat) : Int) := by rw [Int.tdiv_eq_ediv_of_nonneg (by omega)]; omega
  have t2 : Int.tmod ((n / 2 : Nat) : Int) 2 = ((n / 2 % 2 : Nat) : Int) := by rw [Int.tmod_eq_emod_of_nonneg (by omega)]; omega
  have t3 : Int.tmod (n : Int) 2 = ((n % 2 : Nat) : Int) := by rw [Int.tmod_eq_emod_of_nonneg (by omega)]; omega
  have hy : ((n / 2 % 2 : Nat) : Int) = 1 → (dF p s n * (1 - 2 * ((n / 2 % 2 : Nat) : Int))) % p = (p - dF p s n) % p := fun e => by
    rw [e, show dF p s n * (1 - 2 * 1) = (p - dF p s n) - p by grind]
    exact Int.sub_emod_right _ _
  have hy0 : ((n / 2 % 2 : Nat) : Int) = 0 → (dF p s n * (1 - 2 * ((n / 2 % 2 : Nat) : Int))) % p = dF p s n := fun e => by
    rw [e]; simp; exact Int.emod_eq_of_lt hd.1 hd.2
  refine ⟨_, _, _, _, t1, by omega, t2, by omega, rfl, ⟨fun e => ?_, hy0⟩, rfl, by omega, ?_⟩
  · rw [hy e]
    exact (Int.tmod_eq_emod_of_nonneg (by omega)).symm
  · unfold witV
    rw [t3]
    by_cases h1 : n % 2 = 1
    · rw [if_pos h1, if_pos (show ((n % 2 : Nat) : Int) = 1 by omega)]
    · rw [if_neg h1, if_neg (show ¬ ((n % 2 : Nat) : Int) = 1 by omega)]
      by_cases h2 : n / 2 % 2 = 1
      · rw [if_pos h2, hy (by omega)]
      · rw [if_neg h2, hy0 (by omega)]
/-- the code of the Witt index -/
def witC (p : Int) (n : Nat) (s : Nat → Int) : Int := if spB p n s then (if regB s n then 0 else 5) else 1

set_option maxRecDepth 100000 in
set_option maxHeartbeats 4000000 in
theorem iWittIndex_c (p : Int) (sv : Value) (n : Nat) (s : Nat → Int) (w : World) (h : Ints w sv n s) :
    Calls Try.prog 32 #[dbl p sv] w fun e w' => Makes w w' e (rC (witC p n s) (witV p n s)) := by
  have H' := Lib.hid h
  obtain ⟨ao, c, b, o, rfl, p2, p3, qx⟩ := h.out
  have BX := Lib.hid (box0 w p ao n c 26)
  obtain ⟨e0, e1, e2, e3⟩ := BX.out
  clear h qx
  cases hok : spB p n s
  · have hc : witC p n s = 1 := by unfold witC; rw [hok]; rfl
    rw [hc]
    have HOK := Lib.hid hok
    clear hok hc
    go_enter Try.func32, Try.ntmps32
    go_wp2_with fail
    refine Calls.makes' (iIsSp_c p _ n s _ (H'.out.below e3)) _ fun w1 hb1 => ?_
    rw [HOK.out]
    have b4 := e3.trans (hb1.mono e3.size)
    go_wp2
    go_ret2
    exact ⟨rfl, b4⟩
  · have hsp := spB_ok hok
    have hpb := hsp.bd
    have hn6 := hsp.n6
    obtain ⟨g, hg⟩ : ∃ g, regB s n = g := ⟨_, rfl⟩
    have hc : witC p n s = if g then 0 else 5 := by unfold witC; rw [hok, if_pos rfl, hg]
    rw [hc]
    have HOK := Lib.hid hok
    have HR : Hid (∀ W, Below w.heap.size w W → Calls Try.prog 91 #[dbl p (.slice ao n c)] W fun e w' => Makes W w' e (.bool g)) := fun W hb => hg ▸ iReg_c p _ n s W (H'.out.below hb)
    cases g
    · clear hok hsp hg hc
      go_enter Try.func32, Try.ntmps32
      go_wp2_with fail
      refine Calls.makes' (iIsSp_c p _ n s _ (H'.out.below e3)) _ fun w1 hb1 => ?_
      rw [HOK.out]
      obtain ⟨f0, f1, f2, f3⟩ := boxKeep hb1 BX.out
      clear e0 e1 e2 e3
      go_wp2_with fail
      go_at_call 91
      refine Calls.makes' (HR.out _ f3) _ fun w2 hb2 => ?_
      have b4 := f3.trans (hb2.mono f3.size)
      go_wp2
      go_ret2
      exact ⟨rfl, b4⟩
    · obtain ⟨k, e, y, q, hN⟩ := witN hsp
      obtain ⟨k1, k0, t1, t0, y1, _, q1, r0, hval⟩ := hN
      rw [hval]
      obtain ⟨P, rfl⟩ := Int.eq_ofNat_of_zero_le (show 0 ≤ p by omega)
      have hd := dF_in (p := (P : Int)) (by omega) s n
      have HD : Hid (∀ W, Below w.heap.size w W → Calls Try.prog 94 #[dbl (P : Int) (.slice ao n c)] W fun e w' => Makes W w' e (.int .i64 (dF (P : Int) s n))) := fun W hb => iDiscS_c _ _ n s W ⟨H'.out.below hb, hsp⟩
      obtain ⟨d, hde⟩ : ∃ d, dF (P : Int) s n = d := ⟨_, rfl⟩
      rw [hde] at hd y1 HD
      obtain ⟨f, hf⟩ : ∃ f, 1 - 2 * e = f := ⟨_, rfl⟩
      have hf0 : f = 1 ∨ f = -1 := by omega
      rw [hf] at y1
      have hx : -12 ≤ d * f ∧ d * f ≤ 12 := by rcases hf0 with rfl | rfl <;> omega
      obtain ⟨x, hxe⟩ : ∃ x, d * f = x := ⟨_, rfl⟩
      rw [hxe] at hx y1
      have v1 : IntKind.i64.wrap (d * f) = x := wrap_as hxe (by omega)
      obtain ⟨e2', he2⟩ : ∃ z, 2 * e = z := ⟨_, rfl⟩
      have v2 : IntKind.i64.wrap (2 * e) = e2' := wrap_as he2 (by omega)
      have v3 : IntKind.i64.wrap (1 - e2') = f := wrap_as (by omega) (by omega)
      have v4 : IntKind.i64.wrap (k - 1) = k - 1 := wrap_in _ (by omega)
      have CM : Hid (∀ W, Calls Try.prog 86 #[.int .i64 (P : Int), .int .i64 x] W fun e w' => e = .returned (.int .i64 y) ∧ W = w') := fun W => y1 ▸ iNum_c P x W (by omega) (by omega) (by omega) (by omega)
      have CS : Hid (∀ W, Calls Try.prog 93 #[.int .i64 (P : Int), .int .i64 y] W fun e w' => e = .returned (.bool q) ∧ W = w') := fun W => q1 ▸ (by rw [Int.toNat_natCast]; exact iSquare_c P y W (by omega) (by omega))
      have HDM : Hid (∀ W, Calls Try.prog 92 #[dbl (P : Int) (.slice ao n c)] W fun e w' => Makes W w' e (.int .i64 n)) := fun W => iDim_c _ _ _ _ _ (by omega)
      clear hok hsp hg hc hval hde hf hxe he2 y1 q1 hx hf0 hd
      rcases r0 with r0 | r0
      · rw [if_neg (show ¬ Int.tmod (n : Int) 2 = 1 by omega)]
        cases q
        all_goals
          go_enter Try.func32, Try.ntmps32
          go_wp2_with fail
          refine Calls.makes' (iIsSp_c _ _ n s _ (H'.out.below e3)) _ fun w1 hb1 => ?_
          rw [HOK.out]
          have BX1 := Lib.hid (boxKeep hb1 BX.out)
          obtain ⟨f0, f1, f2, f3⟩ := BX1.out
          clear e0 e1 e2 e3 hb1
          go_wp2_with fail
          go_at_call 91
          refine Calls.makes' (HR.out _ f3) _ fun w2 hb2 => ?_
          have BX2 := Lib.hid (boxKeep hb2 BX1.out)
          obtain ⟨g0, g1, g2, g3⟩ := BX2.out
          clear f0 f1 f2 f3 hb2
          go_wp2_with fail
          go_at_call 92
          refine Calls.makes' (HDM.out _) _ fun w3 hb3 => ?_
          have BX3 := Lib.hid (boxKeep hb3 BX2.out)
          obtain ⟨f0, f1, f2, f3⟩ := BX3.out
          clear g0 g1 g2 g3 hb3
          go_wp2
          go_region_held3 (fun W => W.cell? ⟨w.heap.size, 0, none⟩ = some (.int .i64 (P : Int)) ∧ W.cell? ⟨w.heap.size, 1, none⟩ = some (.slice ao n c) ∧ w.heap.size < W.heap.size ∧ Below w.heap.size w W)
            ((first | assumption | exact boxDrew ⟨f0, f1, f2, f3⟩ | exact boxKeep (by assumption) (by assumption)))
            ((first
              | (go_at_call 92; refine Calls.makes' (HDM.out _) _ fun v1 hv1 => ?_)
              | (go_at_call 71; refine Calls.makes' (iSField_c _ _ _) _ fun v2 hv2 => ?_)
              | (go_at_call 94; refine Calls.makes' (HD.out _ (show BoxD w (P : Int) ao n c _ by assumption).2.2.2) _ fun v3 hv3 => ?_)
              | (go_at_call 86; refine (CM.out _).mono ?_; rintro e w' ⟨rfl, rfl⟩)
              | (go_at_call 93; refine (CS.out _).mono ?_; rintro e w' ⟨rfl, rfl⟩)))
          all_goals go_wp2
          all_goals go_ret2
          all_goals exact ⟨rfl, (show BoxD w (P : Int) ao n c _ by assumption).2.2.2⟩
      · rw [if_pos r0]
        go_enter Try.func32, Try.ntmps32
        go_wp2_with fail
        refine Calls.makes' (iIsSp_c _ _ n s _ (H'.out.below e3)) _ fun w1 hb1 => ?_
        rw [HOK.out]
        have BX1 := Lib.hid (boxKeep hb1 BX.out)
        obtain ⟨f0, f1, f2, f3⟩ := BX1.out
        clear e0 e1 e2 e3 hb1
        go_wp2_with fail
        go_at_call 91
        refine Calls.makes' (HR.out _ f3) _ fun w2 hb2 => ?_
        have BX2 := Lib.hid (boxKeep hb2 BX1.out)
        obtain ⟨g0, g1, g2, g3⟩ := BX2.out
        clear f0 f1 f2 f3 hb2
        go_wp2_with fail
        go_at_call 92
        refine Calls.makes' (HDM.out _) _ fun w3 hb3 => ?_
        have BX3 := Lib.hid (boxKeep hb3 BX2.out)
        obtain ⟨f0, f1, f2, f3⟩ := BX3.out
        clear g0 g1 g2 g3 hb3
        go_wp2
        refine wp_region_held_drew (S := fun W => W.cell? ⟨w.heap.size, 0, none⟩ = some (.int .i64 (P : Int)) ∧ W.cell? ⟨w.heap.size, 1, none⟩ = some (.slice ao n c) ∧ w.heap.size < W.heap.size ∧ Below w.heap.size w W) (by kernel_rfl) (boxDrew ⟨f0, f1, f2, f3⟩) (fun hHeld => ?_)
        refine tkRun 0 14 (.agg #[.int .i64 (P : Int), .slice ao n c]) rfl rfl (by kernel_rfl) (by kernel_rfl) (by kernel_rfl) (fun _ _ _ h => h) rfl (fun W hW => by (try dsimp only at hW); go_simp) (by assumption) ?_
        try simp only [Act.put, List.setIfInBounds_toArray, List.set_cons_zero, List.set_cons_succ]
        refine wpAnyH_ready (rs := [1]) (by kernel_rfl) (by simp) ?_
        refine AllReadyH.cons (o := _) rfl (fun K hK => ?_) AllReadyH.nil
        go_simp
        go_at_call 92
        refine Calls.makes' (HDM.out _) _ fun w4 hb4 => ?_
        go_wp2_with fail
        refine hK.out _ _ (boxKeep hb4 (by assumption)) (fun hHeld2 => ?_)
        clear hK K
        try simp only [Act.put, List.setIfInBounds_toArray, List.set_cons_zero, List.set_cons_succ]
        refine tkRun 2 16 (.int .i64 1) rfl rfl (by kernel_rfl) (by kernel_rfl) (by kernel_rfl) (fun _ _ _ h => h) rfl (fun W hW => by (try dsimp only at hW); go_simp) (by assumption) ?_
        try simp only [Act.put, List.setIfInBounds_toArray, List.set_cons_zero, List.set_cons_succ]
        refine tkRun 3 17 (.bool false) rfl rfl (by kernel_rfl) (by kernel_rfl) (by kernel_rfl) (fun _ _ _ h => h) rfl (fun W hW => by (try dsimp only at hW); go_simp) (by assumption) ?_
        try simp only [Act.put, List.setIfInBounds_toArray, List.set_cons_zero, List.set_cons_succ]
        refine tkRun 4 18 (.bool false) rfl rfl (by kernel_rfl) (by kernel_rfl) (by kernel_rfl) (fun _ _ _ h => h) rfl (fun W hW => by (try dsimp only at hW); go_simp) (by assumption) ?_
        try simp only [Act.put, List.setIfInBounds_toArray, List.set_cons_zero, List.set_cons_succ]
        refine tkOff 5 19 rfl rfl (by kernel_rfl) (by kernel_rfl) (by kernel_rfl) (fun _ _ _ h => h) rfl (by assumption) ?_
        try simp only [Act.put, List.setIfInBounds_toArray, List.set_cons_zero, List.set_cons_succ]
        refine tkOff 6 20 rfl rfl (by kernel_rfl) (by kernel_rfl) (by kernel_rfl) (fun _ _ _ h => h) rfl (by assumption) ?_
        try simp only [Act.put, List.setIfInBounds_toArray, List.set_cons_zero, List.set_cons_succ]
        refine tkOff 7 21 rfl rfl (by kernel_rfl) (by kernel_rfl) (by kernel_rfl) (fun _ _ _ h => h) rfl (by assumption) ?_
        try simp only [Act.put, List.setIfInBounds_toArray, List.set_cons_zero, List.set_cons_succ]
        refine tkOff 8 22 rfl rfl (by kernel_rfl) (by kernel_rfl) (by kernel_rfl) (fun _ _ _ h => h) rfl (by assumption) ?_
        try simp only [Act.put, List.setIfInBounds_toArray, List.set_cons_zero, List.set_cons_succ]
        refine tkOff 9 23 rfl rfl (by kernel_rfl) (by kernel_rfl) (by kernel_rfl) (fun _ _ _ h => h) rfl (by assumption) ?_
        try simp only [Act.put, List.setIfInBounds_toArray, List.set_cons_zero, List.set_cons_succ]
        refine tkOff 10 24 rfl rfl (by kernel_rfl) (by kernel_rfl) (by kernel_rfl) (fun _ _ _ h => h) rfl (by assumption) ?_
        try simp only [Act.put, List.setIfInBounds_toArray, List.set_cons_zero, List.set_cons_succ]
        refine tkOff 11 25 rfl rfl (by kernel_rfl) (by kernel_rfl) (by kernel_rfl) (fun _ _ _ h => h) rfl (by assumption) ?_
        try simp only [Act.put, List.setIfInBounds_toArray, List.set_cons_zero, List.set_cons_succ]
        refine tkOff 12 26 rfl rfl (by kernel_rfl) (by kernel_rfl) (by kernel_rfl) (fun _ _ _ h => h) rfl (by assumption) ?_
        try simp only [Act.put, List.setIfInBounds_toArray, List.set_cons_zero, List.set_cons_succ]
        refine tkOff 13 27 rfl rfl (by kernel_rfl) (by kernel_rfl) (by kernel_rfl) (fun _ _ _ h => h) rfl (by assumption) ?_
        try simp only [Act.put, List.setIfInBounds_toArray, List.set_cons_zero, List.set_cons_succ]
        refine tkOff 14 28 rfl rfl (by kernel_rfl) (by kernel_rfl) (by kernel_rfl) (fun _ _ _ h => h) rfl (by assumption) ?_
        try simp only [Act.put, List.setIfInBounds_toArray, List.set_cons_zero, List.set_cons_succ]
        refine tkOff 15 29 rfl rfl (by kernel_rfl) (by kernel_rfl) (by kernel_rfl) (fun _ _ _ h => h) rfl (by assumption) ?_
        try simp only [Act.put, List.setIfInBounds_toArray, List.set_cons_zero, List.set_cons_succ]
        refine tkOff 16 30 rfl rfl (by kernel_rfl) (by kernel_rfl) (by kernel_rfl) (fun _ _ _ h => h) rfl (by assumption) ?_
        try simp only [Act.put, List.setIfInBounds_toArray, List.set_cons_zero, List.set_cons_succ]
        refine tkOff 17 31 rfl rfl (by kernel_rfl) (by kernel_rfl) (by kernel_rfl) (fun _ _ _ h => h) rfl (by assumption) ?_
        try simp only [Act.put, List.setIfInBounds_toArray, List.set_cons_zero, List.set_cons_succ]
        refine tkOff 18 32 rfl rfl (by kernel_rfl) (by kernel_rfl) (by kernel_rfl) (fun _ _ _ h => h) rfl (by assumption) ?_
        try simp only [Act.put, List.setIfInBounds_toArray, List.set_cons_zero, List.set_cons_succ]
        refine tkRun 19 33 (.bool false) rfl rfl (by kernel_rfl) (by kernel_rfl) (by kernel_rfl) (fun _ _ _ h => h) rfl (fun W hW => by (try dsimp only at hW); go_simp) (by assumption) ?_
        try simp only [Act.put, List.setIfInBounds_toArray, List.set_cons_zero, List.set_cons_succ]
        refine wpAnyH_done (by kernel_rfl) ?_ _
        have b4 := hHeld2.2.2.2
        go_wp2
        go_ret2
        exact ⟨rfl, b4⟩

set_option maxRecDepth 100000 in
set_option maxHeartbeats 2000000 in
theorem sWittV_c (p : Int) (sv : Value) (n : Nat) (s : Nat → Int) (w : World) (hd : SV w sv p n s) :
    Calls Try.prog 96 #[dbl p sv] w fun e w' => Makes w w' e (.int .i64 (witV p n s)) := by
  have hpb := hd.ok.bd
  have hn6 := hd.ok.n6
  have hdF := dF_in (p := p) (by omega) s n
  obtain ⟨k, e, y, q, hN⟩ := witN hd.ok
  obtain ⟨k1, k0, t1, t0, _, y2, q1, r0, hval⟩ := hN
  rw [hval]
  have HD := Lib.hid (fun W (hb : Below w.heap.size w W) => sDisc_c p sv n s W (hd.below hb))
  obtain ⟨ao, c, b, o, rfl, p2, p3, p4, p5⟩ := hd.ints.out
  obtain ⟨P, rfl⟩ := Int.eq_ofNat_of_zero_le (show 0 ≤ p by omega)
  have BX := Lib.hid (box0 w (P : Int) ao n c 26)
  obtain ⟨e0, e1, e2, e3⟩ := BX.out
  obtain ⟨d, hde⟩ : ∃ d, dF (P : Int) s n = d := ⟨_, rfl⟩
  rw [hde] at HD y2 hdF
  have v4 : IntKind.i64.wrap (k - 1) = k - 1 := wrap_in _ (by omega)
  have v5 : IntKind.i64.wrap ((P : Int) - d) = (P : Int) - d := wrap_in _ (by omega)
  have hP0 : (P : Int) ≠ 0 := by omega
  obtain ⟨t, ht⟩ : ∃ t, idxB (rootB P y) P = t := ⟨_, rfl⟩
  have CR : Hid (∀ W, Calls Try.prog 136 #[.int .i64 (P : Int), .int .i64 y] W fun e w' => e = .returned (.int .i64 t) ∧ W = w') := fun W => ht ▸ sRoot_c P y W (by omega) (by omega)
  have hq := root_ge P y
  rw [ht] at hq
  rw [Int.toNat_natCast] at q1
  rw [q1] at hq
  clear hd p5 p4 hde ht hval q1
  rcases r0 with r0 | r0
  · rw [if_neg (show ¬ Int.tmod (n : Int) 2 = 1 by omega)]
    rcases t0 with rfl | rfl
    · obtain rfl := y2.2 rfl
      clear y2
      cases q
      all_goals
        go_enter Try.func96, Try.ntmps96
        go_wp2_with fail
        go_at_call 95
        refine Calls.makes' (HD.out _ e3) _ fun w1 hb1 => ?_
        obtain ⟨f0, f1, f2, f3⟩ := boxKeep hb1 BX.out
        go_wp2_with (go_at_call 136; refine (CR.out _).mono ?_; rintro e w' ⟨rfl, rfl⟩)
        go_ret
        exact ⟨rfl, f3⟩
    · have hy := y2.1 rfl
      replace hy := hy.symm
      clear y2
      cases q
      all_goals
        go_enter Try.func96, Try.ntmps96
        go_wp2_with fail
        go_at_call 95
        refine Calls.makes' (HD.out _ e3) _ fun w1 hb1 => ?_
        obtain ⟨f0, f1, f2, f3⟩ := boxKeep hb1 BX.out
        go_wp2_with (go_at_call 136; refine (CR.out _).mono ?_; rintro e w' ⟨rfl, rfl⟩)
        go_ret
        exact ⟨rfl, f3⟩
  · rw [if_pos r0]
    go_enter Try.func96, Try.ntmps96
    go_wp2
    go_ret
    exact ⟨rfl, e3⟩

set_option maxRecDepth 100000 in
set_option maxHeartbeats 2000000 in
theorem sWittIndex_c (p : Int) (sv : Value) (n : Nat) (s : Nat → Int) (w : World) (h : Ints w sv n s) :
    Calls Try.prog 33 #[dbl p sv] w fun e w' => Makes w w' e (rC (witC p n s) (witV p n s)) := by
  have H' := Lib.hid h
  obtain ⟨ao, c, b, o, rfl, p2, p3, qx⟩ := h.out
  have BX := Lib.hid (box0 w p ao n c 26)
  obtain ⟨e0, e1, e2, e3⟩ := BX.out
  clear h qx
  cases hok : spB p n s
  · have hc : witC p n s = 1 := by unfold witC; rw [hok]; rfl
    rw [hc]
    have HOK := Lib.hid hok
    clear hok hc
    go_enter Try.func33, Try.ntmps33
    go_wp2_with fail
    refine Calls.makes' (sIsSp_c p _ n s _ (H'.out.below e3)) _ fun w1 hb1 => ?_
    rw [HOK.out]
    have b4 := e3.trans (hb1.mono e3.size)
    go_wp2
    go_ret2
    exact ⟨rfl, b4⟩
  · have hsp := spB_ok hok
    have hpb := hsp.bd
    obtain ⟨g, hg⟩ : ∃ g, regB s n = g := ⟨_, rfl⟩
    have hc : witC p n s = if g then 0 else 5 := by unfold witC; rw [hok, if_pos rfl, hg]
    rw [hc]
    have HOK := Lib.hid hok
    have HD : Hid (∀ W, Below w.heap.size w W → Calls Try.prog 95 #[dbl p (.slice ao n c)] W fun e w' => Makes W w' e (.int .i64 (dF p s n))) := fun W hb => sDisc_c p _ n s W ⟨H'.out.below hb, hsp⟩
    have HW : Hid (∀ W, Below w.heap.size w W → Calls Try.prog 96 #[dbl p (.slice ao n c)] W fun e w' => Makes W w' e (.int .i64 (witV p n s))) := fun W hb => sWittV_c p _ n s W ⟨H'.out.below hb, hsp⟩
    have hz : (dF p s n == 0) = !g := by
      rw [disc_reg hsp.prime hsp.inp, ← hg]; unfold regB; simp
    obtain ⟨d, hde⟩ : ∃ d, dF p s n = d := ⟨_, rfl⟩
    rw [hde] at HD hz
    obtain ⟨v, hv⟩ : ∃ v, witV p n s = v := ⟨_, rfl⟩
    rw [hv] at HW
    rw [hv]
    clear hok hsp hg hc hde hv
    cases g
    · go_enter Try.func33, Try.ntmps33
      go_wp2_with fail
      refine Calls.makes' (sIsSp_c p _ n s _ (H'.out.below e3)) _ fun w1 hb1 => ?_
      rw [HOK.out]
      obtain ⟨f0, f1, f2, f3⟩ := boxKeep hb1 BX.out
      clear e0 e1 e2 e3
      go_wp2_with fail
      go_at_call 95
      refine Calls.makes' (HD.out _ f3) _ fun w2 hb2 => ?_
      have b4 := f3.trans (hb2.mono f3.size)
      go_wp2
      go_ret2
      exact ⟨rfl, b4⟩
    · go_enter Try.func33, Try.ntmps33
      go_wp2_with fail
      refine Calls.makes' (sIsSp_c p _ n s _ (H'.out.below e3)) _ fun w1 hb1 => ?_
      rw [HOK.out]
      have BX1 := Lib.hid (boxKeep hb1 BX.out)
      obtain ⟨f0, f1, f2, f3⟩ := BX1.out
      clear e0 e1 e2 e3
      go_wp2_with fail
      go_at_call 95
      refine Calls.makes' (HD.out _ f3) _ fun w2 hb2 => ?_
      obtain ⟨g0, g1, g2, g3⟩ := boxKeep hb2 BX1.out
      clear f0 f1 f2 f3
      go_wp2_with fail
      go_at_call 96
      refine Calls.makes' (HW.out _ g3) _ fun w3 hb3 => ?_
      have b4 := g3.trans (hb3.mono g3.size)
      go_wp2
      go_ret2
      exact ⟨rfl, b4⟩

end Go.Proofs.Ytnkflgigbielgaa

/-
  The law on isotropic vectors and Witt indices returns true. No condition.
-/
set_option linter.unusedVariables false
set_option linter.unusedSimpArgs false
namespace Go.Proofs.Ytnkflgigbielgaa
open Go.RowKit

/-- a space that is drawn -/
structure DrawnS (w w' : World) (e : Ending) : Prop where
  out : ∃ (P : Int) (a : Option Addr) (c m : Nat) (s : Nat → Int), e = .returned (dbl P (.slice a m c)) ∧ Below w.heap.size w w' ∧ OI w' w.heap.size w'.heap.size a c m s ∧ m ≤ 7

set_option maxRecDepth 100000 in
set_option maxHeartbeats 4000000 in
theorem sDrawIsotropicVector_c (cv : Value) (n : Nat) (B : Nat → Int) (w : World) (hB : Byt w cv n B) :
    Calls Try.prog 29 #[cv] w fun e w' => DrawnS w w' e := by
  have HB : Hid (∀ W, Below w.heap.size w W → Byt W cv n B) := fun W hb => hB.below hb
  obtain ⟨wa, hwa⟩ : ∃ wa, wa = w.alloc (.cells #[.int .i64 0, .slice none 0 0] 26) := ⟨_, rfl⟩
  have hba : Below w.heap.size w wa := by rw [hwa]; exact (Below.refl _ _).alloc (Nat.le_refl _) _
  have hsa : wa.heap.size = w.heap.size + 1 := by rw [hwa]; simp
  have hra : Own wa 26 w.heap.size 2 2 (fun i => if i = 0 then .int .i64 0 else .slice none 0 0) := by rw [hwa]; exact own2 w _ _ _
  have hF := sFrom_c cv n B wa (HB.out _ hba)
  rw [hwa] at hF
  have HF := Lib.hid hF
  have HWA := Lib.hid hwa
  have HBA := Lib.hid hba
  have HRA := Lib.hid hra
  have HSA := Lib.hid hsa
  obtain ⟨ao, c0, _, _, rfl, qq⟩ := hB.out
  clear hwa hF hB hba qq hra hsa
  go_enter Try.func29, Try.ntmps29
  go_wp2_with fail
  refine HF.out.mono ?_
  rintro e w1 ⟨g, rfl, hg, hb1, hs1⟩
  rw [← HWA.out] at hg hb1
  have hbw1 : Hid (Below w.heap.size w w1) := HBA.out.trans (hb1.mono HBA.out.size)
  have HP := Lib.hid (sSpoilSp_c g n _ B w1 hs1 (fun W hc => HB.out W (hbw1.out.trans (hc.below hbw1.out.size (fun k e => by have e : k = g := e; have := HBA.out.size; omega)))))
  have HR1 := Lib.hid (HRA.out.kept hb1)
  have hgw : w.heap.size < g := by have := HSA.out; omega
  have hs1' := hb1.size
  clear HF hb1 hs1 HRA
  go_wp2_with fail
  refine HP.out.mono ?_
  rintro e w2 ⟨P, a, c, m, s, rfl, hm, hP, hL, hd⟩
  have hO2 := hd.chg.own HR1.out (by show ¬ w.heap.size = g; omega)
  have r0 := hO2.cell (show 0 < 2 by omega)
  have r1 := hO2.cell (show 1 < 2 by omega)
  have q0 := hO2.frozen 0
  have q1 := hO2.frozen 1
  simp only [if_pos, if_neg (show ¬ (1 : Nat) = 0 by omega)] at r0 r1
  have hres := (hO2.set 0 (.int .i64 P)).set 1 (.slice a m c)
  have c0' := hres.cell (show 0 < 2 by omega)
  have c1' := hres.cell (show 1 < 2 by omega)
  simp at c0' c1'
  have hc : Chg w2 ((w2.setCell ⟨w.heap.size, 0, none⟩ (.int .i64 P)).setCell ⟨w.heap.size, 1, none⟩ (.slice a m c)) (· = w.heap.size) := ((Chg.refl w2 (· = w.heap.size)).setCell (a := ⟨w.heap.size, 0, none⟩) rfl (.int .i64 P)).setCell (a := ⟨w.heap.size, 1, none⟩) rfl (.slice a m c)
  have hfin : Hid (DrawnS w ((w2.setCell ⟨w.heap.size, 0, none⟩ (.int .i64 P)).setCell ⟨w.heap.size, 1, none⟩ (.slice a m c)) (.returned (dbl P (.slice a m c)))) := by
    have hsz := hc.size
    have hs2 := hd.chg.size
    have hlw := HSA.out
    have hbl := hbw1.out.trans (hd.chg.below hbw1.out.size (fun k e => by have e : k = g := e; omega))
    exact ⟨P, a, c, m, s, rfl, hbl.trans (hc.below hbl.size fun k e => by have e : k = w.heap.size := e; omega), ((hL.by hc fun k e => by have e : k = w.heap.size := e; have := hbw1.out.size; omega).lowH (by have := hbw1.out.size; omega) hsz), hm⟩
  clear hres hL hd hO2 HP HR1 hc HBA HSA
  go_wp2
  refine bodyPost_ret (by simp [results, Try.results29, go_sem, c0', c1']; try rfl) rfl ?_
  exact hfin.out

theorem iso_o (P : Int) (n : Nat) (s : Nat → Int) :
    ∃ (cc c3 k : Int) (M : Nat) (X : Nat → Int), ((cc = 1 ∧ c3 = 1) ∨ (spB P n s = true ∧ c3 = 5 ∧ cc = 0) ∨ (spB P n s = true ∧ c3 = 0 ∧ cc = 4 ∧ k = 0) ∨ (spB P n s = true ∧ c3 = 0 ∧ cc = 0 ∧ 0 < k ∧ M = n ∧ InP P n X ∧ pairF P s n X X = 0 ∧ decide (∀ i, i < n → X i = 0) = false)) ∧
    (∀ (W : World) (v' : Value), Ints W v' n s → Calls Try.prog 33 #[dbl P v'] W fun e w' => Makes W w' e (.tuple #[.int .i64 k, .int .i64 c3])) ∧
    (∀ (W : World) (v' : Value), Ints W v' n s → Calls Try.prog 32 #[dbl P v'] W fun e w' => Makes W w' e (.tuple #[.int .i64 k, .int .i64 c3])) ∧
    (∀ (W : World) (v' : Value), Ints W v' n s → Calls Try.prog 31 #[dbl P v'] W fun e w' => ResO W w' e cc M X) ∧
    (∀ (W : World) (v' : Value), Ints W v' n s → Calls Try.prog 30 #[dbl P v'] W fun e w' => ResO W w' e cc M X) := by
  refine ⟨isoC P n s, witC P n s, if witC P n s = 0 then witV P n s else 0, if isoC P n s = 0 then n else 0, vecT P n (isoN P s n), ?_,
    fun W v h => by rw [← rC_one]; exact sWittIndex_c P v n s W h, fun W v h => by rw [← rC_one]; exact iWittIndex_c P v n s W h,
    fun W v h => sIsotropicVector_c P v n s W h, fun W v h => iIsotropicVector_c P v n s W h⟩
  cases hok : spB P n s
  · refine Or.inl ?_
    unfold isoC witC
    rw [hok]; exact ⟨rfl, rfl⟩
  · have hsp := spB_ok hok
    have hpb := hsp.bd
    have hpn := pow_sm hpb.1 hpb.2 hsp.n6
    obtain ⟨tT, hT⟩ := Int.eq_ofNat_of_zero_le (show 0 ≤ P ^ n by omega)
    refine Or.inr ?_
    have hi : isoC P n s = if isoN P s n < tT then 0 else 4 := by unfold isoC; rw [hok, if_pos rfl, hT, Int.toNat_natCast]
    have hw : witC P n s = if regB s n then 0 else 5 := by unfold witC; rw [hok, if_pos rfl]
    cases hr : regB s n
    · refine Or.inl ⟨rfl, by rw [hw, hr]; rfl, by rw [hi, if_pos (iso_flat hsp hT hr)]⟩
    · obtain ⟨h1, h2⟩ := iso_witt hsp hT hr
      have hw0 : witC P n s = 0 := by rw [hw, hr]; rfl
      refine Or.inr ?_
      rw [if_pos hw0]
      by_cases hl : isoN P s n < tT
      · obtain ⟨v1, i, v2, v3⟩ := vec_of_iso (by omega) hT hl
        have hi0 : isoC P n s = 0 := by rw [hi, if_pos hl]
        exact Or.inr ⟨rfl, hw0, hi0, h1.1 hl, if_pos hi0, vecT_in (by omega) n _ n, v1, decide_eq_false fun h => v3 (h i v2)⟩
      · have hk : ¬ 0 < witV P n s := fun h => hl (h1.2 h)
        exact Or.inl ⟨rfl, hw0, by rw [hi, if_neg hl], by omega⟩

set_option maxRecDepth 100000 in
set_option maxHeartbeats 8000000 in
theorem lawIsotropics_c (cv : Value) (n : Nat) (B : Nat → Int) (w : World) (hB : Byt w cv n B) :
    Calls Try.prog 5 #[cv] w fun e w' => Law w w' e := by
  by_cases hbig : 4096 < n
  · have hb := Lib.hid (big_c cv n B w hB)
    obtain ⟨ao, c0, _, _, rfl, qq⟩ := hB.out
    clear hB qq
    go_enter Try.func5, Try.ntmps5
    go_wp2_with fail
    refine hb.out.mono ?_
    rintro e w1 ⟨rfl, rfl⟩
    rw [show decide (4096 < n) = true from decide_eq_true hbig]
    go_wp2
    go_ret
    exact ⟨rfl, Below.refl _ _⟩
  · have hb := Lib.hid (big_c cv n B w hB)
    have hD := Lib.hid (sDrawIsotropicVector_c cv n B w hB)
    have HB : Hid (∀ W, Below w.heap.size w W → Byt W cv n B) := fun W hb => hB.below hb
    obtain ⟨ao, c0, _, _, rfl, qq⟩ := hB.out
    clear hB qq
    go_enter Try.func5, Try.ntmps5
    go_wp2_with fail
    refine hb.out.mono ?_
    rintro e w1 ⟨rfl, rfl⟩
    rw [show decide (4096 < n) = false from decide_eq_false hbig]
    go_wp2_with fail
    refine hD.out.mono ?_
    rintro e w2 ⟨P, a, c, m, s, rfl, hb2, hs2, hm7⟩
    have hs2 := hs2.ints
    have hp2 := Lib.hid hb2
    obtain ⟨cc, c3, k, M, X, hcs, k1, k2, k3, k4⟩ := iso_o P m s
    have hcs := Lib.hid hcs
    have K1 := Lib.hid k1
    have K2 := Lib.hid k2
    have K3 := Lib.hid k3
    have K4 := Lib.hid k4
    have id : Hid (∀ W, Below w2.heap.size w2 W → Ints W (.slice a m c) m s) := fun W hb => hs2.below hb
    obtain ⟨f0, f1, _, bb⟩ := box0 w2 P a m c 26
    have hl := hp2.out.size
    clear k1 k2 k3 k4 hs2 hb hD hb2
    go_wp2_with fail
    go_at_call 30
    refine (K4.out _ _ (id.out _ bb)).mono ?_
    rintro e w3 ⟨a3, c3, rfl, hb3, o3⟩
    replace f0 := cellKp hb3 f0
    replace f1 := cellKp hb3 f1
    have bb := bb.trans (hb3.mono bb.size)
    have hX := Lib.hid o3.ints
    clear o3 hb3
    go_wp2_with fail
    go_at_call 31
    refine (K3.out _ _ (id.out _ bb)).mono ?_
    rintro e w4 ⟨a4, c4, rfl, hb4, o4⟩
    replace f0 := cellKp hb4 f0
    replace f1 := cellKp hb4 f1
    have bb := bb.trans (hb4.mono bb.size)
    replace hX := Lib.hid (hX.out.below hb4)
    have hY := Lib.hid o4.ints
    clear o4 hb4
    go_wp2_with fail
    go_at_call 32
    refine Calls.makes' (K2.out _ _ (id.out _ bb)) _ fun w5 hb5 => ?_
    replace f0 := cellKp hb5 f0
    replace f1 := cellKp hb5 f1
    have bb := bb.trans (hb5.mono bb.size)
    replace hX := Lib.hid (hX.out.below hb5)
    replace hY := Lib.hid (hY.out.below hb5)
    clear hb5
    go_wp2_with fail
    go_at_call 33
    refine Calls.makes' (K1.out _ _ (id.out _ bb)) _ fun w6 hb6 => ?_
    replace f0 := cellKp hb6 f0
    replace f1 := cellKp hb6 f1
    have bb := bb.trans (hb6.mono bb.size)
    replace hX := Lib.hid (hX.out.below hb6)
    replace hY := Lib.hid (hY.out.below hb6)
    clear hb6
    go_wp2_with fail
    go_at_call 34
    refine Calls.reads' (wr := w) (likeInts_c _ _ _ _ _ _ _ hX.out hY.out) _ fun q7 => ?_
    rw [eqB_refl]
    clear hY
    replace f0 := cellKp (below_drewN _ q7) f0
    replace f1 := cellKp (below_drewN _ q7) f1
    have bb := bb.trans ((below_drewN _ q7).mono bb.size)
    replace hX := Lib.hid (hX.out.below (below_drewN _ q7))
    clear K1 K2 K3 K4
    have hfin := Lib.hid (hp2.out.trans (bb.mono hp2.out.size))
    have hcs2 := hcs.out
    clear hcs
    rcases hcs2 with ⟨rfl, rfl⟩ | ⟨hok, rfl, rfl⟩ | ⟨hok, rfl, rfl, rfl⟩ | ⟨hok, rfl, rfl, hk, hM, hin, hnorm, hz⟩
    · clear id hp2 bb hX
      go_wp2
      go_ret
      exact ⟨rfl, hfin.out⟩
    · clear id hp2 bb hX hok
      go_wp2
      go_ret
      exact ⟨rfl, hfin.out⟩
    · clear id hp2 bb hX hok
      go_wp2
      go_ret
      exact ⟨rfl, hfin.out⟩
    replace hM := hM.symm
    subst hM
    have hV := Lib.hid (hnorm ▸ vNormOf_c P _ m s _ X _ hok (id.out _ bb) ⟨hX.out, hin⟩)
    have hZ := Lib.hid hz
    clear hok hin hnorm hz id
    go_wp2_with fail
    go_at_call 20
    refine Calls.makes' hV.out _ fun w9 hb9 => ?_
    have hfin := Lib.hid (hfin.out.trans (hb9.mono hfin.out.size))
    have HZ5 := Lib.hid (zero5_c _ m X w9 (hX.out.below hb9))
    rw [hZ.out] at HZ5
    clear hb9 hX bb hV f0 f1
    go_wp2_with fail
    go_at_call 35
    refine HZ5.out.mono ?_
    rintro e w' ⟨rfl, rfl⟩
    go_wp2
    go_ret
    exact ⟨rfl, hfin.out⟩

end Go.Proofs.Ytnkflgigbielgaa
