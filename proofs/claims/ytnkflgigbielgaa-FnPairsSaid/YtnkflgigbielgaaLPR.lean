/-
  The law on products of vectors returns true. No condition.
-/
import Derived.Test.YtnkflgigbielgaaLS4
import Derived.Test.YtnkflgigbielgaaLSB
import Derived.Test.YtnkflgigbielgaaQK
import Derived.Test.YtnkflgigbielgaaSP3
import Derived.Test.YtnkflgigbielgaaDX
set_option linter.unusedVariables false
set_option linter.unusedSimpArgs false
namespace Go.Proofs.Ytnkflgigbielgaa
open Go.RowKit

/-- both programs' PairOf -/
theorem pr_o (P : Int) (n : Nat) (s : Nat → Int) (nx : Nat) (X : Nat → Int) (ny : Nat) (Y : Nat → Int) :
    ∃ (rr cc : Int), (cc = 0 → rr = pairF P s n X Y ∧ spB P n s = true ∧ vecB P n nx X = true ∧ vecB P n ny Y = true) ∧
    (∀ (W : World) (v xv yv : Value), Ints W v n s → Ints W xv nx X → Ints W yv ny Y → Calls Try.prog 13 #[dbl P v, xv, yv] W fun e w' => Makes W w' e (.tuple #[.int .i64 rr, .int .i64 cc])) ∧
    (∀ (W : World) (v xv yv : Value), Ints W v n s → Ints W xv nx X → Ints W yv ny Y → Calls Try.prog 12 #[dbl P v, xv, yv] W fun e w' => Makes W w' e (.tuple #[.int .i64 rr, .int .i64 cc])) := by
  refine ⟨if prC P n s nx X ny Y = 0 then pairF P s n X Y else 0, prC P n s nx X ny Y, fun h => ⟨if_pos h, prC_zero h⟩, fun W v xv yv h hx hy => rC_one _ _ ▸ sPairOf_c P v n s xv nx X yv ny Y W h hx hy, fun W v xv yv h hx hy => rC_one _ _ ▸ iPairOf_c P v n s xv nx X yv ny Y W h hx hy⟩
/-- PairOf at vectors -/
theorem vPair_c (p : Int) (sv : Value) (n : Nat) (s : Nat → Int) (xv yv : Value) (X Y : Nat → Int) (w : World) (hok : spB p n s = true) (h : Ints w sv n s) (hx : Vc w xv p n X) (hy : Vc w yv p n Y) (k : Int) (hk : pairF p s n X Y = k) :
    Calls Try.prog 12 #[dbl p sv, xv, yv] w fun e w' => Makes w w' e (.tuple #[.int .i64 k, .int .i64 0]) := by
  have h1 := iPairOf_c p sv n s xv n X yv n Y w h hx.ints hy.ints
  rw [prC_ok hok (vecB_of hx.inp) (vecB_of hy.inp), hk] at h1
  exact h1

theorem gram_code {P : Int} {m : Nat} {s X Y : Nat → Int} (hok : spB P m s = true) (hX : InP P m X) (hY : InP P m Y) : codeSl (spB P m s) P m 2 (pick3 m m m) (pick3 X Y Y) = 0 := by
  rw [codeSl_in hok]
  have h : anyB (fun i => !vecB P m (pick3 m m m i) (pick3 X Y Y i)) 2 = false := anyB_none fun j hj => by
    have h3 : j = 0 ∨ j = 1 := by omega
    rcases h3 with rfl | rfl
    · show (!vecB P m m X) = false; rw [vecB_of hX]; rfl
    · show (!vecB P m m Y) = false; rw [vecB_of hY]; rfl
  rw [h]; rfl
/-- the table of four products -/
def gr2 (a b c : Int) : Nat → Nat → Int := pick3 (fun j => if j = 0 then a else b) (fun j => if j = 0 then b else c) (fun j => if j = 0 then b else c)
theorem rows2 (w : World) (a b c : Int) :
    Tab (((w.alloc (.cells #[.int .i64 a, .int .i64 b] 2)).alloc (.cells #[.int .i64 b, .int .i64 c] 2)).alloc (.cells #[.slice (some ⟨w.heap.size, 0, none⟩) 2 2, .slice (some ⟨w.heap.size + 1, 0, none⟩) 2 2] 24)) (.slice (some ⟨w.heap.size + 2, 0, none⟩) 2 2) 2 (pick3 2 2 2) (gr2 a b c) ∧
    Below w.heap.size w (((w.alloc (.cells #[.int .i64 a, .int .i64 b] 2)).alloc (.cells #[.int .i64 b, .int .i64 c] 2)).alloc (.cells #[.slice (some ⟨w.heap.size, 0, none⟩) 2 2, .slice (some ⟨w.heap.size + 1, 0, none⟩) 2 2] 24)) := by
  have h1 := ints2 w 2 a b
  have h2 := ints2 (w.alloc (.cells #[.int .i64 a, .int .i64 b] 2)) 2 b c
  have hb : Below (w.alloc (.cells #[.int .i64 a, .int .i64 b] 2)).heap.size (w.alloc (.cells #[.int .i64 a, .int .i64 b] 2)) ((w.alloc (.cells #[.int .i64 a, .int .i64 b] 2)).alloc (.cells #[.int .i64 b, .int .i64 c] 2)) := (Below.refl _ _).alloc (Nat.le_refl _) _
  have h3 := list2 24 (h1.kept hb).ints h2.ints
  simp only [alloc_size] at h3
  exact ⟨h3, (((Below.refl _ _).alloc (Nat.le_refl _) _).alloc (by simp) _).alloc (by simp; omega) _⟩

/-! ### plain -/
theorem pair_pl (p : Int) (s : Nat → Int) (n : Nat) (X : Nat → Int) (k : Int) (U Y : Nat → Int) : pairF p s n (plV p X k U) Y = (pairF p s n X Y + k * pairF p s n U Y) % p := by
  unfold pairF plV
  rw [mod_add_mod, ← mod_mod_add _ (k * _), mod_mod_mul, mod_mod_add, sumF_mul, ← sumF_plus]
  refine sumF_mod fun i hi => ?_
  rw [show s i * ((X i + k * U i) % p) * Y i = (s i * Y i) * ((X i + k * U i) % p) by grind, mod_mod_mul]
  congr 1; grind
theorem pair_sum (p : Int) (s : Nat → Int) (n : Nat) (X Y : Nat → Int) : pairF p s n (plV p X 1 Y) (plV p X 1 Y) = (pairF p s n X X + pairF p s n Y Y + 2 * pairF p s n X Y) % p := by
  rw [pair_pl, pairF_comm p s n X (plV p X 1 Y), pairF_comm p s n Y (plV p X 1 Y), pair_pl, pair_pl, pairF_comm p s n Y X]
  rw [mod_add_mod, ← mod_mod_add _ (1 * _), mod_mod_mul, mod_mod_add]
  congr 1; omega
theorem gram_gr2 (p : Int) (s : Nat → Int) (n : Nat) (X Y : Nat → Int) : eqTB 2 2 (fun _ => 2) (pick3 2 2 2) (gramT p s n (pick3 X Y Y)) (gr2 (pairF p s n X X) (pairF p s n X Y) (pairF p s n Y Y)) = true := by
  refine eqTB_all fun i hi => ?_
  have h3 : i = 0 ∨ i = 1 := by omega
  rcases h3 with rfl | rfl
  · refine eqB_all fun j hj => ?_
    have h3 : j = 0 ∨ j = 1 := by omega
    rcases h3 with rfl | rfl <;> rfl
  · refine eqB_all fun j hj => ?_
    have h3 : j = 0 ∨ j = 1 := by omega
    rcases h3 with rfl | rfl
    · show pairF p s n Y X = pairF p s n X Y
      exact pairF_comm _ _ _ _ _
    · rfl

set_option maxRecDepth 100000 in
set_option maxHeartbeats 8000000 in
theorem lawPairs_c (cv : Value) (n : Nat) (B : Nat → Int) (w : World) (hB : Byt w cv n B) :
    Calls Try.prog 3 #[cv] w fun e w' => Law w w' e := by
  by_cases hbig : 4096 < n
  · have hb := Lib.hid (big_c cv n B w hB)
    obtain ⟨ao, c0, _, _, rfl, qq⟩ := hB.out
    clear hB qq
    go_enter Try.func3, Try.ntmps3
    go_wp2_with fail
    refine hb.out.mono ?_
    rintro e w1 ⟨rfl, rfl⟩
    rw [show decide (4096 < n) = true from decide_eq_true hbig]
    go_wp2
    go_ret
    exact ⟨rfl, Below.refl _ _⟩
  · have hb := Lib.hid (big_c cv n B w hB)
    have hD := Lib.hid (sDrawPairOf_c cv n B w hB)
    have HB : Hid (∀ W, Below w.heap.size w W → Byt W cv n B) := fun W hb => hB.below hb
    obtain ⟨ao, c0, _, _, rfl, qq⟩ := hB.out
    clear hB qq
    go_enter Try.func3, Try.ntmps3
    go_wp2_with fail
    refine hb.out.mono ?_
    rintro e w1 ⟨rfl, rfl⟩
    rw [show decide (4096 < n) = false from decide_eq_false hbig]
    go_wp2_with fail
    refine hD.out.mono ?_
    rintro e w2 ⟨P, a, c, m, s, xa, xc, nx, X, ya, yc, ny, Y, rfl, hb2, hs2, hm7, hnx, hny, hx2, hy2⟩
    have hs2 := hs2.ints
    have hp2 := Lib.hid hb2
    obtain ⟨rr, cc, hcs, k1, k2⟩ := pr_o P m s nx X ny Y
    have HCS := Lib.hid hcs
    have K1 := Lib.hid k1
    have K2 := Lib.hid k2
    have id : Hid (∀ W, Below w2.heap.size w2 W → Ints W (.slice a m c) m s) := fun W hb => hs2.below hb
    have ix : Hid (∀ W, Below w2.heap.size w2 W → Ints W (.slice (some ⟨xa, 0, none⟩) nx xc) nx X) := fun W hb => hx2.below hb
    have iy : Hid (∀ W, Below w2.heap.size w2 W → Ints W (.slice (some ⟨ya, 0, none⟩) ny yc) ny Y) := fun W hb => hy2.below hb
    obtain ⟨qs, hqs⟩ : ∃ q, spB P m s = q := ⟨_, rfl⟩
    have IS1 : Hid (∀ W, Below w2.heap.size w2 W → Calls Try.prog 14 #[dbl P (.slice a m c)] W fun e w' => Makes W w' e (.bool qs)) := fun W hb => hqs ▸ iIsSp_c P _ m s W (id.out W hb)
    have IS2 : Hid (∀ W, Below w2.heap.size w2 W → Calls Try.prog 15 #[dbl P (.slice a m c)] W fun e w' => Makes W w' e (.bool qs)) := fun W hb => hqs ▸ sIsSpace_c P _ m s W (id.out W hb)
    obtain ⟨f0, f1, _, bb⟩ := box0 w2 P a m c 26
    have hl := hp2.out.size
    clear k1 k2 hcs hs2 hb hD hb2 hx2 hy2 hqs
    go_wp2_with fail
    go_at_call 12
    refine Calls.makes' (K2.out _ _ _ _ (id.out _ bb) (ix.out _ bb) (iy.out _ bb)) _ fun w3 hb3 => ?_
    replace f0 := cellKp hb3 f0
    replace f1 := cellKp hb3 f1
    have bb := bb.trans (hb3.mono bb.size)
    clear hb3
    go_wp2_with fail
    go_at_call 13
    refine Calls.makes' (K1.out _ _ _ _ (id.out _ bb) (ix.out _ bb) (iy.out _ bb)) _ fun w4 hb4 => ?_
    replace f0 := cellKp hb4 f0
    replace f1 := cellKp hb4 f1
    have bb := bb.trans (hb4.mono bb.size)
    clear hb4
    clear K1 K2
    have hcc : (cc != cc) = false := by simp
    have hrr : (rr != rr) = false := by simp
    have IW : Hid (∀ W, Below (w4).heap.size (w4) W → Below w2.heap.size w2 W) := fun W hb => bb.trans (hb.mono bb.size)
    have hlw := lt_of_cell f0
    go_wp2
    go_region_held3 (fun W => W.cell? ⟨w2.heap.size, 0, none⟩ = some (.int .i64 P) ∧ W.cell? ⟨w2.heap.size, 1, none⟩ = some (.slice a m c) ∧ w2.heap.size < W.heap.size ∧ Below (w4).heap.size (w4) W)
      ((first | assumption | exact sbDrew f0 f1 hlw | exact sbKeep (by assumption) (by assumption) | exact sbKeep (below_drewN _ _) (sb0 f0 f1 hlw) | exact sbRe (sb0 f0 f1 hlw) | exact sbKeep (below_drewN _ _) (by assumption)))
      ((first
        | (have hz := hb1; go_at_call 15; refine Calls.makes' (IS2.out _ (IW.out _ (sbBelow (by assumption)))) _ fun v2 hb2 => ?_; clear hz)
        | (go_at_call 14; refine Calls.makes' (IS1.out _ (IW.out _ (sbBelow (by assumption)))) _ fun v1 hb1 => ?_)))
    have hbr : Below (w4).heap.size (w4) v2 := sbBelow (by assumption)
    replace f0 := cellKp hbr f0
    replace f1 := cellKp hbr f1
    have bb := bb.trans (hbr.mono bb.size)
    clear hbr
    clear IW IS1 IS2 hcc hrr hb1 hb2
    rcases Int.decEq cc 0 with hcn | hc0
    · have hfin := Lib.hid (hp2.out.trans (bb.mono hp2.out.size))
      have hcb : (cc != 0) = true := by simpa using hcn
      clear HCS id hp2 bb ix iy hcn f0 f1
      go_wp2
      go_ret
      exact ⟨rfl, hfin.out⟩
    obtain ⟨hr, hok, hvx, hvy⟩ := HCS.out hc0
    subst hc0
    obtain ⟨ex, hx⟩ := vecB_vc (ix.out _ bb) hvx
    obtain ⟨ey, hy⟩ := vecB_vc (iy.out _ bb) hvy
    replace ex := ex.symm
    replace ey := ey.symm
    subst ex
    subst ey
    have hx := Lib.hid hx
    have hy := Lib.hid hy
    have HOK := Lib.hid hok
    have HR := Lib.hid hr
    have hpb := (spB_ok hok).bd
    have hn6 := (spB_ok hok).n6
    have hrb : 0 ≤ rr ∧ rr < P := by rw [hr]; exact pairF_in (by omega) s _ X Y
    clear hok hr hvx hvy HCS ix iy
    have HBr := Lib.hid (roll_c _ n B 834 _ (by omega) (HB.out _ (hp2.out.trans (bb.mono hp2.out.size))))
    have hlb := bb.size
    have hl0 := hp2.out.size
    go_wp2_with fail
    refine HBr.out.mono ?_
    rintro e w21 ⟨gd21, rfl, hg21, hb21, hD21⟩
    have HFb := Lib.hid (hp2.out.trans (bb.mono hp2.out.size))
    have hBy : Hid (∀ W, Chg w21 W (· = gd21) → Byt W _ n B) := fun W hc => HB.out W ((HFb.out.trans (hb21.mono HFb.out.size)).trans (hc.below (Nat.le_trans HFb.out.size hb21.size) (fun k e => by have e : k = gd21 := e; have := HFb.out.size; omega)))
    have HL5 := Lib.hid (list5_c gd21 n _ B P m w21 hD21 (fun W hc => hBy.out W hc) (by omega) (by omega))
    have z0 := cellKp hb21 f0
    have hgl21 := hD21.lt
    have hbD := Lib.hid hb21
    clear hb21 hD21 HBr
    go_wp2_with fail
    refine HL5.out.mono ?_
    rintro e w22 ⟨⟨ug, uc, U, rfl, hug, hUo, hUi⟩, hDD, hcD⟩
    have N1 := Lib.hid (below9_c gd21 n _ B P _ hDD (hBy.out _ hcD) (by omega))
    have HUo := Lib.hid hUo
    have HUi := Lib.hid hUi
    have HcD := Lib.hid hcD
    clear hUo hUi hDD hcD HL5 z0
    go_wp2_with fail
    refine N1.out.mono ?_
    rintro e w23 ⟨k, rfl, hk, _, hr23⟩
    replace hk := hk (by omega)
    have hl21 := hbD.out.size
    have hb23 := hbD.out.trans ((HcD.out.trans hr23.chg).below hbD.out.size (fun k e => by have e : k = gd21 := e; omega))
    have hu : Hid (Vc w23 (.slice (some ⟨ug, 0, none⟩) m uc) P m U) := ⟨(hr23.chg.own HUo.out (by show ¬ ug = gd21; omega)).ints, HUi.out⟩
    replace f0 := cellKp hb23 f0
    replace f1 := cellKp hb23 f1
    have bb := bb.trans (hb23.mono bb.size)
    replace hx := Lib.hid (hx.out.below hb23)
    replace hy := Lib.hid (hy.out.below hb23)
    clear hb23 hbD HcD hBy HFb N1 HUo HUi hr23
    obtain ⟨oo, hoo⟩ : ∃ z, pairF P s m U Y = z := ⟨_, rfl⟩
    obtain ⟨aa, haa⟩ : ∃ z, pairF P s m X X = z := ⟨_, rfl⟩
    obtain ⟨bv, hbv⟩ : ∃ z, pairF P s m Y Y = z := ⟨_, rfl⟩
    have bo := pairF_in (by omega : 0 < P) s m U Y
    have ba := pairF_in (by omega : 0 < P) s m X X
    have bvb := pairF_in (by omega : 0 < P) s m Y Y
    rw [hoo] at bo
    rw [haa] at ba
    rw [hbv] at bvb
    have hr := HR.out
    have E1 : Hid (pairF P s m Y X = rr) := by rw [pairF_comm]; exact hr.symm
    obtain ⟨mm, hmm⟩ : ∃ z, (rr + k * oo) % P = z := ⟨_, rfl⟩
    have E2 : Hid (pairF P s m (plV P X k U) Y = mm) := by show pairF P s m (plV P X k U) Y = mm; rw [pair_pl, hoo, ← hr]; exact hmm
    obtain ⟨ss, hss⟩ : ∃ z, (aa + bv + 2 * rr) % P = z := ⟨_, rfl⟩
    have E3 : Hid (pairF P s m (plV P X 1 Y) (plV P X 1 Y) = ss) := by show pairF P s m (plV P X 1 Y) (plV P X 1 Y) = ss; rw [pair_sum, haa, hbv, ← hr]; exact hss
    have E4 := Lib.hid hoo
    have E5 := Lib.hid haa
    have E6 := Lib.hid hbv
    have M1 := Lib.hid hmm
    have M2 := Lib.hid hss
    clear hr hoo haa hbv hmm hss
    go_wp2_with fail
    go_at_call 12
    refine Calls.makes' (vPair_c P _ m s _ _ Y X _ HOK.out (id.out _ bb) hy.out hx.out rr E1.out) _ fun w5 hb5 => ?_
    replace f0 := cellKp hb5 f0
    replace f1 := cellKp hb5 f1
    have bb := bb.trans (hb5.mono bb.size)
    replace hx := Lib.hid (hx.out.below hb5)
    replace hy := Lib.hid (hy.out.below hb5)
    replace hu := Lib.hid (hu.out.below hb5)
    clear hb5
    have IW : Hid (∀ W, Below (w5).heap.size (w5) W → Ints W (.slice a m c) m s) := fun W hb => id.out W (bb.trans (hb.mono bb.size))
    have hlw := lt_of_cell f0
    go_wp2
    go_region_held3 (fun W => W.cell? ⟨w2.heap.size, 0, none⟩ = some (.int .i64 P) ∧ W.cell? ⟨w2.heap.size, 1, none⟩ = some (.slice a m c) ∧ w2.heap.size < W.heap.size ∧ Below (w5).heap.size (w5) W)
      ((first | assumption | exact sbDrew f0 f1 hlw | exact sbKeep (by assumption) (by assumption) | exact sbKeep (below_drewN _ _) (sb0 f0 f1 hlw) | exact sbRe (sb0 f0 f1 hlw) | exact sbKeep (below_drewN _ _) (by assumption)))
      ((first
        | (have hz := hO1; go_at_call 12; refine Calls.makes' (vPair_c P _ m s _ _ (plV P X k U) Y _ HOK.out (IW.out _ (sbBelow (by assumption))) ⟨hO1.ints, plV_in (by omega) _ _ _ _⟩ (hy.out.below (sbBelow (by assumption))) mm E2.out) _ fun v2 hb2 => ?_; clear hz)
        | (go_at_call 19; refine (plus5_c P _ _ k m X U _ (hx.out.below (sbBelow (by assumption))) (hu.out.below (sbBelow (by assumption))) (by omega) (by omega) hk).mono ?_; rintro e v1 ⟨y1, d1, rfl, hg1, hb1, hO1⟩)))
    have hbr : Below (w5).heap.size (w5) v2 := sbBelow (by assumption)
    replace f0 := cellKp hbr f0
    replace f1 := cellKp hbr f1
    have bb := bb.trans (hbr.mono bb.size)
    replace hx := Lib.hid (hx.out.below hbr)
    replace hy := Lib.hid (hy.out.below hbr)
    replace hu := Lib.hid (hu.out.below hbr)
    clear hbr
    clear IW hO1 hb1 hb2 hg1 E1 E2
    go_wp2_with fail
    go_at_call 12
    refine Calls.makes' (vPair_c P _ m s _ _ U Y _ HOK.out (id.out _ bb) hu.out hy.out oo E4.out) _ fun w6 hb6 => ?_
    replace f0 := cellKp hb6 f0
    replace f1 := cellKp hb6 f1
    have bb := bb.trans (hb6.mono bb.size)
    replace hx := Lib.hid (hx.out.below hb6)
    replace hy := Lib.hid (hy.out.below hb6)
    replace hu := Lib.hid (hu.out.below hb6)
    clear hb6
    clear hu
    go_wp2_with fail
    go_at_call 20
    refine Calls.makes' (E5.out ▸ vNormOf_c P _ m s _ X _ HOK.out (id.out _ bb) hx.out) _ fun w7 hb7 => ?_
    replace f0 := cellKp hb7 f0
    replace f1 := cellKp hb7 f1
    have bb := bb.trans (hb7.mono bb.size)
    replace hx := Lib.hid (hx.out.below hb7)
    replace hy := Lib.hid (hy.out.below hb7)
    clear hb7
    go_wp2_with fail
    go_at_call 20
    refine Calls.makes' (E6.out ▸ vNormOf_c P _ m s _ Y _ HOK.out (id.out _ bb) hy.out) _ fun w8 hb8 => ?_
    replace f0 := cellKp hb8 f0
    replace f1 := cellKp hb8 f1
    have bb := bb.trans (hb8.mono bb.size)
    replace hx := Lib.hid (hx.out.below hb8)
    replace hy := Lib.hid (hy.out.below hb8)
    clear hb8
    have IW : Hid (∀ W, Below (w8).heap.size (w8) W → Ints W (.slice a m c) m s) := fun W hb => id.out W (bb.trans (hb.mono bb.size))
    have hlw := lt_of_cell f0
    go_wp2
    go_region_held3 (fun W => W.cell? ⟨w2.heap.size, 0, none⟩ = some (.int .i64 P) ∧ W.cell? ⟨w2.heap.size, 1, none⟩ = some (.slice a m c) ∧ w2.heap.size < W.heap.size ∧ Below (w8).heap.size (w8) W)
      ((first | assumption | exact sbDrew f0 f1 hlw | exact sbKeep (by assumption) (by assumption) | exact sbKeep (below_drewN _ _) (sb0 f0 f1 hlw) | exact sbRe (sb0 f0 f1 hlw) | exact sbKeep (below_drewN _ _) (by assumption)))
      ((first
        | (have hz := hO3; go_at_call 20; refine Calls.makes' (E3.out ▸ vNormOf_c P _ m s _ (plV P X 1 Y) _ HOK.out (IW.out _ (sbBelow (by assumption))) ⟨hO3.ints, plV_in (by omega) _ _ _ _⟩) _ fun v4 hb4 => ?_; clear hz)
        | (go_at_call 19; refine (plus5_c P _ _ 1 m X Y _ (hx.out.below (sbBelow (by assumption))) (hy.out.below (sbBelow (by assumption))) (by omega) (by omega) (by omega)).mono ?_; rintro e v3 ⟨y3, d3, rfl, hg3, hb3, hO3⟩)))
    have hbr : Below (w8).heap.size (w8) v4 := sbBelow (by assumption)
    replace f0 := cellKp hbr f0
    replace f1 := cellKp hbr f1
    have bb := bb.trans (hbr.mono bb.size)
    replace hx := Lib.hid (hx.out.below hbr)
    replace hy := Lib.hid (hy.out.below hbr)
    clear hbr
    clear IW hO3 hb3 hb4 hg3 E3
    have hxx := hx.out.ints
    have hyy := hy.out.ints
    have hbA : Below v4.heap.size v4 (v4.alloc (.cells #[.slice (some ⟨xa, 0, none⟩) m xc, .slice (some ⟨ya, 0, none⟩) m yc] 24)) := (Below.refl _ _).alloc (Nat.le_refl _) _
    have HT := Lib.hid (list2 24 hxx hyy)
    have HG := Lib.hid (iGramOf_c P _ _ m 2 s _ _ _ (id.out _ (bb.trans (hbA.mono bb.size))) HT.out)
    have HC : Hid (codeSl (spB P m s) P m 2 (pick3 m m m) (pick3 X Y Y) = 0) := gram_code HOK.out hx.out.inp hy.out.inp
    have HBA := Lib.hid hbA
    clear hxx hyy hbA HT
    go_wp2_with fail
    go_at_call 21
    refine HG.out.mono ?_
    rintro e w40 ⟨hb40, hr40⟩
    rw [HC.out] at hr40
    rcases hr40 with ⟨_, gg, gc, rfl, hOT⟩ | ⟨h, _⟩
    rotate_left
    · exact absurd rfl h
    have hbT := HBA.out.trans (hb40.mono HBA.out.size)
    have hG := Lib.hid hOT.tab
    clear HG HC HBA hb40 hOT
    clear hx
    clear hy
    replace f0 := cellKp hbT f0
    replace f1 := cellKp hbT f1
    have bb := bb.trans (hbT.mono bb.size)
    have hfin := Lib.hid (hp2.out.trans (bb.mono hp2.out.size))
    have bk : 0 ≤ k * oo ∧ k * oo ≤ 144 := ⟨Int.mul_nonneg hk.1 bo.1, by have := Int.mul_le_mul (show k ≤ 12 by omega) (show oo ≤ 12 by omega) bo.1 (by omega : (0:Int) ≤ 12); omega⟩
    obtain ⟨ko, hko⟩ : ∃ z, k * oo = z := ⟨_, rfl⟩
    rw [hko] at bk
    have m1 := M1.out
    rw [hko] at m1
    have w1' : IntKind.i64.wrap (k * oo) = ko := wrap_as hko (by omega)
    obtain ⟨x1, hx1⟩ : ∃ z, rr + ko = z := ⟨_, rfl⟩
    have w2' : IntKind.i64.wrap (rr + ko) = x1 := wrap_as hx1 (by omega)
    obtain ⟨x2, hx2⟩ : ∃ z, aa + bv = z := ⟨_, rfl⟩
    have w3' : IntKind.i64.wrap (aa + bv) = x2 := wrap_as hx2 (by omega)
    obtain ⟨x3, hx3⟩ : ∃ z, 2 * rr = z := ⟨_, rfl⟩
    have w4' : IntKind.i64.wrap (2 * rr) = x3 := wrap_as hx3 (by omega)
    obtain ⟨x4, hx4⟩ : ∃ z, x2 + x3 = z := ⟨_, rfl⟩
    have w5' : IntKind.i64.wrap (x2 + x3) = x4 := wrap_as hx4 (by omega)
    have m2 := M2.out
    have CM1 : Hid (∀ W, Calls Try.prog 22 #[.int .i64 P, .int .i64 x1] W fun e w' => e = .returned (.int .i64 mm) ∧ W = w') := fun W => (show x1 % P = mm by rw [← hx1]; exact m1) ▸ mod5_c P x1 W (by omega) (by omega) (by omega) (by omega)
    have CM2 : Hid (∀ W, Calls Try.prog 22 #[.int .i64 P, .int .i64 x4] W fun e w' => e = .returned (.int .i64 ss) ∧ W = w') := fun W => (show x4 % P = ss by rw [← hx4, ← hx2, ← hx3]; exact m2) ▸ mod5_c P x4 W (by omega) (by omega) (by omega) (by omega)
    have GG : Hid (eqTB 2 2 (fun _ => 2) (pick3 2 2 2) (gramT P s m (pick3 X Y Y)) (gr2 aa rr bv) = true) := by show eqTB 2 2 (fun _ => 2) (pick3 2 2 2) (gramT P s m (pick3 X Y Y)) (gr2 aa rr bv) = true; rw [← E5.out, ← E6.out, HR.out]; exact gram_gr2 P s m X Y
    have HTB : Hid (Tab (((w40.alloc (.cells #[.int .i64 aa, .int .i64 rr] 2)).alloc (.cells #[.int .i64 rr, .int .i64 bv] 2)).alloc (.cells #[.slice (some ⟨w40.heap.size, 0, none⟩) 2 2, .slice (some ⟨w40.heap.size + 1, 0, none⟩) 2 2] 24)) (.slice (some ⟨w40.heap.size + 2, 0, none⟩) 2 2) 2 (pick3 2 2 2) (gr2 aa rr bv) ∧ Below w40.heap.size w40 (((w40.alloc (.cells #[.int .i64 aa, .int .i64 rr] 2)).alloc (.cells #[.int .i64 rr, .int .i64 bv] 2)).alloc (.cells #[.slice (some ⟨w40.heap.size, 0, none⟩) 2 2, .slice (some ⟨w40.heap.size + 1, 0, none⟩) 2 2] 24))) := rows2 w40 aa rr bv
    have GT : Hid (Tab (((w40.alloc (.cells #[.int .i64 aa, .int .i64 rr] 2)).alloc (.cells #[.int .i64 rr, .int .i64 bv] 2)).alloc (.cells #[.slice (some ⟨w40.heap.size, 0, none⟩) 2 2, .slice (some ⟨w40.heap.size + 1, 0, none⟩) 2 2] 24)) (.slice (some ⟨gg, 0, none⟩) 2 gc) 2 (fun _ => 2) (gramT P s m (pick3 X Y Y))) := hG.out.below HTB.out.2
    have HF2 : Hid (∀ q, Below w.heap.size w ((((w40.alloc (.cells #[.int .i64 aa, .int .i64 rr] 2)).alloc (.cells #[.int .i64 rr, .int .i64 bv] 2)).alloc (.cells #[.slice (some ⟨w40.heap.size, 0, none⟩) 2 2, .slice (some ⟨w40.heap.size + 1, 0, none⟩) 2 2] 24)).drewN q)) := fun q => hfin.out.trans ((HTB.out.2.trans ((below_drewN _ q).mono HTB.out.2.size)).mono hfin.out.size)
    clear hko hx1 hx2 hx3 hx4 m1 m2 M1 M2 E4 E5 E6 HR HOK id hp2 bb hfin bk hG f0 f1
    go_wp2_with fail
    go_at_call 22
    refine (CM1.out _).mono ?_
    rintro e wz ⟨rfl, rfl⟩
    go_wp2_with fail
    go_at_call 22
    refine (CM2.out _).mono ?_
    rintro e wz ⟨rfl, rfl⟩
    go_wp2_with fail
    go_at_call 23
    refine Calls.reads' (wr := w) (likeRows5_c _ _ _ _ _ _ _ _ _ GT.out HTB.out.1) _ fun q41 => ?_
    rw [GG.out]
    have hf := HF2.out q41
    clear CM1 CM2 GG HTB GT HF2
    go_wp2
    go_ret
    exact ⟨rfl, hf⟩

end Go.Proofs.Ytnkflgigbielgaa
