/-
  The draw of a space and two vectors; lists of the laws on spaces. No condition beside sizes.
-/
import Derived.Test.YtnkflgigbielgaaLS2
import Derived.Test.YtnkflgigbielgaaLS3
import Derived.StillTailTactics
set_option linter.unusedVariables false
set_option linter.unusedSimpArgs false
namespace Go.Proofs.Ytnkflgigbielgaa
open Go.RowKit

set_option maxHeartbeats 400000 in
theorem zero5_c (v : Value) (n : Nat) (X : Nat → Int) (w : World) (h : Ints w v n X) :
    Calls Try.prog 35 #[v] w fun e w' => e = .returned (.bool (decide (∀ i, i < n → X i = 0))) ∧ w = w' := by
  obtain ⟨ao, c, b, o, rfl, p2, p3, p4, p5⟩ := h.out
  have P5 := Lib.hid p5
  clear h p5
  go_enter Try.func35, Try.ntmps35
  go_wp2
  go_loopg [3] n (fun g i wr => w = wr ∧ ∃ k : Nat, k ≤ n ∧ g = n - k ∧ i = .int .i64 k ∧ ∀ j, j < k → X j = 0)
  case atStart => exact ⟨rfl, 0, Nat.zero_le _, rfl, rfl, fun j hj => absurd hj (Nat.not_lt_zero _)⟩
  case round =>
    obtain ⟨rfl, k, hk, rfl, rfl, hall⟩ := hrel
    have H := Lib.hid hall; clear hall
    by_cases hlt : k < n
    · obtain rfl := p4 (by omega)
      have e1 := P5.out k hlt
      by_cases hz : X k = 0
      · have hzb : (X k != 0) = false := by simp [hz]
        have HZ := Lib.hid hz
        clear hz
        go_wp2
        go_roundg (n - (k + 1))
        case measure => omega
        case rel => exact ⟨rfl, k + 1, by omega, rfl, by go_num, fun j hj => by
          by_cases e : j = k
          · subst e; exact HZ.out
          · exact H.out j (by omega)⟩
      · have hzb : (X k != 0) = true := by simp [hz]
        have HZ := Lib.hid hz
        clear hz
        go_wp2
        go_ret
        exact ⟨ret_bool (decide_eq_false fun h => HZ.out (h k hlt)).symm, rfl⟩
    · obtain rfl : k = n := by omega
      go_wp2
      go_ret
      exact ⟨ret_bool (decide_eq_true H.out).symm, rfl⟩

theorem mod5_c (p n : Int) (w : World) (h1 : 1 ≤ p) (h2 : p ≤ 1000) (h3 : -4611686018427387904 ≤ n) (h4 : n ≤ 4611686018427387904) :
    Calls Try.prog 22 #[.int .i64 p, .int .i64 n] w fun e w' => e = .returned (.int .i64 (n % p)) ∧ w = w' := by
  have hb := tmod_bd n p (by omega)
  have e := go_mod n p (by omega)
  obtain ⟨q, hq⟩ : ∃ q, n.tmod p = q := ⟨_, rfl⟩
  rw [hq] at hb e
  have hw : IntKind.i64.wrap (q + p) = q + p := wrap_in' _ (by omega)
  obtain ⟨r, hr⟩ : ∃ r, (q + p).tmod p = r := ⟨_, rfl⟩
  rw [hr] at e
  have hp0 : p ≠ 0 := by omega
  have E := Lib.hid e
  clear e
  go_enter Try.func22, Try.ntmps22
  go_wp2
  go_ret
  exact ⟨by rw [← E.out]; rfl, rfl⟩

set_option maxRecDepth 100000 in
set_option maxHeartbeats 4000000 in
theorem list5_c (g ln : Nat) (cv : Value) (B : Nat → Int) (P : Int) (m : Nat) (w : World) (hs : Dce w g cv ln) (hB : ∀ W, Chg w W (· = g) → Byt W cv ln B) (hm : m ≤ 64) (hP : 2 ≤ P ∧ P ≤ 13) :
    Calls Try.prog 17 #[.pointer (some ⟨g, 0, none⟩), .int .i64 m, .int .i64 P] w fun e w' => Rol w w' e g cv ln m P := by
  have HB := Lib.hid hB
  have hgl := hs.lt
  have hba : Below w.heap.size w (w.alloc (.cells #[] 2)) := (Below.refl _ _).alloc (Nat.le_refl _) _
  have HS := Lib.hid (hs.kept hba)
  have HC := Lib.hid (Chg.of_below hba (· = g))
  have HO := Lib.hid (Own.empty w 2 (fun i => .int .i64 ((fun _ => 0) i)))
  clear hs hB hba
  go_enter Try.func17, Try.ntmps17
  go_wp2
  go_loopg [1, 7] m (fun gg nv o wr => ∃ k : Nat, k ≤ m ∧ gg = m - k ∧ nv = .int .i64 ((m : Int) - (k : Int)) ∧ Hid (Dce wr g cv ln) ∧ Hid (Chg w wr (· = g)) ∧ ∃ (g' c' : Nat) (X : Nat → Int), o = .slice (some ⟨g', 0, none⟩) k c' ∧ w.heap.size ≤ g' ∧ Own wr 2 g' c' k (fun i => .int .i64 (X i)) ∧ Hid (InP P k X))
  case atStart => exact ⟨0, Nat.zero_le _, rfl, by simp, HS.out, HC.out, _, _, _, rfl, Nat.le_refl _, HO.out, fun i hi => absurd hi (Nat.not_lt_zero _)⟩
  case round =>
    obtain ⟨k, hk, rfl, rfl, hD, hC, g', c', X, rfl, hg', hO, hX⟩ := hrel
    clear HS HC HO
    by_cases hlt : k < m
    · have h1 : (0 : Int) < (m : Int) - (k : Int) := by omega
      have hwk : IntKind.i64.wrap ((m : Int) - (k : Int) - 1) = (m : Int) - ((k + 1 : Nat) : Int) := wrap_as (by omega) (by omega)
      have hN := Lib.hid (below9_c g ln cv B P wr hD.out (HB.out _ hC.out) (by omega))
      go_wp2_with fail
      refine hN.out.mono ?_
      rintro e w2 ⟨y, rfl, hy, _, hr2⟩
      have hV := hr2.chg.own hO (by show ¬ g' = g; omega)
      have hC2 := Lib.hid (hC.out.trans hr2.chg)
      have hD2 := Lib.hid hr2.src
      clear hr2 hN hC hD hO
      go_wp2_with (at_builtin; refine wpList_push _ rfl _ _ _ _ elI rfl hV (.int .i64 y) rfl rfl rfl (by omega) (by omega) ?_; intro g3 c3 w4 hO4 hg4 hgr4)
      go_roundg (m - (k + 1))
      case measure => omega
      case rel =>
        have hc3 := Chg.grownC hgr4
        have hsz := hC2.out.size
        exact ⟨k + 1, by omega, rfl, rfl, hD2.out.by hc3 (by omega), hC2.out.fresh hc3 (fun j e => Or.inr (by have e : j = g' := e; omega)), g3, c3, fun j => if j = k then y else X j, rfl, by omega, hO4.congr fun j hj => by by_cases e : j = k <;> simp [e], fun j hj => by
          show 0 ≤ (if j = k then y else X j) ∧ (if j = k then y else X j) < P
          by_cases e : j = k
          · rw [if_pos e]; exact hy (by omega)
          · rw [if_neg e]; exact hX.out j (by omega)⟩
    · obtain rfl : k = m := by omega
      have h1 : ¬ (0 : Int) < (k : Int) - (k : Int) := by omega
      go_wp2
      go_ret
      exact ⟨⟨g', c', X, rfl, hg', hO, hX.out⟩, hD.out, hC.out⟩

/-- a vector plus a multiple -/
def plV (p : Int) (X : Nat → Int) (k : Int) (Y : Nat → Int) (i : Nat) : Int := (X i + k * Y i) % p
theorem plV_in {p : Int} (hp : 0 < p) (X : Nat → Int) (k : Int) (Y : Nat → Int) (n : Nat) : InP p n (plV p X k Y) := fun i _ => mod_bd _ _ hp

set_option maxRecDepth 100000 in
set_option maxHeartbeats 4000000 in
theorem plus5_c (p : Int) (xv yv : Value) (k : Int) (n : Nat) (X Y : Nat → Int) (w : World) (hx : Vc w xv p n X) (hy : Vc w yv p n Y) (hn : n ≤ 64) (hp : 2 ≤ p ∧ p ≤ 13) (hk : 0 ≤ k ∧ k < p) :
    Calls Try.prog 19 #[.int .i64 p, xv, yv, .int .i64 k] w fun e w' => ∃ g c, e = .returned (.slice (some ⟨g, 0, none⟩) n c) ∧ w.heap.size ≤ g ∧ Below w.heap.size w w' ∧ Own w' 2 g c n (fun i => .int .i64 (plV p X k Y i)) := by
  have hXi := hx.inp
  have hYi := hy.inp
  obtain ⟨xa, xc, xb, xo, rfl, x2, x3, x4, x5⟩ := hx.ints.out
  obtain ⟨ya, yc, yb, yo, rfl, y2, y3, y4, y5⟩ := hy.ints.out
  have X5 := Lib.hid x5
  have Y5 := Lib.hid y5
  have HX := Lib.hid hXi
  have HY := Lib.hid hYi
  have hba : Below w.heap.size w (w.alloc (.cells #[] 2)) := (Below.refl _ _).alloc (Nat.le_refl _) _
  have HBA := Lib.hid hba
  have HO := Lib.hid (Own.empty w 2 (fun i => .int .i64 (plV p X k Y i)))
  clear hx hy x5 y5 hXi hYi hba
  go_enter Try.func19, Try.ntmps19
  go_wp2
  go_loopg [9, 10] n (fun gg o iv wr => ∃ i : Nat, i ≤ n ∧ gg = n - i ∧ iv = .int .i64 i ∧ Below w.heap.size w wr ∧ ∃ (g' c' : Nat), o = .slice (some ⟨g', 0, none⟩) i c' ∧ w.heap.size ≤ g' ∧ Own wr 2 g' c' i (fun i => .int .i64 (plV p X k Y i)))
  case atStart => exact ⟨0, Nat.zero_le _, rfl, rfl, HBA.out, _, _, rfl, Nat.le_refl _, HO.out⟩
  case round =>
    obtain ⟨i, hi, rfl, rfl, hb, g', c', rfl, hg', hO⟩ := hrel
    clear HBA HO
    by_cases hlt : i < n
    · obtain rfl := x4 (by omega)
      obtain rfl := y4 (by omega)
      have hlx := lt_of_cell (X5.out i hlt)
      have hly := lt_of_cell (Y5.out i hlt)
      obtain ⟨xi, hxi⟩ : ∃ z, X i = z := ⟨_, rfl⟩
      obtain ⟨yi, hyi⟩ : ∃ z, Y i = z := ⟨_, rfl⟩
      have c1 : wr.cell? ⟨xb, xo + i, none⟩ = some (.int .i64 xi) := by rw [hb.cell (p := ⟨xb, xo + i, none⟩) hlx, X5.out i hlt, hxi]
      have c2 : wr.cell? ⟨yb, yo + i, none⟩ = some (.int .i64 yi) := by rw [hb.cell (p := ⟨yb, yo + i, none⟩) hly, Y5.out i hlt, hyi]
      have bx := HX.out i hlt
      have by' := HY.out i hlt
      rw [hxi] at bx
      rw [hyi] at by'
      have bm : 0 ≤ k * yi ∧ k * yi ≤ 144 := ⟨Int.mul_nonneg hk.1 by'.1, by have := Int.mul_le_mul (show k ≤ 12 by omega) (show yi ≤ 12 by omega) by'.1 (by omega : (0:Int) ≤ 12); omega⟩
      obtain ⟨ky, hky⟩ : ∃ z, k * yi = z := ⟨_, rfl⟩
      rw [hky] at bm
      have w1 : IntKind.i64.wrap (k * yi) = ky := wrap_as hky (by omega)
      obtain ⟨sm, hsm⟩ : ∃ z, xi + ky = z := ⟨_, rfl⟩
      have w2 : IntKind.i64.wrap (xi + ky) = sm := wrap_as hsm (by omega)
      have bs : 0 ≤ sm ∧ sm ≤ 200 := by omega
      have HE : Hid (sm % p = plV p X k Y i) := by show _ = (X i + k * Y i) % p; rw [hxi, hyi, hky, hsm]
      have hOd := hO.drew
      have i0 : (0 : Int) ≤ (i : Int) := by omega
      have i1 : (i : Int) < (n : Int) := by omega
      have hp0 : p ≠ 0 := by omega
      clear hky hsm hxi hyi bm
      go_wp2_with fail
      go_region_law (first
        | (go_simp; go_at_call 22; refine (mod5_c p sm _ (by omega) (by omega) (by omega) (by omega)).mono ?_; rintro e w' ⟨rfl, rfl⟩; rw [HE.out])
        | (refine step_push rfl _ _ _ _ elI rfl (Own.drew hO) (.int .i64 (plV p X k Y i)) rfl rfl rfl (by omega) (by omega) ?_; intro g3 c3 w3 hO3 hg3 hgr3))
      all_goals go_wp2
      all_goals go_roundg (n - (i + 1))
      all_goals first
        | omega
        | (have hlt4 := hb.size
           have hgr4 : wr.grownBy w3 (some g') := ⟨hgr3.os, hgr3.tape, hgr3.output, hgr3.size, hgr3.block⟩
           have hg4 : g3 = g' ∨ wr.heap.size ≤ g3 := hg3
           exact ⟨i + 1, by omega, rfl, by go_num, hb.grown hgr4 hlt4 (fun k e => by injection e with e; omega), g3, c3, rfl, by omega, hO3.congr fun j hj => by by_cases e : j = i <;> simp [e]⟩)
    · obtain rfl : i = n := by omega
      go_wp2
      go_ret
      exact ⟨g', c', rfl, hg', hb, hO⟩

/-- a space and two vectors that are drawn -/
structure DrawnP (w w' : World) (e : Ending) : Prop where
  out : ∃ (P : Int) (a : Option Addr) (c m : Nat) (s : Nat → Int) (x cx nx : Nat) (X : Nat → Int) (y cy ny : Nat) (Y : Nat → Int), e = .returned (.tuple #[dbl P (.slice a m c), .slice (some ⟨x, 0, none⟩) nx cx, .slice (some ⟨y, 0, none⟩) ny cy]) ∧ Below w.heap.size w w' ∧ OI w' w.heap.size w'.heap.size a c m s ∧ m ≤ 7 ∧ nx ≤ 8 ∧ ny ≤ 8 ∧ Ints w' (.slice (some ⟨x, 0, none⟩) nx cx) nx X ∧ Ints w' (.slice (some ⟨y, 0, none⟩) ny cy) ny Y

/-- what is known while vectors are drawn: the space's box bd, the result's box, the squares -/
structure DK (w wr : World) (g : Nat) (cv : Value) (n bd : Nat) (P : Int) (a : Option Addr) (c m : Nat) (s : Nat → Int) : Prop where
  ord : w.heap.size < g ∧ g < bd ∧ bd < wr.heap.size
  src : Src wr g cv n
  box : Own wr 26 bd 2 2 (fun i => if i = 0 then .int .i64 P else .slice a m c)
  res : Own wr 26 w.heap.size 2 2 (fun i => if i = 0 then .int .i64 0 else .slice none 0 0)
  lst : OI wr (g + 1) bd a c m s
  bel : Below w.heap.size w wr
theorem DK.by {w wr w' : World} {g : Nat} {cv : Value} {n bd : Nat} {P : Int} {a : Option Addr} {c m : Nat} {s : Nat → Int} {S : Nat → Prop} (h : DK w wr g cv n bd P a c m s) (hc : Chg wr w' S) (hS : ∀ b, S b → bd < b) : DK w w' g cv n bd P a c m s := by
  have ho := h.ord
  have hs := hc.size
  refine ⟨⟨ho.1, ho.2.1, by omega⟩, h.src.by hc (fun e => by have := hS _ e; omega), hc.own h.box (fun e => by have := hS _ e; omega), hc.own h.res (fun e => by have := hS _ e; omega), h.lst.by hc (fun k e => Or.inr (by have := hS k e; omega)), h.bel.trans (hc.below h.bel.size fun k e => by have := hS k e; omega)⟩
theorem DK.step {w wr w' : World} {g : Nat} {cv : Value} {n bd : Nat} {P : Int} {a : Option Addr} {c m : Nat} {s : Nat → Int} (h : DK w wr g cv n bd P a c m s) (hd : Drew wr w' g cv n) : DK w w' g cv n bd P a c m s := by
  have ho := h.ord
  have hs := hd.chg.size
  refine ⟨⟨ho.1, ho.2.1, by omega⟩, hd.src, hd.chg.own h.box (by show ¬ bd = g; omega), hd.chg.own h.res (by show ¬ w.heap.size = g; omega), h.lst.by hd.chg (fun k e => Or.inl (by have e : k = g := e; omega)), h.bel.trans (hd.below h.bel.size (by omega))⟩
theorem DK.kept {w wr w' : World} {g : Nat} {cv : Value} {n bd : Nat} {P : Int} {a : Option Addr} {c m : Nat} {s : Nat → Int} (h : DK w wr g cv n bd P a c m s) (hb : Below wr.heap.size wr w') : DK w w' g cv n bd P a c m s := h.by (Chg.of_below hb (fun _ => False)) fun b e => e.elim
/-- the result set -/
theorem DK.fin {w wr : World} {g : Nat} {cv : Value} {n bd : Nat} {P : Int} {a : Option Addr} {c m : Nat} {s : Nat → Int} (h : DK w wr g cv n bd P a c m s) (u v : Value) :
    Chg wr ((wr.setCell ⟨w.heap.size, 0, none⟩ u).setCell ⟨w.heap.size, 1, none⟩ v) (· = w.heap.size) ∧ Below w.heap.size w ((wr.setCell ⟨w.heap.size, 0, none⟩ u).setCell ⟨w.heap.size, 1, none⟩ v) ∧ OI ((wr.setCell ⟨w.heap.size, 0, none⟩ u).setCell ⟨w.heap.size, 1, none⟩ v) w.heap.size ((wr.setCell ⟨w.heap.size, 0, none⟩ u).setCell ⟨w.heap.size, 1, none⟩ v).heap.size a c m s := by
  have ho := h.ord
  have hsz : ((wr.setCell ⟨w.heap.size, 0, none⟩ u).setCell ⟨w.heap.size, 1, none⟩ v).heap.size = wr.heap.size := by simp [World.setCell]
  have hc : Chg wr ((wr.setCell ⟨w.heap.size, 0, none⟩ u).setCell ⟨w.heap.size, 1, none⟩ v) (· = w.heap.size) := ((Chg.refl wr (· = w.heap.size)).setCell (a := ⟨w.heap.size, 0, none⟩) rfl u).setCell (a := ⟨w.heap.size, 1, none⟩) rfl v
  exact ⟨hc, h.bel.trans (hc.below h.bel.size fun k e => by have e : k = w.heap.size := e; omega), (h.lst.by hc fun k e => Or.inl (by have e : k = w.heap.size := e; omega)).lowH (by omega) (by omega)⟩
/-- the source and the space are drawn -/
theorem dk_start {w wa w1 w2 wb : World} {g : Nat} {cv : Value} {n : Nat} {P : Int} {a : Option Addr} {c m : Nat} {s : Nat → Int} (hwa : wa = w.alloc (.cells #[.int .i64 0, .slice none 0 0] 26)) (h1 : Below wa.heap.size wa w1) (hg : wa.heap.size ≤ g) (hs : Src w1 g cv n) (hl : OI w2 w1.heap.size w2.heap.size a c m s) (hd : Drew w1 w2 g cv n) (hwb : wb = w2.alloc (.cells #[.int .i64 P, .slice a m c] 26)) : DK w wb g cv n w2.heap.size P a c m s := by
  have hsa : wa.heap.size = w.heap.size + 1 := by rw [hwa]; simp
  have hsb : wb.heap.size = w2.heap.size + 1 := by rw [hwb]; simp
  have hra : Own wa 26 w.heap.size 2 2 (fun i => if i = 0 then .int .i64 0 else .slice none 0 0) := by rw [hwa]; exact own2 w _ _ _
  have hba : Below w.heap.size w wa := by rw [hwa]; exact (Below.refl _ _).alloc (Nat.le_refl _) _
  have hbb : Below w2.heap.size w2 wb := by rw [hwb]; exact (Below.refl _ _).alloc (Nat.le_refl _) _
  have hgl := hs.lt
  have h12 := hd.chg.size
  have hs1 := h1.size
  have hb1 := hba.trans (h1.mono (by omega))
  refine ⟨⟨by omega, by omega, by omega⟩, hd.src.kept hbb, by rw [hwb]; exact own2 w2 _ _ _, (hd.chg.own (hra.kept h1) (by show ¬ w.heap.size = g; omega)).kept hbb, ?_, hb1.trans ((hd.below hb1.size (by omega)).trans (hbb.mono (by omega)))⟩
  exact (hl.kept hbb).lowH (by omega) (by omega)

set_option maxRecDepth 100000 in
set_option maxHeartbeats 4000000 in
theorem sDrawPairOf_c (cv : Value) (n : Nat) (B : Nat → Int) (w : World) (hB : Byt w cv n B) :
    Calls Try.prog 11 #[cv] w fun e w' => DrawnP w w' e := by
  have HB : Hid (∀ W, Below w.heap.size w W → Byt W cv n B) := fun W hb => hB.below hb
  obtain ⟨wa, hwa⟩ : ∃ wa, wa = w.alloc (.cells #[.int .i64 0, .slice none 0 0] 26) := ⟨_, rfl⟩
  have hba : Below w.heap.size w wa := by rw [hwa]; exact (Below.refl _ _).alloc (Nat.le_refl _) _
  have hF := sFrom_c cv n B wa (HB.out _ hba)
  rw [hwa] at hF
  have HF := Lib.hid hF
  have HWA := Lib.hid hwa
  have HBA := Lib.hid hba
  obtain ⟨ao, c0, _, _, rfl, qq⟩ := hB.out
  clear hwa hF hB hba qq
  go_enter Try.func11, Try.ntmps11
  go_wp2_with fail
  refine HF.out.mono ?_
  rintro e w1 ⟨g, rfl, hg, hb1, hs1⟩
  rw [← HWA.out] at hg hb1
  have hbw1 : Hid (Below w.heap.size w w1) := HBA.out.trans (hb1.mono HBA.out.size)
  have HP := Lib.hid (sSpoilSp_c g n _ B w1 hs1 (fun W hc => HB.out W (hbw1.out.trans (hc.below hbw1.out.size (fun k e => by have e : k = g := e; have := HBA.out.size; omega)))))
  have HG := Lib.hid hg
  have HB1 := Lib.hid hb1
  have HS1 := Lib.hid hs1
  clear HF hg hb1 hs1
  go_wp2_with fail
  refine HP.out.mono ?_
  rintro e w2 ⟨P, a, c, m, s, rfl, hm, hP, hL, hd⟩
  obtain ⟨wb, hwb⟩ : ∃ wb, wb = w2.alloc (.cells #[.int .i64 P, .slice a m c] 26) := ⟨_, rfl⟩
  have hDK := dk_start (P := P) HWA.out HB1.out HG.out HS1.out hL hd hwb
  have hBW : Hid (∀ W, DK w W g (.slice ao n c0) n w2.heap.size P a c m s → Byt W (.slice ao n c0) n B) := fun W h => HB.out W h.bel
  have HD : Hid (DK w (w2.alloc (.cells #[.int .i64 P, .slice a m c] 26)).drew g (.slice ao n c0) n w2.heap.size P a c m s) := by rw [← hwb]; exact hDK.kept (drewB wb)
  have b0 := HD.out.box.cell (show 0 < 2 by omega)
  have b1 := HD.out.box.cell (show 1 < 2 by omega)
  have r0 := HD.out.res.cell (show 0 < 2 by omega)
  have r1 := HD.out.res.cell (show 1 < 2 by omega)
  simp only [if_pos, if_neg (show ¬ (1 : Nat) = 0 by omega)] at b0 b1 r0 r1
  have ho := HD.out.ord
  have CV : Hid (∀ W, DK w W g (.slice ao n c0) n w2.heap.size P a c m s → Calls Try.prog 62 #[.pointer (some ⟨g, 0, none⟩), dbl P (.slice a m c)] W fun e w' => ∃ (x cx nx : Nat) (X : Nat → Int), e = .returned (.slice (some ⟨x, 0, none⟩) nx cx) ∧ nx ≤ 8 ∧ W.heap.size ≤ x ∧ Own w' 2 x cx nx (fun i => .int .i64 (X i)) ∧ DK w w' g (.slice ao n c0) n w2.heap.size P a c m s ∧ Chg W w' (· = g)) := fun W h =>
    (sDrawVec_c g n _ B P _ m s W h.src (fun W' hc => HB.out W' (h.bel.trans (hc.below h.bel.size (fun k e => by have e : k = g := e; have := h.ord; omega)))) h.lst.ints hm hP).mono fun e w' hv => by
      obtain ⟨x, cx, nx, X, h1, h2, h3, h4⟩ := hv.out
      exact ⟨x, cx, nx, X, h1, h2, h3, h4, h.step hv.drw, hv.drw.chg⟩
  clear hwb hDK HP HS1 HB1 HG hd hL hbw1
  go_wp2
  go_region_law (first
    | (go_simp; go_at_call 62; refine (CV.out _ HD.out).mono ?_; rintro e w5 ⟨x, cx, nx, X, rfl, hnx, hx5, hX5, hD5, hc5⟩; have HD5 := Lib.hid hD5; have HX5 := Lib.hid hX5; have y0 := hD5.box.cell (show 0 < 2 by omega); have y1 := hD5.box.cell (show 1 < 2 by omega); simp only [if_pos, if_neg (show ¬ (1 : Nat) = 0 by omega)] at y0 y1; have hs5 := hc5.size; have hl5 := hX5.lt; clear hD5 hX5 hc5 b0 b1)
    | (go_simp; go_at_call 62; refine (CV.out _ HD5.out).mono ?_; rintro e w6 ⟨y, cy, ny, Y, rfl, hny, hy6, hY6, hD6, hc6⟩; have HD6 := Lib.hid hD6; have HY6 := Lib.hid hY6; have HX6 := Lib.hid (hc6.own HX5.out (by show ¬ x = g; omega)); have y0 := hD6.box.cell (show 0 < 2 by omega); have y1 := hD6.box.cell (show 1 < 2 by omega); have r0 := hD6.res.cell (show 0 < 2 by omega); have r1 := hD6.res.cell (show 1 < 2 by omega); have q0 := hD6.res.frozen 0; have q1 := hD6.res.frozen 1; simp only [if_pos, if_neg (show ¬ (1 : Nat) = 0 by omega)] at y0 y1 r0 r1; have hs6 := hc6.size; clear hD6 hY6 hc6))
  all_goals
    have hres := (HD6.out.res.set 0 (.int .i64 P)).set 1 (.slice a m c)
    have c0' := hres.cell (show 0 < 2 by omega)
    have c1' := hres.cell (show 1 < 2 by omega)
    simp at c0' c1'
    obtain ⟨u1, u2, u3⟩ := HD6.out.fin (.int .i64 P) (.slice a m c)
    have x1 := (u1.own HX6.out (by show ¬ x = w.heap.size; omega)).ints
    have x2 := (u1.own HY6.out (by show ¬ y = w.heap.size; omega)).ints
    have HFIN : Hid (DrawnP w ((w6.setCell ⟨w.heap.size, 0, none⟩ (.int .i64 P)).setCell ⟨w.heap.size, 1, none⟩ (.slice a m c)) (.returned (.tuple #[dbl P (.slice a m c), .slice (some ⟨x, 0, none⟩) nx cx, .slice (some ⟨y, 0, none⟩) ny cy]))) :=
      ⟨P, a, c, m, s, x, cx, nx, X, y, cy, ny, Y, rfl, u2, u3, hm, hnx, hny, x1, x2⟩
    clear hres u1 u2 u3 x1 x2
    go_wp2
    refine bodyPost_ret (v := .tuple #[.agg #[.int .i64 P, .slice a m c], .slice (some ⟨x, 0, none⟩) nx cx, .slice (some ⟨y, 0, none⟩) ny cy]) (by simp [results, Try.results11, go_sem, c0', c1']; try rfl) rfl ?_
    exact HFIN.out

end Go.Proofs.Ytnkflgigbielgaa
