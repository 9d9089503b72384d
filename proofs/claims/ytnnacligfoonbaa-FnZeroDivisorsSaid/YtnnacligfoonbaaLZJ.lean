/-
  The draws of a doubling, and of a doubling and an element that often has the norm nought. No condition beside sizes.
-/
import Derived.Test.YtnnacligfoonbaaLDE
import Derived.Test.YtnnacligfoonbaaLXJ
import Derived.StillTailTactics
import Derived.Test.YtnnacligfoonbaaLC3
import Derived.Test.YtnnacligfoonbaaLW1
import Derived.Test.YtnnacligfoonbaaRDJ
import Derived.Test.YtnnacligfoonbaaQZJ
import Derived.Test.YtnnacligfoonbaaQGJ
import Derived.Test.YtnnacligfoonbaaDX
set_option linter.unusedVariables false
set_option linter.unusedSimpArgs false
namespace Go.Proofs.Ytnnacligfoonbaa
open Go.RowKit

set_option maxRecDepth 100000 in
set_option maxHeartbeats 4000000 in
theorem sDrawIsDivision_c (cv : Value) (n : Nat) (B : Nat → Int) (w : World) (hB : Byt w cv n B) :
    Calls Try.prog 67 #[cv] w fun e w' => DrawnD w w' e := by
  have HB : Hid (∀ W, Below w.heap.size w W → Byt W cv n B) := fun W hb => hB.below hb
  obtain ⟨wa, hwa⟩ : ∃ wa, wa = w.alloc (.cells #[.int .i64 0, .slice none 0 0] 26) := ⟨_, rfl⟩
  have hba : Below w.heap.size w wa := by rw [hwa]; exact (Below.refl _ _).alloc (Nat.le_refl _) _
  have hsa : wa.heap.size = w.heap.size + 1 := by rw [hwa]; simp
  have hra : Own wa 26 w.heap.size 2 2 (fun i => if i = 0 then .int .i64 0 else .slice none 0 0) := by rw [hwa]; exact own2 w _ _ _
  have hp1 := sFrom_c cv n B wa (hB.below hba)
  rw [hwa] at hp1
  have HP1 := Lib.hid hp1
  have HWA := Lib.hid hwa
  have HRA := Lib.hid hra
  have HBA := Lib.hid hba
  have HSZ := Lib.hid hsa
  obtain ⟨ao, c0, _, _, rfl, qq⟩ := hB.out
  clear qq
  clear hwa hra hba hp1 hB hsa
  go_enter Try.func67, Try.ntmps67
  go_wp2_with fail
  refine HP1.out.mono ?_
  rintro e w1 ⟨g, rfl, hg, hb1, hs1⟩
  rw [← HWA.out] at hg hb1
  have hb1a := Lib.hid (HBA.out.trans (hb1.mono HBA.out.size))
  have hra1 := Lib.hid (HRA.out.kept hb1)
  have hsz := HSZ.out
  have hN := Lib.hid (sNext_c g n _ B 2 w1 hs1 (HB.out _ hb1a.out) (by omega))
  clear HP1 HWA HRA HBA hb1 hs1
  go_wp2_with fail
  refine hN.out.mono ?_
  rintro e w2 ⟨x, rfl, hx, _, hd⟩
  have hl1 := hb1a.out.size
  have hb2 := Lib.hid (hb1a.out.trans (hd.below hl1 (by omega)))
  have hra2 := Lib.hid (hd.chg.own hra1.out (by show ¬ w.heap.size = g; omega))
  have hlt := hra1.out.lt
  have HS2 := Lib.hid hd.src
  have hsd := hd.chg.size
  clear hN hd
  by_cases hx0 : x = 0
  · subst hx0
    have hD := Lib.hid (sDrawAny_c g n _ B 1 w2 HS2.out (fun W hc => HB.out W (hb2.out.trans (hc.below hb2.out.size (fun k e => by have e : k = g := e; omega)))) (by omega))
    go_wp2_with fail
    refine hD.out.mono ?_
    rintro e w3 ⟨P, a, c, m, s, rfl, hm, hP, hL, hd⟩
    have hb3 := hb2.out.trans (hd.below hb2.out.size (by omega))
    have hra3 := hd.chg.own hra2.out (by show ¬ w.heap.size = g; omega)
    have r0 := hra3.cell (show 0 < 2 by omega)
    have r1 := hra3.cell (show 1 < 2 by omega)
    have q0 := hra3.frozen 0
    have q1 := hra3.frozen 1
    simp only [if_pos, if_neg (show ¬ (1 : Nat) = 0 by omega)] at r0 r1
    have hres := (hra3.set 0 (.int .i64 P)).set 1 (.slice a m c)
    have c0' := hres.cell (show 0 < 2 by omega)
    have c1' := hres.cell (show 1 < 2 by omega)
    simp at c0' c1'
    have hc : Chg w3 ((w3.setCell ⟨w.heap.size, 0, none⟩ (.int .i64 P)).setCell ⟨w.heap.size, 1, none⟩ (.slice a m c)) (· = w.heap.size) := ((Chg.refl w3 (· = w.heap.size)).setCell (a := ⟨w.heap.size, 0, none⟩) rfl (.int .i64 P)).setCell (a := ⟨w.heap.size, 1, none⟩) rfl (.slice a m c)
    have hfin : Hid (DrawnD w ((w3.setCell ⟨w.heap.size, 0, none⟩ (.int .i64 P)).setCell ⟨w.heap.size, 1, none⟩ (.slice a m c)) (.returned (dbl P (.slice a m c)))) := by
      have hsz := hc.size
      exact ⟨P, a, c, m, s, rfl, hb3.trans (hc.below hb3.size fun k e => by have e : k = w.heap.size := e; omega), (hL.by hc fun k e => Or.inl (by have e : k = w.heap.size := e; omega)).lowH (by omega) hsz⟩
    clear hres hL hd hra3 hD hc hb3
    go_wp2
    refine bodyPost_ret (by simp [results, Try.results67, go_sem, c0', c1']; try rfl) rfl ?_
    exact hfin.out
  · have hx1 : ¬ x = 0 := hx0
    have hD := Lib.hid (sDrawAny_c g n _ B 4 w2 HS2.out (fun W hc => HB.out W (hb2.out.trans (hc.below hb2.out.size (fun k e => by have e : k = g := e; omega)))) (by omega))
    go_wp2_with fail
    refine hD.out.mono ?_
    rintro e w3 ⟨P, a, c, m, s, rfl, hm, hP, hL, hd⟩
    have hb3 := hb2.out.trans (hd.below hb2.out.size (by omega))
    have hra3 := hd.chg.own hra2.out (by show ¬ w.heap.size = g; omega)
    have r0 := hra3.cell (show 0 < 2 by omega)
    have r1 := hra3.cell (show 1 < 2 by omega)
    have q0 := hra3.frozen 0
    have q1 := hra3.frozen 1
    simp only [if_pos, if_neg (show ¬ (1 : Nat) = 0 by omega)] at r0 r1
    have hres := (hra3.set 0 (.int .i64 P)).set 1 (.slice a m c)
    have c0' := hres.cell (show 0 < 2 by omega)
    have c1' := hres.cell (show 1 < 2 by omega)
    simp at c0' c1'
    have hc : Chg w3 ((w3.setCell ⟨w.heap.size, 0, none⟩ (.int .i64 P)).setCell ⟨w.heap.size, 1, none⟩ (.slice a m c)) (· = w.heap.size) := ((Chg.refl w3 (· = w.heap.size)).setCell (a := ⟨w.heap.size, 0, none⟩) rfl (.int .i64 P)).setCell (a := ⟨w.heap.size, 1, none⟩) rfl (.slice a m c)
    have hfin : Hid (DrawnD w ((w3.setCell ⟨w.heap.size, 0, none⟩ (.int .i64 P)).setCell ⟨w.heap.size, 1, none⟩ (.slice a m c)) (.returned (dbl P (.slice a m c)))) := by
      have hsz := hc.size
      exact ⟨P, a, c, m, s, rfl, hb3.trans (hc.below hb3.size fun k e => by have e : k = w.heap.size := e; omega), (hL.by hc fun k e => Or.inl (by have e : k = w.heap.size := e; omega)).lowH (by omega) hsz⟩
    clear hres hL hd hra3 hD hc hb3
    go_wp2
    refine bodyPost_ret (by simp [results, Try.results67, go_sem, c0', c1']; try rfl) rfl ?_
    exact hfin.out

/-- what a draw of a doubling and an element hands back -/
structure DrawnDX (w w' : World) (e : Ending) : Prop where
  out : ∃ (P : Int) (a : Option Addr) (c m : Nat) (s : Nat → Int) (ao : Option Addr) (xc nx : Nat) (X : Nat → Int), e = .returned (.tuple #[dbl P (.slice a m c), .slice ao nx xc]) ∧ Below w.heap.size w w' ∧ OI w' w.heap.size w'.heap.size a c m s ∧ nx ≤ 16 ∧ Ints w' (.slice ao nx xc) nx X
theorem ints_keep {w1 w2 W : World} {b nx : Nat} {v : Value} {X : Nat → Int} (h : ∀ W, Chg w1 W (· = b) → Ints W v nx X) (hb : Below w1.heap.size w1 w2) (_ : b < w1.heap.size) (hc : Chg w2 W (· = b)) : Ints W v nx X := h W ((Chg.of_below hb (· = b)).trans hc)
/-- what is known while an element is turned -/
structure DA (w wr : World) (g : Nat) (cv : Value) (n bd : Nat) (P : Int) (a : Option Addr) (c m : Nat) (s : Nat → Int) (gx cx M : Nat) (X : Nat → Int) : Prop where
  dk : DK w wr g cv n bd P a c m s
  own : Own wr 2 gx cx M (fun i => .int .i64 (X i))
  ord : bd < gx
  inp : InP P M X
theorem DA.step {w wr w' : World} {g : Nat} {cv : Value} {n bd : Nat} {P : Int} {a : Option Addr} {c m : Nat} {s : Nat → Int} {gx cx M : Nat} {X : Nat → Int} (h : DA w wr g cv n bd P a c m s gx cx M X) (hd : Drew wr w' g cv n) : DA w w' g cv n bd P a c m s gx cx M X :=
  ⟨h.dk.step hd, hd.chg.own h.own (by have := h.dk.ord; have := h.ord; show ¬ gx = g; omega), h.ord, h.inp⟩
theorem DA.kept {w wr w' : World} {g : Nat} {cv : Value} {n bd : Nat} {P : Int} {a : Option Addr} {c m : Nat} {s : Nat → Int} {gx cx M : Nat} {X : Nat → Int} (h : DA w wr g cv n bd P a c m s gx cx M X) (hb : Below wr.heap.size wr w') : DA w w' g cv n bd P a c m s gx cx M X :=
  ⟨h.dk.kept hb, h.own.kept hb, h.ord, h.inp⟩
theorem DA.put {w wr : World} {g : Nat} {cv : Value} {n bd : Nat} {P : Int} {a : Option Addr} {c m : Nat} {s : Nat → Int} {gx cx M : Nat} {X : Nat → Int} (h : DA w wr g cv n bd P a c m s gx cx M X) (i : Nat) (v : Int) (hv : 0 ≤ v ∧ v < P) : DA w (wr.setCell ⟨gx, i, none⟩ (.int .i64 v)) g cv n bd P a c m s gx cx M (fun j => if j = i then v else X j) := by
  have ho := h.ord
  have hc : Chg wr (wr.setCell ⟨gx, i, none⟩ (.int .i64 v)) (· = gx) := (Chg.refl wr (· = gx)).setCell (a := ⟨gx, i, none⟩) rfl (.int .i64 v)
  refine ⟨h.dk.by hc fun k e => by have e : k = gx := e; omega, (h.own.set i (.int .i64 v)).congr fun j hj => by by_cases e : j = i <;> simp [e], ho, fun j hj => ?_⟩
  show 0 ≤ (if j = i then v else X j) ∧ (if j = i then v else X j) < P
  split
  · exact hv
  · exact h.inp j hj

set_option maxRecDepth 100000 in
set_option maxHeartbeats 8000000 in
theorem sDrawAnnih_c (cv : Value) (n : Nat) (B : Nat → Int) (w : World) (hB : Byt w cv n B) :
    Calls Try.prog 64 #[cv] w fun e w' => DrawnDX w w' e := by
  have HB : Hid (∀ W, Below w.heap.size w W → Byt W cv n B) := fun W hb => hB.below hb
  obtain ⟨wa, hwa⟩ : ∃ wa, wa = w.alloc (.cells #[.int .i64 0, .slice none 0 0] 26) := ⟨_, rfl⟩
  have hba : Below w.heap.size w wa := by rw [hwa]; exact (Below.refl _ _).alloc (Nat.le_refl _) _
  have hsa : wa.heap.size = w.heap.size + 1 := by rw [hwa]; simp
  have hra : Own wa 26 w.heap.size 2 2 (fun i => if i = 0 then .int .i64 0 else .slice none 0 0) := by rw [hwa]; exact own2 w _ _ _
  have hp1 := sFrom_c cv n B wa (hB.below hba)
  rw [hwa] at hp1
  have HP1 := Lib.hid hp1
  have HWA := Lib.hid hwa
  have HRA := Lib.hid hra
  have HBA := Lib.hid hba
  have HSZ := Lib.hid hsa
  obtain ⟨ao, c0, _, _, rfl, qq⟩ := hB.out
  clear qq
  clear hwa hra hba hp1 hB hsa
  go_enter Try.func64, Try.ntmps64
  go_wp2_with fail
  refine HP1.out.mono ?_
  rintro e w1 ⟨g, rfl, hg, hb1, hs1⟩
  rw [← HWA.out] at hg hb1
  have hb1a := Lib.hid (HBA.out.trans (hb1.mono HBA.out.size))
  have hra1 := Lib.hid (HRA.out.kept hb1)
  have hsz := HSZ.out
  have hD := Lib.hid (sDrawAny_c g n _ B 4 w1 hs1 (fun W hc => HB.out W (hb1a.out.trans (hc.below hb1a.out.size (fun k e => by have e : k = g := e; omega)))) (by omega))
  clear HP1 HWA HRA HBA hb1
  go_wp2_with fail
  refine hD.out.mono ?_
  rintro e w2 ⟨P, a, c, m, s, rfl, hm, hP, hL, hd⟩
  have hl1 := hb1a.out.size
  have hb2 := Lib.hid (hb1a.out.trans (hd.below hl1 (by omega)))
  have hra2 := Lib.hid (hd.chg.own hra1.out (by show ¬ w.heap.size = g; omega))
  have hlt := hra1.out.lt
  have hgl := hs1.lt
  obtain ⟨wb, hwb⟩ : ∃ wb, wb = w2.alloc (.cells #[.int .i64 P, .slice a m c] 26) := ⟨_, rfl⟩
  have hbb : Below w2.heap.size w2 wb := by rw [hwb]; exact (Below.refl _ _).alloc (Nat.le_refl _) _
  have hsb : wb.heap.size = w2.heap.size + 1 := by rw [hwb]; simp
  have hsd := hd.chg.size
  have hDK : DK w wb g (.slice ao n c0) n w2.heap.size P a c m s := ⟨⟨by omega, by omega, by omega⟩, hd.src.kept hbb, hb2.out.trans (hbb.mono (by have := hb2.out.size; omega)), by rw [hwb]; exact own2 w2 _ _ _, hra2.out.kept hbb, (hL.lowH (by omega) (Nat.le_refl _)).kept hbb⟩
  have HBY : Hid (∀ W, DK w W g (.slice ao n c0) n w2.heap.size P a c m s → ∀ W', Chg W W' (· = g) → Byt W' (.slice ao n c0) n B) := fun W h W' hc => HB.out W' (h.bel.trans (hc.below h.bel.size (fun k e => by have e : k = g := e; have := h.ord; omega)))
  have CN : Hid (∀ W (q : Int), DK w W g (.slice ao n c0) n w2.heap.size P a c m s → 1 ≤ q → q ≤ 1000 → Calls Try.prog 72 #[.pointer (some ⟨g, 0, none⟩), .int .i64 q] W fun e w' => ∃ x : Nat, e = .returned (.int .i64 x) ∧ (x : Int) < q ∧ Drew W w' g (.slice ao n c0) n) := fun W q h h1 h2 => (sNext_c g n _ B q W h.src (HBY.out W h W (Chg.refl _ _)) (by omega)).mono fun e w' hh => by
    obtain ⟨x, h3, h4, _, h5⟩ := hh
    have h4 := h4 h1
    exact ⟨x.toNat, by rw [h3, show ((x.toNat : Nat) : Int) = x by omega], by omega, h5⟩
  have hE := sDrawElementF_c g n _ B P _ m s wb hDK.src (HBY.out wb hDK) hDK.lst.ints hm hP
  have hswb : w2.heap.size < wb.heap.size := by omega
  rw [hwb] at hE hDK hswb
  have HE := Lib.hid hE
  have HDK := Lib.hid hDK
  have z0 := hDK.box.cell (show 0 < 2 by omega)
  have z1 := hDK.box.cell (show 1 < 2 by omega)
  simp only [if_pos, if_neg (show ¬ (1 : Nat) = 0 by omega)] at z0 z1
  clear hDK hsb hbb hE hwb hD hd hb2 hL hra1 hra2 HSZ hb1a hs1 HBY
  go_wp2_with fail
  refine HE.out.mono ?_
  rintro e w4 ⟨xv, nx, X, rfl, hnx, hXr, hdr, hblk⟩
  have HD4 := Lib.hid (HDK.out.step hdr)
  have HX4 : Hid (∀ W, Chg w4 W (· = w.heap.size) → Ints W xv nx X) := fun W hc => hXr W (hc.mono fun k e => Or.inl (by have e : k = w.heap.size := e; have := HDK.out.ord; omega))
  have HX4b : Hid (∀ W5 W, Chg w4 W5 (· = g) → Chg W5 W (· = w.heap.size) → Ints W xv nx X) := fun W5 W h1 h2 => hXr W ((h1.mono fun k e => Or.inl (by have e : k = g := e; have := HDK.out.ord; omega)).trans (h2.mono fun k e => Or.inl (by have e : k = w.heap.size := e; have := HDK.out.ord; omega)))
  have HBK := Lib.hid hblk
  obtain ⟨xao, xcc, _, _, rfl, qx4⟩ := (HX4.out w4 (Chg.refl _ _)).out
  clear qx4
  have HN4 := Lib.hid (CN.out w4 2 HD4.out (by omega) (by omega))
  clear hXr hdr hblk HE HDK z0 z1
  go_wp2_with fail
  refine HN4.out.mono ?_
  rintro e w5 ⟨t, rfl, ht, hd5⟩
  have HD5 := Lib.hid (HD4.out.step hd5)
  have HX5 : Hid (∀ W, Chg w5 W (· = w.heap.size) → Ints W (.slice xao nx xcc) nx X) := fun W hc => HX4b.out w5 W hd5.chg hc
  have HOW5 : Hid (nx = 2 ^ min 4 m → ∃ g' c', (.slice xao nx xcc : Value) = .slice (some ⟨g', 0, none⟩) nx c' ∧ w2.heap.size < g' ∧ Own w5 2 g' c' nx (fun i => .int .i64 (X i))) := fun h => by
    obtain ⟨g', c', h1, h2, h3⟩ := HBK.out h
    exact ⟨g', c', h1, by omega, hd5.chg.own h3 (by show ¬ g' = g; omega)⟩
  have ho5 := HD5.out.ord
  clear hd5 HN4 HD4 HX4 HX4b HBK
  by_cases ht0 : t = 0
  rotate_left
  · have hti : ¬ (t : Int) = 0 := by omega
    have htb : ((t : Int) == 0) = false := by simp; omega
    clear ht0 ht
    have y0 := HD5.out.box.cell (show 0 < 2 by omega)
    have y1 := HD5.out.box.cell (show 1 < 2 by omega)
    have r0 := HD5.out.res.cell (show 0 < 2 by omega)
    have r1 := HD5.out.res.cell (show 1 < 2 by omega)
    have z0 := HD5.out.res.frozen 0
    have z1 := HD5.out.res.frozen 1
    simp only [if_pos, if_neg (show ¬ (1 : Nat) = 0 by omega)] at y0 y1 r0 r1
    have hres := (HD5.out.res.set 0 (.int .i64 P)).set 1 (.slice a m c)
    have c0' := hres.cell (show 0 < 2 by omega)
    have c1' := hres.cell (show 1 < 2 by omega)
    simp at c0' c1'
    obtain ⟨u1, u2, u3⟩ := HD5.out.fin (.int .i64 P) (.slice a m c)
    have hcs : Chg w5 ((w5.setCell ⟨w.heap.size, 0, none⟩ (.int .i64 P)).setCell ⟨w.heap.size, 1, none⟩ (.slice a m c)) (· = w.heap.size) := ((Chg.refl w5 (· = w.heap.size)).setCell (a := ⟨w.heap.size, 0, none⟩) rfl (.int .i64 P)).setCell (a := ⟨w.heap.size, 1, none⟩) rfl (.slice a m c)
    have hfin : Hid (DrawnDX w ((w5.setCell ⟨w.heap.size, 0, none⟩ (.int .i64 P)).setCell ⟨w.heap.size, 1, none⟩ (.slice a m c)) (.returned (.tuple #[dbl P (.slice a m c), .slice xao nx xcc]))) :=
      ⟨P, a, c, m, s, xao, xcc, nx, X, rfl, u1, u2.lowH (by have := HD5.out.ord; omega) (Nat.le_of_lt u3), by omega, HX5.out _ hcs⟩
    clear hres u1 u2 u3 hcs HX5 HD5
    go_wp2
    refine bodyPost_ret (v := .tuple #[.agg #[.int .i64 P, .slice a m c], .slice xao nx xcc]) (by simp [results, Try.results64, go_sem, c0', c1']; try rfl) rfl ?_
    exact hfin.out
  subst ht0
  obtain ⟨q1, hq1⟩ : ∃ q, dblB P m s = q := ⟨_, rfl⟩
  have HI : Hid (Calls Try.prog 75 #[dbl P (.slice a m c)] w5 fun e w' => Makes w5 w' e (.bool q1)) := hq1 ▸ sIsDbl_c P _ m s w5 HD5.out.lst.ints
  have b0 := HD5.out.box.cell (show 0 < 2 by omega)
  have b1 := HD5.out.box.cell (show 1 < 2 by omega)
  simp only [if_pos, if_neg (show ¬ (1 : Nat) = 0 by omega)] at b0 b1
  cases q1
  · clear hq1
    go_wp2_with fail
    go_at_call 75
    refine Calls.makes' HI.out _ fun w6 hb6 => ?_
    have HD6 := Lib.hid (HD5.out.kept hb6)
    have HX6 : Hid (∀ W, Chg w6 W (· = w.heap.size) → Ints W (.slice xao nx xcc) nx X) := fun W hc => ints_keep HX5.out hb6 (by have := HD5.out.ord; omega) hc
    clear HI hb6 HD5 HX5 HOW5 b0 b1
    have y0 := HD6.out.box.cell (show 0 < 2 by omega)
    have y1 := HD6.out.box.cell (show 1 < 2 by omega)
    have r0 := HD6.out.res.cell (show 0 < 2 by omega)
    have r1 := HD6.out.res.cell (show 1 < 2 by omega)
    have z0 := HD6.out.res.frozen 0
    have z1 := HD6.out.res.frozen 1
    simp only [if_pos, if_neg (show ¬ (1 : Nat) = 0 by omega)] at y0 y1 r0 r1
    have hres := (HD6.out.res.set 0 (.int .i64 P)).set 1 (.slice a m c)
    have c0' := hres.cell (show 0 < 2 by omega)
    have c1' := hres.cell (show 1 < 2 by omega)
    simp at c0' c1'
    obtain ⟨u1, u2, u3⟩ := HD6.out.fin (.int .i64 P) (.slice a m c)
    have hcs : Chg w6 ((w6.setCell ⟨w.heap.size, 0, none⟩ (.int .i64 P)).setCell ⟨w.heap.size, 1, none⟩ (.slice a m c)) (· = w.heap.size) := ((Chg.refl w6 (· = w.heap.size)).setCell (a := ⟨w.heap.size, 0, none⟩) rfl (.int .i64 P)).setCell (a := ⟨w.heap.size, 1, none⟩) rfl (.slice a m c)
    have hfin : Hid (DrawnDX w ((w6.setCell ⟨w.heap.size, 0, none⟩ (.int .i64 P)).setCell ⟨w.heap.size, 1, none⟩ (.slice a m c)) (.returned (.tuple #[dbl P (.slice a m c), .slice xao nx xcc]))) :=
      ⟨P, a, c, m, s, xao, xcc, nx, X, rfl, u1, u2.lowH (by have := HD6.out.ord; omega) (Nat.le_of_lt u3), by omega, HX6.out _ hcs⟩
    clear hres u1 u2 u3 hcs HX6 HD6
    go_wp2
    refine bodyPost_ret (v := .tuple #[.agg #[.int .i64 P, .slice a m c], .slice xao nx xcc]) (by simp [results, Try.results64, go_sem, c0', c1']; try rfl) rfl ?_
    exact hfin.out
  have hok := hq1
  obtain ⟨q2, hq2⟩ : ∃ q, elemB P m nx X = q := ⟨_, rfl⟩
  have HE : Hid (∀ W, Below w5.heap.size w5 W → Calls Try.prog 123 #[dbl P (.slice a m c), .slice xao nx xcc] W fun e w' => Makes W w' e (.bool q2)) := fun W hb => hq2 ▸ sElem_c P _ m s _ nx X W (dv_of (HD5.out.kept hb).lst.ints hok) ((HX5.out w5 (Chg.refl _ _)).below hb)
  have HOK := Lib.hid hok
  have HQ2 := Lib.hid hq2
  clear hq1 hok hq2
  go_wp2_with fail
  go_at_call 75
  refine Calls.makes' HI.out _ fun w6 hb6 => ?_
  have HB6 := Lib.hid hb6
  have b0 := cellKp hb6 b0
  have b1 := cellKp hb6 b1
  clear HI hb6
  go_wp2_with fail
  go_at_call 123
  refine Calls.makes' (HE.out _ HB6.out) _ fun w7 hb7 => ?_
  have HB7 := Lib.hid (HB6.out.trans (hb7.mono HB6.out.size))
  have HD7 := Lib.hid (HD5.out.kept HB7.out)
  clear HE HB6 hb7 b0 b1
  cases q2
  · have HX7 : Hid (∀ W, Chg w7 W (· = w.heap.size) → Ints W (.slice xao nx xcc) nx X) := fun W hc => ints_keep HX5.out HB7.out (by have := HD5.out.ord; omega) hc
    clear HOW5 HX5 HD5 HB7
    have y0 := HD7.out.box.cell (show 0 < 2 by omega)
    have y1 := HD7.out.box.cell (show 1 < 2 by omega)
    have r0 := HD7.out.res.cell (show 0 < 2 by omega)
    have r1 := HD7.out.res.cell (show 1 < 2 by omega)
    have z0 := HD7.out.res.frozen 0
    have z1 := HD7.out.res.frozen 1
    simp only [if_pos, if_neg (show ¬ (1 : Nat) = 0 by omega)] at y0 y1 r0 r1
    have hres := (HD7.out.res.set 0 (.int .i64 P)).set 1 (.slice a m c)
    have c0' := hres.cell (show 0 < 2 by omega)
    have c1' := hres.cell (show 1 < 2 by omega)
    simp at c0' c1'
    obtain ⟨u1, u2, u3⟩ := HD7.out.fin (.int .i64 P) (.slice a m c)
    have hcs : Chg w7 ((w7.setCell ⟨w.heap.size, 0, none⟩ (.int .i64 P)).setCell ⟨w.heap.size, 1, none⟩ (.slice a m c)) (· = w.heap.size) := ((Chg.refl w7 (· = w.heap.size)).setCell (a := ⟨w.heap.size, 0, none⟩) rfl (.int .i64 P)).setCell (a := ⟨w.heap.size, 1, none⟩) rfl (.slice a m c)
    have hfin : Hid (DrawnDX w ((w7.setCell ⟨w.heap.size, 0, none⟩ (.int .i64 P)).setCell ⟨w.heap.size, 1, none⟩ (.slice a m c)) (.returned (.tuple #[dbl P (.slice a m c), .slice xao nx xcc]))) :=
      ⟨P, a, c, m, s, xao, xcc, nx, X, rfl, u1, u2.lowH (by have := HD7.out.ord; omega) (Nat.le_of_lt u3), by omega, HX7.out _ hcs⟩
    clear hres u1 u2 u3 hcs HX7 HD7
    go_wp2
    refine bodyPost_ret (v := .tuple #[.agg #[.int .i64 P, .slice a m c], .slice xao nx xcc]) (by simp [results, Try.results64, go_sem, c0', c1']; try rfl) rfl ?_
    exact hfin.out
  obtain ⟨hnx2, hel⟩ := elemB_el (HX5.out w5 (Chg.refl _ _)) HQ2.out
  have hdb := dblB_ok HOK.out
  have hm4 := hdb.le
  have hpb := primeB_bd hdb.prime
  have hst := hdb.step
  obtain ⟨gx, cx, hv, hgx, hO5⟩ := HOW5.out (by rw [hnx2, show min 4 m = m by omega])
  injection hv with hv1 hv2 hv3
  subst hv1
  subst hv3
  have hDA : DA w w7 g (.slice ao n c0) n w2.heap.size P a c m s gx xcc nx X := ⟨HD7.out, hO5.kept HB7.out, hgx, fun i hi => hel.inp i (by omega)⟩
  have hpos : 0 < nx := by rw [hnx2]; exact Nat.pow_pos (by decide)
  have CS : Hid (∀ W, Calls Try.prog 124 #[dbl P (.slice a m c)] W fun e w' => Makes W w' e (.int .i64 (nx : Int))) := fun W => hnx2 ▸ sSize_c P a m c W hm4
  have CNm : Hid (∀ W X, DA w W g (.slice ao n c0) n w2.heap.size P a c m s gx xcc nx X → ∃ v : Int, Calls Try.prog 112 #[dbl P (.slice a m c), .slice (some ⟨gx, 0, none⟩) nx xcc] W fun e w' => Makes W w' e (.int .i64 v)) := fun W X h =>
    ⟨_, sNorm_c P _ _ m s X W (dv_of h.dk.lst.ints HOK.out) ⟨by have := h.own.ints; rwa [hnx2] at this ⊢, fun i hi => h.inp i (by omega)⟩ (by omega) hst⟩
  have HDA := Lib.hid hDA
  clear hDA hO5 hel hnx2 HQ2 HOW5 HX5 HD5 HB7 HD7 hdb hst HOK
  obtain ⟨TT, hTT⟩ : ∃ T : Nat, T = 200 := ⟨_, rfl⟩
  have HTT := Lib.hid hTT
  clear hTT
  go_wp2
  go_loopg [7] TT (fun gg iv wr => ∃ (k : Nat) (X : Nat → Int), k ≤ TT ∧ gg = TT - k ∧ iv = .int .i64 k ∧ Hid (DA w wr g (.slice ao n c0) n w2.heap.size P a c m s gx xcc nx X))
  case atStart => exact ⟨0, X, by omega, rfl, rfl, HDA.out⟩
  case round =>
    obtain ⟨k, X, hk, rfl, rfl, hA⟩ := hrel
    clear HDA
    have b0 := hA.out.dk.box.cell (show 0 < 2 by omega)
    have b1 := hA.out.dk.box.cell (show 1 < 2 by omega)
    simp only [if_pos, if_neg (show ¬ (1 : Nat) = 0 by omega)] at b0 b1
    by_cases hlt : k < TT
    · have hlt3 : k < 200 := by have := HTT.out; omega
      have hlt2 : (k : Int) < 200 := by omega
      obtain ⟨nv, hN⟩ := CNm.out wr X hA.out
      have HN := Lib.hid hN
      clear hN
      by_cases hnv : nv = 0
      · have hnb : (nv != 0) = false := by simp [hnv]
        clear hnv
        go_wp2_with fail
        go_at_call 112
        refine Calls.makes' HN.out _ fun w8 hb8 => ?_
        have HA8 := Lib.hid (hA.out.kept hb8)
        have HD8 : Hid (DK w w8 g (.slice ao n c0) n w2.heap.size P a c m s) := HA8.out.dk
        have HX8 : Hid (∀ W, Chg w8 W (· = w.heap.size) → Ints W (.slice (some ⟨gx, 0, none⟩) nx xcc) nx X) := fun W hc => (hc.own HA8.out.own (by show ¬ gx = w.heap.size; have := HA8.out.ord; have := HD8.out.ord; omega)).ints
        clear hA HN hb8 HA8 b0 b1
        have y0 := HD8.out.box.cell (show 0 < 2 by omega)
        have y1 := HD8.out.box.cell (show 1 < 2 by omega)
        have r0 := HD8.out.res.cell (show 0 < 2 by omega)
        have r1 := HD8.out.res.cell (show 1 < 2 by omega)
        have z0 := HD8.out.res.frozen 0
        have z1 := HD8.out.res.frozen 1
        simp only [if_pos, if_neg (show ¬ (1 : Nat) = 0 by omega)] at y0 y1 r0 r1
        have hres := (HD8.out.res.set 0 (.int .i64 P)).set 1 (.slice a m c)
        have c0' := hres.cell (show 0 < 2 by omega)
        have c1' := hres.cell (show 1 < 2 by omega)
        simp at c0' c1'
        obtain ⟨u1, u2, u3⟩ := HD8.out.fin (.int .i64 P) (.slice a m c)
        have hcs : Chg w8 ((w8.setCell ⟨w.heap.size, 0, none⟩ (.int .i64 P)).setCell ⟨w.heap.size, 1, none⟩ (.slice a m c)) (· = w.heap.size) := ((Chg.refl w8 (· = w.heap.size)).setCell (a := ⟨w.heap.size, 0, none⟩) rfl (.int .i64 P)).setCell (a := ⟨w.heap.size, 1, none⟩) rfl (.slice a m c)
        have hfin : Hid (DrawnDX w ((w8.setCell ⟨w.heap.size, 0, none⟩ (.int .i64 P)).setCell ⟨w.heap.size, 1, none⟩ (.slice a m c)) (.returned (.tuple #[dbl P (.slice a m c), .slice (some ⟨gx, 0, none⟩) nx xcc]))) :=
          ⟨P, a, c, m, s, some ⟨gx, 0, none⟩, xcc, nx, X, rfl, u1, u2.lowH (by have := HD8.out.ord; omega) (Nat.le_of_lt u3), by omega, HX8.out _ hcs⟩
        clear hres u1 u2 u3 hcs HX8 HD8
        go_wp2
        refine bodyPost_ret (v := .tuple #[.agg #[.int .i64 P, .slice a m c], .slice (some ⟨gx, 0, none⟩) nx xcc]) (by simp [results, Try.results64, go_sem, c0', c1']; try rfl) rfl ?_
        exact hfin.out
      · have hnb : (nv != 0) = true := by simp [hnv]
        clear hnv
        go_wp2_with fail
        go_at_call 112
        refine Calls.makes' HN.out _ fun w8 hb8 => ?_
        have D0 := Lib.hid ((hA.out.kept hb8).kept (drewB w8))
        have b0 := D0.out.dk.box.cell (show 0 < 2 by omega)
        have b1 := D0.out.dk.box.cell (show 1 < 2 by omega)
        simp only [if_pos, if_neg (show ¬ (1 : Nat) = 0 by omega)] at b0 b1
        clear hA HN hb8
        go_wp2_with fail
        go_region_law (first
          | (have hz := D2; go_simp; go_at_call 72; refine (CN.out _ P D2.out.dk (by omega) (by omega)).mono ?_; rintro e v3 ⟨j, rfl, hj, hd3⟩; have D3 := Lib.hid (D2.out.step hd3); have zx := D3.out.own.cell hiN; have zf := D3.out.own.frozen i; have b0 := D3.out.dk.box.cell (show 0 < 2 by omega); have b1 := D3.out.dk.box.cell (show 1 < 2 by omega); simp only [if_pos, if_neg (show ¬ (1 : Nat) = 0 by omega)] at b0 b1; clear hd3 hz)
          | (have hz := D1; go_simp; go_at_call 72; refine (CN.out _ (nx : Int) D1.out.dk (by omega) (by omega)).mono ?_; rintro e v2 ⟨i, rfl, hi, hd2⟩; have D2 := Lib.hid (D1.out.step hd2); have hiN : i < nx := (by omega); have i0 : (0 : Int) ≤ (i : Int) := (by omega); have i1 : (i : Int) < (nx : Int) := (by omega); have b0 := D2.out.dk.box.cell (show 0 < 2 by omega); have b1 := D2.out.dk.box.cell (show 1 < 2 by omega); simp only [if_pos, if_neg (show ¬ (1 : Nat) = 0 by omega)] at b0 b1; clear hd2 hz)
          | (go_simp; go_at_call 124; refine Calls.makes' (CS.out _) _ fun v1 hb1 => ?_; have D1 := Lib.hid (D0.out.kept hb1); have b0 := D1.out.dk.box.cell (show 0 < 2 by omega); have b1 := D1.out.dk.box.cell (show 1 < 2 by omega); simp only [if_pos, if_neg (show ¬ (1 : Nat) = 0 by omega)] at b0 b1; clear hb1))
        all_goals go_wp2
        all_goals go_roundg (TT - (k + 1))
        all_goals first
          | omega
          | exact ⟨k + 1, _, by omega, rfl, by go_num, D3.out.put i j ⟨by omega, hj⟩⟩
    · have hlt3 : ¬ k < 200 := by have := HTT.out; omega
      have hlt2 : ¬ (k : Int) < 200 := by omega
      have hlt4 : decide ((k : Int) < 200) = false := decide_eq_false hlt2
      have HD8 : Hid (DK w wr g (.slice ao n c0) n w2.heap.size P a c m s) := hA.out.dk
      have HX8 : Hid (∀ W, Chg wr W (· = w.heap.size) → Ints W (.slice (some ⟨gx, 0, none⟩) nx xcc) nx X) := fun W hc => (hc.own hA.out.own (by show ¬ gx = w.heap.size; have := hA.out.ord; have := HD8.out.ord; omega)).ints
      clear hA b0 b1 CNm CS
      have y0 := HD8.out.box.cell (show 0 < 2 by omega)
      have y1 := HD8.out.box.cell (show 1 < 2 by omega)
      have r0 := HD8.out.res.cell (show 0 < 2 by omega)
      have r1 := HD8.out.res.cell (show 1 < 2 by omega)
      have z0 := HD8.out.res.frozen 0
      have z1 := HD8.out.res.frozen 1
      simp only [if_pos, if_neg (show ¬ (1 : Nat) = 0 by omega)] at y0 y1 r0 r1
      have hres := (HD8.out.res.set 0 (.int .i64 P)).set 1 (.slice a m c)
      have c0' := hres.cell (show 0 < 2 by omega)
      have c1' := hres.cell (show 1 < 2 by omega)
      simp at c0' c1'
      obtain ⟨u1, u2, u3⟩ := HD8.out.fin (.int .i64 P) (.slice a m c)
      have hcs : Chg wr ((wr.setCell ⟨w.heap.size, 0, none⟩ (.int .i64 P)).setCell ⟨w.heap.size, 1, none⟩ (.slice a m c)) (· = w.heap.size) := ((Chg.refl wr (· = w.heap.size)).setCell (a := ⟨w.heap.size, 0, none⟩) rfl (.int .i64 P)).setCell (a := ⟨w.heap.size, 1, none⟩) rfl (.slice a m c)
      have hfin : Hid (DrawnDX w ((wr.setCell ⟨w.heap.size, 0, none⟩ (.int .i64 P)).setCell ⟨w.heap.size, 1, none⟩ (.slice a m c)) (.returned (.tuple #[dbl P (.slice a m c), .slice (some ⟨gx, 0, none⟩) nx xcc]))) :=
        ⟨P, a, c, m, s, some ⟨gx, 0, none⟩, xcc, nx, X, rfl, u1, u2.lowH (by have := HD8.out.ord; omega) (Nat.le_of_lt u3), by omega, HX8.out _ hcs⟩
      clear hres u1 u2 u3 hcs HX8 HD8
      go_wp2
      refine bodyPost_ret (v := .tuple #[.agg #[.int .i64 P, .slice a m c], .slice (some ⟨gx, 0, none⟩) nx xcc]) (by simp [results, Try.results64, go_sem, c0', c1']; try rfl) rfl ?_
      exact hfin.out

end Go.Proofs.Ytnnacligfoonbaa

/-
  The law on annihilators and division doublings returns true. No condition.
-/
set_option linter.unusedVariables false
set_option linter.unusedSimpArgs false
namespace Go.Proofs.Ytnnacligfoonbaa
open Go.RowKit

theorem rC_two (c x : Int) : rC c x = .tuple #[.int .i64 (if c = 0 then x else 0), .int .i64 c] := by
  unfold rC
  by_cases h : c = 0
  · subst h; rfl
  · rw [if_neg h, if_neg h]
theorem cg_small {p a : Int} (h : Cg p a 0) (h0 : 0 ≤ a) (h1 : a < p) : a = 0 := by
  have e : a % p = 0 % p := h
  rw [Int.emod_eq_of_lt h0 h1, Int.zero_emod] at e
  exact e
theorem ann_facts {p : Int} {n : Nat} {s X : Nat → Int} (hok : dblB p n s = true) (hX : InP p (2 ^ n) X) :
    (∀ i, i < (annS p s n X).2 → InP p (2 ^ n) ((annS p s n X).1 i) ∧ zeroB (2 ^ n) (mulF p s n X ((annS p s n X).1 i)) = true ∧ zeroB (2 ^ n) ((annS p s n X).1 i) = false) ∧
    (1 ≤ n → n ≤ 3 → zeroB (2 ^ n) X = false → (normF p s n X ≠ 0 ∧ (annS p s n X).2 = 0) ∨ (normF p s n X = 0 ∧ 2 * (annS p s n X).2 = 2 ^ n)) := by
  have hp := (dblB_ok hok).prime
  have hb := primeB_bd hp
  have hst := (dblB_ok hok).step
  have hQ := bSt_of hp (lmT_in (p := p) (by omega) s n X)
  obtain ⟨_, k2, c, hc⟩ := ker_of hp hQ
  have k2 : ∀ i, i < (annS p s n X).2 → ∀ u, RowS (2 ^ n) (lMat p s n X) u → Cg p (dotF (2 ^ n) u ((annS p s n X).1 i)) 0 := k2
  have hc : Red p (2 ^ n) (annS p s n X).2 (annS p s n X).1 c := hc
  have hsz := @ann_size p hp s n
  refine ⟨fun i hi => ⟨fun j hj => hc.inp i hi j hj, decide_eq_true fun j hj => ?_, decide_eq_false fun h => ?_⟩, fun h1 h3 hz => ?_⟩
  · have h0 := ann_dot.1 (k2 i hi) j hj
    have hm := mulF_in (p := p) (by omega) s n X ((annS p s n X).1 i) (2 ^ n) j hj
    exact cg_small h0 hm.1 hm.2
  · have h1 := hc.one i hi
    rw [h (c i) (hc.piv i hi)] at h1
    exact absurd h1 (by decide)
  · have hss : ∀ t, t < n → ¬ Cg p (s t) 0 := fun t ht => nz_step (by omega) (hst t ht).1 (hst t ht).2
    have hs2 := hsz h3 hss (X := X) (d := (annS p s n X).2) rfl
    have hN := normF_in (p := p) (by omega) s n X
    by_cases h0 : normF p s n X = 0
    · refine Or.inr ⟨h0, hs2.2 (by rw [h0]; rfl) ?_⟩
      have h4 : ¬ ∀ i, i < 2 ^ n → X i = 0 := by
        unfold zeroB at hz; simpa using hz
      refine Classical.byContradiction fun h5 => h4 fun i hi => ?_
      refine Classical.byContradiction fun h6 => h5 ⟨i, hi, fun e => h6 ?_⟩
      exact cg_small e (hX i hi).1 (hX i hi).2
    · exact Or.inl ⟨h0, hs2.1 fun e => h0 (cg_small e hN.1 hN.2)⟩

/-- the rows of a table, while memory is made -/
theorem Tab.opened {w : World} {v : Value} {G : Nat} {L : Nat → Nat} {T : Nat → Nat → Int} {ao : Option Addr} {c : Nat} (h : Tab w (.slice ao G c) G L T) :
    ∃ (b o : Nat) (A : Nat → Option Addr) (C : Nat → Nat), (0 < G → ao = some ⟨b, o, none⟩) ∧ (G ≤ c ∧ c ≤ 9223372036854775807) ∧ ∀ W, Below w.heap.size w W → ∀ i, i < G → W.cell? ⟨b, o + i, none⟩ = some (.slice (A i) (L i) (C i)) ∧ b < w.heap.size ∧ Ints W (.slice (A i) (L i) (C i)) (L i) (T i) := by
  obtain ⟨ao', c', b, o, A, C, RB, RO, h1, h2, h3, h4, h5, h6, h7, h8⟩ := h.out
  injection h1 with e1 e2 e3
  subst e1
  subst e3
  refine ⟨b, o, A, C, h4, ⟨h2, h3⟩, fun W hb i hi => ⟨?_, lt_of_cell (h5 i hi), ?_⟩⟩
  · rw [hb.cell (p := ⟨b, o + i, none⟩) (lt_of_cell (h5 i hi))]; exact h5 i hi
  · exact (Tab.rowAt h6 h7 h8 hi).below hb

/-- the box of the doubling and one row of a table -/
def SR (W0 : World) (bd : Nat) (P : Int) (a : Option Addr) (m c b o : Nat) (r : Value) (W : World) : Prop :=
  W.cell? ⟨bd, 0, none⟩ = some (.int .i64 P) ∧ W.cell? ⟨bd, 1, none⟩ = some (.slice a m c) ∧ W.cell? ⟨b, o, none⟩ = some r ∧ Below W0.heap.size W0 W
theorem srKeep {W0 W W' : World} {bd : Nat} {P : Int} {a : Option Addr} {m c b o : Nat} {r : Value} (hb : Below W.heap.size W W') (h : SR W0 bd P a m c b o r W) : SR W0 bd P a m c b o r W' :=
  ⟨cellKp hb h.1, cellKp hb h.2.1, cellKp hb h.2.2.1, h.2.2.2.trans (hb.mono h.2.2.2.size)⟩
theorem srDrew {W0 : World} {bd : Nat} {P : Int} {a : Option Addr} {m c b o : Nat} {r : Value} (h0 : W0.cell? ⟨bd, 0, none⟩ = some (.int .i64 P)) (h1 : W0.cell? ⟨bd, 1, none⟩ = some (.slice a m c)) (h2 : W0.cell? ⟨b, o, none⟩ = some r) : SR W0 bd P a m c b o r W0.drew :=
  srKeep (drewB W0) ⟨h0, h1, h2, Below.refl _ _⟩
theorem srBelow {W0 W : World} {bd : Nat} {P : Int} {a : Option Addr} {m c b o : Nat} {r : Value} (h : SR W0 bd P a m c b o r W) : Below W0.heap.size W0 W := h.2.2.2

theorem zd_o (P : Int) (m : Nat) (s : Nat → Int) (nx : Nat) (X : Nat → Int) :
    ∃ (cc : Int) (M : Nat) (R : Nat → Nat → Int), (cc ≠ 0 ∨ (cc = 0 ∧ dblB P m s = true ∧ nx = 2 ^ m ∧ InP P (2 ^ m) X ∧ (∀ i, i < M → InP P (2 ^ m) (R i) ∧ zeroB nx (mulF P s m X (R i)) = true ∧ zeroB nx (R i) = false) ∧ (1 ≤ m → m ≤ 3 → zeroB nx X = false → (normF P s m X ≠ 0 ∧ M = 0) ∨ (normF P s m X = 0 ∧ 2 * M = nx)))) ∧
    (∀ (W : World) (dv xv : Value), Ints W dv m s → Ints W xv nx X → Calls Try.prog 66 #[dbl P dv, xv] W fun e w' => ResT W w' e cc M (fun _ => 2 ^ m) R) ∧
    (∀ (W : World) (dv xv : Value), Ints W dv m s → Ints W xv nx X → Calls Try.prog 65 #[dbl P dv, xv] W fun e w' => ResT W w' e cc M (fun _ => 2 ^ m) R) := by
  refine ⟨codeE (dblB P m s) P m 1 (fun _ => nx) (fun _ => X), if codeE (dblB P m s) P m 1 (fun _ => nx) (fun _ => X) = 0 then (annS P s m X).2 else 0, (annS P s m X).1, ?_,
    fun W dv xv h1 h2 => (sAnnih_c P dv m s xv nx X W h1 h2).mono fun _ _ h => h.toT,
    fun W dv xv h1 h2 => (iAnnih_c P dv m s xv nx X W h1 h2).mono fun _ _ h => h.toT⟩
  by_cases h0 : codeE (dblB P m s) P m 1 (fun _ => nx) (fun _ => X) = 0
  · refine Or.inr ⟨h0, ?_⟩
    rw [if_pos h0]
    obtain ⟨hok, he⟩ := codeE_zero h0
    have he := he 0 (by omega)
    unfold elemB at he
    simp only [Bool.and_eq_true, decide_eq_true_eq] at he
    obtain ⟨rfl, h2⟩ := he
    have hin := inPB_ok h2
    obtain ⟨g1, g2⟩ := ann_facts hok hin
    exact ⟨hok, rfl, hin, g1, g2⟩
  · exact Or.inl h0

theorem div_o (P : Int) (n : Nat) (s : Nat → Int) :
    ∃ (cc v : Int) (q : Bool), (cc ≠ 0 ∨ (cc = 0 ∧ (q == (v == 1)) = true ∧ ∀ (W : World) (v' : Value), Ints W v' n s → Calls Try.prog 12 #[dbl P v', .int .i64 0] W fun e w' => Makes W w' e (.tuple #[.int .i64 v, .int .i64 0]))) ∧
    (∀ (W : World) (v' : Value), Ints W v' n s → Calls Try.prog 69 #[dbl P v'] W fun e w' => Makes W w' e (.tuple #[.bool q, .int .i64 cc])) ∧
    (∀ (W : World) (v' : Value), Ints W v' n s → Calls Try.prog 68 #[dbl P v'] W fun e w' => Makes W w' e (.tuple #[.bool q, .int .i64 cc])) := by
  cases hok : dblB P n s
  · refine ⟨1, 0, false, Or.inl (by decide), fun W v h => ?_, fun W v h => ?_⟩
    · have h1 := sDiv_c P v n s W h
      rw [hok] at h1; exact h1
    · have h1 := iDiv_c P v n s W h
      rw [hok] at h1; exact h1
  · have hp := primeB_bd (dblB_ok hok).prime
    refine ⟨0, cntV P n s 0, divB P n s, Or.inr ⟨rfl, ?_, fun W v h => ?_⟩, fun W v h => ?_, fun W v h => ?_⟩
    · rw [div_count (dblB_ok hok).prime (fun t ht => (dblB_ok hok).step t ht)]; simp
    · have h1 := iCountOfNorm_c P v n s 0 W h
      rw [rC_two, nCode_in hok, show inB 0 0 (P - 1) = true by unfold inB; simp; omega] at h1
      exact h1
    · have h1 := sDiv_c P v n s W h
      rw [hok] at h1; exact h1
    · have h1 := iDiv_c P v n s W h
      rw [hok] at h1; exact h1

set_option maxRecDepth 100000 in
set_option maxHeartbeats 8000000 in
theorem lawZeroDivisors_c (cv : Value) (n : Nat) (B : Nat → Int) (w : World) (hB : Byt w cv n B) :
    Calls Try.prog 9 #[cv] w fun e w' => Law w w' e := by
  by_cases hbig : 4096 < n
  · have hb := Lib.hid (big_c cv n B w hB)
    obtain ⟨ao, c0, _, _, rfl, qq⟩ := hB.out
    clear hB qq
    go_enter Try.func9, Try.ntmps9
    go_wp2_with fail
    refine hb.out.mono ?_
    rintro e w1 ⟨rfl, rfl⟩
    rw [show decide (4096 < n) = true from decide_eq_true hbig]
    go_wp2
    go_ret
    exact ⟨rfl, Below.refl _ _⟩
  · have hb := Lib.hid (big_c cv n B w hB)
    have hD := Lib.hid (sDrawAnnih_c cv n B w hB)
    have HB : Hid (∀ W, Below w.heap.size w W → Byt W cv n B) := fun W hb => hB.below hb
    obtain ⟨ao, c0, _, _, rfl, qq⟩ := hB.out
    clear hB qq
    go_enter Try.func9, Try.ntmps9
    go_wp2_with fail
    refine hb.out.mono ?_
    rintro e w1 ⟨rfl, rfl⟩
    rw [show decide (4096 < n) = false from decide_eq_false hbig]
    go_wp2_with fail
    refine hD.out.mono ?_
    rintro e w2 ⟨P, a, c, m, s, xa, xc, nx, X, rfl, hb2, hs2, hnx, hx2⟩
    have hs2 := hs2.ints
    have hp2 := Lib.hid hb2
    obtain ⟨cc, M, R, hcs0, k1, k2⟩ := zd_o P m s nx X
    have hcs := Lib.hid hcs0
    have K1 := Lib.hid k1
    have K2 := Lib.hid k2
    have id : Hid (∀ W, Below w2.heap.size w2 W → Ints W (.slice a m c) m s) := fun W hb => hs2.below hb
    have ix : Hid (∀ W, Below w2.heap.size w2 W → Ints W (.slice xa nx xc) nx X) := fun W hb => hx2.below hb
    obtain ⟨f0, f1, _, bb⟩ := box0 w2 P a m c 26
    have hl := hp2.out.size
    clear k1 k2 hs2 hb hD hb2 hx2 hcs0
    go_wp2_with fail
    go_at_call 65
    refine (K2.out _ _ _ (id.out _ bb) (ix.out _ bb)).mono ?_
    rintro e w3 ⟨a3, c3, rfl, hb3, o3⟩
    replace f0 := cellKp hb3 f0
    replace f1 := cellKp hb3 f1
    have bb := bb.trans (hb3.mono bb.size)
    have hX := Lib.hid o3.tab
    clear o3 hb3
    go_wp2_with fail
    go_at_call 66
    refine (K1.out _ _ _ (id.out _ bb) (ix.out _ bb)).mono ?_
    rintro e w4 ⟨a4, c4, rfl, hb4, o4⟩
    replace f0 := cellKp hb4 f0
    replace f1 := cellKp hb4 f1
    have bb := bb.trans (hb4.mono bb.size)
    replace hX := Lib.hid (hX.out.below hb4)
    have hY := Lib.hid o4.tab
    clear o4 hb4
    go_wp2_with fail
    go_at_call 21
    refine Calls.reads' (wr := w) (same9_c _ _ _ _ _ _ _ _ _ hX.out hY.out) _ fun q5 => ?_
    rw [eqTB_refl]
    clear hY
    replace f0 := cellKp (below_drewN _ q5) f0
    replace f1 := cellKp (below_drewN _ q5) f1
    have bb := bb.trans ((below_drewN _ q5).mono bb.size)
    replace hX := Lib.hid (hX.out.below (below_drewN _ q5))
    clear K1 K2
    have hcs2 := hcs.out
    clear hcs
    rcases hcs2 with hcc | ⟨rfl, hok, hN, hin, hrow, hdim⟩
    · have hfin := Lib.hid (hp2.out.trans (bb.mono hp2.out.size))
      have hcc' : (cc == 0) = false := by simpa using hcc
      clear hcc id hp2 bb ix hX f0 f1
      have hDD := Lib.hid (sDrawIsDivision_c _ n B _ (HB.out _ hfin.out))
      go_wp2_with fail
      refine hDD.out.mono ?_
      rintro e w20 ⟨P2, a2, c2, m2, s2, rfl, hb20, hs20⟩
      have hs20 := hs20.ints
      have hfin2 := Lib.hid (hfin.out.trans (hb20.mono hfin.out.size))
      obtain ⟨cc2, v2, q2, hcs0, k5, k6⟩ := div_o P2 m2 s2
      have hcs2 := Lib.hid hcs0
      have K5 := Lib.hid k5
      have K6 := Lib.hid k6
      have id2 : Hid (∀ W, Below w20.heap.size w20 W → Ints W (.slice a2 m2 c2) m2 s2) := fun W hb => hs20.below hb
      obtain ⟨f0, f1, _, bb⟩ := box0 w20 P2 a2 m2 c2 26
      have hl20 := hfin2.out.size
      clear k5 k6 hs20 hDD hb20 hfin hcs0
      go_wp2_with fail
      go_at_call 68
      refine Calls.makes' (K6.out _ _ (id2.out _ bb)) _ fun w21 hb21 => ?_
      replace f0 := cellKp hb21 f0
      replace f1 := cellKp hb21 f1
      have bb := bb.trans (hb21.mono bb.size)
      clear hb21
      go_wp2_with fail
      go_at_call 69
      refine Calls.makes' (K5.out _ _ (id2.out _ bb)) _ fun w22 hb22 => ?_
      replace f0 := cellKp hb22 f0
      replace f1 := cellKp hb22 f1
      have bb := bb.trans (hb22.mono bb.size)
      clear hb22 K5 K6
      have hfin := Lib.hid (hfin2.out.trans (bb.mono hfin2.out.size))
      have hcs3 := hcs2.out
      clear hcs2
      rcases hcs3 with hc2 | ⟨rfl, hq2, k7⟩
      · have hcb : (cc2 != 0) = true := by simpa using hc2
        clear hc2 bb id2 hfin2 f0 f1
        go_wp2
        go_ret
        exact ⟨rfl, hfin.out⟩
      · have K7 := Lib.hid (k7 _ _ (id2.out _ bb))
        clear k7
        go_wp2_with fail
        go_at_call 12
        refine Calls.makes' K7.out _ fun w23 hb23 => ?_
        have hfin := Lib.hid (hfin.out.trans (hb23.mono hfin.out.size))
        clear hb23 bb id2 hfin2 f0 f1 K7
        go_wp2
        go_ret
        exact ⟨rfl, hfin.out⟩
    have HOK := Lib.hid hok
    have HN := Lib.hid hN
    have HIN := Lib.hid hin
    have HRW := Lib.hid hrow
    have HDI := Lib.hid hdim
    obtain ⟨tb, tf, TA, TC, ha5, hMc, hTO⟩ := Tab.opened (v := .int .i64 0) hX.out
    have HTO := Lib.hid hTO
    have HA5 := Lib.hid ha5
    obtain ⟨nv, hnv⟩ : ∃ v, normF P s m X = v := ⟨_, rfl⟩
    have HNV := Lib.hid hnv
    have hEX0 : El _ (.slice xa nx xc) P m X := ⟨by rw [← hN]; exact ix.out _ bb, hin⟩
    have hV := Lib.hid (hnv ▸ vNorm_c P _ m s _ X _ hok (id.out _ bb) hEX0)
    clear hok hN hin hrow hdim hTO ha5 hnv hX hEX0

    have BB0 : Hid (Below w2.heap.size w2 (w4.drewN q5)) := bb
    go_wp2_with fail
    go_at_call 17
    refine Calls.makes' hV.out _ fun w7 hb7 => ?_
    replace f0 := cellKp hb7 f0
    replace f1 := cellKp hb7 f1
    have BB := Lib.hid (bb.trans (hb7.mono bb.size))
    have HB7 := Lib.hid hb7
    have HTO7 : Hid (∀ W, Below w7.heap.size w7 W → ∀ i, i < M → W.cell? ⟨tb, tf + i, none⟩ = some (.slice (TA i) nx (TC i)) ∧ Ints W (.slice (TA i) nx (TC i)) nx (R i)) := fun W hb i hi => by
      have h := HTO.out W (HB7.out.trans (hb.mono HB7.out.size)) i hi
      rw [← HN.out] at h
      exact ⟨h.1, h.2.2⟩
    have EX : Hid (∀ W, Below w7.heap.size w7 W → El W (.slice xa nx xc) P m X) := fun W hb => ⟨by rw [← HN.out]; exact ix.out W (BB.out.trans (hb.mono BB.out.size)), HIN.out⟩
    have IDW : Hid (∀ W, Below w7.heap.size w7 W → Ints W (.slice a m c) m s) := fun W hb => id.out W (BB.out.trans (hb.mono BB.out.size))
    have IXW : Hid (∀ W, Below w7.heap.size w7 W → Ints W (.slice xa nx xc) nx X) := fun W hb => ix.out W (BB.out.trans (hb.mono BB.out.size))
    have HT9 : Hid (∀ W i, i < M → Below w7.heap.size w7 W → Calls Try.prog 30 #[dbl P (.slice a m c), .slice xa nx xc, .slice (TA i) nx (TC i)] W fun e w' => ∃ g c, e = .returned (.slice (some ⟨g, 0, none⟩) nx c) ∧ Below W.heap.size W w' ∧ Ints w' (.slice (some ⟨g, 0, none⟩) nx c) nx (mulF P s m X (R i))) := fun W i hi hb => by
      have h := times9_c P _ m s _ (.slice (TA i) nx (TC i)) X (R i) W HOK.out (IDW.out W hb) (EX.out W hb) ⟨by rw [← HN.out]; exact (HTO7.out W hb i hi).2, (HRW.out i hi).1⟩
      refine h.mono fun e w' h => ?_
      obtain ⟨g, c, h1, h2, h3⟩ := h
      rw [← HN.out] at h1
      refine ⟨g, c, h1, h2, ?_⟩
      have h4 := h3.ints
      rw [← HN.out] at h4
      exact h4
    have HZ1 : Hid (∀ W v i, i < M → Ints W v nx (mulF P s m X (R i)) → Calls Try.prog 42 #[v] W fun e w' => e = .returned (.bool true) ∧ W = w') := fun W v i hi h => (HRW.out i hi).2.1 ▸ zero9_c v nx _ W h
    have HZ2 : Hid (∀ W v i, i < M → Ints W v nx (R i) → Calls Try.prog 42 #[v] W fun e w' => e = .returned (.bool false) ∧ W = w') := fun W v i hi h => (HRW.out i hi).2.2 ▸ zero9_c v nx _ W h
    clear hb7 HB7 HTO hV BB0 bb
    go_wp2
    go_loopg [11] M (fun gg iv wr => ∃ k : Nat, k ≤ M ∧ gg = M - k ∧ iv = .int .i64 k ∧ Hid (Below w7.heap.size w7 wr) ∧ wr.cell? ⟨w2.heap.size, 0, none⟩ = some (.int .i64 P) ∧ wr.cell? ⟨w2.heap.size, 1, none⟩ = some (.slice a m c))
    case atStart => exact ⟨0, by omega, rfl, rfl, Below.refl _ _, f0, f1⟩
    case round =>
      clear f0 f1
      obtain ⟨k, hkM, rfl, rfl, HB8, f0, f1⟩ := hrel
      by_cases hlt : k < M
      · have ha6 := HA5.out (by omega)
        subst ha6
        have t0 := (HTO7.out _ HB8.out k hlt).1
        have IXA := Lib.hid (fun W (hb : Below wr.heap.size wr W) => (HTO7.out W (HB8.out.trans (hb.mono HB8.out.size)) k hlt).2)
        have IT9 := Lib.hid (fun W (hb : Below wr.heap.size wr W) => HT9.out W k hlt (HB8.out.trans (hb.mono HB8.out.size)))
        have IZ1 := Lib.hid (fun W v h => HZ1.out W v k hlt h)
        have IZ2 := Lib.hid (fun W v h => HZ2.out W v k hlt h)
        have i0 : (0 : Int) ≤ (k : Int) := by omega
        have i1 : (k : Int) < (M : Int) := by omega
        go_wp2
        go_region_held3 (fun W => W.cell? ⟨w2.heap.size, 0, none⟩ = some (.int .i64 P) ∧ W.cell? ⟨w2.heap.size, 1, none⟩ = some (.slice a m c) ∧ W.cell? ⟨tb, tf + k, none⟩ = some (.slice (TA k) nx (TC k)) ∧ Below wr.heap.size wr W)
          ((first | assumption | exact srDrew f0 f1 t0 | exact srKeep (by assumption) (by assumption)))
          ((first
            | (go_at_call 30; refine (IT9.out _ (srBelow (by assumption))).mono ?_; rintro e v1 ⟨g1, c1, rfl, hb1, hE1⟩)
            | (go_at_call 42; refine (IZ1.out _ _ hE1).mono ?_; rintro e w' ⟨rfl, rfl⟩; clear hE1)
            | (go_at_call 42; refine (IZ2.out _ _ (IXA.out _ (srBelow (by assumption)))).mono ?_; rintro e w' ⟨rfl, rfl⟩)))
        all_goals rename_i hHeld
        all_goals have HB9 := Lib.hid (HB8.out.trans (hHeld.2.2.2.mono HB8.out.size))
        all_goals have f0' := hHeld.1
        all_goals have f1' := hHeld.2.1
        all_goals clear hHeld
        all_goals go_wp2
        all_goals go_roundg (M - (k + 1))
        case measure => omega
        case rel => exact ⟨k + 1, by omega, rfl, by go_num, HB9.out, f0', f1'⟩
      · obtain rfl : k = M := by omega
        have hfin := Lib.hid ((hp2.out.trans (BB.out.mono hp2.out.size)).trans (HB8.out.mono (hp2.out.trans (BB.out.mono hp2.out.size)).size))
        have IX8 := Lib.hid (zero9_c _ nx X _ (IXW.out _ HB8.out))
        have HDI2 := HDI.out
        rw [HNV.out] at HDI2
        clear HZ1 HZ2 HT9 IDW EX HTO7 HRW HDI IXW HIN HOK id ix hp2 BB HNV
        by_cases h13 : 1 ≤ m ∧ m ≤ 3
        · obtain ⟨zb, hzb⟩ : ∃ z, zeroB nx X = z := ⟨_, rfl⟩
          rw [hzb] at IX8 HDI2
          have h1 := h13.1
          have h3 := h13.2
          cases zb
          · have h4 := HDI2 h1 h3 rfl
            clear HDI2 hzb h13
            rcases h4 with ⟨hn0, hM0⟩ | ⟨hn0, hM0⟩
            · have hnb : (nv != 0) = true := by simpa using hn0
              have hnb2 : (nv == 0) = false := by simpa using hn0
              have hMb : (((k : Nat) : Int) != 0) = false := by simp [hM0]
              clear hn0 hM0
              go_wp2_with (go_at_call 42; refine IX8.out.mono ?_; rintro e w' ⟨rfl, rfl⟩)
              have hDD := Lib.hid (sDrawIsDivision_c _ n B _ (HB.out _ hfin.out))
              go_wp2_with fail
              refine hDD.out.mono ?_
              rintro e w20 ⟨P2, a2, c2, m2, s2, rfl, hb20, hs20⟩
              have hs20 := hs20.ints
              have hfin2 := Lib.hid (hfin.out.trans (hb20.mono hfin.out.size))
              obtain ⟨cc2, v2, q2, hcs0, k5, k6⟩ := div_o P2 m2 s2
              have hcs2 := Lib.hid hcs0
              have K5 := Lib.hid k5
              have K6 := Lib.hid k6
              have id2 : Hid (∀ W, Below w20.heap.size w20 W → Ints W (.slice a2 m2 c2) m2 s2) := fun W hb => hs20.below hb
              obtain ⟨f0, f1, _, bb⟩ := box0 w20 P2 a2 m2 c2 26
              have hl20 := hfin2.out.size
              clear k5 k6 hs20 hDD hb20 hfin hcs0
              go_wp2_with fail
              go_at_call 68
              refine Calls.makes' (K6.out _ _ (id2.out _ bb)) _ fun w21 hb21 => ?_
              replace f0 := cellKp hb21 f0
              replace f1 := cellKp hb21 f1
              have bb := bb.trans (hb21.mono bb.size)
              clear hb21
              go_wp2_with fail
              go_at_call 69
              refine Calls.makes' (K5.out _ _ (id2.out _ bb)) _ fun w22 hb22 => ?_
              replace f0 := cellKp hb22 f0
              replace f1 := cellKp hb22 f1
              have bb := bb.trans (hb22.mono bb.size)
              clear hb22 K5 K6
              have hfin := Lib.hid (hfin2.out.trans (bb.mono hfin2.out.size))
              have hcs3 := hcs2.out
              clear hcs2
              rcases hcs3 with hc2 | ⟨rfl, hq2, k7⟩
              · have hcb : (cc2 != 0) = true := by simpa using hc2
                clear hc2 bb id2 hfin2 f0 f1
                go_wp2
                go_ret
                exact ⟨rfl, hfin.out⟩
              · have K7 := Lib.hid (k7 _ _ (id2.out _ bb))
                clear k7
                go_wp2_with fail
                go_at_call 12
                refine Calls.makes' K7.out _ fun w23 hb23 => ?_
                have hfin := Lib.hid (hfin.out.trans (hb23.mono hfin.out.size))
                clear hb23 bb id2 hfin2 f0 f1 K7
                go_wp2
                go_ret
                exact ⟨rfl, hfin.out⟩
            · have hnb : (nv != 0) = false := by simp [hn0]
              have hnb2 : (nv == 0) = true := by simp [hn0]
              have hwr : IntKind.i64.wrap (2 * (k : Int)) = (nx : Int) := wrap_as (by omega) (by omega)
              clear hn0 hM0
              go_wp2_with (go_at_call 42; refine IX8.out.mono ?_; rintro e w' ⟨rfl, rfl⟩)
              have hDD := Lib.hid (sDrawIsDivision_c _ n B _ (HB.out _ hfin.out))
              go_wp2_with fail
              refine hDD.out.mono ?_
              rintro e w20 ⟨P2, a2, c2, m2, s2, rfl, hb20, hs20⟩
              have hs20 := hs20.ints
              have hfin2 := Lib.hid (hfin.out.trans (hb20.mono hfin.out.size))
              obtain ⟨cc2, v2, q2, hcs0, k5, k6⟩ := div_o P2 m2 s2
              have hcs2 := Lib.hid hcs0
              have K5 := Lib.hid k5
              have K6 := Lib.hid k6
              have id2 : Hid (∀ W, Below w20.heap.size w20 W → Ints W (.slice a2 m2 c2) m2 s2) := fun W hb => hs20.below hb
              obtain ⟨f0, f1, _, bb⟩ := box0 w20 P2 a2 m2 c2 26
              have hl20 := hfin2.out.size
              clear k5 k6 hs20 hDD hb20 hfin hcs0
              go_wp2_with fail
              go_at_call 68
              refine Calls.makes' (K6.out _ _ (id2.out _ bb)) _ fun w21 hb21 => ?_
              replace f0 := cellKp hb21 f0
              replace f1 := cellKp hb21 f1
              have bb := bb.trans (hb21.mono bb.size)
              clear hb21
              go_wp2_with fail
              go_at_call 69
              refine Calls.makes' (K5.out _ _ (id2.out _ bb)) _ fun w22 hb22 => ?_
              replace f0 := cellKp hb22 f0
              replace f1 := cellKp hb22 f1
              have bb := bb.trans (hb22.mono bb.size)
              clear hb22 K5 K6
              have hfin := Lib.hid (hfin2.out.trans (bb.mono hfin2.out.size))
              have hcs3 := hcs2.out
              clear hcs2
              rcases hcs3 with hc2 | ⟨rfl, hq2, k7⟩
              · have hcb : (cc2 != 0) = true := by simpa using hc2
                clear hc2 bb id2 hfin2 f0 f1
                go_wp2
                go_ret
                exact ⟨rfl, hfin.out⟩
              · have K7 := Lib.hid (k7 _ _ (id2.out _ bb))
                clear k7
                go_wp2_with fail
                go_at_call 12
                refine Calls.makes' K7.out _ fun w23 hb23 => ?_
                have hfin := Lib.hid (hfin.out.trans (hb23.mono hfin.out.size))
                clear hb23 bb id2 hfin2 f0 f1 K7
                go_wp2
                go_ret
                exact ⟨rfl, hfin.out⟩
          · clear HDI2 hzb h13
            go_wp2_with (go_at_call 42; refine IX8.out.mono ?_; rintro e w' ⟨rfl, rfl⟩)
            have hDD := Lib.hid (sDrawIsDivision_c _ n B _ (HB.out _ hfin.out))
            go_wp2_with fail
            refine hDD.out.mono ?_
            rintro e w20 ⟨P2, a2, c2, m2, s2, rfl, hb20, hs20⟩
            have hs20 := hs20.ints
            have hfin2 := Lib.hid (hfin.out.trans (hb20.mono hfin.out.size))
            obtain ⟨cc2, v2, q2, hcs0, k5, k6⟩ := div_o P2 m2 s2
            have hcs2 := Lib.hid hcs0
            have K5 := Lib.hid k5
            have K6 := Lib.hid k6
            have id2 : Hid (∀ W, Below w20.heap.size w20 W → Ints W (.slice a2 m2 c2) m2 s2) := fun W hb => hs20.below hb
            obtain ⟨f0, f1, _, bb⟩ := box0 w20 P2 a2 m2 c2 26
            have hl20 := hfin2.out.size
            clear k5 k6 hs20 hDD hb20 hfin hcs0
            go_wp2_with fail
            go_at_call 68
            refine Calls.makes' (K6.out _ _ (id2.out _ bb)) _ fun w21 hb21 => ?_
            replace f0 := cellKp hb21 f0
            replace f1 := cellKp hb21 f1
            have bb := bb.trans (hb21.mono bb.size)
            clear hb21
            go_wp2_with fail
            go_at_call 69
            refine Calls.makes' (K5.out _ _ (id2.out _ bb)) _ fun w22 hb22 => ?_
            replace f0 := cellKp hb22 f0
            replace f1 := cellKp hb22 f1
            have bb := bb.trans (hb22.mono bb.size)
            clear hb22 K5 K6
            have hfin := Lib.hid (hfin2.out.trans (bb.mono hfin2.out.size))
            have hcs3 := hcs2.out
            clear hcs2
            rcases hcs3 with hc2 | ⟨rfl, hq2, k7⟩
            · have hcb : (cc2 != 0) = true := by simpa using hc2
              clear hc2 bb id2 hfin2 f0 f1
              go_wp2
              go_ret
              exact ⟨rfl, hfin.out⟩
            · have K7 := Lib.hid (k7 _ _ (id2.out _ bb))
              clear k7
              go_wp2_with fail
              go_at_call 12
              refine Calls.makes' K7.out _ fun w23 hb23 => ?_
              have hfin := Lib.hid (hfin.out.trans (hb23.mono hfin.out.size))
              clear hb23 bb id2 hfin2 f0 f1 K7
              go_wp2
              go_ret
              exact ⟨rfl, hfin.out⟩
        · clear HDI2 IX8
          have hm0 : m = 0 ∨ 3 < m := by omega
          clear h13
          rcases hm0 with rfl | hm3
          · clear HN
            have hDD := Lib.hid (sDrawIsDivision_c _ n B _ (HB.out _ hfin.out))
            go_wp2_with fail
            refine hDD.out.mono ?_
            rintro e w20 ⟨P2, a2, c2, m2, s2, rfl, hb20, hs20⟩
            have hs20 := hs20.ints
            have hfin2 := Lib.hid (hfin.out.trans (hb20.mono hfin.out.size))
            obtain ⟨cc2, v2, q2, hcs0, k5, k6⟩ := div_o P2 m2 s2
            have hcs2 := Lib.hid hcs0
            have K5 := Lib.hid k5
            have K6 := Lib.hid k6
            have id2 : Hid (∀ W, Below w20.heap.size w20 W → Ints W (.slice a2 m2 c2) m2 s2) := fun W hb => hs20.below hb
            obtain ⟨f0, f1, _, bb⟩ := box0 w20 P2 a2 m2 c2 26
            have hl20 := hfin2.out.size
            clear k5 k6 hs20 hDD hb20 hfin hcs0
            go_wp2_with fail
            go_at_call 68
            refine Calls.makes' (K6.out _ _ (id2.out _ bb)) _ fun w21 hb21 => ?_
            replace f0 := cellKp hb21 f0
            replace f1 := cellKp hb21 f1
            have bb := bb.trans (hb21.mono bb.size)
            clear hb21
            go_wp2_with fail
            go_at_call 69
            refine Calls.makes' (K5.out _ _ (id2.out _ bb)) _ fun w22 hb22 => ?_
            replace f0 := cellKp hb22 f0
            replace f1 := cellKp hb22 f1
            have bb := bb.trans (hb22.mono bb.size)
            clear hb22 K5 K6
            have hfin := Lib.hid (hfin2.out.trans (bb.mono hfin2.out.size))
            have hcs3 := hcs2.out
            clear hcs2
            rcases hcs3 with hc2 | ⟨rfl, hq2, k7⟩
            · have hcb : (cc2 != 0) = true := by simpa using hc2
              clear hc2 bb id2 hfin2 f0 f1
              go_wp2
              go_ret
              exact ⟨rfl, hfin.out⟩
            · have K7 := Lib.hid (k7 _ _ (id2.out _ bb))
              clear k7
              go_wp2_with fail
              go_at_call 12
              refine Calls.makes' K7.out _ fun w23 hb23 => ?_
              have hfin := Lib.hid (hfin.out.trans (hb23.mono hfin.out.size))
              clear hb23 bb id2 hfin2 f0 f1 K7
              go_wp2
              go_ret
              exact ⟨rfl, hfin.out⟩
          · have h1 : 1 ≤ m := by omega
            have h3 : ¬ m ≤ 3 := by omega
            have hDD := Lib.hid (sDrawIsDivision_c _ n B _ (HB.out _ hfin.out))
            go_wp2_with fail
            refine hDD.out.mono ?_
            rintro e w20 ⟨P2, a2, c2, m2, s2, rfl, hb20, hs20⟩
            have hs20 := hs20.ints
            have hfin2 := Lib.hid (hfin.out.trans (hb20.mono hfin.out.size))
            obtain ⟨cc2, v2, q2, hcs0, k5, k6⟩ := div_o P2 m2 s2
            have hcs2 := Lib.hid hcs0
            have K5 := Lib.hid k5
            have K6 := Lib.hid k6
            have id2 : Hid (∀ W, Below w20.heap.size w20 W → Ints W (.slice a2 m2 c2) m2 s2) := fun W hb => hs20.below hb
            obtain ⟨f0, f1, _, bb⟩ := box0 w20 P2 a2 m2 c2 26
            have hl20 := hfin2.out.size
            clear k5 k6 hs20 hDD hb20 hfin hcs0
            go_wp2_with fail
            go_at_call 68
            refine Calls.makes' (K6.out _ _ (id2.out _ bb)) _ fun w21 hb21 => ?_
            replace f0 := cellKp hb21 f0
            replace f1 := cellKp hb21 f1
            have bb := bb.trans (hb21.mono bb.size)
            clear hb21
            go_wp2_with fail
            go_at_call 69
            refine Calls.makes' (K5.out _ _ (id2.out _ bb)) _ fun w22 hb22 => ?_
            replace f0 := cellKp hb22 f0
            replace f1 := cellKp hb22 f1
            have bb := bb.trans (hb22.mono bb.size)
            clear hb22 K5 K6
            have hfin := Lib.hid (hfin2.out.trans (bb.mono hfin2.out.size))
            have hcs3 := hcs2.out
            clear hcs2
            rcases hcs3 with hc2 | ⟨rfl, hq2, k7⟩
            · have hcb : (cc2 != 0) = true := by simpa using hc2
              clear hc2 bb id2 hfin2 f0 f1
              go_wp2
              go_ret
              exact ⟨rfl, hfin.out⟩
            · have K7 := Lib.hid (k7 _ _ (id2.out _ bb))
              clear k7
              go_wp2_with fail
              go_at_call 12
              refine Calls.makes' K7.out _ fun w23 hb23 => ?_
              have hfin := Lib.hid (hfin.out.trans (hb23.mono hfin.out.size))
              clear hb23 bb id2 hfin2 f0 f1 K7
              go_wp2
              go_ret
              exact ⟨rfl, hfin.out⟩

end Go.Proofs.Ytnnacligfoonbaa
