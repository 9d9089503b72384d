/-
  A drawn doubling and a number. No condition beside sizes.
-/
import Derived.Test.YtnnacligfoonbaaLD6
set_option linter.unusedVariables false
set_option linter.unusedSimpArgs false
namespace Go.Proofs.Ytnnacligfoonbaa
open Go.RowKit

/-- what a draw of a doubling and a number hands back -/
structure DrawnDK (w w' : World) (e : Ending) : Prop where
  out : ∃ (P : Int) (a : Option Addr) (c m : Nat) (s : Nat → Int) (K : Int), e = .returned (.tuple #[dbl P (.slice a m c), .int .i64 K]) ∧ Below w.heap.size w w' ∧ OI w' w.heap.size w'.heap.size a c m s ∧ -9 ≤ K ∧ K ≤ 99
/-- what is known while more is drawn: the source g, the doubling's block bd, the result's block, the list -/
structure DK (w wr : World) (g : Nat) (cv : Value) (n bd : Nat) (P : Int) (a : Option Addr) (c m : Nat) (s : Nat → Int) : Prop where
  ord : w.heap.size < g ∧ g < bd ∧ bd < wr.heap.size
  src : Src wr g cv n
  bel : Below w.heap.size w wr
  box : Own wr 26 bd 2 2 (fun i => if i = 0 then .int .i64 P else .slice a m c)
  res : Own wr 26 w.heap.size 2 2 (fun i => if i = 0 then .int .i64 0 else .slice none 0 0)
  lst : OI wr (g + 1) bd a c m s
theorem DK.step {w wr w' : World} {g : Nat} {cv : Value} {n bd : Nat} {P : Int} {a : Option Addr} {c m : Nat} {s : Nat → Int} (h : DK w wr g cv n bd P a c m s) (hd : Drew wr w' g cv n) : DK w w' g cv n bd P a c m s := by
  have ho := h.ord
  have hs := hd.chg.size
  refine ⟨⟨ho.1, ho.2.1, by omega⟩, hd.src, h.bel.trans (hd.chg.below h.bel.size (fun k e => by have e : k = g := e; omega)), hd.chg.own h.box (by show ¬ bd = g; omega), hd.chg.own h.res (by show ¬ w.heap.size = g; omega), h.lst.by hd.chg fun k e => ?_⟩
  have e : k = g := e
  omega
theorem DK.kept {w wr w' : World} {g : Nat} {cv : Value} {n bd : Nat} {P : Int} {a : Option Addr} {c m : Nat} {s : Nat → Int} (h : DK w wr g cv n bd P a c m s) (hb : Below wr.heap.size wr w') : DK w w' g cv n bd P a c m s := by
  have ho := h.ord
  have hs := hb.size
  exact ⟨⟨ho.1, ho.2.1, by omega⟩, h.src.kept hb, h.bel.trans (hb.mono h.bel.size), h.box.kept hb, h.res.kept hb, h.lst.kept hb⟩
theorem DK.fin {w wr : World} {g : Nat} {cv : Value} {n bd : Nat} {P : Int} {a : Option Addr} {c m : Nat} {s : Nat → Int} (h : DK w wr g cv n bd P a c m s) (u v : Value) :
    Below w.heap.size w ((wr.setCell ⟨w.heap.size, 0, none⟩ u).setCell ⟨w.heap.size, 1, none⟩ v) ∧ OI ((wr.setCell ⟨w.heap.size, 0, none⟩ u).setCell ⟨w.heap.size, 1, none⟩ v) (g + 1) bd a c m s ∧ bd < ((wr.setCell ⟨w.heap.size, 0, none⟩ u).setCell ⟨w.heap.size, 1, none⟩ v).heap.size := by
  have ho := h.ord
  have hsz : ((wr.setCell ⟨w.heap.size, 0, none⟩ u).setCell ⟨w.heap.size, 1, none⟩ v).heap.size = wr.heap.size := by simp [World.setCell]
  have hc : Chg wr ((wr.setCell ⟨w.heap.size, 0, none⟩ u).setCell ⟨w.heap.size, 1, none⟩ v) (· = w.heap.size) := ((Chg.refl wr (· = w.heap.size)).setCell (a := ⟨w.heap.size, 0, none⟩) rfl u).setCell (a := ⟨w.heap.size, 1, none⟩) rfl v
  exact ⟨h.bel.trans (hc.below h.bel.size fun k e => Nat.le_of_eq e.symm), h.lst.by hc fun k e => by have e : k = w.heap.size := e; omega, by omega⟩

theorem quo_bd {x q : Int} (h : x.tdiv 23 = q) (hx : 0 ≤ x ∧ x < 24) : 0 ≤ q ∧ q ≤ 2 := by
  rw [Int.tdiv_eq_ediv_of_nonneg hx.1] at h
  omega
theorem wrap_as {a b : Int} (h : a = b) (hb : -9223372036854775808 ≤ b ∧ b ≤ 9223372036854775807) : IntKind.i64.wrap a = b := by rw [h]; exact wrap_in' _ hb

set_option maxRecDepth 100000 in
set_option maxHeartbeats 4000000 in
theorem sDrawCountOfNorm_c (cv : Value) (n : Nat) (B : Nat → Int) (w : World) (hB : Byt w cv n B) :
    Calls Try.prog 11 #[cv] w fun e w' => DrawnDK w w' e := by
  have HB : Hid (∀ W, Below w.heap.size w W → Byt W cv n B) := fun W hb => hB.below hb
  obtain ⟨wa, hwa⟩ : ∃ wa, wa = w.alloc (.cells #[.int .i64 0, .slice none 0 0] 26) := ⟨_, rfl⟩
  have hba : Below w.heap.size w wa := by rw [hwa]; exact (Below.refl _ _).alloc (Nat.le_refl _) _
  have hsa : wa.heap.size = w.heap.size + 1 := by rw [hwa]; simp
  have hra : Own wa 26 w.heap.size 2 2 (fun i => if i = 0 then .int .i64 0 else .slice none 0 0) := by rw [hwa]; exact own2 w _ _ _
  have hp1 := sFrom_c cv n B wa (hB.below hba)
  rw [hwa] at hp1
  have HP1 := Lib.hid hp1
  have HWA := Lib.hid hwa
  have HRA := Lib.hid hra
  have HBA := Lib.hid hba
  have HSZ := Lib.hid hsa
  obtain ⟨ao, c0, _, _, rfl, _⟩ := hB.out
  clear hwa hra hba hp1 hB hsa
  go_enter Try.func11, Try.ntmps11
  go_wp2_with fail
  refine HP1.out.mono ?_
  rintro e w1 ⟨g, rfl, hg, hb1, hs1⟩
  rw [← HWA.out] at hg hb1
  have hb1a := Lib.hid (HBA.out.trans (hb1.mono HBA.out.size))
  have hra1 := Lib.hid (HRA.out.kept hb1)
  have hsz := HSZ.out
  have hD := Lib.hid (sDrawAny_c g n _ B 4 w1 hs1 (fun W hc => HB.out W (hb1a.out.trans (hc.below hb1a.out.size (fun k e => by have e : k = g := e; omega)))) (by omega))
  clear HP1 HWA HRA HBA hb1
  go_wp2_with fail
  refine hD.out.mono ?_
  rintro e w2 ⟨P, a, c, m, s, rfl, hm, hP, hL, hd⟩
  have hl1 := hb1a.out.size
  have hb2 := Lib.hid (hb1a.out.trans (hd.below hl1 (by omega)))
  have hra2 := Lib.hid (hd.chg.own hra1.out (by show ¬ w.heap.size = g; omega))
  have hlt := hra1.out.lt
  have hgl := hs1.lt
  obtain ⟨wb, hwb⟩ : ∃ wb, wb = w2.alloc (.cells #[.int .i64 P, .slice a m c] 26) := ⟨_, rfl⟩
  have hbb : Below w2.heap.size w2 wb := by rw [hwb]; exact (Below.refl _ _).alloc (Nat.le_refl _) _
  have hsb : wb.heap.size = w2.heap.size + 1 := by rw [hwb]; simp
  have hsd := hd.chg.size
  have hDK := ((⟨⟨by omega, by omega, by omega⟩, hd.src.kept hbb, hb2.out.trans (hbb.mono (by have := hb2.out.size; omega)), by rw [hwb]; exact own2 w2 _ _ _, hra2.out.kept hbb, (hL.lowH (by omega) (Nat.le_refl _)).kept hbb⟩ : DK w wb g (.slice ao n c0) n w2.heap.size P a c m s)).kept (drewB wb)
  have HK := Lib.hid hDK
  rw [hwb] at hDK
  have z0 := hDK.box.cell (show 0 < 2 by omega)
  have z1 := hDK.box.cell (show 1 < 2 by omega)
  simp only [if_pos, if_neg (show ¬ (1 : Nat) = 0 by omega)] at z0 z1
  obtain ⟨Mx, hmx⟩ : ∃ Mx, (if 1 < P then P else 1) = Mx := ⟨_, rfl⟩
  have hMx : 1 ≤ Mx ∧ Mx ≤ 17 := by rw [← hmx]; split <;> omega
  obtain ⟨M1, hm1⟩ : ∃ M1, Mx + 1 = M1 := ⟨_, rfl⟩
  have hwM : IntKind.i64.wrap (Mx + 1) = M1 := by rw [hm1]; exact wrap_in' _ (by omega)
  have hp3 : Calls Try.prog 72 #[.pointer (some ⟨g, 0, none⟩), .int .i64 M1] wb.drew fun e w' => ∃ x : Int, e = .returned (.int .i64 x) ∧ (0 ≤ x ∧ x < 18) ∧ DK w w' g (.slice ao n c0) n w2.heap.size P a c m s := (sNext_c g n _ B M1 _ HK.out.src (HB.out _ HK.out.bel) (by omega)).mono fun e w' h => by
    obtain ⟨x, h1, h2, _, h3⟩ := h
    exact ⟨x, h1, by have := h2 (by omega); omega, HK.out.step h3⟩
  rw [hwb] at hp3
  have HP3 := Lib.hid hp3
  clear hDK hsb hbb hp3 hwb hD hd hb2 HK hL hra1 hra2 HSZ hb1a hm1 hs1
  go_wp2
  go_region_law (first
    | (go_simp; go_at_call 72; refine HP3.out.mono ?_; rintro e w5 ⟨x5, rfl, hx5, hD5⟩; have HP4 := Lib.hid (sNext_c g n _ B 24 _ hD5.src (HB.out _ hD5.bel) (by omega)); have HD5 := Lib.hid hD5; have y0 := hD5.box.cell (show 0 < 2 by omega); have y1 := hD5.box.cell (show 1 < 2 by omega); simp only [if_pos, if_neg (show ¬ (1 : Nat) = 0 by omega)] at y0 y1; clear hD5 HP3)
    | (go_simp; go_at_call 72; refine HP4.out.mono ?_; rintro e w6 ⟨x6, rfl, hx6, _, hr6⟩; have HD6 := Lib.hid (HD5.out.step hr6); have hx6 := hx6 (by omega); obtain ⟨q6, hq6⟩ : ∃ q6, x6.tdiv 23 = q6 := ⟨_, rfl⟩; have hqb := quo_bd hq6 hx6; have hwq : IntKind.i64.wrap q6 = q6 := wrap_in' _ (by omega); obtain ⟨K6, hk6⟩ : ∃ K6, x5 - q6 = K6 := ⟨_, rfl⟩; have hwK := wrap_as hk6 (by omega); have hwk2 : IntKind.i64.wrap K6 = K6 := wrap_in' _ (by omega); have y0 := HD6.out.box.cell (show 0 < 2 by omega); have y1 := HD6.out.box.cell (show 1 < 2 by omega); have r0 := HD6.out.res.cell (show 0 < 2 by omega); have r1 := HD6.out.res.cell (show 1 < 2 by omega); have q0 := HD6.out.res.frozen 0; have q1 := HD6.out.res.frozen 1; simp only [if_pos, if_neg (show ¬ (1 : Nat) = 0 by omega)] at y0 y1 r0 r1; clear hr6 HP4))
  all_goals
    have hres := (HD6.out.res.set 0 (.int .i64 P)).set 1 (.slice a m c)
    have c0' := hres.cell (show 0 < 2 by omega)
    have c1' := hres.cell (show 1 < 2 by omega)
    simp at c0' c1'
    obtain ⟨u1, u2, u3⟩ := HD6.out.fin (.int .i64 P) (.slice a m c)
    have ho := HD6.out.ord
    have U1 := Lib.hid u1
    have U2 := Lib.hid u2
    have U3 := Lib.hid u3
    clear hres u1 u2 u3
    go_wp2
    refine bodyPost_ret (v := .tuple #[.agg #[.int .i64 P, .slice a m c], .int .i64 K6]) (by simp [results, Try.results11, go_sem, c0', c1']; try rfl) rfl ?_
    exact ⟨P, a, c, m, s, K6, rfl, U1.out, U2.out.lowH (by omega) (Nat.le_of_lt U3.out), by omega, by omega⟩

end Go.Proofs.Ytnnacligfoonbaa
