/-
  A drawn doubling and two elements. No condition beside sizes.
-/
import Derived.Test.YtnnacligfoonbaaLX1
import Derived.Test.YtnnacligfoonbaaLD7
set_option linter.unusedVariables false
set_option linter.unusedSimpArgs false
namespace Go.Proofs.Ytnnacligfoonbaa
open Go.RowKit

/-- what a draw of a doubling and two elements hands back -/
structure DrawnD2 (w w' : World) (e : Ending) : Prop where
  out : ∃ (P : Int) (a : Option Addr) (c m : Nat) (s : Nat → Int) (xv : Value) (nx : Nat) (X : Nat → Int) (yv : Value) (ny : Nat) (Y : Nat → Int), e = .returned (.tuple #[dbl P (.slice a m c), xv, yv]) ∧ Below w.heap.size w w' ∧ OI w' w.heap.size w'.heap.size a c m s ∧ Ints w' xv nx X ∧ Ints w' yv ny Y ∧ nx ≤ 16 ∧ ny ≤ 16
/-- a list that stays while the source is turned -/
theorem DK.byt {w wr : World} {g : Nat} {cv : Value} {n bd : Nat} {P : Int} {a : Option Addr} {c m : Nat} {s : Nat → Int} {B : Nat → Int} (h : DK w wr g cv n bd P a c m s) (HB : ∀ W, Below w.heap.size w W → Byt W cv n B) : ∀ W, Chg wr W (· = g) → Byt W cv n B := fun W hc =>
  HB W (h.bel.trans (hc.below h.bel.size (fun k e => by have e : k = g := e; have := h.ord; omega)))
/-- the draw of an element, of what is known -/
theorem sDkElem_c {w wr : World} {g : Nat} {cv : Value} {n bd : Nat} {P : Int} {a : Option Addr} {c m : Nat} {s : Nat → Int} {B : Nat → Int} (h : DK w wr g cv n bd P a c m s) (HB : ∀ W, Below w.heap.size w W → Byt W cv n B) (hm : m ≤ 8) (hP : 0 ≤ P ∧ P ≤ 17) :
    Calls Try.prog 90 #[.pointer (some ⟨g, 0, none⟩), dbl P (.slice a m c)] wr fun e w' => ∃ (v : Value) (k : Nat) (X : Nat → Int), e = .returned v ∧ k ≤ 16 ∧ (∀ W, Chg w' W (fun k => k < wr.heap.size ∨ w'.heap.size ≤ k) → Ints W v k X) ∧ DK w w' g cv n bd P a c m s ∧ Chg wr w' (· = g) :=
  (sDrawElement_c g n cv B P _ m s wr h.src (h.byt HB) h.lst.ints hm hP).mono fun e w' hh => by
    obtain ⟨v, k, X, h1, h2, h3, h4⟩ := hh.out
    exact ⟨v, k, X, h1, h2, h3, h.step h4, h4.chg⟩

set_option maxRecDepth 100000 in
set_option maxHeartbeats 8000000 in
theorem sDrawDoubleTimes_c (cv : Value) (n : Nat) (B : Nat → Int) (w : World) (hB : Byt w cv n B) :
    Calls Try.prog 32 #[cv] w fun e w' => DrawnD2 w w' e := by
  have HB : Hid (∀ W, Below w.heap.size w W → Byt W cv n B) := fun W hb => hB.below hb
  obtain ⟨wa, hwa⟩ : ∃ wa, wa = w.alloc (.cells #[.int .i64 0, .slice none 0 0] 26) := ⟨_, rfl⟩
  have hba : Below w.heap.size w wa := by rw [hwa]; exact (Below.refl _ _).alloc (Nat.le_refl _) _
  have hsa : wa.heap.size = w.heap.size + 1 := by rw [hwa]; simp
  have hra : Own wa 26 w.heap.size 2 2 (fun i => if i = 0 then .int .i64 0 else .slice none 0 0) := by rw [hwa]; exact own2 w _ _ _
  have hp1 := sFrom_c cv n B wa (hB.below hba)
  rw [hwa] at hp1
  have HP1 := Lib.hid hp1
  have HWA := Lib.hid hwa
  have HRA := Lib.hid hra
  have HBA := Lib.hid hba
  have HSZ := Lib.hid hsa
  obtain ⟨ao, c0, _, _, rfl, _⟩ := hB.out
  clear hwa hra hba hp1 hB hsa
  go_enter Try.func32, Try.ntmps32
  go_wp2_with fail
  refine HP1.out.mono ?_
  rintro e w1 ⟨g, rfl, hg, hb1, hs1⟩
  rw [← HWA.out] at hg hb1
  have hb1a := Lib.hid (HBA.out.trans (hb1.mono HBA.out.size))
  have hra1 := Lib.hid (HRA.out.kept hb1)
  have hsz := HSZ.out
  have hD := Lib.hid (sDrawAny_c g n _ B 4 w1 hs1 (fun W hc => HB.out W (hb1a.out.trans (hc.below hb1a.out.size (fun k e => by have e : k = g := e; omega)))) (by omega))
  clear HP1 HWA HRA HBA hb1
  go_wp2_with fail
  refine hD.out.mono ?_
  rintro e w2 ⟨P, a, c, m, s, rfl, hm, hP, hL, hd⟩
  have hl1 := hb1a.out.size
  have hb2 := Lib.hid (hb1a.out.trans (hd.below hl1 (by omega)))
  have hra2 := Lib.hid (hd.chg.own hra1.out (by show ¬ w.heap.size = g; omega))
  have hlt := hra1.out.lt
  have hgl := hs1.lt
  obtain ⟨wb, hwb⟩ : ∃ wb, wb = w2.alloc (.cells #[.int .i64 P, .slice a m c] 26) := ⟨_, rfl⟩
  have hbb : Below w2.heap.size w2 wb := by rw [hwb]; exact (Below.refl _ _).alloc (Nat.le_refl _) _
  have hsb : wb.heap.size = w2.heap.size + 1 := by rw [hwb]; simp
  have hsd := hd.chg.size
  have hDK := ((⟨⟨by omega, by omega, by omega⟩, hd.src.kept hbb, hb2.out.trans (hbb.mono (by have := hb2.out.size; omega)), by rw [hwb]; exact own2 w2 _ _ _, hra2.out.kept hbb, (hL.lowH (by omega) (Nat.le_refl _)).kept hbb⟩ : DK w wb g (.slice ao n c0) n w2.heap.size P a c m s)).kept (drewB wb)
  have hp3 := sDkElem_c hDK HB.out hm hP
  rw [hwb] at hp3 hDK
  have HP3 := Lib.hid hp3
  have z0 := hDK.box.cell (show 0 < 2 by omega)
  have z1 := hDK.box.cell (show 1 < 2 by omega)
  simp only [if_pos, if_neg (show ¬ (1 : Nat) = 0 by omega)] at z0 z1
  have ho := hDK.ord
  clear hDK hsb hbb hp3 hwb hD hd hb2 hL hra1 hra2 HSZ hb1a hs1
  go_wp2
  go_region_law (first
    | (go_simp; go_at_call 90; refine HP3.out.mono ?_; rintro e w5 ⟨xv, nx, X, rfl, hnx, hX5, hD5, hc5⟩; have HP4 := Lib.hid (sDkElem_c hD5 HB.out hm hP); have HD5 := Lib.hid hD5; have HX5 := Lib.hid hX5; have y0 := hD5.box.cell (show 0 < 2 by omega); have y1 := hD5.box.cell (show 1 < 2 by omega); simp only [if_pos, if_neg (show ¬ (1 : Nat) = 0 by omega)] at y0 y1; have hs5 := hc5.size; clear hD5 HP3 hX5 hc5)
    | (go_simp; go_at_call 90; refine HP4.out.mono ?_; rintro e w6 ⟨yv, ny, Y, rfl, hny, hY6, hD6, hc6⟩; have HD6 := Lib.hid hD6; have HY6 := Lib.hid hY6; have HC6 := Lib.hid hc6; have hs6 := hc6.size; have y0 := hD6.box.cell (show 0 < 2 by omega); have y1 := hD6.box.cell (show 1 < 2 by omega); have r0 := hD6.res.cell (show 0 < 2 by omega); have r1 := hD6.res.cell (show 1 < 2 by omega); have q0 := hD6.res.frozen 0; have q1 := hD6.res.frozen 1; simp only [if_pos, if_neg (show ¬ (1 : Nat) = 0 by omega)] at y0 y1 r0 r1; clear hD6 HP4 hY6 hc6))
  all_goals
    have hres := (HD6.out.res.set 0 (.int .i64 P)).set 1 (.slice a m c)
    have c0' := hres.cell (show 0 < 2 by omega)
    have c1' := hres.cell (show 1 < 2 by omega)
    simp at c0' c1'
    obtain ⟨u1, u2, u3⟩ := HD6.out.fin (.int .i64 P) (.slice a m c)
    have hcs : Hid (Chg w6 ((w6.setCell ⟨w.heap.size, 0, none⟩ (.int .i64 P)).setCell ⟨w.heap.size, 1, none⟩ (.slice a m c)) (· = w.heap.size)) := ((Chg.refl w6 (· = w.heap.size)).setCell (a := ⟨w.heap.size, 0, none⟩) rfl (.int .i64 P)).setCell (a := ⟨w.heap.size, 1, none⟩) rfl (.slice a m c)
    have ho6 := HD6.out.ord
    have hs5' : w2.heap.size + 1 ≤ w5.heap.size := by simpa using hs5
    have x1 := HX5.out _ ((HC6.out.mono (S' := fun k => k = g ∨ k = w.heap.size) (fun k e => Or.inl e)).trans (hcs.out.mono (fun k e => Or.inr e)) |>.mono (fun k e => Or.inl (by simp; rcases e with e | e <;> omega)))
    have x2 := HY6.out _ (hcs.out.mono (fun k e => Or.inl (by have e : k = w.heap.size := e; have := HD5.out.ord; omega)))
    have U1 := Lib.hid u1
    have U2 := Lib.hid u2
    have U3 := Lib.hid u3
    have XX1 := Lib.hid x1
    have XX2 := Lib.hid x2
    clear hres u1 u2 u3 x1 x2
    go_wp2
    refine bodyPost_ret (v := .tuple #[.agg #[.int .i64 P, .slice a m c], xv, yv]) (by simp [results, Try.results32, go_sem, c0', c1']; try rfl) rfl ?_
    exact ⟨P, a, c, m, s, xv, nx, X, yv, ny, Y, rfl, U1.out, U2.out.lowH (by omega) (Nat.le_of_lt U3.out), XX1.out, XX2.out, hnx, hny⟩

end Go.Proofs.Ytnnacligfoonbaa
