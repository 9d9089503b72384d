/-
  The reference's draws of a space: the space is one (LS1's walks, with what they know of the space). No condition.
-/
import Derived.Test.YtejbigdebjcomaaDoorLS1
set_option linter.unusedVariables false
set_option linter.unusedSimpArgs false
set_option maxRecDepth 100000
namespace Go.Proofs.YtejbigdebjcomaaDoor
open Go.RowKit


set_option maxRecDepth 100000 in
set_option maxHeartbeats 4000000 in
theorem sPrimeD2_c (g n : Nat) (cv : Value) (B : Nat → Int) (w : World) (hs : Src w g cv n) (hB : ∀ W, Chg w W (· = g) → Byt W cv n B) :
    Calls Tryd.prog 68 #[.pointer (some ⟨g, 0, none⟩)] w fun e w' => ∃ P : Int, primeB P = true ∧ e = .returned (.int .i64 P) ∧ Drew w w' g cv n := by
  have hgl := hs.lt
  have h8 := ints8 w 2 3 5 7 11 13 3 5 7
  have hb8 : Below w.heap.size w (w.alloc (.cells #[.int .i64 3, .int .i64 5, .int .i64 7, .int .i64 11, .int .i64 13, .int .i64 3, .int .i64 5, .int .i64 7] 2)) := (Below.refl _ _).alloc (Nat.le_refl _) _
  have hp8 : Calls Tryd.prog 56 #[.pointer (some ⟨g, 0, none⟩), .slice (some ⟨w.heap.size, 0, none⟩) 8 8] (w.alloc (.cells #[.int .i64 3, .int .i64 5, .int .i64 7, .int .i64 11, .int .i64 13, .int .i64 3, .int .i64 5, .int .i64 7] 2)) fun e w' => ∃ P : Int, primeB P = true ∧ e = .returned (.int .i64 P) ∧ Drew w w' g cv n := by
    refine (sPick_c g n cv _ B _ 8 _ (hs.kept hb8) (hB _ (Chg.of_below hb8 _)) (fun W hc => h8.chgInts hc (by omega)) (by omega)).mono fun e w' h => ?_
    obtain ⟨j, hj, he, hd⟩ := h
    have h3 : j = 0 ∨ j = 1 ∨ j = 2 ∨ j = 3 ∨ j = 4 ∨ j = 5 ∨ j = 6 ∨ j = 7 := by omega
    refine ⟨_, ?_, he, hd.src, (Chg.of_below hb8 _).trans hd.chg⟩
    rcases h3 with rfl | rfl | rfl | rfl | rfl | rfl | rfl | rfl <;> rfl
  have HP8 := Lib.hid hp8
  clear hp8 hb8 h8 hs hB
  go_enter Tryd.func68, Tryd.ntmps68
  go_wp2_with fail
  refine HP8.out.mono ?_
  rintro e w1 ⟨P, hP, rfl, hd⟩
  go_wp2
  go_ret
  exact ⟨P, hP, rfl, hd⟩


/-- a space that is drawn, and is one -/
structure DrSx (w w' : World) (e : Ending) (g : Nat) (cv : Value) (n : Nat) : Prop where
  out : ∃ (P : Int) (a : Option Addr) (c m : Nat) (s : Nat → Int), e = .returned (dbl P (.slice a m c)) ∧ SpOk P m s ∧ OI w' w.heap.size w'.heap.size a c m s ∧ Drew w w' g cv n


set_option maxRecDepth 100000 in
set_option maxHeartbeats 8000000 in
theorem sAnySp2_c (g n : Nat) (cv : Value) (B : Nat → Int) (most : Int) (w : World) (hs : Src w g cv n) (hB : ∀ W, Chg w W (· = g) → Byt W cv n B) (hm : 1 ≤ most ∧ most ≤ 6) :
    Calls Tryd.prog 57 #[.pointer (some ⟨g, 0, none⟩), .int .i64 most] w fun e w' => DrSx w w' e g cv n := by
  have HB := Lib.hid hB
  have hgl := hs.lt
  obtain ⟨wa, hwa⟩ : ∃ wa, wa = w.alloc (.cells #[.int .i64 0, .slice none 0 0] 24) := ⟨_, rfl⟩
  have hba : Below w.heap.size w wa := by rw [hwa]; exact (Below.refl _ _).alloc (Nat.le_refl _) _
  have hsa : wa.heap.size = w.heap.size + 1 := by rw [hwa]; simp
  have hra : Own wa 24 w.heap.size 2 2 (fun i => if i = 0 then .int .i64 0 else .slice none 0 0) := by rw [hwa]; exact own2 w _ _ _
  have hp5 := sPrimeD2_c g n cv B wa (hs.kept hba) (fun W hc => hB W ((Chg.of_below hba _).trans hc))
  rw [hwa] at hp5
  have HP5 := Lib.hid hp5
  have HWA := Lib.hid hwa
  have HRA := Lib.hid hra
  have HBA := Lib.hid hba
  have HSZ := Lib.hid hsa
  clear hwa hra hba hp5 hs hB hsa
  go_enter Tryd.func57, Tryd.ntmps57
  go_wp2_with fail
  refine HP5.out.mono ?_
  rintro e w1 ⟨P, hPr, rfl, hd1⟩
  have hP := primeB_bd hPr
  have HPR := Lib.hid hPr
  clear hPr
  rw [← HWA.out] at hd1
  have hsz := HSZ.out
  have hs1 := hd1.chg.size
  obtain ⟨wb, hwb⟩ : ∃ wb, wb = w1.alloc (.cells #[.int .i64 P, .slice none 0 0] 24) := ⟨_, rfl⟩
  have hbb : Below w1.heap.size w1 wb := by rw [hwb]; exact (Below.refl _ _).alloc (Nat.le_refl _) _
  have hsb : wb.heap.size = w1.heap.size + 1 := by rw [hwb]; simp
  have hD0 : DrSt w wb g cv n w.heap.size w1.heap.size P none 0 0 (fun _ => 0) :=
    ⟨⟨hgl, Nat.le_refl _, by omega, by omega⟩, hd1.src.kept hbb, ((Chg.of_below HBA.out _).trans hd1.chg).trans (Chg.of_below hbb _), by rw [hwb]; exact own2 w1 _ _ _, (hd1.chg.own HRA.out (by show ¬ w.heap.size = g; omega)).kept hbb, ⟨Or.inl ⟨rfl, rfl, rfl⟩⟩⟩
  have hp8 : Calls Tryd.prog 40 #[.pointer (some ⟨g, 0, none⟩), .int .i64 most] wb fun e w' => ∃ x : Int, e = .returned (.int .i64 x) ∧ (0 ≤ x ∧ x < most) ∧ DrSt w w' g cv n w.heap.size w1.heap.size P none 0 0 (fun _ => 0) := (sNext_c g n cv B most wb hD0.src (HB.out _ hD0.chg) (by omega)).mono fun e w' h => by
    obtain ⟨x, h1, h2, _, h3⟩ := h
    exact ⟨x, h1, h2 (by omega), hD0.step h3⟩
  rw [hwb] at hp8
  have HP8 := Lib.hid hp8
  clear hp8 hD0 hsb hbb hwb hs1 hsz hd1 HRA HBA HSZ HP5 HWA
  go_wp2_with fail
  refine HP8.out.mono ?_
  rintro e w2 ⟨K, rfl, hK, hD2⟩
  have HD2 := Lib.hid hD2
  have hwK : IntKind.i64.wrap (1 + K) = 1 + K := wrap_in' _ (by omega)
  clear hD2
  go_wp2_with fail
  go_loopg [7] 20 (fun gg s7 wr => ∃ (kv : Int) (a : Option Addr) (c m : Nat) (s : Nat → Int), gg = 20 - m ∧ s7 = .int .i64 kv ∧ (0 ≤ kv ∧ 1 ≤ kv + m ∧ kv + m ≤ 6) ∧ Hid (DrSt w wr g cv n w.heap.size w1.heap.size P a c m s) ∧ Hid (InP P m s))
  case atStart => exact ⟨_, none, 0, 0, _, rfl, rfl, by omega, HD2.out, fun i hi => absurd hi (Nat.not_lt_zero _)⟩
  case round =>
    obtain ⟨kv, a, c, m, s, rfl, rfl, hkv, hD, hin⟩ := hrel
    have ho := hD.out.ord
    have hwk : IntKind.i64.wrap (kv - 1) = kv - 1 := wrap_in' _ (by omega)
    have hwp : IntKind.i64.wrap (P - 1) = P - 1 := wrap_in' _ (by omega)
    clear HD2 HP8 hwK
    by_cases hk0 : 0 < kv
    · have hN2 : Hid (Calls Tryd.prog 40 #[.pointer (some ⟨g, 0, none⟩), .int .i64 (P - 1)] wr fun e w' => ∃ x : Int, e = .returned (.int .i64 x) ∧ (0 ≤ x ∧ x < P - 1) ∧ DrSt w w' g cv n w.heap.size w1.heap.size P a c m s) := (sNext_c g n cv B (P - 1) wr hD.out.src (HB.out _ hD.out.chg) (by omega)).mono fun e w' h => by
        obtain ⟨x, h1, h2, _, h3⟩ := h
        exact ⟨x, h1, h2 (by omega), hD.out.step h3⟩
      clear ho
      go_wp2_with fail
      refine hN2.out.mono ?_
      rintro e w3 ⟨x, rfl, hx, hD3⟩
      have hwx : IntKind.i64.wrap (1 + x) = 1 + x := wrap_in' _ (by omega)
      have hb4 : Below w3.heap.size w3 (w3.alloc (.cells #[.int .i64 1, .int .i64 (P - 1), .int .i64 (1 + x), .int .i64 1] 2)) := (Below.refl _ _).alloc (Nat.le_refl _) _
      have h4 := ints4 w3 2 1 (P - 1) (1 + x) 1
      have hN3 : Hid (Calls Tryd.prog 56 #[.pointer (some ⟨g, 0, none⟩), .slice (some ⟨w3.heap.size, 0, none⟩) 4 4] (w3.alloc (.cells #[.int .i64 1, .int .i64 (P - 1), .int .i64 (1 + x), .int .i64 1] 2)) fun e w' => ∃ v : Int, e = .returned (.int .i64 v) ∧ (1 ≤ v ∧ v ≤ P - 1) ∧ DrSt w w' g cv n w.heap.size w1.heap.size P a c m s) := by
        have hD8 := hD3.kept hb4
        have ho3 := hD3.ord
        refine (sPick_c g n cv _ B _ 4 _ hD8.src (HB.out _ hD8.chg) (fun W hc => h4.chgInts hc (by omega)) (by omega)).mono fun e w' h => ?_
        obtain ⟨j, hj, he, hd⟩ := h
        have h3 : j = 0 ∨ j = 1 ∨ j = 2 ∨ j = 3 := by omega
        refine ⟨_, he, ?_, hD8.step hd⟩
        rcases h3 with rfl | rfl | rfl | rfl <;> simp <;> omega
      clear hD3 hN2 hD h4 hb4
      go_wp2_with fail
      refine hN3.out.mono ?_
      rintro e w4 ⟨v, rfl, hv, hD4⟩
      have hN4 : Hid (Calls Tryd.prog 40 #[.pointer (some ⟨g, 0, none⟩), .int .i64 10] w4 fun e w' => ∃ x : Int, e = .returned (.int .i64 x) ∧ (0 ≤ x ∧ x < 10) ∧ DrSt w w' g cv n w.heap.size w1.heap.size P a c m s) := (sNext_c g n cv B 10 w4 hD4.src (HB.out _ hD4.chg) (by omega)).mono fun e w' h => by
        obtain ⟨x, h1, h2, _, h3⟩ := h
        exact ⟨x, h1, h2 (by omega), hD4.step h3⟩
      clear hD4 hN3
      go_wp2_with fail
      refine hN4.out.mono ?_
      rintro e w5 ⟨y, rfl, hy, hD5⟩
      have HD3 := Lib.hid hD5
      have ho := hD5.ord
      clear hN4 hD5
      have y1 := HD3.out.box.cell (show 1 < 2 by omega)
      simp only [if_neg (show ¬ (1 : Nat) = 0 by omega)] at y1
      have hl := HD3.out.lst
      by_cases hy0 : y = 0
      · subst hy0
        go_wp2_with (at_builtin; refine wpList_pushI w5 rfl _ _ rfl (by omega) hl (by omega) 0 rfl rfl ?_; intro a' c' w6 hl4 hc4; have hbx4 := hc4.own HD3.out.box (fun e => by have := e.1; omega); have z4 := hbx4.cell (show 1 < 2 by omega); have zf4 := hbx4.frozen 1)
        go_roundg (20 - (m + 1))
        case measure => omega
        case rel => exact ⟨kv - 1, a', c', m + 1, _, rfl, by go_num, by omega, HD3.out.push hc4 hl4, fun i hi => by
          by_cases e : i = m
          · subst e; simp only [if_true]; omega
          · simp only [if_neg e]; exact hin.out i (by omega)⟩
      · have hy1 : ¬ y = 0 := hy0
        go_wp2_with (at_builtin; refine wpList_pushI w5 rfl _ _ rfl (by omega) hl (by omega) v rfl rfl ?_; intro a' c' w6 hl4 hc4; have hbx4 := hc4.own HD3.out.box (fun e => by have := e.1; omega); have z4 := hbx4.cell (show 1 < 2 by omega); have zf4 := hbx4.frozen 1)
        go_roundg (20 - (m + 1))
        case measure => omega
        case rel => exact ⟨kv - 1, a', c', m + 1, _, rfl, by go_num, by omega, HD3.out.push hc4 hl4, fun i hi => by
          by_cases e : i = m
          · subst e; simp only [if_true]; omega
          · simp only [if_neg e]; exact hin.out i (by omega)⟩
    · obtain rfl : kv = 0 := by omega
      have y0 := hD.out.box.cell (show 0 < 2 by omega)
      have y1 := hD.out.box.cell (show 1 < 2 by omega)
      have r0 := hD.out.res.cell (show 0 < 2 by omega)
      have r1 := hD.out.res.cell (show 1 < 2 by omega)
      have q0 := hD.out.res.frozen 0
      have q1 := hD.out.res.frozen 1
      simp only [if_pos, if_neg (show ¬ (1 : Nat) = 0 by omega)] at y0 y1 r0 r1
      have hres := (hD.out.res.set 0 (.int .i64 P)).set 1 (.slice a m c)
      have c0 := hres.cell (show 0 < 2 by omega)
      have c1 := hres.cell (show 1 < 2 by omega)
      simp at c0 c1
      clear hres
      go_wp2
      refine bodyPost_ret (by simp [results, Tryd.results57, go_sem, c0, c1]; try rfl) rfl ?_
      exact ⟨P, a, c, m, s, rfl, ⟨HPR.out, by omega, by omega, hin.out⟩, (hD.out.fin _ _).1, (hD.out.fin _ _).2⟩


set_option maxRecDepth 100000 in
set_option maxHeartbeats 4000000 in
theorem sDrawSp2_c (g n : Nat) (cv : Value) (B : Nat → Int) (w : World) (hs : Src w g cv n) (hB : ∀ W, Chg w W (· = g) → Byt W cv n B) :
    Calls Tryd.prog 39 #[.pointer (some ⟨g, 0, none⟩)] w fun e w' => DrSx w w' e g cv n := by
  have HB := Lib.hid hB
  have hgl := hs.lt
  obtain ⟨wa, hwa⟩ : ∃ wa, wa = w.alloc (.cells #[.int .i64 0, .slice none 0 0] 24) := ⟨_, rfl⟩
  have hba : Below w.heap.size w wa := by rw [hwa]; exact (Below.refl _ _).alloc (Nat.le_refl _) _
  have hsa : wa.heap.size = w.heap.size + 1 := by rw [hwa]; simp
  have hra : Own wa 24 w.heap.size 2 2 (fun i => if i = 0 then .int .i64 0 else .slice none 0 0) := by rw [hwa]; exact own2 w _ _ _
  have h5 := ints5 wa 2 2 3 3 4 6
  have hb5 : Below wa.heap.size wa (wa.alloc (.cells #[.int .i64 2, .int .i64 3, .int .i64 3, .int .i64 4, .int .i64 6] 2)) := (Below.refl _ _).alloc (Nat.le_refl _) _
  have hp5 : Calls Tryd.prog 56 #[.pointer (some ⟨g, 0, none⟩), .slice (some ⟨wa.heap.size, 0, none⟩) 5 5] (wa.alloc (.cells #[.int .i64 2, .int .i64 3, .int .i64 3, .int .i64 4, .int .i64 6] 2)) fun e w' => ∃ P : Int, (1 ≤ P ∧ P ≤ 6) ∧ e = .returned (.int .i64 P) ∧ Drew w w' g cv n ∧ Own w' 24 w.heap.size 2 2 (fun i => if i = 0 then .int .i64 0 else .slice none 0 0) ∧ w.heap.size < w'.heap.size := by
    have hb := hba.trans (hb5.mono hba.size)
    refine (sPick_c g n cv _ B _ 5 _ (hs.kept hb) (hB _ (Chg.of_below hb _)) (fun W hc => h5.chgInts hc (by omega)) (by omega)).mono fun e w' h => ?_
    obtain ⟨j, hj, he, hd⟩ := h
    have h3 : j = 0 ∨ j = 1 ∨ j = 2 ∨ j = 3 ∨ j = 4 := by omega
    refine ⟨_, ?_, he, ⟨hd.src, (Chg.of_below hb _).trans hd.chg⟩, hd.chg.own (hra.kept hb5) (by show ¬ w.heap.size = g; omega), by have := hd.chg.size; have := hb5.size; omega⟩
    rcases h3 with rfl | rfl | rfl | rfl | rfl <;> simp
  have hop : ∀ W, Drew w W g cv n → Own W 24 w.heap.size 2 2 (fun i => if i = 0 then .int .i64 0 else .slice none 0 0) → w.heap.size < W.heap.size → ∀ K : Int, 1 ≤ K → K ≤ 6 → Calls Tryd.prog 57 #[.pointer (some ⟨g, 0, none⟩), .int .i64 K] W fun e w' => DrSx W w' e g cv n ∧ Own w' 24 w.heap.size 2 2 (fun i => if i = 0 then .int .i64 0 else .slice none 0 0) :=
    fun W hd hO hl K h1 h2 => (sAnySp2_c g n cv B K W hd.src (fun W' hc => hB W' (hd.chg.trans hc)) ⟨h1, h2⟩).mono fun e w' h => by
      refine ⟨h, ?_⟩
      obtain ⟨_, _, _, _, _, _, _, _, h5⟩ := h.out
      exact h5.chg.own hO (by show ¬ w.heap.size = g; omega)
  rw [hsa, hwa] at hp5
  have HP5 := Lib.hid hp5
  have HOP := Lib.hid hop
  clear hwa hra hba hp5 hs hB hsa hop h5 hb5
  go_enter Tryd.func39, Tryd.ntmps39
  go_wp2_with fail
  refine HP5.out.mono ?_
  rintro e w1 ⟨P, hP, rfl, hd1, hO1, hl1⟩
  have HA := Lib.hid (HOP.out w1 hd1 hO1 hl1 P hP.1 hP.2)
  have HD1 := Lib.hid hd1
  clear HOP HP5 hd1 hO1
  go_wp2_with fail
  refine HA.out.mono ?_
  rintro e w2 ⟨hq, hO2⟩
  obtain ⟨P', a, c, m, s, rfl, hok, hL, hd2⟩ := hq.out
  have r0 := hO2.cell (show 0 < 2 by omega)
  have r1 := hO2.cell (show 1 < 2 by omega)
  have q0 := hO2.frozen 0
  have q1 := hO2.frozen 1
  simp only [if_pos, if_neg (show ¬ (1 : Nat) = 0 by omega)] at r0 r1
  have hres := (hO2.set 0 (.int .i64 P')).set 1 (.slice a m c)
  have c0 := hres.cell (show 0 < 2 by omega)
  have c1 := hres.cell (show 1 < 2 by omega)
  simp at c0 c1
  have hc : Chg w2 ((w2.setCell ⟨w.heap.size, 0, none⟩ (.int .i64 P')).setCell ⟨w.heap.size, 1, none⟩ (.slice a m c)) (· = w.heap.size) := ((Chg.refl w2 (· = w.heap.size)).setCell (a := ⟨w.heap.size, 0, none⟩) rfl (.int .i64 P')).setCell (a := ⟨w.heap.size, 1, none⟩) rfl (.slice a m c)
  have hfin : Hid (DrSx w ((w2.setCell ⟨w.heap.size, 0, none⟩ (.int .i64 P')).setCell ⟨w.heap.size, 1, none⟩ (.slice a m c)) (.returned (dbl P' (.slice a m c))) g cv n) := by
    have hsz := hc.size
    have hs2 := hd2.chg.size
    have h12 := HD1.out.chg.trans hd2.chg
    refine ⟨P', a, c, m, s, rfl, hok, ((hL.by hc fun k e => ?_).low (by omega)).high hsz, hd2.src.by hc (by show ¬ g = w.heap.size; omega), hc.os.trans h12.os, hc.tape.trans h12.tape, hc.output.trans h12.output, by have := h12.size; omega, fun k hk hne => (hc.block k (by have := h12.size; omega) (by show ¬ k = w.heap.size; omega)).trans (h12.block k hk hne)⟩
    have e : k = w.heap.size := e
    omega
  clear hres hL hd2 hO2 HA HD1 HB hc
  go_wp2
  refine bodyPost_ret (by simp [results, Tryd.results39, go_sem, c0, c1]; try rfl) rfl ?_
  exact hfin.out

end Go.Proofs.YtejbigdebjcomaaDoor
