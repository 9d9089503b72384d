/-
  The draws: a doubling. No condition beside sizes.
-/
import Derived.Test.YtnnacligfoonbaaLD2
set_option linter.unusedVariables false
set_option linter.unusedSimpArgs false
namespace Go.Proofs.Ytnnacligfoonbaa
open Go.RowKit

theorem OI.high {w : World} {B U U' : Nat} {a : Option Addr} {c n : Nat} {X : Nat → Int} (h : OI w B U a c n X) (hU : U ≤ U') : OI w B U' a c n X := by
  rcases h.out with h | ⟨g, h1, h2, hO⟩
  · exact ⟨Or.inl h⟩
  · exact ⟨Or.inr ⟨g, h1, ⟨h2.1, by omega⟩, hO⟩⟩
theorem OI.by {w w' : World} {B U : Nat} {a : Option Addr} {c n : Nat} {X : Nat → Int} {S : Nat → Prop} (h : OI w B U a c n X) (hc : Chg w w' S) (hd : ∀ k, S k → k < B ∨ U ≤ k) : OI w' B U a c n X := by
  rcases h.out with h | ⟨g, h1, h2, hO⟩
  · exact ⟨Or.inl h⟩
  · exact ⟨Or.inr ⟨g, h1, h2, hc.own hO (fun e => by have := hd g e; omega)⟩⟩
theorem Src.by {w w' : World} {g : Nat} {cv : Value} {n : Nat} {S : Nat → Prop} (h : Src w g cv n) (hc : Chg w w' S) (hd : ¬ S g) : Src w' g cv n := by
  obtain ⟨k, x, h1, h2⟩ := h.out
  exact ⟨k, x, h1, hc.own h2 hd⟩
/-- what is known while a doubling is drawn: its box bd, the result's box br, the list of its steps -/
structure DrSt (w wr : World) (g : Nat) (cv : Value) (n br bd : Nat) (P : Int) (a : Option Addr) (c m : Nat) (s : Nat → Int) : Prop where
  ord : g < w.heap.size ∧ w.heap.size ≤ br ∧ br < bd ∧ bd < wr.heap.size
  src : Src wr g cv n
  chg : Chg w wr (· = g)
  box : Own wr 26 bd 2 2 (fun i => if i = 0 then .int .i64 P else .slice a m c)
  res : Own wr 26 br 2 2 (fun i => if i = 0 then .int .i64 0 else .slice none 0 0)
  lst : OI wr (bd + 1) wr.heap.size a c m s
theorem DrSt.step {w wr w' : World} {g : Nat} {cv : Value} {n br bd : Nat} {P : Int} {a : Option Addr} {c m : Nat} {s : Nat → Int} (h : DrSt w wr g cv n br bd P a c m s) (hd : Drew wr w' g cv n) : DrSt w w' g cv n br bd P a c m s := by
  have ho := h.ord
  have hs := hd.chg.size
  refine ⟨⟨ho.1, ho.2.1, ho.2.2.1, by omega⟩, hd.src, h.chg.trans hd.chg, hd.chg.own h.box (by show ¬ bd = g; omega), hd.chg.own h.res (by show ¬ br = g; omega), (h.lst.by hd.chg fun k e => ?_).high hs⟩
  have e : k = g := e
  omega
theorem DrSt.kept {w wr w' : World} {g : Nat} {cv : Value} {n br bd : Nat} {P : Int} {a : Option Addr} {c m : Nat} {s : Nat → Int} (h : DrSt w wr g cv n br bd P a c m s) (hb : Below wr.heap.size wr w') : DrSt w w' g cv n br bd P a c m s := by
  have ho := h.ord
  have hs := hb.size
  exact ⟨⟨ho.1, ho.2.1, ho.2.2.1, by omega⟩, h.src.kept hb, h.chg.trans (Chg.of_below hb _), h.box.kept hb, h.res.kept hb, (h.lst.kept hb).high hs⟩
/-- the steps appended to, and the box set -/
theorem DrSt.push {w wr w' : World} {g : Nat} {cv : Value} {n br bd : Nat} {P : Int} {a a' : Option Addr} {c c' m : Nat} {s s' : Nat → Int} (h : DrSt w wr g cv n br bd P a c m s) (hc : Chg wr w' (IV (bd + 1) wr.heap.size)) (hl : OI w' (bd + 1) w'.heap.size a' c' (m + 1) s') :
    DrSt w (w'.setCell ⟨bd, 1, none⟩ (.slice a' (m + 1) c')) g cv n br bd P a' c' (m + 1) s' := by
  have ho := h.ord
  have hs := hc.size
  have hsz : (w'.setCell ⟨bd, 1, none⟩ (.slice a' (m + 1) c')).heap.size = w'.heap.size := by simp [World.setCell]
  have hw : Chg w w' (· = g) := ⟨hc.os.trans h.chg.os, hc.tape.trans h.chg.tape, hc.output.trans h.chg.output, Nat.le_trans h.chg.size hs, fun k hk hne => (hc.block k (by have := h.chg.size; omega) (fun e => by have := e.1; omega)).trans (h.chg.block k hk hne)⟩
  have hbx : ¬ IV (bd + 1) wr.heap.size bd := fun e => by have := e.1; omega
  have hrs : ¬ IV (bd + 1) wr.heap.size br := fun e => by have := e.1; omega
  have hgs : ¬ IV (bd + 1) wr.heap.size g := fun e => by have := e.1; omega
  refine ⟨⟨ho.1, ho.2.1, ho.2.2.1, by omega⟩, ?_, ⟨hw.os, hw.tape, hw.output, by rw [hsz]; exact hw.size, fun k hk hne => (Below.heap_setCell _ _ _ _ (by show k ≠ bd; omega)).trans (hw.block k hk hne)⟩, ?_, (hc.own h.res hrs).setOther (by show br ≠ bd; omega) _, ?_⟩
  · obtain ⟨k, x, h1, h2⟩ := (h.src.by hc hgs).out
    exact ⟨k, x, h1, h2.setOther (by show g ≠ bd; omega) _⟩
  · exact ((hc.own h.box hbx).set 1 _).congr fun i hi => by
      have h3 : i = 0 ∨ i = 1 := by omega
      rcases h3 with rfl | rfl <;> simp
  · rw [hsz]
    rcases hl.out with h | ⟨q, h1, h2, hO⟩
    · exact ⟨Or.inl h⟩
    · exact ⟨Or.inr ⟨q, h1, h2, hO.setOther (by show q ≠ bd; omega) _⟩⟩
theorem own2 (w : World) (e : TypeId) (u0 u1 : Value) : Own (w.alloc (.cells #[u0, u1] e)) e w.heap.size 2 2 (fun i => if i = 0 then u0 else u1) :=
  Own.new w e #[u0, u1] _ (by simp) fun i hi => by
    have hi : i < 2 := by simpa using hi
    have h3 : i = 0 ∨ i = 1 := by omega
    rcases h3 with rfl | rfl <;> rfl
/-- a list of five, of eight numbers -/
theorem ints5 (w : World) (e : TypeId) (a b c d f : Int) : Own (w.alloc (.cells #[.int .i64 a, .int .i64 b, .int .i64 c, .int .i64 d, .int .i64 f] e)) e w.heap.size 5 5 (fun i => .int .i64 (if i = 0 then a else if i = 1 then b else if i = 2 then c else if i = 3 then d else f)) :=
  Own.new w e _ _ (by simp) fun i hi => by
    have hi : i < 5 := by simpa using hi
    have h3 : i = 0 ∨ i = 1 ∨ i = 2 ∨ i = 3 ∨ i = 4 := by omega
    rcases h3 with rfl | rfl | rfl | rfl | rfl <;> rfl
theorem ints8 (w : World) (e : TypeId) (a b c d f x y z : Int) : Own (w.alloc (.cells #[.int .i64 a, .int .i64 b, .int .i64 c, .int .i64 d, .int .i64 f, .int .i64 x, .int .i64 y, .int .i64 z] e)) e w.heap.size 8 8 (fun i => .int .i64 (if i = 0 then a else if i = 1 then b else if i = 2 then c else if i = 3 then d else if i = 4 then f else if i = 5 then x else if i = 6 then y else z)) :=
  Own.new w e _ _ (by simp) fun i hi => by
    have hi : i < 8 := by simpa using hi
    have h3 : i = 0 ∨ i = 1 ∨ i = 2 ∨ i = 3 ∨ i = 4 ∨ i = 5 ∨ i = 6 ∨ i = 7 := by omega
    rcases h3 with rfl | rfl | rfl | rfl | rfl | rfl | rfl | rfl <;> rfl
theorem Own.chgInts {w W : World} {e : TypeId} {g g' c n : Nat} {X : Nat → Int} (h : Own w e g' c n (fun i => .int .i64 (X i))) (hc : Chg w W (· = g)) (hne : g' ≠ g) : Ints W (.slice (some ⟨g', 0, none⟩) n c) n X := (hc.own h hne).ints

/-- the result set -/
theorem DrSt.fin {w wr : World} {g : Nat} {cv : Value} {n br bd : Nat} {P : Int} {a : Option Addr} {c m : Nat} {s : Nat → Int} (h : DrSt w wr g cv n br bd P a c m s) (u v : Value) :
    OI ((wr.setCell ⟨br, 0, none⟩ u).setCell ⟨br, 1, none⟩ v) w.heap.size ((wr.setCell ⟨br, 0, none⟩ u).setCell ⟨br, 1, none⟩ v).heap.size a c m s ∧ Drew w ((wr.setCell ⟨br, 0, none⟩ u).setCell ⟨br, 1, none⟩ v) g cv n := by
  have ho := h.ord
  have hsz : ((wr.setCell ⟨br, 0, none⟩ u).setCell ⟨br, 1, none⟩ v).heap.size = wr.heap.size := by simp [World.setCell]
  have hc : Chg wr ((wr.setCell ⟨br, 0, none⟩ u).setCell ⟨br, 1, none⟩ v) (· = br) := ((Chg.refl wr (· = br)).setCell (a := ⟨br, 0, none⟩) rfl u).setCell (a := ⟨br, 1, none⟩) rfl v
  refine ⟨?_, h.src.by hc (by show ¬ g = br; omega), hc.os.trans h.chg.os, hc.tape.trans h.chg.tape, hc.output.trans h.chg.output, by rw [hsz]; exact h.chg.size, fun k hk hne => (hc.block k (by have := h.chg.size; omega) (by show ¬ k = br; omega)).trans (h.chg.block k hk hne)⟩
  refine ((h.lst.by hc fun k e => ?_).low (by omega)).high (by rw [hsz]; exact Nat.le_refl _)
  have e : k = br := e
  omega
/-- a doubling that is drawn -/
structure DrD (w w' : World) (e : Ending) (g : Nat) (cv : Value) (n : Nat) (mx : Nat) : Prop where
  out : ∃ (P : Int) (a : Option Addr) (c m : Nat) (s : Nat → Int), e = .returned (dbl P (.slice a m c)) ∧ m ≤ mx ∧ (0 ≤ P ∧ P ≤ 17) ∧ OI w' w.heap.size w'.heap.size a c m s ∧ Drew w w' g cv n

set_option maxRecDepth 100000 in
set_option maxHeartbeats 8000000 in
theorem sDraw_c (g n : Nat) (cv : Value) (B : Nat → Int) (most : Int) (w : World) (hs : Src w g cv n) (hB : ∀ W, Chg w W (· = g) → Byt W cv n B) (hm : 0 ≤ most ∧ most ≤ 8) :
    Calls Try.prog 131 #[.pointer (some ⟨g, 0, none⟩), .int .i64 most] w fun e w' => DrD w w' e g cv n 4 := by
  have HB := Lib.hid hB
  have hgl := hs.lt
  -- the result's box
  obtain ⟨wa, hwa⟩ : ∃ wa, wa = w.alloc (.cells #[.int .i64 0, .slice none 0 0] 26) := ⟨_, rfl⟩
  have hba : Below w.heap.size w wa := by rw [hwa]; exact (Below.refl _ _).alloc (Nat.le_refl _) _
  have hsa : wa.heap.size = w.heap.size + 1 := by rw [hwa]; simp
  have hra : Own wa 26 w.heap.size 2 2 (fun i => if i = 0 then .int .i64 0 else .slice none 0 0) := by rw [hwa]; exact own2 w _ _ _
  have h5 := ints5 wa 2 3 5 7 11 13
  have hb5 : Below wa.heap.size wa (wa.alloc (.cells #[.int .i64 3, .int .i64 5, .int .i64 7, .int .i64 11, .int .i64 13] 2)) := (Below.refl _ _).alloc (Nat.le_refl _) _
  have hp5 : (Calls Try.prog 132 #[.pointer (some ⟨g, 0, none⟩), .slice (some ⟨wa.heap.size, 0, none⟩) 5 5] (wa.alloc (.cells #[.int .i64 3, .int .i64 5, .int .i64 7, .int .i64 11, .int .i64 13] 2)) fun e w' => ∃ P : Int, (3 ≤ P ∧ P ≤ 13) ∧ e = .returned (.int .i64 P) ∧ Drew (wa.alloc (.cells #[.int .i64 3, .int .i64 5, .int .i64 7, .int .i64 11, .int .i64 13] 2)) w' g cv n) := by
    have hb := hba.trans (hb5.mono hba.size)
    refine (sPick_c g n cv _ B _ 5 _ (hs.kept hb) (hB _ (Chg.of_below hb _)) (fun W hc => h5.chgInts hc (by omega)) (by omega)).mono fun e w' h => ?_
    obtain ⟨j, hj, he, hd⟩ := h
    have h3 : j = 0 ∨ j = 1 ∨ j = 2 ∨ j = 3 ∨ j = 4 := by omega
    refine ⟨_, ?_, he, hd⟩
    rcases h3 with rfl | rfl | rfl | rfl | rfl <;> simp
  have HSA : Hid (Src wa g cv n) := hs.kept hba
  rw [hsa, hwa] at hp5
  have HP5 := Lib.hid hp5
  clear hp5
  have HWA := Lib.hid hwa
  have HRA := Lib.hid hra
  have HBA := Lib.hid hba
  have HSZ := Lib.hid hsa
  have HS := Lib.hid hs
  clear hwa hra hba h5 hb5 hs hB hsa
  go_enter Try.func131, Try.ntmps131
  go_wp2_with fail
  refine HP5.out.mono ?_
  rintro e w1 ⟨P, hP, rfl, hd1⟩
  rw [← HWA.out] at hd1
  have hsz := HSZ.out
  have hs1 := hd1.chg.size
  simp only [alloc_size] at hs1
  have hb5 : Below wa.heap.size wa (wa.alloc (.cells #[.int .i64 3, .int .i64 5, .int .i64 7, .int .i64 11, .int .i64 13] 2)) := (Below.refl _ _).alloc (Nat.le_refl _) _
  obtain ⟨wb, hwb⟩ : ∃ wb, wb = w1.alloc (.cells #[.int .i64 P, .slice none 0 0] 26) := ⟨_, rfl⟩
  have hbb : Below w1.heap.size w1 wb := by rw [hwb]; exact (Below.refl _ _).alloc (Nat.le_refl _) _
  have hsb : wb.heap.size = w1.heap.size + 1 := by rw [hwb]; simp
  have hD0 : DrSt w wb g cv n w.heap.size w1.heap.size P none 0 0 (fun _ => 0) :=
    ⟨⟨hgl, Nat.le_refl _, by omega, by omega⟩, hd1.src.kept hbb, ((Chg.of_below (HBA.out.trans (hb5.mono (by omega))) _).trans hd1.chg).trans (Chg.of_below hbb _), by rw [hwb]; exact own2 w1 _ _ _, (hd1.chg.own (HRA.out.alloc _) (by show ¬ w.heap.size = g; omega)).kept hbb, ⟨Or.inl ⟨rfl, rfl, rfl⟩⟩⟩
  have h8 := ints8 wb 2 0 1 2 2 3 3 3 4
  have hb8 : Below wb.heap.size wb (wb.alloc (.cells #[.int .i64 0, .int .i64 1, .int .i64 2, .int .i64 2, .int .i64 3, .int .i64 3, .int .i64 3, .int .i64 4] 2)) := (Below.refl _ _).alloc (Nat.le_refl _) _
  have hp8 : Calls Try.prog 132 #[.pointer (some ⟨g, 0, none⟩), .slice (some ⟨wb.heap.size, 0, none⟩) 8 8] (wb.alloc (.cells #[.int .i64 0, .int .i64 1, .int .i64 2, .int .i64 2, .int .i64 3, .int .i64 3, .int .i64 3, .int .i64 4] 2)) fun e w' => ∃ K : Int, (0 ≤ K ∧ K ≤ 4) ∧ e = .returned (.int .i64 K) ∧ DrSt w w' g cv n w.heap.size w1.heap.size P none 0 0 (fun _ => 0) := by
    have hD8 := hD0.kept hb8
    refine (sPick_c g n cv _ B _ 8 _ hD8.src (HB.out _ hD8.chg) (fun W hc => h8.chgInts hc (by have := hD0.ord; omega)) (by omega)).mono fun e w' h => ?_
    obtain ⟨j, hj, he, hd⟩ := h
    have h3 : j = 0 ∨ j = 1 ∨ j = 2 ∨ j = 3 ∨ j = 4 ∨ j = 5 ∨ j = 6 ∨ j = 7 := by omega
    refine ⟨_, ?_, he, hD8.step hd⟩
    rcases h3 with rfl | rfl | rfl | rfl | rfl | rfl | rfl | rfl <;> simp
  rw [hsb, hwb] at hp8
  have HP8 := Lib.hid hp8
  clear hp8 hb8 h8 hD0 hsb hbb hwb hb5 hs1 hsz hd1 HRA HSA HBA HSZ HP5 HWA
  go_wp2_with fail
  refine HP8.out.mono ?_
  rintro e w2 ⟨K, hK, rfl, hD2⟩
  have HD2 := Lib.hid hD2
  clear hD2
  go_wp2_with fail
  all_goals
    (go_loopg [6] 20 (fun gg s6 wr => ∃ (kv : Int) (a : Option Addr) (c m : Nat) (s : Nat → Int), gg = 20 - m ∧ s6 = .int .i64 kv ∧ (0 ≤ kv ∧ kv + m ≤ 4) ∧ Hid (DrSt w wr g cv n w.heap.size w1.heap.size P a c m s))
     case atStart => exact ⟨_, none, 0, 0, _, rfl, rfl, by omega, HD2.out⟩
     case round =>
       obtain ⟨kv, a, c, m, s, rfl, rfl, hkv, hD⟩ := hrel
       have ho := hD.out.ord
       have hwk : IntKind.i64.wrap (kv - 1) = kv - 1 := wrap_in' _ (by omega)
       have hwp : IntKind.i64.wrap (P - 1) = P - 1 := wrap_in' _ (by omega)
       clear HD2 HP8
       by_cases hk0 : 0 < kv
       · have hN2 : Hid (Calls Try.prog 72 #[.pointer (some ⟨g, 0, none⟩), .int .i64 2] wr fun e w' => ∃ x : Int, e = .returned (.int .i64 x) ∧ (0 ≤ x ∧ x < 2) ∧ DrSt w w' g cv n w.heap.size w1.heap.size P a c m s) := (sNext_c g n cv B 2 wr hD.out.src (HB.out _ hD.out.chg) (by omega)).mono fun e w' h => by
           obtain ⟨x, h1, h2, _, h3⟩ := h
           exact ⟨x, h1, h2 (by omega), hD.out.step h3⟩
         clear ho
         go_wp2_with fail
         refine hN2.out.mono ?_
         rintro e w3 ⟨x, rfl, hx, hD3⟩
         have HD3 := Lib.hid hD3
         have ho := hD3.ord
         clear hD3 hN2 hD
         by_cases hx0 : x = 0
         · subst hx0
           have y0 := HD3.out.box.cell (show 0 < 2 by omega)
           have y1 := HD3.out.box.cell (show 1 < 2 by omega)
           simp at y0 y1
           have hl := HD3.out.lst
           go_wp2_with (at_builtin; refine wpList_pushI w3 rfl _ _ rfl (by omega) hl (by omega) (P - 1) rfl rfl ?_; intro a' c' w4 hl4 hc4; have hbx4 := hc4.own HD3.out.box (fun e => by have := e.1; omega); have z4 := hbx4.cell (show 1 < 2 by omega); have zf4 := hbx4.frozen 1)
           go_roundg (20 - (m + 1))
           case measure => omega
           case rel => exact ⟨kv - 1, a', c', m + 1, _, rfl, by go_num, by omega, HD3.out.push hc4 hl4⟩
         · have hDd := HD3.out.kept (drewB w3)
           have hN3 : Hid (Calls Try.prog 72 #[.pointer (some ⟨g, 0, none⟩), .int .i64 (P - 1)] w3.drew fun e w' => ∃ x : Int, e = .returned (.int .i64 x) ∧ (0 ≤ x ∧ x < P - 1) ∧ DrSt w w' g cv n w.heap.size w1.heap.size P a c m s) := (sNext_c g n cv B (P - 1) w3.drew hDd.src (HB.out _ hDd.chg) (by omega)).mono fun e w' h => by
             obtain ⟨x, h1, h2, _, h3⟩ := h
             exact ⟨x, h1, h2 (by omega), hDd.step h3⟩
           have y0 := hDd.box.cell (show 0 < 2 by omega)
           have y1 := hDd.box.cell (show 1 < 2 by omega)
           simp only [if_pos, if_neg (show ¬ (1 : Nat) = 0 by omega)] at y0 y1
           have hx1 : ¬ x = 0 := hx0
           clear hDd HD3 ho
           go_wp2_with fail
           go_region_law (first
             | (go_simp; go_at_call 72; refine hN3.out.mono ?_; rintro e w5 ⟨x5, rfl, hx5, hD5⟩; have HD5 := Lib.hid hD5; have hl5 := hD5.lst; have ho5 := hD5.ord; have z5 := hD5.box.cell (show 1 < 2 by omega); simp only [if_neg (show ¬ (1 : Nat) = 0 by omega)] at z5; have hw5 : IntKind.i64.wrap (1 + x5) = 1 + x5 := wrap_in' _ (by omega); clear hD5)
             | (refine step_pushI rfl _ _ rfl (by omega) hl5 (by omega) (1 + x5) rfl rfl ?_; intro a' c' w6 hl6 hc6; have hbx6 := hc6.own HD5.out.box (fun e => by have := e.1; omega); have z6 := hbx6.cell (show 1 < 2 by omega); have zf6 := hbx6.frozen 1))
           all_goals go_wp2
           all_goals go_roundg (20 - (m + 1))
           all_goals first
             | omega
             | exact ⟨kv - 1, a', c', m + 1, _, rfl, by go_num, by omega, HD5.out.push hc6 hl6⟩
       · obtain rfl : kv = 0 := by omega
         have y0 := hD.out.box.cell (show 0 < 2 by omega)
         have y1 := hD.out.box.cell (show 1 < 2 by omega)
         have r0 := hD.out.res.cell (show 0 < 2 by omega)
         have r1 := hD.out.res.cell (show 1 < 2 by omega)
         have q0 := hD.out.res.frozen 0
         have q1 := hD.out.res.frozen 1
         simp only [if_pos, if_neg (show ¬ (1 : Nat) = 0 by omega)] at y0 y1 r0 r1
         have hres := (hD.out.res.set 0 (.int .i64 P)).set 1 (.slice a m c)
         have c0 := hres.cell (show 0 < 2 by omega)
         have c1 := hres.cell (show 1 < 2 by omega)
         simp at c0 c1
         clear hres
         go_wp2
         refine bodyPost_ret (by simp [results, Try.results131, go_sem, c0, c1]; try rfl) rfl ?_
         exact ⟨P, a, c, m, s, rfl, by omega, by omega, (hD.out.fin _ _).1, (hD.out.fin _ _).2⟩)

end Go.Proofs.Ytnnacligfoonbaa
