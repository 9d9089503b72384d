/-
  More draws of doublings. No condition beside sizes.
-/
import Derived.Test.YtnnacligfoonbaaLD5
set_option linter.unusedVariables false
set_option linter.unusedSimpArgs false
namespace Go.Proofs.Ytnnacligfoonbaa
open Go.RowKit

set_option maxRecDepth 100000 in
set_option maxHeartbeats 2000000 in
theorem sDrawIsDoubling_c (cv : Value) (n : Nat) (B : Nat → Int) (w : World) (hB : Byt w cv n B) :
    Calls Try.prog 85 #[cv] w fun e w' => DrawnD w w' e := by
  have HB : Hid (∀ W, Below w.heap.size w W → Byt W cv n B) := fun W hb => hB.below hb
  obtain ⟨wa, hwa⟩ : ∃ wa, wa = w.alloc (.cells #[.int .i64 0, .slice none 0 0] 26) := ⟨_, rfl⟩
  have hba : Below w.heap.size w wa := by rw [hwa]; exact (Below.refl _ _).alloc (Nat.le_refl _) _
  have hsa : wa.heap.size = w.heap.size + 1 := by rw [hwa]; simp
  have hra : Own wa 26 w.heap.size 2 2 (fun i => if i = 0 then .int .i64 0 else .slice none 0 0) := by rw [hwa]; exact own2 w _ _ _
  have hp1 := sFrom_c cv n B wa (hB.below hba)
  rw [hwa] at hp1
  have HP1 := Lib.hid hp1
  have HWA := Lib.hid hwa
  have HRA := Lib.hid hra
  have HBA := Lib.hid hba
  have HSZ := Lib.hid hsa
  obtain ⟨ao, c0, _, _, rfl, _⟩ := hB.out
  clear hwa hra hba hp1 hB hsa
  go_enter Try.func85, Try.ntmps85
  go_wp2_with fail
  refine HP1.out.mono ?_
  rintro e w1 ⟨g, rfl, hg, hb1, hs1⟩
  rw [← HWA.out] at hg hb1
  have hb1a := Lib.hid (HBA.out.trans (hb1.mono HBA.out.size))
  have hra1 := Lib.hid (HRA.out.kept hb1)
  have hsz := HSZ.out
  have hD := Lib.hid (sDrawAny_c g n _ B 4 w1 hs1 (fun W hc => HB.out W (hb1a.out.trans (hc.below hb1a.out.size (fun k e => by have e : k = g := e; omega)))) (by omega))
  clear HP1 HWA HRA HBA hb1 hs1
  go_wp2_with fail
  refine hD.out.mono ?_
  rintro e w2 ⟨P, a, c, m, s, rfl, hm, hP, hL, hd⟩
  have hl1 := hb1a.out.size
  have hb2 := Lib.hid (hb1a.out.trans (hd.below hl1 (by omega)))
  have hra2 := Lib.hid (hd.chg.own hra1.out (by show ¬ w.heap.size = g; omega))
  have hlt := hra1.out.lt
  have HL := Lib.hid hL
  clear hD hd hL
  have r0 := hra2.out.cell (show 0 < 2 by omega)
  have r1 := hra2.out.cell (show 1 < 2 by omega)
  have q0 := hra2.out.frozen 0
  have q1 := hra2.out.frozen 1
  simp only [if_pos, if_neg (show ¬ (1 : Nat) = 0 by omega)] at r0 r1
  have hres := (hra2.out.set 0 (.int .i64 P)).set 1 (.slice a m c)
  have c0' := hres.cell (show 0 < 2 by omega)
  have c1' := hres.cell (show 1 < 2 by omega)
  simp at c0' c1'
  have hc : Hid (Chg w2 ((w2.setCell ⟨w.heap.size, 0, none⟩ (.int .i64 P)).setCell ⟨w.heap.size, 1, none⟩ (.slice a m c)) (· = w.heap.size)) := ((Chg.refl w2 (· = w.heap.size)).setCell (a := ⟨w.heap.size, 0, none⟩) rfl (.int .i64 P)).setCell (a := ⟨w.heap.size, 1, none⟩) rfl (.slice a m c)
  clear hres
  go_wp2
  refine bodyPost_ret (by simp [results, Try.results85, go_sem, c0', c1']; try rfl) rfl ?_
  exact ⟨P, a, c, m, s, rfl, hb2.out.trans (hc.out.below hb2.out.size (fun k e => Nat.le_of_eq e.symm)), (HL.out.by hc.out (fun k e => by have e : k = w.heap.size := e; omega)).lowH (by omega) hc.out.size⟩

set_option maxRecDepth 100000 in
set_option maxHeartbeats 2000000 in
theorem sDrawBasisProducts_c (cv : Value) (n : Nat) (B : Nat → Int) (w : World) (hB : Byt w cv n B) :
    Calls Try.prog 18 #[cv] w fun e w' => DrawnD w w' e := by
  obtain ⟨wa, hwa⟩ : ∃ wa, wa = w.alloc (.cells #[.int .i64 0, .slice none 0 0] 26) := ⟨_, rfl⟩
  have hba : Below w.heap.size w wa := by rw [hwa]; exact (Below.refl _ _).alloc (Nat.le_refl _) _
  have hra : Own wa 26 w.heap.size 2 2 (fun i => if i = 0 then .int .i64 0 else .slice none 0 0) := by rw [hwa]; exact own2 w _ _ _
  have hp1 := sDrawIsDoubling_c cv n B wa (hB.below hba)
  rw [hwa] at hp1
  have HP1 := Lib.hid hp1
  have HWS : wa.heap.size = w.heap.size + 1 := by rw [hwa]; simp
  have HWA := Lib.hid hwa
  have HRA := Lib.hid hra
  have HBA := Lib.hid hba
  obtain ⟨ao, c0, _, _, rfl, qq⟩ := hB.out
  clear hwa hra hba hp1 hB qq
  go_enter Try.func18, Try.ntmps18
  go_wp2_with fail
  refine HP1.out.mono ?_
  rintro e w2 ⟨P, a, c, m, s, rfl, hd, hL⟩
  rw [← HWA.out] at hd
  have hb2 := Lib.hid (HBA.out.trans (hd.mono HBA.out.size))
  have hra2 := Lib.hid (HRA.out.kept hd)
  have hlt := HRA.out.lt
  rw [alloc_size] at hL
  have HL := Lib.hid hL
  have HWS' := Lib.hid HWS
  clear HWS
  clear hL HP1 HWA
  have r0 := hra2.out.cell (show 0 < 2 by omega)
  have r1 := hra2.out.cell (show 1 < 2 by omega)
  have q0 := hra2.out.frozen 0
  have q1 := hra2.out.frozen 1
  simp only [if_pos, if_neg (show ¬ (1 : Nat) = 0 by omega)] at r0 r1
  have hres := (hra2.out.set 0 (.int .i64 P)).set 1 (.slice a m c)
  have c0' := hres.cell (show 0 < 2 by omega)
  have c1' := hres.cell (show 1 < 2 by omega)
  simp at c0' c1'
  have hc : Hid (Chg w2 ((w2.setCell ⟨w.heap.size, 0, none⟩ (.int .i64 P)).setCell ⟨w.heap.size, 1, none⟩ (.slice a m c)) (· = w.heap.size)) := ((Chg.refl w2 (· = w.heap.size)).setCell (a := ⟨w.heap.size, 0, none⟩) rfl (.int .i64 P)).setCell (a := ⟨w.heap.size, 1, none⟩) rfl (.slice a m c)
  clear hres hd
  go_wp2
  refine bodyPost_ret (by simp [results, Try.results18, go_sem, c0', c1']; try rfl) rfl ?_
  exact ⟨P, a, c, m, s, rfl, hb2.out.trans (hc.out.below hb2.out.size (fun k e => Nat.le_of_eq e.symm)), (HL.out.by hc.out (fun k e => by have e : k = w.heap.size := e; have := HWS'.out; omega)).lowH (by have := HWS'.out; omega) hc.out.size⟩

end Go.Proofs.Ytnnacligfoonbaa
