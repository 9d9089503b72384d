/-
  Elements of a doubling from the dice. No condition beside sizes.
-/
import Derived.Test.YtnnacligfoonbaaLC1
import Derived.Test.YtnnacligfoonbaaD24
set_option linter.unusedVariables false
set_option linter.unusedSimpArgs false
namespace Go.Proofs.Ytnnacligfoonbaa
open Go.RowKit

theorem Chg.fresh {w w' W : World} {S S2 : Nat → Prop} (h : Chg w w' S) (h2 : Chg w' W S2) (hS : ∀ k, S2 k → S k ∨ w.heap.size ≤ k) : Chg w W S :=
  ⟨h2.os.trans h.os, h2.tape.trans h.tape, h2.output.trans h.output, Nat.le_trans h.size h2.size, fun k hk hne => (h2.block k (by have := h.size; omega) (fun e => by
    rcases hS k e with h3 | h3
    · exact hne h3
    · omega)).trans (h.block k hk hne)⟩
theorem Chg.grownC {w w' : World} {g : Nat} (h : w.grownBy w' (some g)) : Chg w w' (· = g) := ⟨h.os, h.tape, h.output, h.size, fun k hk hne => h.block k hk (fun e => by injection e with e; exact hne e)⟩
theorem Chg.cellC {w W : World} {S : Nat → Prop} {b o : Nat} {v : Value} (h : Chg w W S) (hc : w.cell? ⟨b, o, none⟩ = some v) (hn : ¬ S b) : W.cell? ⟨b, o, none⟩ = some v := by
  rw [World.cell?_of_block (w := w) (a := ⟨b, o, none⟩) (h.block b (lt_of_cell hc) hn)]; exact hc
theorem Dce.by {w w' : World} {g : Nat} {cv : Value} {n : Nat} {S : Nat → Prop} (h : Dce w g cv n) (hc : Chg w w' S) (hd : ¬ S g) : Dce w' g cv n := by
  obtain ⟨k, x, h1, h2⟩ := h.out
  exact ⟨k, x, h1, hc.own h2 hd⟩

/-- a list of numbers that a call made, drawn below P -/
structure Rol (w w' : World) (e : Ending) (g : Nat) (cv : Value) (ln : Nat) (m : Nat) (P : Int) : Prop where
  out : ∃ g' c' X, e = .returned (.slice (some ⟨g', 0, none⟩) m c') ∧ w.heap.size ≤ g' ∧ Own w' 2 g' c' m (fun i => .int .i64 (X i)) ∧ InP P m X
  dce : Dce w' g cv ln
  chg : Chg w w' (· = g)

set_option maxRecDepth 100000 in
set_option maxHeartbeats 4000000 in
theorem element9_c (g ln : Nat) (cv : Value) (B : Nat → Int) (P : Int) (sv : Value) (n : Nat) (s : Nat → Int) (w : World) (hs : Dce w g cv ln) (hB : ∀ W, Chg w W (· = g) → Byt W cv ln B) (hd : Ints w sv n s) (hn : n ≤ 4) (hP : 2 ≤ P ∧ P ≤ 13) :
    Calls Try.prog 31 #[.pointer (some ⟨g, 0, none⟩), dbl P sv] w fun e w' => Rol w w' e g cv ln (2 ^ n) P := by
  obtain ⟨ao, c, _, _, rfl, qq⟩ := hd.out
  clear hd qq
  have HB := Lib.hid hB
  have hgl := hs.lt
  obtain ⟨M, hM⟩ : ∃ M, 2 ^ n = M := ⟨_, rfl⟩
  rw [hM]
  have hM16 : M ≤ 16 := hM ▸ pow_le hn
  have hsz : n = 0 ∨ n = 1 ∨ n = 2 ∨ n = 3 ∨ n = 4 := by omega
  have hba : Below w.heap.size w ((w.alloc (.cells #[.int .i64 P, .slice ao n c] 26)).alloc (.cells #[] 2)) := ((Below.refl _ _).alloc (Nat.le_refl _) _).alloc (by simp) _
  have hDa := Lib.hid (hs.kept hba)
  have hCa : Hid (Chg w ((w.alloc (.cells #[.int .i64 P, .slice ao n c] 26)).alloc (.cells #[] 2)) (· = g)) := Chg.of_below hba _
  have bA : Below (w.alloc (.cells #[.int .i64 P, .slice ao n c] 26)).heap.size (w.alloc (.cells #[.int .i64 P, .slice ao n c] 26)) ((w.alloc (.cells #[.int .i64 P, .slice ao n c] 26)).alloc (.cells #[] 2)) := (Below.refl _ _).alloc (Nat.le_refl _) _
  have BX := Lib.hid (boxKeep bA (box0 w P ao n c 26))
  have hT0 : Own ((w.alloc (.cells #[.int .i64 P, .slice ao n c] 26)).alloc (.cells #[] 2)) 2 (w.heap.size + 1) 0 0 (fun i => .int .i64 ((fun _ => 0) i)) := by
    have h := Own.empty (w.alloc (.cells #[.int .i64 P, .slice ao n c] 26)) 2 (fun i => .int .i64 ((fun _ => 0) i))
    rw [alloc_size] at h
    exact h
  have HT0 := Lib.hid hT0
  clear hba hs hB hT0 bA
  rcases hsz with rfl | rfl | rfl | rfl | rfl
  · simp only [Nat.reducePow] at hM
    subst hM
    go_enter Try.func31, Try.ntmps31
    go_wp2
    go_loopg [5, 6] 16 (fun gg o i wr => ∃ k : Nat, gg = 16 - k ∧ i = .int .i64 k ∧ k ≤ 1 ∧ wr.cell? ⟨w.heap.size, 0, none⟩ = some (.int .i64 P) ∧ wr.cell? ⟨w.heap.size, 1, none⟩ = some (.slice ao 0 c) ∧ Hid (Dce wr g cv ln) ∧ Hid (Chg w wr (· = g)) ∧ ∃ g' c' X, o = .slice (some ⟨g', 0, none⟩) k c' ∧ w.heap.size + 1 ≤ g' ∧ Own wr 2 g' c' k (fun i => .int .i64 (X i)) ∧ Hid (InP P k X))
    case atStart => exact ⟨0, rfl, rfl, Nat.zero_le _, BX.out.1, BX.out.2.1, hDa, hCa, _, _, _, rfl, Nat.le_refl _, HT0.out, fun i hi => absurd hi (Nat.not_lt_zero _)⟩
    case round =>
      obtain ⟨k, rfl, rfl, hk, f0, f1, hD, hC, g', c', X, rfl, hg', hO, hX⟩ := hrel
      by_cases hlt : k < 1
      · have hN := Lib.hid (below9_c g ln cv B P wr hD.out (HB.out _ hC.out) (by omega))
        go_wp2_with fail
        go_at_call 29
        refine hN.out.mono ?_
        rintro e w1 ⟨x, rfl, hx, _, hr⟩
        have hx := hx (by omega)
        have hl0 := lt_of_cell f0
        have f0 := hr.chg.cellC f0 (by omega)
        have f1 := hr.chg.cellC f1 (by omega)
        have hD1 := Lib.hid hr.src
        have hC1 := Lib.hid (hC.out.trans hr.chg)
        have hV := hr.chg.own hO (by show ¬ g' = g; omega)
        have hs1 := Nat.lt_of_lt_of_le hl0 hr.chg.size
        clear hr hN hD hC hO
        go_wp2_with (at_builtin; refine wpList_push _ rfl _ _ _ _ elI rfl hV (.int .i64 x) rfl rfl rfl (by omega) (by omega) ?_; intro g3 c3 w3 hO3 hg3 hgr3; have HG3 := Lib.hid hgr3; have f0 := grown_cell hgr3 (show w.heap.size ≠ g' by omega) f0; have f1 := grown_cell hgr3 (show w.heap.size ≠ g' by omega) f1; clear hgr3)
        go_roundg (16 - (k + 1))
        case measure => omega
        case rel =>
          have hc3 := Chg.grownC HG3.out
          refine ⟨k + 1, rfl, by go_num, by omega, f0, f1, hD1.out.by hc3 (by omega), hC1.out.fresh hc3 (fun j e => Or.inr (by have e : j = g' := e; omega)), g3, c3, fun j => if j = k then x else X j, rfl, ?_, hO3.congr fun j hj => ?_, fun j hj => ?_⟩
          · have := hC1.out.size; omega
          · by_cases e : j = k <;> simp [e]
          · by_cases e : j = k
            · simp only [if_pos e]; exact ⟨hx.1, by omega⟩
            · simp only [if_neg e]; exact hX.out j (by omega)
      · obtain rfl : k = 1 := by omega
        go_wp2
        go_ret
        exact ⟨⟨g', c', X, rfl, by omega, hO, hX.out⟩, hD.out, hC.out⟩
  · simp only [Nat.reducePow] at hM
    subst hM
    go_enter Try.func31, Try.ntmps31
    go_wp2
    go_loopg [5, 6] 16 (fun gg o i wr => ∃ k : Nat, gg = 16 - k ∧ i = .int .i64 k ∧ k ≤ 2 ∧ wr.cell? ⟨w.heap.size, 0, none⟩ = some (.int .i64 P) ∧ wr.cell? ⟨w.heap.size, 1, none⟩ = some (.slice ao 1 c) ∧ Hid (Dce wr g cv ln) ∧ Hid (Chg w wr (· = g)) ∧ ∃ g' c' X, o = .slice (some ⟨g', 0, none⟩) k c' ∧ w.heap.size + 1 ≤ g' ∧ Own wr 2 g' c' k (fun i => .int .i64 (X i)) ∧ Hid (InP P k X))
    case atStart => exact ⟨0, rfl, rfl, Nat.zero_le _, BX.out.1, BX.out.2.1, hDa, hCa, _, _, _, rfl, Nat.le_refl _, HT0.out, fun i hi => absurd hi (Nat.not_lt_zero _)⟩
    case round =>
      obtain ⟨k, rfl, rfl, hk, f0, f1, hD, hC, g', c', X, rfl, hg', hO, hX⟩ := hrel
      by_cases hlt : k < 2
      · have hN := Lib.hid (below9_c g ln cv B P wr hD.out (HB.out _ hC.out) (by omega))
        go_wp2_with fail
        go_at_call 29
        refine hN.out.mono ?_
        rintro e w1 ⟨x, rfl, hx, _, hr⟩
        have hx := hx (by omega)
        have hl0 := lt_of_cell f0
        have f0 := hr.chg.cellC f0 (by omega)
        have f1 := hr.chg.cellC f1 (by omega)
        have hD1 := Lib.hid hr.src
        have hC1 := Lib.hid (hC.out.trans hr.chg)
        have hV := hr.chg.own hO (by show ¬ g' = g; omega)
        have hs1 := Nat.lt_of_lt_of_le hl0 hr.chg.size
        clear hr hN hD hC hO
        go_wp2_with (at_builtin; refine wpList_push _ rfl _ _ _ _ elI rfl hV (.int .i64 x) rfl rfl rfl (by omega) (by omega) ?_; intro g3 c3 w3 hO3 hg3 hgr3; have HG3 := Lib.hid hgr3; have f0 := grown_cell hgr3 (show w.heap.size ≠ g' by omega) f0; have f1 := grown_cell hgr3 (show w.heap.size ≠ g' by omega) f1; clear hgr3)
        go_roundg (16 - (k + 1))
        case measure => omega
        case rel =>
          have hc3 := Chg.grownC HG3.out
          refine ⟨k + 1, rfl, by go_num, by omega, f0, f1, hD1.out.by hc3 (by omega), hC1.out.fresh hc3 (fun j e => Or.inr (by have e : j = g' := e; omega)), g3, c3, fun j => if j = k then x else X j, rfl, ?_, hO3.congr fun j hj => ?_, fun j hj => ?_⟩
          · have := hC1.out.size; omega
          · by_cases e : j = k <;> simp [e]
          · by_cases e : j = k
            · simp only [if_pos e]; exact ⟨hx.1, by omega⟩
            · simp only [if_neg e]; exact hX.out j (by omega)
      · obtain rfl : k = 2 := by omega
        go_wp2
        go_ret
        exact ⟨⟨g', c', X, rfl, by omega, hO, hX.out⟩, hD.out, hC.out⟩
  · simp only [Nat.reducePow] at hM
    subst hM
    go_enter Try.func31, Try.ntmps31
    go_wp2
    go_loopg [5, 6] 16 (fun gg o i wr => ∃ k : Nat, gg = 16 - k ∧ i = .int .i64 k ∧ k ≤ 4 ∧ wr.cell? ⟨w.heap.size, 0, none⟩ = some (.int .i64 P) ∧ wr.cell? ⟨w.heap.size, 1, none⟩ = some (.slice ao 2 c) ∧ Hid (Dce wr g cv ln) ∧ Hid (Chg w wr (· = g)) ∧ ∃ g' c' X, o = .slice (some ⟨g', 0, none⟩) k c' ∧ w.heap.size + 1 ≤ g' ∧ Own wr 2 g' c' k (fun i => .int .i64 (X i)) ∧ Hid (InP P k X))
    case atStart => exact ⟨0, rfl, rfl, Nat.zero_le _, BX.out.1, BX.out.2.1, hDa, hCa, _, _, _, rfl, Nat.le_refl _, HT0.out, fun i hi => absurd hi (Nat.not_lt_zero _)⟩
    case round =>
      obtain ⟨k, rfl, rfl, hk, f0, f1, hD, hC, g', c', X, rfl, hg', hO, hX⟩ := hrel
      by_cases hlt : k < 4
      · have hN := Lib.hid (below9_c g ln cv B P wr hD.out (HB.out _ hC.out) (by omega))
        go_wp2_with fail
        go_at_call 29
        refine hN.out.mono ?_
        rintro e w1 ⟨x, rfl, hx, _, hr⟩
        have hx := hx (by omega)
        have hl0 := lt_of_cell f0
        have f0 := hr.chg.cellC f0 (by omega)
        have f1 := hr.chg.cellC f1 (by omega)
        have hD1 := Lib.hid hr.src
        have hC1 := Lib.hid (hC.out.trans hr.chg)
        have hV := hr.chg.own hO (by show ¬ g' = g; omega)
        have hs1 := Nat.lt_of_lt_of_le hl0 hr.chg.size
        clear hr hN hD hC hO
        go_wp2_with (at_builtin; refine wpList_push _ rfl _ _ _ _ elI rfl hV (.int .i64 x) rfl rfl rfl (by omega) (by omega) ?_; intro g3 c3 w3 hO3 hg3 hgr3; have HG3 := Lib.hid hgr3; have f0 := grown_cell hgr3 (show w.heap.size ≠ g' by omega) f0; have f1 := grown_cell hgr3 (show w.heap.size ≠ g' by omega) f1; clear hgr3)
        go_roundg (16 - (k + 1))
        case measure => omega
        case rel =>
          have hc3 := Chg.grownC HG3.out
          refine ⟨k + 1, rfl, by go_num, by omega, f0, f1, hD1.out.by hc3 (by omega), hC1.out.fresh hc3 (fun j e => Or.inr (by have e : j = g' := e; omega)), g3, c3, fun j => if j = k then x else X j, rfl, ?_, hO3.congr fun j hj => ?_, fun j hj => ?_⟩
          · have := hC1.out.size; omega
          · by_cases e : j = k <;> simp [e]
          · by_cases e : j = k
            · simp only [if_pos e]; exact ⟨hx.1, by omega⟩
            · simp only [if_neg e]; exact hX.out j (by omega)
      · obtain rfl : k = 4 := by omega
        go_wp2
        go_ret
        exact ⟨⟨g', c', X, rfl, by omega, hO, hX.out⟩, hD.out, hC.out⟩
  · simp only [Nat.reducePow] at hM
    subst hM
    go_enter Try.func31, Try.ntmps31
    go_wp2
    go_loopg [5, 6] 16 (fun gg o i wr => ∃ k : Nat, gg = 16 - k ∧ i = .int .i64 k ∧ k ≤ 8 ∧ wr.cell? ⟨w.heap.size, 0, none⟩ = some (.int .i64 P) ∧ wr.cell? ⟨w.heap.size, 1, none⟩ = some (.slice ao 3 c) ∧ Hid (Dce wr g cv ln) ∧ Hid (Chg w wr (· = g)) ∧ ∃ g' c' X, o = .slice (some ⟨g', 0, none⟩) k c' ∧ w.heap.size + 1 ≤ g' ∧ Own wr 2 g' c' k (fun i => .int .i64 (X i)) ∧ Hid (InP P k X))
    case atStart => exact ⟨0, rfl, rfl, Nat.zero_le _, BX.out.1, BX.out.2.1, hDa, hCa, _, _, _, rfl, Nat.le_refl _, HT0.out, fun i hi => absurd hi (Nat.not_lt_zero _)⟩
    case round =>
      obtain ⟨k, rfl, rfl, hk, f0, f1, hD, hC, g', c', X, rfl, hg', hO, hX⟩ := hrel
      by_cases hlt : k < 8
      · have hN := Lib.hid (below9_c g ln cv B P wr hD.out (HB.out _ hC.out) (by omega))
        go_wp2_with fail
        go_at_call 29
        refine hN.out.mono ?_
        rintro e w1 ⟨x, rfl, hx, _, hr⟩
        have hx := hx (by omega)
        have hl0 := lt_of_cell f0
        have f0 := hr.chg.cellC f0 (by omega)
        have f1 := hr.chg.cellC f1 (by omega)
        have hD1 := Lib.hid hr.src
        have hC1 := Lib.hid (hC.out.trans hr.chg)
        have hV := hr.chg.own hO (by show ¬ g' = g; omega)
        have hs1 := Nat.lt_of_lt_of_le hl0 hr.chg.size
        clear hr hN hD hC hO
        go_wp2_with (at_builtin; refine wpList_push _ rfl _ _ _ _ elI rfl hV (.int .i64 x) rfl rfl rfl (by omega) (by omega) ?_; intro g3 c3 w3 hO3 hg3 hgr3; have HG3 := Lib.hid hgr3; have f0 := grown_cell hgr3 (show w.heap.size ≠ g' by omega) f0; have f1 := grown_cell hgr3 (show w.heap.size ≠ g' by omega) f1; clear hgr3)
        go_roundg (16 - (k + 1))
        case measure => omega
        case rel =>
          have hc3 := Chg.grownC HG3.out
          refine ⟨k + 1, rfl, by go_num, by omega, f0, f1, hD1.out.by hc3 (by omega), hC1.out.fresh hc3 (fun j e => Or.inr (by have e : j = g' := e; omega)), g3, c3, fun j => if j = k then x else X j, rfl, ?_, hO3.congr fun j hj => ?_, fun j hj => ?_⟩
          · have := hC1.out.size; omega
          · by_cases e : j = k <;> simp [e]
          · by_cases e : j = k
            · simp only [if_pos e]; exact ⟨hx.1, by omega⟩
            · simp only [if_neg e]; exact hX.out j (by omega)
      · obtain rfl : k = 8 := by omega
        go_wp2
        go_ret
        exact ⟨⟨g', c', X, rfl, by omega, hO, hX.out⟩, hD.out, hC.out⟩
  · simp only [Nat.reducePow] at hM
    subst hM
    go_enter Try.func31, Try.ntmps31
    go_wp2
    go_loopg [5, 6] 16 (fun gg o i wr => ∃ k : Nat, gg = 16 - k ∧ i = .int .i64 k ∧ k ≤ 16 ∧ wr.cell? ⟨w.heap.size, 0, none⟩ = some (.int .i64 P) ∧ wr.cell? ⟨w.heap.size, 1, none⟩ = some (.slice ao 4 c) ∧ Hid (Dce wr g cv ln) ∧ Hid (Chg w wr (· = g)) ∧ ∃ g' c' X, o = .slice (some ⟨g', 0, none⟩) k c' ∧ w.heap.size + 1 ≤ g' ∧ Own wr 2 g' c' k (fun i => .int .i64 (X i)) ∧ Hid (InP P k X))
    case atStart => exact ⟨0, rfl, rfl, Nat.zero_le _, BX.out.1, BX.out.2.1, hDa, hCa, _, _, _, rfl, Nat.le_refl _, HT0.out, fun i hi => absurd hi (Nat.not_lt_zero _)⟩
    case round =>
      obtain ⟨k, rfl, rfl, hk, f0, f1, hD, hC, g', c', X, rfl, hg', hO, hX⟩ := hrel
      by_cases hlt : k < 16
      · have hN := Lib.hid (below9_c g ln cv B P wr hD.out (HB.out _ hC.out) (by omega))
        go_wp2_with fail
        go_at_call 29
        refine hN.out.mono ?_
        rintro e w1 ⟨x, rfl, hx, _, hr⟩
        have hx := hx (by omega)
        have hl0 := lt_of_cell f0
        have f0 := hr.chg.cellC f0 (by omega)
        have f1 := hr.chg.cellC f1 (by omega)
        have hD1 := Lib.hid hr.src
        have hC1 := Lib.hid (hC.out.trans hr.chg)
        have hV := hr.chg.own hO (by show ¬ g' = g; omega)
        have hs1 := Nat.lt_of_lt_of_le hl0 hr.chg.size
        clear hr hN hD hC hO
        go_wp2_with (at_builtin; refine wpList_push _ rfl _ _ _ _ elI rfl hV (.int .i64 x) rfl rfl rfl (by omega) (by omega) ?_; intro g3 c3 w3 hO3 hg3 hgr3; have HG3 := Lib.hid hgr3; have f0 := grown_cell hgr3 (show w.heap.size ≠ g' by omega) f0; have f1 := grown_cell hgr3 (show w.heap.size ≠ g' by omega) f1; clear hgr3)
        go_roundg (16 - (k + 1))
        case measure => omega
        case rel =>
          have hc3 := Chg.grownC HG3.out
          refine ⟨k + 1, rfl, by go_num, by omega, f0, f1, hD1.out.by hc3 (by omega), hC1.out.fresh hc3 (fun j e => Or.inr (by have e : j = g' := e; omega)), g3, c3, fun j => if j = k then x else X j, rfl, ?_, hO3.congr fun j hj => ?_, fun j hj => ?_⟩
          · have := hC1.out.size; omega
          · by_cases e : j = k <;> simp [e]
          · by_cases e : j = k
            · simp only [if_pos e]; exact ⟨hx.1, by omega⟩
            · simp only [if_neg e]; exact hX.out j (by omega)
      · obtain rfl : k = 16 := by omega
        go_wp2
        go_ret
        exact ⟨⟨g', c', X, rfl, by omega, hO, hX.out⟩, hD.out, hC.out⟩

end Go.Proofs.Ytnnacligfoonbaa
