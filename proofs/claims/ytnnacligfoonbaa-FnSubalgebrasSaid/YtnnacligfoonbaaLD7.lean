/-
  The draw of an element of a doubling. No condition beside sizes.
-/
import Derived.Test.YtnnacligfoonbaaLD5
import Derived.Test.YtnnacligfoonbaaLC2
set_option linter.unusedVariables false
set_option linter.unusedSimpArgs false
namespace Go.Proofs.Ytnnacligfoonbaa
open Go.RowKit

/-- what a draw of an element hands back -/
structure DrawE (w w' : World) (e : Ending) (g : Nat) (cv : Value) (ln : Nat) : Prop where
  out : ∃ (v : Value) (m : Nat) (X : Nat → Int), e = .returned v ∧ m ≤ 16 ∧ (∀ W, Chg w' W (fun k => k < w.heap.size ∨ w'.heap.size ≤ k) → Ints W v m X) ∧ Drew w w' g cv ln
theorem ints_from1 {w : World} {e : TypeId} {g c n : Nat} {X : Nat → Int} (h : Own w e g c n (fun i => .int .i64 (X i))) (hn : 1 ≤ n) : Ints w (.slice (some ⟨g, 1, none⟩) (n - 1) (c - 1)) (n - 1) (fun i => X (1 + i)) :=
  ⟨_, c - 1, g, 1, rfl, by have := h.le; omega, by have := h.max; omega, fun _ => rfl, fun i hi => h.cell (show 1 + i < n by omega)⟩

set_option maxRecDepth 100000 in
set_option maxHeartbeats 4000000 in
theorem sDrawElement_c (g ln : Nat) (cv : Value) (B : Nat → Int) (P : Int) (sv : Value) (n : Nat) (s : Nat → Int) (w : World) (hs : Src w g cv ln) (hB : ∀ W, Chg w W (· = g) → Byt W cv ln B) (hd : Ints w sv n s) (hn : n ≤ 8) (hP : 0 ≤ P ∧ P ≤ 17) :
    Calls Try.prog 90 #[.pointer (some ⟨g, 0, none⟩), dbl P sv] w fun e w' => DrawE w w' e g cv ln := by
  obtain ⟨ao, c, _, _, rfl, qq⟩ := hd.out
  clear hd qq
  have HB := Lib.hid hB
  have hgl := hs.lt
  obtain ⟨K, hK⟩ : ∃ K, min 4 n = K := ⟨_, rfl⟩
  have hK4 : K ≤ 4 := by omega
  obtain ⟨M, hM⟩ : ∃ M, 2 ^ K = M := ⟨_, rfl⟩
  have hM16 : M ≤ 16 := hM ▸ pow_le hK4
  have hM0 : 1 ≤ M := hM ▸ Nat.pos_of_ne_zero (by simp)
  have hsh : ((n : Int) < 4 ∧ wrap64 (2 ^ n) = (M : Int)) ∨ (¬ (n : Int) < 4 ∧ M = 16) := by
    by_cases e : (n : Int) < 4
    · refine Or.inl ⟨e, ?_⟩
      rw [show n = K by omega, show ((2 : Int) ^ K) = ((2 ^ K : Nat) : Int) by simp, hM]
      exact wrap64_in _ (by omega)
    · refine Or.inr ⟨e, ?_⟩
      obtain rfl : K = 4 := by omega
      exact hM.symm
  obtain ⟨Q, hQ⟩ : ∃ Q : Int, (if 1 < P then P else 1) = Q := ⟨_, rfl⟩
  have hQ1 : 1 ≤ Q ∧ Q ≤ 17 := by rw [← hQ]; split <;> omega
  clear hK hM
  have hba : Below w.heap.size w ((w.alloc (.cells #[.int .i64 P, .slice ao n c] 26)).alloc (.cells #[] 2)) := ((Below.refl _ _).alloc (Nat.le_refl _) _).alloc (by simp) _
  have hDa := hs.kept hba
  have hCa : Chg w ((w.alloc (.cells #[.int .i64 P, .slice ao n c] 26)).alloc (.cells #[] 2)) (· = g) := Chg.of_below hba _
  have bA : Below (w.alloc (.cells #[.int .i64 P, .slice ao n c] 26)).heap.size (w.alloc (.cells #[.int .i64 P, .slice ao n c] 26)) ((w.alloc (.cells #[.int .i64 P, .slice ao n c] 26)).alloc (.cells #[] 2)) := (Below.refl _ _).alloc (Nat.le_refl _) _
  have BX := Lib.hid (boxKeep bA (box0 w P ao n c 26))
  have hT0 : Own ((w.alloc (.cells #[.int .i64 P, .slice ao n c] 26)).alloc (.cells #[] 2)) 2 (w.heap.size + 1) 0 0 (fun i => .int .i64 ((fun _ => 0) i)) := by
    have h := Own.empty (w.alloc (.cells #[.int .i64 P, .slice ao n c] 26)) 2 (fun i => .int .i64 ((fun _ => 0) i))
    rw [alloc_size] at h
    exact h
  have HT0 := Lib.hid hT0
  have N0 := Lib.hid (sNext_c g ln cv B 4 _ hDa (hB _ hCa) (by omega))
  have HCa := Lib.hid hCa
  clear hba hs hB hT0 bA hDa hCa
  rcases hsh with ⟨hn4, hsh⟩ | ⟨hn4, rfl⟩
  · go_enter Try.func90, Try.ntmps90
    go_wp2_with fail
    refine N0.out.mono ?_
    rintro e w1 ⟨x0, rfl, hx0, _, hr1⟩
    have f0 := hr1.chg.cellC BX.out.1 (by show ¬ w.heap.size = g; omega)
    have f1 := hr1.chg.cellC BX.out.2.1 (by show ¬ w.heap.size = g; omega)
    have hT1 := Lib.hid (hr1.chg.own HT0.out (by show ¬ w.heap.size + 1 = g; omega))
    have hC1 := Lib.hid (HCa.out.trans hr1.chg)
    have hD1 := Lib.hid hr1.src
    clear hr1 N0 BX HT0 HCa
    go_wp2
    go_loopg [5, 7, 8] M (fun gg o i _ wr => ∃ k : Nat, gg = M - k ∧ i = .int .i64 k ∧ k ≤ M ∧ wr.cell? ⟨w.heap.size, 0, none⟩ = some (.int .i64 P) ∧ wr.cell? ⟨w.heap.size, 1, none⟩ = some (.slice ao n c) ∧ Hid (Src wr g cv ln) ∧ Hid (Chg w wr (· = g)) ∧ ∃ (g' c' : Nat) (X : Nat → Int), o = .slice (some ⟨g', 0, none⟩) k c' ∧ w.heap.size + 1 ≤ g' ∧ Own wr 2 g' c' k (fun i => .int .i64 (X i)))
    case atStart => exact ⟨0, rfl, rfl, Nat.zero_le _, f0, f1, hD1, hC1, _, _, _, rfl, Nat.le_refl _, hT1.out⟩
    case round =>
      obtain ⟨k, rfl, rfl, hk, f0, f1, hD, hC, g', c', X, rfl, hg', hO⟩ := hrel
      by_cases hlt : k < M
      · have hN := sNext_c g ln cv B Q wr hD.out (HB.out _ hC.out) (by omega)
        have HN := Lib.hid hN
        clear hN
        go_wp2_with fail
        refine HN.out.mono ?_
        rintro e w2 ⟨y, rfl, hy, _, hr2⟩
        have f0 := hr2.chg.cellC f0 (by show ¬ w.heap.size = g; omega)
        have f1 := hr2.chg.cellC f1 (by show ¬ w.heap.size = g; omega)
        have hV := hr2.chg.own hO (by show ¬ g' = g; omega)
        have hC2 := Lib.hid (hC.out.trans hr2.chg)
        have hD2 := Lib.hid hr2.src
        clear hr2 HN hC hD hO
        have hl0 := lt_of_cell f0
        by_cases hx00 : x0 = 0
        · have hx01 : (x0 == 0) = true := by simp [hx00]
          clear hx00
          have N3 := Lib.hid (sNext_c g ln cv B 3 w2 hD2.out (HB.out _ hC2.out) (by omega))
          go_wp2_with fail
          refine N3.out.mono ?_
          rintro e w3 ⟨z, rfl, hz, _, hr3⟩
          have f0 := hr3.chg.cellC f0 (by show ¬ w.heap.size = g; omega)
          have f1 := hr3.chg.cellC f1 (by show ¬ w.heap.size = g; omega)
          have hV := hr3.chg.own hV (by show ¬ g' = g; omega)
          have hC3 := Lib.hid (hC2.out.trans hr3.chg)
          have hD3 := Lib.hid hr3.src
          have hs3 := Nat.lt_of_lt_of_le hl0 hr3.chg.size
          clear hr3 N3 hC2 hD2
          by_cases hz0 : 0 < z
          · go_wp2_with (at_builtin; refine wpList_push _ rfl _ _ _ _ elI rfl hV (.int .i64 0) rfl rfl rfl (by omega) (by omega) ?_; intro g3 c3 w4 hO4 hg4 hgr4; have HG4 := Lib.hid hgr4; have f0 := grown_cell hgr4 (show w.heap.size ≠ g' by omega) f0; have f1 := grown_cell hgr4 (show w.heap.size ≠ g' by omega) f1; clear hgr4)
            go_roundg (M - (k + 1))
            case measure => omega
            case rel =>
              have hc3 := Chg.grownC HG4.out
              exact ⟨k + 1, rfl, by go_num, by omega, f0, f1, hD3.out.by hc3 (by omega), hC3.out.fresh hc3 (fun j e => Or.inr (by have e : j = g' := e; omega)), g3, c3, fun j => if j = k then 0 else X j, rfl, by have := hC3.out.size; omega, hO4.congr fun j hj => by by_cases e : j = k <;> simp [e]⟩
          · go_wp2_with (at_builtin; refine wpList_push _ rfl _ _ _ _ elI rfl hV (.int .i64 y) rfl rfl rfl (by omega) (by omega) ?_; intro g3 c3 w4 hO4 hg4 hgr4; have HG4 := Lib.hid hgr4; have f0 := grown_cell hgr4 (show w.heap.size ≠ g' by omega) f0; have f1 := grown_cell hgr4 (show w.heap.size ≠ g' by omega) f1; clear hgr4)
            go_roundg (M - (k + 1))
            case measure => omega
            case rel =>
              have hc3 := Chg.grownC HG4.out
              exact ⟨k + 1, rfl, by go_num, by omega, f0, f1, hD3.out.by hc3 (by omega), hC3.out.fresh hc3 (fun j e => Or.inr (by have e : j = g' := e; omega)), g3, c3, fun j => if j = k then y else X j, rfl, by have := hC3.out.size; omega, hO4.congr fun j hj => by by_cases e : j = k <;> simp [e]⟩
        · have hx01 : (x0 == 0) = false := by simp [hx00]
          have hs2 := Nat.lt_of_lt_of_le hl0 (Nat.le_refl _)
          go_wp2_with (at_builtin; refine wpList_push _ rfl _ _ _ _ elI rfl hV (.int .i64 y) rfl rfl rfl (by omega) (by omega) ?_; intro g3 c3 w4 hO4 hg4 hgr4; have HG4 := Lib.hid hgr4; have f0 := grown_cell hgr4 (show w.heap.size ≠ g' by omega) f0; have f1 := grown_cell hgr4 (show w.heap.size ≠ g' by omega) f1; clear hgr4)
          go_roundg (M - (k + 1))
          case measure => omega
          case rel =>
            have hc3 := Chg.grownC HG4.out
            exact ⟨k + 1, rfl, by go_num, by omega, f0, f1, hD2.out.by hc3 (by omega), hC2.out.fresh hc3 (fun j e => Or.inr (by have e : j = g' := e; omega)), g3, c3, fun j => if j = k then y else X j, rfl, by have := hC2.out.size; omega, hO4.congr fun j hj => by by_cases e : j = k <;> simp [e]⟩
      · obtain rfl : k = M := by omega
        have hN := Lib.hid (sNext_c g ln cv B 60 wr hD.out (HB.out _ hC.out) (by omega))
        go_wp2_with fail
        refine hN.out.mono ?_
        rintro e w2 ⟨t, rfl, ht, _, hr2⟩
        have hV := hr2.chg.own hO (by show ¬ g' = g; omega)
        have f0 := hr2.chg.cellC f0 (by show ¬ w.heap.size = g; omega)
        have hC2 := Lib.hid (hC.out.trans hr2.chg)
        have hD2 := Lib.hid hr2.src
        have hl := hV.lt
        clear hr2 hN
        by_cases ht0 : t = 0
        · subst ht0
          obtain ⟨wc, hwc⟩ : ∃ wc, wc = w2.alloc (.cells #[.int .i64 (-1), .int .i64 P] 2) := ⟨_, rfl⟩
          have hbc : Below w2.heap.size w2 wc := by rw [hwc]; exact (Below.refl _ _).alloc (Nat.le_refl _) _
          have h4 : Own wc 2 w2.heap.size 2 2 (fun i => .int .i64 (if i = 0 then -1 else P)) := by rw [hwc]; exact ints2 w2 _ _ _
          have hg2 := hD2.out.lt
          have hp7 : Calls Try.prog 132 #[.pointer (some ⟨g, 0, none⟩), .slice (some ⟨w2.heap.size, 0, none⟩) 2 2] wc fun e w' => ∃ y : Int, e = .returned (.int .i64 y) ∧ Drew wc w' g cv ln := by
            refine (sPick_c g ln cv _ B _ 2 _ (hD2.out.kept hbc) (HB.out _ (hC2.out.trans (Chg.of_below hbc _))) (fun W hc => h4.chgInts hc (by omega)) (by omega)).mono fun e w' h => ?_
            obtain ⟨j, hj, he, hd⟩ := h
            exact ⟨_, he, hd⟩
          have hVc := Lib.hid (hV.kept hbc)
          have hCc := Lib.hid (hC2.out.trans (Chg.of_below hbc _))
          rw [hwc] at hp7
          have HP7 := Lib.hid hp7
          have HWC := Lib.hid hwc
          clear hp7 hbc h4 hwc hC2 hD2 hV hO hD hC
          go_wp2_with fail
          refine HP7.out.mono ?_
          rintro e w3 ⟨y, rfl, hd3⟩
          rw [← HWC.out] at hd3
          have hV3 := hd3.chg.own hVc.out (by show ¬ g' = g; omega)
          have z0 := hV3.cell (i := 0) (by omega)
          have zf := hV3.frozen 0
          have hV4 := Lib.hid ((hV3.set 0 (.int .i64 y)).congr (V' := fun i => .int .i64 (if i = 0 then y else X i)) fun i hi => by by_cases e : i = 0 <;> simp [e])
          have hCs : Hid (Chg w3 (w3.setCell ⟨g', 0, none⟩ (.int .i64 y)) (· = g')) := (Chg.refl w3 (· = g')).setCell (a := ⟨g', 0, none⟩) rfl (.int .i64 y)
          have hC4 := Lib.hid ((hCc.out.trans hd3.chg).fresh hCs.out (fun j e => Or.inr (by have e : j = g' := e; omega)))
          have hD4 := Lib.hid (hd3.src.by hCs.out (by show ¬ g = g'; omega))
          clear hd3 hV3 hCc HP7 HWC
          go_wp2
          go_ret
          exact ⟨⟨_, _, (fun i => if i = 0 then y else X i), rfl, by omega, fun W hc => (hc.own hV4.out (by show ¬ (g' < w.heap.size ∨ _ ≤ g'); have := hV4.out.lt; omega)).ints, hD4.out, hC4.out⟩⟩
        · by_cases ht1 : t = 1
          · subst ht1
            have HV := Lib.hid hV
            have hle := hV.le
            have hmx := hV.max
            go_wp2
            all_goals go_ret
            all_goals first
              | exact ⟨⟨_, _, (fun i => X (1 + i)), rfl, by omega, fun W hc => ints_from1 (hc.own HV.out (by show ¬ (g' < w.heap.size ∨ _ ≤ g'); omega)) (by omega), hD2.out, hC2.out⟩⟩
              | exact ⟨⟨_, k - 1, (fun _ => 0), rfl, by omega, fun W hc => ⟨_, 0, g', 0, rfl, by omega, by omega, fun _ => rfl, fun i hi => absurd hi (by omega)⟩, hD2.out, hC2.out⟩⟩
          · have h0 : (t == 0) = false := by simp [ht0]
            have h1 : (t == 1) = false := by simp [ht1]
            clear ht0 ht1
            have HV := Lib.hid hV
            go_wp2
            go_ret
            exact ⟨⟨_, _, X, rfl, by omega, fun W hc => (hc.own HV.out (by show ¬ (g' < w.heap.size ∨ _ ≤ g'); omega)).ints, hD2.out, hC2.out⟩⟩
  · go_enter Try.func90, Try.ntmps90
    go_wp2_with fail
    refine N0.out.mono ?_
    rintro e w1 ⟨x0, rfl, hx0, _, hr1⟩
    have f0 := hr1.chg.cellC BX.out.1 (by show ¬ w.heap.size = g; omega)
    have f1 := hr1.chg.cellC BX.out.2.1 (by show ¬ w.heap.size = g; omega)
    have hT1 := Lib.hid (hr1.chg.own HT0.out (by show ¬ w.heap.size + 1 = g; omega))
    have hC1 := Lib.hid (HCa.out.trans hr1.chg)
    have hD1 := Lib.hid hr1.src
    clear hr1 N0 BX HT0 HCa
    go_wp2
    go_loopg [5, 7, 8] 16 (fun gg o i _ wr => ∃ k : Nat, gg = 16 - k ∧ i = .int .i64 k ∧ k ≤ 16 ∧ wr.cell? ⟨w.heap.size, 0, none⟩ = some (.int .i64 P) ∧ wr.cell? ⟨w.heap.size, 1, none⟩ = some (.slice ao n c) ∧ Hid (Src wr g cv ln) ∧ Hid (Chg w wr (· = g)) ∧ ∃ (g' c' : Nat) (X : Nat → Int), o = .slice (some ⟨g', 0, none⟩) k c' ∧ w.heap.size + 1 ≤ g' ∧ Own wr 2 g' c' k (fun i => .int .i64 (X i)))
    case atStart => exact ⟨0, rfl, rfl, Nat.zero_le _, f0, f1, hD1, hC1, _, _, _, rfl, Nat.le_refl _, hT1.out⟩
    case round =>
      obtain ⟨k, rfl, rfl, hk, f0, f1, hD, hC, g', c', X, rfl, hg', hO⟩ := hrel
      by_cases hlt : k < 16
      · have hN := sNext_c g ln cv B Q wr hD.out (HB.out _ hC.out) (by omega)
        have HN := Lib.hid hN
        clear hN
        go_wp2_with fail
        refine HN.out.mono ?_
        rintro e w2 ⟨y, rfl, hy, _, hr2⟩
        have f0 := hr2.chg.cellC f0 (by show ¬ w.heap.size = g; omega)
        have f1 := hr2.chg.cellC f1 (by show ¬ w.heap.size = g; omega)
        have hV := hr2.chg.own hO (by show ¬ g' = g; omega)
        have hC2 := Lib.hid (hC.out.trans hr2.chg)
        have hD2 := Lib.hid hr2.src
        clear hr2 HN hC hD hO
        have hl0 := lt_of_cell f0
        by_cases hx00 : x0 = 0
        · have hx01 : (x0 == 0) = true := by simp [hx00]
          clear hx00
          have N3 := Lib.hid (sNext_c g ln cv B 3 w2 hD2.out (HB.out _ hC2.out) (by omega))
          go_wp2_with fail
          refine N3.out.mono ?_
          rintro e w3 ⟨z, rfl, hz, _, hr3⟩
          have f0 := hr3.chg.cellC f0 (by show ¬ w.heap.size = g; omega)
          have f1 := hr3.chg.cellC f1 (by show ¬ w.heap.size = g; omega)
          have hV := hr3.chg.own hV (by show ¬ g' = g; omega)
          have hC3 := Lib.hid (hC2.out.trans hr3.chg)
          have hD3 := Lib.hid hr3.src
          have hs3 := Nat.lt_of_lt_of_le hl0 hr3.chg.size
          clear hr3 N3 hC2 hD2
          by_cases hz0 : 0 < z
          · go_wp2_with (at_builtin; refine wpList_push _ rfl _ _ _ _ elI rfl hV (.int .i64 0) rfl rfl rfl (by omega) (by omega) ?_; intro g3 c3 w4 hO4 hg4 hgr4; have HG4 := Lib.hid hgr4; have f0 := grown_cell hgr4 (show w.heap.size ≠ g' by omega) f0; have f1 := grown_cell hgr4 (show w.heap.size ≠ g' by omega) f1; clear hgr4)
            go_roundg (16 - (k + 1))
            case measure => omega
            case rel =>
              have hc3 := Chg.grownC HG4.out
              exact ⟨k + 1, rfl, by go_num, by omega, f0, f1, hD3.out.by hc3 (by omega), hC3.out.fresh hc3 (fun j e => Or.inr (by have e : j = g' := e; omega)), g3, c3, fun j => if j = k then 0 else X j, rfl, by have := hC3.out.size; omega, hO4.congr fun j hj => by by_cases e : j = k <;> simp [e]⟩
          · go_wp2_with (at_builtin; refine wpList_push _ rfl _ _ _ _ elI rfl hV (.int .i64 y) rfl rfl rfl (by omega) (by omega) ?_; intro g3 c3 w4 hO4 hg4 hgr4; have HG4 := Lib.hid hgr4; have f0 := grown_cell hgr4 (show w.heap.size ≠ g' by omega) f0; have f1 := grown_cell hgr4 (show w.heap.size ≠ g' by omega) f1; clear hgr4)
            go_roundg (16 - (k + 1))
            case measure => omega
            case rel =>
              have hc3 := Chg.grownC HG4.out
              exact ⟨k + 1, rfl, by go_num, by omega, f0, f1, hD3.out.by hc3 (by omega), hC3.out.fresh hc3 (fun j e => Or.inr (by have e : j = g' := e; omega)), g3, c3, fun j => if j = k then y else X j, rfl, by have := hC3.out.size; omega, hO4.congr fun j hj => by by_cases e : j = k <;> simp [e]⟩
        · have hx01 : (x0 == 0) = false := by simp [hx00]
          have hs2 := Nat.lt_of_lt_of_le hl0 (Nat.le_refl _)
          go_wp2_with (at_builtin; refine wpList_push _ rfl _ _ _ _ elI rfl hV (.int .i64 y) rfl rfl rfl (by omega) (by omega) ?_; intro g3 c3 w4 hO4 hg4 hgr4; have HG4 := Lib.hid hgr4; have f0 := grown_cell hgr4 (show w.heap.size ≠ g' by omega) f0; have f1 := grown_cell hgr4 (show w.heap.size ≠ g' by omega) f1; clear hgr4)
          go_roundg (16 - (k + 1))
          case measure => omega
          case rel =>
            have hc3 := Chg.grownC HG4.out
            exact ⟨k + 1, rfl, by go_num, by omega, f0, f1, hD2.out.by hc3 (by omega), hC2.out.fresh hc3 (fun j e => Or.inr (by have e : j = g' := e; omega)), g3, c3, fun j => if j = k then y else X j, rfl, by have := hC2.out.size; omega, hO4.congr fun j hj => by by_cases e : j = k <;> simp [e]⟩
      · obtain rfl : k = 16 := by omega
        have hN := Lib.hid (sNext_c g ln cv B 60 wr hD.out (HB.out _ hC.out) (by omega))
        go_wp2_with fail
        refine hN.out.mono ?_
        rintro e w2 ⟨t, rfl, ht, _, hr2⟩
        have hV := hr2.chg.own hO (by show ¬ g' = g; omega)
        have f0 := hr2.chg.cellC f0 (by show ¬ w.heap.size = g; omega)
        have hC2 := Lib.hid (hC.out.trans hr2.chg)
        have hD2 := Lib.hid hr2.src
        have hl := hV.lt
        clear hr2 hN
        by_cases ht0 : t = 0
        · subst ht0
          obtain ⟨wc, hwc⟩ : ∃ wc, wc = w2.alloc (.cells #[.int .i64 (-1), .int .i64 P] 2) := ⟨_, rfl⟩
          have hbc : Below w2.heap.size w2 wc := by rw [hwc]; exact (Below.refl _ _).alloc (Nat.le_refl _) _
          have h4 : Own wc 2 w2.heap.size 2 2 (fun i => .int .i64 (if i = 0 then -1 else P)) := by rw [hwc]; exact ints2 w2 _ _ _
          have hg2 := hD2.out.lt
          have hp7 : Calls Try.prog 132 #[.pointer (some ⟨g, 0, none⟩), .slice (some ⟨w2.heap.size, 0, none⟩) 2 2] wc fun e w' => ∃ y : Int, e = .returned (.int .i64 y) ∧ Drew wc w' g cv ln := by
            refine (sPick_c g ln cv _ B _ 2 _ (hD2.out.kept hbc) (HB.out _ (hC2.out.trans (Chg.of_below hbc _))) (fun W hc => h4.chgInts hc (by omega)) (by omega)).mono fun e w' h => ?_
            obtain ⟨j, hj, he, hd⟩ := h
            exact ⟨_, he, hd⟩
          have hVc := Lib.hid (hV.kept hbc)
          have hCc := Lib.hid (hC2.out.trans (Chg.of_below hbc _))
          rw [hwc] at hp7
          have HP7 := Lib.hid hp7
          have HWC := Lib.hid hwc
          clear hp7 hbc h4 hwc hC2 hD2 hV hO hD hC
          go_wp2_with fail
          refine HP7.out.mono ?_
          rintro e w3 ⟨y, rfl, hd3⟩
          rw [← HWC.out] at hd3
          have hV3 := hd3.chg.own hVc.out (by show ¬ g' = g; omega)
          have z0 := hV3.cell (i := 0) (by omega)
          have zf := hV3.frozen 0
          have hV4 := Lib.hid ((hV3.set 0 (.int .i64 y)).congr (V' := fun i => .int .i64 (if i = 0 then y else X i)) fun i hi => by by_cases e : i = 0 <;> simp [e])
          have hCs : Hid (Chg w3 (w3.setCell ⟨g', 0, none⟩ (.int .i64 y)) (· = g')) := (Chg.refl w3 (· = g')).setCell (a := ⟨g', 0, none⟩) rfl (.int .i64 y)
          have hC4 := Lib.hid ((hCc.out.trans hd3.chg).fresh hCs.out (fun j e => Or.inr (by have e : j = g' := e; omega)))
          have hD4 := Lib.hid (hd3.src.by hCs.out (by show ¬ g = g'; omega))
          clear hd3 hV3 hCc HP7 HWC
          go_wp2
          go_ret
          exact ⟨⟨_, _, (fun i => if i = 0 then y else X i), rfl, by omega, fun W hc => (hc.own hV4.out (by show ¬ (g' < w.heap.size ∨ _ ≤ g'); have := hV4.out.lt; omega)).ints, hD4.out, hC4.out⟩⟩
        · by_cases ht1 : t = 1
          · subst ht1
            have HV := Lib.hid hV
            have hle := hV.le
            have hmx := hV.max
            go_wp2
            all_goals go_ret
            all_goals first
              | exact ⟨⟨_, _, (fun i => X (1 + i)), rfl, by omega, fun W hc => ints_from1 (hc.own HV.out (by show ¬ (g' < w.heap.size ∨ _ ≤ g'); omega)) (by omega), hD2.out, hC2.out⟩⟩
              | exact ⟨⟨_, k - 1, (fun _ => 0), rfl, by omega, fun W hc => ⟨_, 0, g', 0, rfl, by omega, by omega, fun _ => rfl, fun i hi => absurd hi (by omega)⟩, hD2.out, hC2.out⟩⟩
          · have h0 : (t == 0) = false := by simp [ht0]
            have h1 : (t == 1) = false := by simp [ht1]
            clear ht0 ht1
            have HV := Lib.hid hV
            go_wp2
            go_ret
            exact ⟨⟨_, _, X, rfl, by omega, fun W hc => (hc.own HV.out (by show ¬ (g' < w.heap.size ∨ _ ≤ g'); omega)).ints, hD2.out, hC2.out⟩⟩

end Go.Proofs.Ytnnacligfoonbaa
