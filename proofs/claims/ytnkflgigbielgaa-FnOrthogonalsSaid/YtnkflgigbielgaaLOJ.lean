/-
  The draw of a list of vectors, and of a space and a list of vectors. No condition beside sizes.
-/
import Derived.Test.YtnkflgigbielgaaLS4
import Derived.Test.YtnkflgigbielgaaLV1
import Derived.Test.YtnkflgigbielgaaQKO
import Derived.Test.YtnkflgigbielgaaLIJ
import Derived.Test.YtnkflgigbielgaaSKJ
import Derived.Test.YtnkflgigbielgaaLSB
set_option linter.unusedVariables false
set_option linter.unusedSimpArgs false
namespace Go.Proofs.Ytnkflgigbielgaa
open Go.RowKit

/-- an owned table whose blocks all lie from B to hi -/
structure OTabH (w : World) (B hi g cap G : Nat) (L : Nat → Nat) (T : Nat → Nat → Int) : Prop where
  out : ∃ R C : Nat → Nat, Own w 24 g cap G (fun i => .slice (some ⟨R i, 0, none⟩) (L i) (C i)) ∧ (B ≤ g ∧ g < hi) ∧
    (∀ i, i < G → Own w 2 (R i) (C i) (L i) (fun j => .int .i64 (T i j)) ∧ B ≤ R i ∧ R i ≠ g ∧ R i < hi) ∧ ∀ i j, i < G → j < i → R i ≠ R j
theorem OTabH.otab {w : World} {B hi g cap G : Nat} {L : Nat → Nat} {T : Nat → Nat → Int} (h : OTabH w B hi g cap G L T) : OTab w B g cap G L T := by
  obtain ⟨R, C, h1, h2, h3, h4⟩ := h.out
  exact ⟨R, C, h1, h2.1, fun i hi => ⟨(h3 i hi).1, (h3 i hi).2.1, (h3 i hi).2.2.1⟩, h4⟩
theorem OTabH.chg {w w' : World} {B hi g cap G : Nat} {L : Nat → Nat} {T : Nat → Nat → Int} {S : Nat → Prop} (h : OTabH w B hi g cap G L T) (hc : Chg w w' S) (hS : ∀ k, S k → k < B ∨ hi ≤ k) : OTabH w' B hi g cap G L T := by
  obtain ⟨R, C, h1, h2, h3, h4⟩ := h.out
  exact ⟨R, C, hc.own h1 (fun e => by have := hS _ e; omega), h2, fun i hi => ⟨hc.own (h3 i hi).1 (fun e => by have := hS _ e; have := (h3 i hi).2; omega), (h3 i hi).2⟩, h4⟩
theorem OTabH.high {w : World} {B hi hi' g cap G : Nat} {L : Nat → Nat} {T : Nat → Nat → Int} (h : OTabH w B hi g cap G L T) (hh : hi ≤ hi') : OTabH w B hi' g cap G L T := by
  obtain ⟨R, C, h1, h2, h3, h4⟩ := h.out
  exact ⟨R, C, h1, ⟨h2.1, by omega⟩, fun i hi => ⟨(h3 i hi).1, (h3 i hi).2.1, (h3 i hi).2.2.1, by have := (h3 i hi).2.2.2; omega⟩, h4⟩
theorem OTabH.own {w : World} {B hi g cap G : Nat} {L : Nat → Nat} {T : Nat → Nat → Int} (h : OTabH w B hi g cap G L T) : ∃ V, Own w 24 g cap G V := by
  obtain ⟨R, C, h1, _⟩ := h.out
  exact ⟨_, h1⟩
/-- an append of a row that lies behind the table's blocks -/
theorem OTabH.push {w : World} {B hi g cap G : Nat} {L : Nat → Nat} {T : Nat → Nat → Int} (h : OTabH w B hi g cap G L T) {r c n : Nat} {X : Nat → Int} (hr : Own w 2 r c n (fun j => .int .i64 (X j))) (hrh : hi ≤ r) (hhi : hi ≤ w.heap.size) : ∃ V, Own w 24 g cap G V ∧
    ∀ (w' : World) (g' cap' : Nat), Own w' 24 g' cap' (G + 1) (fun j => if j = G then .slice (some ⟨r, 0, none⟩) n c else V j) → (g' = g ∨ w.heap.size ≤ g') → w.grownBy w' (some g) →
      OTabH w' B w'.heap.size g' cap' (G + 1) (fun i => if i = G then n else L i) (fun i => if i = G then X else T i) := by
  obtain ⟨R, C, h1, h2, h3, h4⟩ := h.out
  refine ⟨_, h1, fun w' g' cap' hO hg hgr => ?_⟩
  have hgl := h1.lt
  have hrl := hr.lt
  have hol := hO.lt
  have hsz := hgr.size
  refine ⟨fun i => if i = G then r else R i, fun i => if i = G then c else C i, hO.congr fun i hi => ?_, ⟨by omega, hol⟩, fun i hi => ?_, fun i j hi hj => ?_⟩
  · by_cases e : i = G
    · subst e; simp
    · simp [e]
  · by_cases e : i = G
    · subst e; simp only [if_true]
      exact ⟨hr.grown hgr (by intro e; injection e with e; omega), by omega, by omega, by omega⟩
    · have hi' : i < G := by omega
      simp only [if_neg e]
      have h5 := (h3 i hi').1.lt
      have h6 := (h3 i hi').2
      refine ⟨(h3 i hi').1.grown hgr (by intro e; injection e with e; exact h6.2.1 e.symm), h6.1, ?_, by omega⟩
      rcases hg with h | h
      · rw [h]; exact h6.2.1
      · omega
  · by_cases e : i = G
    · subst e
      have := (h3 j hj).2
      simp only [if_true, if_neg (show j ≠ i by omega)]; omega
    · simp only [if_neg e, if_neg (show j ≠ G by omega)]; exact h4 i j (by omega) hj
theorem OTabH.empty (w : World) : OTabH (w.alloc (.cells #[] 24)) w.heap.size (w.heap.size + 1) w.heap.size 0 0 (fun _ => 0) (fun _ _ => 0) :=
  ⟨fun _ => 0, fun _ => 0, Own.empty w 24 _, ⟨Nat.le_refl _, by omega⟩, fun i hi => absurd hi (Nat.not_lt_zero _), fun i j hi => absurd hi (Nat.not_lt_zero _)⟩

/-- what stands while the list is drawn -/
structure DL (w wr : World) (g : Nat) (cv : Value) (ln : Nat) (P : Int) (sv : Value) (g2 c2 G : Nat) (L : Nat → Nat) (T : Nat → Nat → Int) : Prop where
  chg : Chg w wr (· = g)
  src : Src wr g cv ln
  c0 : wr.cell? ⟨w.heap.size, 0, none⟩ = some (.int .i64 P)
  c1 : wr.cell? ⟨w.heap.size, 1, none⟩ = some sv
  tab : OTabH wr (w.heap.size + 1) wr.heap.size g2 c2 G L T
theorem DL.step {w wr w' : World} {g : Nat} {cv : Value} {ln : Nat} {P : Int} {sv : Value} {g2 c2 G : Nat} {L : Nat → Nat} {T : Nat → Nat → Int} (h : DL w wr g cv ln P sv g2 c2 G L T) (hg : g < w.heap.size) (hd : Drew wr w' g cv ln) : DL w w' g cv ln P sv g2 c2 G L T :=
  ⟨h.chg.trans hd.chg, hd.src, hd.chg.cellN (by omega) h.c0, hd.chg.cellN (by omega) h.c1, (h.tab.chg hd.chg (fun k e => Or.inl (by have e : k = g := e; omega))).high hd.chg.size⟩

/-- a list that is drawn -/
structure DrawnL (w w' : World) (e : Ending) (g : Nat) (cv : Value) (ln : Nat) : Prop where
  out : ∃ (g2 c2 G : Nat) (L : Nat → Nat) (T : Nat → Nat → Int), e = .returned (.slice (some ⟨g2, 0, none⟩) G c2) ∧ G ≤ 17 ∧ (∀ i, i < G → L i ≤ 8) ∧ OTabH w' w.heap.size w'.heap.size g2 c2 G L T ∧ Drew w w' g cv ln

set_option maxRecDepth 100000 in
set_option maxHeartbeats 4000000 in
theorem sDrawList_c (g ln : Nat) (cv : Value) (B : Nat → Int) (P : Int) (sv : Value) (n : Nat) (s : Nat → Int) (w : World) (hs : Src w g cv ln) (hB : ∀ W, Chg w W (· = g) → Byt W cv ln B) (hd : ∀ W, Chg w W (· = g) → Ints W sv n s) (hn : n ≤ 7) (hP : 0 ≤ P ∧ P ≤ 17) :
    Calls Try.prog 97 #[.pointer (some ⟨g, 0, none⟩), dbl P sv, .int .i64 3] w fun e w' => DrawnL w w' e g cv ln := by
  have hgl := hs.lt
  have HB := Lib.hid hB
  have HI := Lib.hid hd
  have HV : Hid (∀ W, Chg w W (· = g) → Src W g cv ln → Calls Try.prog 62 #[.pointer (some ⟨g, 0, none⟩), dbl P sv] W fun e w' => DrV W w' e g cv ln) := fun W hc hsr => sDrawVec_c g ln cv B P sv n s W hsr (fun W' hc' => hB W' (hc.trans hc')) (hd W hc) hn hP
  obtain ⟨ao, c, b, o, rfl, p2, p3, qq⟩ := (hd w (Chg.refl _ _)).out
  clear qq hd
  have BX := box0 w P ao n c 26
  obtain ⟨e0, e1, e2, e3⟩ := BX
  have hsz : (w.alloc (.cells #[.int .i64 P, .slice ao n c] 26)).heap.size = w.heap.size + 1 := alloc_size _ _
  have hba : Below (w.alloc (.cells #[.int .i64 P, .slice ao n c] 26)).heap.size (w.alloc (.cells #[.int .i64 P, .slice ao n c] 26)) ((w.alloc (.cells #[.int .i64 P, .slice ao n c] 26)).alloc (.cells #[] 24)) := (Below.refl _ _).alloc (Nat.le_refl _) _
  have hE := OTabH.empty (w.alloc (.cells #[.int .i64 P, .slice ao n c] 26))
  have hsz2 : ((w.alloc (.cells #[.int .i64 P, .slice ao n c] 26)).alloc (.cells #[] 24)).heap.size = w.heap.size + 1 + 1 := by rw [alloc_size, hsz]
  rw [hsz] at hE
  have HD0 : Hid (DL w ((w.alloc (.cells #[.int .i64 P, .slice ao n c] 26)).alloc (.cells #[] 24)) g cv ln P (.slice ao n c) (w.heap.size + 1) 0 0 (fun _ => 0) (fun _ _ => 0)) := by
    refine ⟨Chg.of_below (e3.trans (hba.mono e3.size)) _, (hs.kept e3).kept hba, cellKp hba e0, cellKp hba e1, ?_⟩
    rw [hsz2]; exact hE
  have HN := Lib.hid (sNext_c g ln cv B 4 _ HD0.out.src (HB.out _ HD0.out.chg) (by omega))
  have hw4 : IntKind.i64.wrap (3 + 1) = 4 := by decide
  have hl0 : w.heap.size < ((w.alloc (.cells #[.int .i64 P, .slice ao n c] 26)).alloc (.cells #[] 24)).heap.size := by omega
  clear hs hB hE hba e0 e1 e2 e3
  go_enter Try.func97, Try.ntmps97
  go_wp2_with fail
  refine HN.out.mono ?_
  rintro e w1 ⟨x, rfl, hx, _, hd1⟩
  obtain ⟨x0, x4⟩ := hx (by omega)
  obtain ⟨k0, rfl⟩ := Int.eq_ofNat_of_zero_le x0
  have HD1 := Lib.hid (HD0.out.step hgl hd1)
  clear hx hd1 HN HD0 hw4
  go_wp2
  go_loopg [7, 8] k0 (fun gg sl kv wr => ∃ (k g2 c2 G : Nat) (L : Nat → Nat) (T : Nat → Nat → Int), k = gg ∧ k ≤ k0 ∧ kv = .int .i64 k ∧ sl = .slice (some ⟨g2, 0, none⟩) G c2 ∧ G + k ≤ 3 ∧ Hid (DL w wr g cv ln P (.slice ao n c) g2 c2 G L T) ∧ Hid (∀ i, i < G → L i ≤ 8))
  case atStart => exact ⟨k0, _, 0, 0, _, _, rfl, by omega, rfl, by first | rfl | rw [hsz], by omega, HD1.out, fun i hi => absurd hi (Nat.not_lt_zero _)⟩
  case round =>
    obtain ⟨k, g2, c2, G, L, T, rfl, hk, rfl, rfl, hGk, hD, hLb⟩ := hrel
    clear HD1
    by_cases hlt : 0 < k
    · have f0 := hD.out.c0
      have f1 := hD.out.c1
      have HV1 := Lib.hid (HV.out wr hD.out.chg hD.out.src)
      have hgt : (0 : Int) < (k : Int) := by omega
      have hw1 : IntKind.i64.wrap ((k : Int) - 1) = ((k - 1 : Nat) : Int) := wrap_as (by omega) (by omega)
      go_wp2_with fail
      go_at_call 62
      refine HV1.out.mono ?_
      rintro e w3 ⟨⟨g', c', kk, X, rfl, hkk, hg', hO⟩, hdr⟩
      have hs3 := hdr.chg.size
      have hT3 := hD.out.tab.chg hdr.chg (fun k e => Or.inl (by have e : k = g := e; omega))
      obtain ⟨V, hOw, hpush⟩ := hT3.push hO hg' hs3
      have HPU := Lib.hid hpush
      have HD3 := Lib.hid (hD.out.step hgl hdr)
      have hg2l := hOw.lt
      have hwl := hD.out.chg.size
      have hg2b : w.heap.size + 1 ≤ g2 := by
        obtain ⟨_, _, _, q, _⟩ := hT3.out
        exact q.1
      clear hpush hT3 hO hdr HV1 f0 f1
      go_wp2_with (at_builtin; refine wpList_push _ rfl _ _ _ _ elR rfl hOw (.slice (some ⟨g', 0, none⟩) kk c') rfl rfl rfl (by omega) (by omega) ?_; intro g3 c3 w4 hO4 hg4 hgr4)
      go_roundg (k - 1)
      case measure => omega
      case rel =>
        have hcg := Chg.grownC hgr4
        refine ⟨k - 1, g3, c3, G + 1, _, _, rfl, by omega, by first | rfl | go_num, rfl, by omega, ⟨HD3.out.chg.fresh hcg (fun k e => Or.inr (by have e : k = g2 := e; omega)), HD3.out.src.by hcg (by show ¬ g = g2; omega), hcg.cellC HD3.out.c0 (by show ¬ w.heap.size = g2; omega), hcg.cellC HD3.out.c1 (by show ¬ w.heap.size = g2; omega), HPU.out _ _ _ hO4 hg4 hgr4⟩, fun i hi => ?_⟩
        by_cases e : i = G
        · subst e; simpa using hkk
        · simp only [if_neg e]; exact hLb.out i (by omega)
    · obtain rfl : k = 0 := by omega
      have HN2 := Lib.hid (sNext_c g ln cv B 40 _ hD.out.src (HB.out _ hD.out.chg) (by omega))
      go_wp2_with fail
      refine HN2.out.mono ?_
      rintro e w5 ⟨y, rfl, hy, _, hd5⟩
      obtain ⟨y0, y4⟩ := hy (by omega)
      have HD5 := Lib.hid (hD.out.step hgl hd5)
      clear hy hd5 HN2 hD
      by_cases hy0 : y = 0
      · subst hy0
        obtain ⟨TT, hTT⟩ : ∃ T : Nat, T = 17 := ⟨_, rfl⟩
        have HTT := Lib.hid hTT
        have hG17 : G ≤ TT := by omega
        clear hTT
        go_wp2
        go_loopg [7] (TT - G) (fun gg sl wr => ∃ (g2 c2 G : Nat) (L : Nat → Nat) (T : Nat → Nat → Int), gg = TT - G ∧ G ≤ TT ∧ sl = .slice (some ⟨g2, 0, none⟩) G c2 ∧ Hid (DL w wr g cv ln P (.slice ao n c) g2 c2 G L T) ∧ Hid (∀ i, i < G → L i ≤ 8))
        case atStart => exact ⟨g2, c2, G, L, T, by omega, hG17, rfl, HD5.out, hLb.out⟩
        case round =>
          obtain ⟨h2, d2, G2, L2, T2, rfl, hG2, rfl, hD2, hL2⟩ := hrel
          clear HD5 hLb
          by_cases hlt2 : G2 < TT
          · have h17 : G2 < 17 := by have := HTT.out; omega
            have h17i : (G2 : Int) < 17 := by omega
            have f0 := hD2.out.c0
            have f1 := hD2.out.c1
            have hwl := hD2.out.chg.size
            have hg2b : w.heap.size + 1 ≤ h2 := by
              obtain ⟨_, _, _, q, _⟩ := hD2.out.tab.out
              exact q.1
            have hDT := Lib.hid hD2.out.tab
            go_wp2_with (first
              | (at_make; refine wpList_mkA _ rfl _ _ _ _ elI rfl rfl .i64 .i64 n rfl rfl (by omega) (by omega) ?_; intro W1 hB1 hS1 hO1; clear hS1; (have hT1 := hDT.out.chg (Chg.of_below hB1 (fun _ => False)) (fun k e => e.elim); have hpu := hT1.push (X := fun _ => 0) hO1 (Nat.le_refl _) hB1.size; obtain ⟨V, hOw, hpush⟩ := hpu; have HPU := Lib.hid hpush; have hg2l := hOw.lt; clear hT1 hpush))
              | (at_builtin; refine wpList_push _ rfl _ _ _ _ elR rfl hOw (.slice (some ⟨wr.heap.size, 0, none⟩) n n) rfl rfl rfl (by omega) (by omega) ?_; intro g3 c3 w4 hO4 hg4 hgr4))
            go_roundg (TT - (G2 + 1))
            case measure => omega
            case rel =>
              have hcg := Chg.grownC hgr4
              have hb1s := hB1.size
              refine ⟨g3, c3, G2 + 1, _, _, rfl, by omega, rfl, ⟨(hD2.out.chg.trans (Chg.of_below hB1 _)).fresh hcg (fun k e => Or.inr (by have e : k = h2 := e; omega)), (hD2.out.src.kept hB1).by hcg (by show ¬ g = h2; omega), hcg.cellC (cellKp hB1 hD2.out.c0) (by show ¬ w.heap.size = h2; omega), hcg.cellC (cellKp hB1 hD2.out.c1) (by show ¬ w.heap.size = h2; omega), HPU.out _ _ _ hO4 hg4 hgr4⟩, fun i hi => ?_⟩
              by_cases e : i = G2
              · subst e; simp; omega
              · simp only [if_neg e]; exact hL2.out i (by omega)
          · have h17 : ¬ G2 < 17 := by have := HTT.out; omega
            have h17i : ¬ (G2 : Int) < 17 := by omega
            have h17d : decide ((G2 : Int) < 17) = false := decide_eq_false h17i
            go_wp2
            go_ret
            exact ⟨h2, d2, G2, L2, T2, rfl, by have := HTT.out; omega, hL2.out, by
              obtain ⟨R, C, q1, q2, q3, q4⟩ := hD2.out.tab.out
              exact ⟨R, C, q1, ⟨by omega, q2.2⟩, fun i hi => ⟨(q3 i hi).1, by have := (q3 i hi).2; omega, (q3 i hi).2.2⟩, q4⟩, hD2.out.src, hD2.out.chg⟩
      · have hyb : (y == 0) = false := by simpa using hy0
        clear hy0
        go_wp2
        go_ret
        exact ⟨g2, c2, G, L, T, rfl, by omega, hLb.out, by
          obtain ⟨R, C, q1, q2, q3, q4⟩ := HD5.out.tab.out
          exact ⟨R, C, q1, ⟨by omega, q2.2⟩, fun i hi => ⟨(q3 i hi).1, by have := (q3 i hi).2; omega, (q3 i hi).2.2⟩, q4⟩, HD5.out.src, HD5.out.chg⟩

/-- a space and a list of vectors that are drawn -/
structure DrawnO (w w' : World) (e : Ending) : Prop where
  out : ∃ (P : Int) (a : Option Addr) (c m : Nat) (s : Nat → Int) (g2 c2 G : Nat) (L : Nat → Nat) (T : Nat → Nat → Int), e = .returned (.tuple #[dbl P (.slice a m c), .slice (some ⟨g2, 0, none⟩) G c2]) ∧ Below w.heap.size w w' ∧ OI w' w.heap.size w'.heap.size a c m s ∧ m ≤ 7 ∧ G ≤ 17 ∧ (∀ i, i < G → L i ≤ 8) ∧ Tab w' (.slice (some ⟨g2, 0, none⟩) G c2) G L T

set_option maxRecDepth 100000 in
set_option maxHeartbeats 4000000 in
theorem sDrawOrthogonalTo_c (cv : Value) (n : Nat) (B : Nat → Int) (w : World) (hB : Byt w cv n B) :
    Calls Try.prog 36 #[cv] w fun e w' => DrawnO w w' e := by
  have HB : Hid (∀ W, Below w.heap.size w W → Byt W cv n B) := fun W hb => hB.below hb
  obtain ⟨wa, hwa⟩ : ∃ wa, wa = w.alloc (.cells #[.int .i64 0, .slice none 0 0] 26) := ⟨_, rfl⟩
  have hba : Below w.heap.size w wa := by rw [hwa]; exact (Below.refl _ _).alloc (Nat.le_refl _) _
  have hF := sFrom_c cv n B wa (HB.out _ hba)
  rw [hwa] at hF
  have HF := Lib.hid hF
  have HWA := Lib.hid hwa
  have HBA := Lib.hid hba
  obtain ⟨ao, c0, _, _, rfl, qq⟩ := hB.out
  clear hwa hF hB hba qq
  go_enter Try.func36, Try.ntmps36
  go_wp2_with fail
  refine HF.out.mono ?_
  rintro e w1 ⟨g, rfl, hg, hb1, hs1⟩
  rw [← HWA.out] at hg hb1
  have hbw1 : Hid (Below w.heap.size w w1) := HBA.out.trans (hb1.mono HBA.out.size)
  have HP := Lib.hid (sSpoilSp_c g n _ B w1 hs1 (fun W hc => HB.out W (hbw1.out.trans (hc.below hbw1.out.size (fun k e => by have e : k = g := e; have := HBA.out.size; omega)))))
  have HG := Lib.hid hg
  have HB1 := Lib.hid hb1
  have HS1 := Lib.hid hs1
  clear HF hg hb1 hs1
  go_wp2_with fail
  refine HP.out.mono ?_
  rintro e w2 ⟨P, a, c, m, s, rfl, hm, hP, hL, hd⟩
  obtain ⟨wb, hwb⟩ : ∃ wb, wb = w2.alloc (.cells #[.int .i64 P, .slice a m c] 26) := ⟨_, rfl⟩
  have hDK := dk_start (P := P) HWA.out HB1.out HG.out HS1.out hL hd hwb
  have HD : Hid (DK w (w2.alloc (.cells #[.int .i64 P, .slice a m c] 26)).drew g (.slice ao n c0) n w2.heap.size P a c m s) := by rw [← hwb]; exact hDK.kept (drewB wb)
  have b0 := HD.out.box.cell (show 0 < 2 by omega)
  have b1 := HD.out.box.cell (show 1 < 2 by omega)
  have r0 := HD.out.res.cell (show 0 < 2 by omega)
  have r1 := HD.out.res.cell (show 1 < 2 by omega)
  simp only [if_pos, if_neg (show ¬ (1 : Nat) = 0 by omega)] at b0 b1 r0 r1
  have ho := HD.out.ord
  have CV : Hid (∀ W, DK w W g (.slice ao n c0) n w2.heap.size P a c m s → Calls Try.prog 97 #[.pointer (some ⟨g, 0, none⟩), dbl P (.slice a m c), .int .i64 3] W fun e w' => ∃ (g2 c2 G : Nat) (L : Nat → Nat) (T : Nat → Nat → Int), e = .returned (.slice (some ⟨g2, 0, none⟩) G c2) ∧ DK w w' g (.slice ao n c0) n w2.heap.size P a c m s ∧ Hid (w.heap.size < W.heap.size ∧ G ≤ 17 ∧ (∀ i, i < G → L i ≤ 8) ∧ OTabH w' W.heap.size w'.heap.size g2 c2 G L T)) := fun W h =>
    (sDrawList_c g n _ B P _ m s W h.src (fun W' hc => HB.out W' (h.bel.trans (hc.below h.bel.size (fun k e => by have e : k = g := e; have := h.ord; omega)))) (fun W' hc => (h.lst.by hc fun k e => Or.inl (by have e : k = g := e; omega)).ints) hm hP).mono fun e w' hv => by
      obtain ⟨g2, c2, G, L, T, h1, h2, h3, h4, h5⟩ := hv.out
      exact ⟨g2, c2, G, L, T, h1, h.step h5, by have := h.ord; omega, h2, h3, h4⟩
  clear hwb hDK HP HS1 HB1 HG hd hL hbw1
  go_wp2
  go_region_law (first
    | (go_simp; go_at_call 97; refine (CV.out _ HD.out).mono ?_; rintro e w6 ⟨g2, c2, G, L, T, rfl, hD6, hT6⟩; have HD6 := Lib.hid hD6; have y0 := hD6.box.cell (show 0 < 2 by omega); have y1 := hD6.box.cell (show 1 < 2 by omega); have r0 := hD6.res.cell (show 0 < 2 by omega); have r1 := hD6.res.cell (show 1 < 2 by omega); have q0 := hD6.res.frozen 0; have q1 := hD6.res.frozen 1; simp only [if_pos, if_neg (show ¬ (1 : Nat) = 0 by omega)] at y0 y1 r0 r1; clear hD6))
  all_goals
    have hres := (HD6.out.res.set 0 (.int .i64 P)).set 1 (.slice a m c)
    have c0' := hres.cell (show 0 < 2 by omega)
    have c1' := hres.cell (show 1 < 2 by omega)
    simp at c0' c1'
    obtain ⟨u1, u2, u3⟩ := HD6.out.fin (.int .i64 P) (.slice a m c)
    obtain ⟨t1, t2, t3, t4⟩ := hT6.out
    have t5 := (t4.chg u1 (fun k e => Or.inl (by have e : k = w.heap.size := e; omega))).otab.tab
    have HFIN : Hid (DrawnO w ((w6.setCell ⟨w.heap.size, 0, none⟩ (.int .i64 P)).setCell ⟨w.heap.size, 1, none⟩ (.slice a m c)) (.returned (.tuple #[dbl P (.slice a m c), .slice (some ⟨g2, 0, none⟩) G c2]))) :=
      ⟨P, a, c, m, s, g2, c2, G, L, T, rfl, u2, u3, hm, t2, t3, t5⟩
    clear hres u1 u2 u3 t1 t2 t3 t4 t5 hT6
    go_wp2
    refine bodyPost_ret (v := .tuple #[.agg #[.int .i64 P, .slice a m c], .slice (some ⟨g2, 0, none⟩) G c2]) (by simp [results, Try.results36, go_sem, c0', c1']; try rfl) rfl ?_
    exact HFIN.out

end Go.Proofs.Ytnkflgigbielgaa

/-
  What the law on orthogonal vectors reads: regular spaces, discriminants and bases of lists; the sizes of the bases in plain form. No condition beside sizes.
-/
set_option linter.unusedVariables false
set_option linter.unusedSimpArgs false
namespace Go.Proofs.Ytnkflgigbielgaa
open Go.RowKit

/-! ### plain -/
theorem Spn.diag {p : Int} {n : Nat} {S S' : (Nat → Int) → Prop} (D : Nat → Int) (h0 : ∀ u, S u → Spn p n S' fun j => D j * u j) {v : Nat → Int} (h : Spn p n S v) : Spn p n S' fun j => D j * v j := by
  induction h with
  | nil v h =>
    refine .nil _ fun j hj => ?_
    have := (Cg.rfl' p (D j)).mul (h j hj)
    rw [Int.mul_zero] at this
    exact this
  | add u v w k hu hv h ih =>
    refine Spn.comb k ih (h0 u hu) fun j hj => ?_
    exact ((Cg.rfl' p (D j)).mul (h j hj)).trans (Cg.of_eq (by grind))
theorem wgh_rank {p : Int} (hp : primeB p = true) {s : Nat → Int} {n m : Nat} {T : Nat → Nat → Int} (hs : InP p n s) (hr : ∀ j, j < n → s j ≠ 0) (hT : RowsIn p m n T) : (bSt p m (wghT p s T) n).2 = (bSt p m T n).2 := by
  have hb := primeB_bd hp
  have h1 := bSt_of hp hT
  have h2 := bSt_of hp (wghT_in (p := p) (by omega) s T m n)
  obtain ⟨c1, hc1⟩ := h1.red
  obtain ⟨c2, hc2⟩ := h2.red
  have hI : ∀ j, j < n → (s j * invM p (s j)) % p = 1 := fun j hj => by
    have a := hs j hj
    have b := hr j hj
    exact (invM_spec hp (by omega) a.2).2.2
  have hsz : ∀ j, j < n → ¬ Cg p (s j) 0 := fun j hj e => hr j hj (e.eq0 (hs j hj))
  have hiz : ∀ j, j < n → ¬ Cg p (invM p (s j)) 0 := fun j hj e => by
    have h3 := (Cg.rfl' p (s j)).mul e
    rw [Int.mul_zero] at h3
    have h4 : (s j * invM p (s j)) % p = 0 % p := h3
    rw [hI j hj, Int.zero_emod] at h4
    exact absurd h4 (by decide)
  refine Nat.le_antisymm ?_ ?_
  · refine diag_count hp (D := fun j => invM p (s j)) hiz hc2 hc1 fun r hrr => ?_
    refine (Spn.diag (S' := RowS (bSt p m T n).2 (bSt p m T n).1) (fun j => invM p (s j)) (fun u hu => ?_) (h2.to r hrr))
    obtain ⟨i, hi, rfl⟩ := hu
    refine (h1.of (T i) ⟨i, hi, rfl⟩).congr fun j hj => ?_
    show Cg p (invM p (s j) * ((T i j * s j) % p)) (T i j)
    refine ((Cg.rfl' p (invM p (s j))).mul (Cg.mod p _)).trans ?_
    refine (Cg.of_eq (show invM p (s j) * (T i j * s j) = T i j * (s j * invM p (s j)) by grind)).trans ?_
    refine ((Cg.rfl' p (T i j)).mul (Cg.mod' p (s j * invM p (s j)))).trans ?_
    rw [hI j hj, Int.mul_one]; exact Cg.rfl' _ _
  · refine diag_count hp (D := s) hsz hc1 hc2 fun r hrr => ?_
    refine (Spn.diag (S' := RowS (bSt p m (wghT p s T) n).2 (bSt p m (wghT p s T) n).1) s (fun u hu => ?_) (h1.to r hrr))
    obtain ⟨i, hi, rfl⟩ := hu
    refine (h2.of (wghT p s T i) ⟨i, hi, rfl⟩).congr fun j hj => ?_
    show Cg p (s j * T i j) ((T i j * s j) % p)
    rw [Int.mul_comm]; exact Cg.mod' _ _
/-- the rows of the orthogonal basis, and how many there are -/
theorem ort_facts {p : Int} {s : Nat → Int} {n m : Nat} {T : Nat → Nat → Int} (hok : SpOk p n s) (hT : RowsIn p m n T) :
    (∀ i, i < (ortS p n m s T).2 → InP p n ((ortS p n m s T).1 i) ∧ ∀ k, k < m → pairF p s n ((ortS p n m s T).1 i) (T k) = 0) ∧ (regB s n = true → (ortS p n m s T).2 + (bSt p m T n).2 = n) := by
  have hb := hok.bd
  have hp := hok.prime
  have hQ := bSt_of hp (wghT_in (p := p) (by omega) s T m n)
  obtain ⟨_, k2, c, hc⟩ := ker_of hp hQ
  refine ⟨fun i hi => ⟨fun j hj => hc.inp i hi j hj, fun k hk => ?_⟩, fun hr => ?_⟩
  · have h1 := k2 i hi _ ⟨k, hk, rfl⟩
    have h2 : (dotF n (wghT p s T k) ((kerS p n (bSt p m (wghT p s T) n)).1 i)) % p = 0 := h1.zero
    unfold pairF
    rw [← h2]
    unfold dotF
    refine sumF_mod fun j hj => ?_
    show (s j * (ortS p n m s T).1 i j * T k j) % p = ((T k j * s j) % p * (kerS p n (bSt p m (wghT p s T) n)).1 i j) % p
    rw [mod_mul_mod]
    show (s j * (kerS p n (bSt p m (wghT p s T) n)).1 i j * T k j) % p = _
    congr 1; grind
  · have h1 := ker_count hp hQ.red
    rw [wgh_rank hp hok.inp (regB_at hr) hT] at h1
    exact h1

/-! ### contracts at what is valid -/
theorem vIsRegular_c (p : Int) (sv : Value) (n : Nat) (s : Nat → Int) (w : World) (hok : spB p n s = true) (h : Ints w sv n s) :
    Calls Try.prog 39 #[dbl p sv] w fun e w' => Makes w w' e (.tuple #[.bool (regB s n), .int .i64 0]) := by
  have H := Lib.hid h
  obtain ⟨ao, c, b, o, rfl, p2, p3, qx⟩ := h.out
  have BX := Lib.hid (box0 w p ao n c 26)
  obtain ⟨e0, e1, e2, e3⟩ := BX.out
  have HOK := Lib.hid hok
  obtain ⟨q, hq⟩ : ∃ q, regB s n = q := ⟨_, rfl⟩
  have HR : Hid (∀ W, Below w.heap.size w W → Calls Try.prog 91 #[dbl p (.slice ao n c)] W fun e w' => Makes W w' e (.bool q)) := fun W hb => hq ▸ iReg_c p _ n s W (H.out.below hb)
  rw [hq]
  clear h qx hok hq
  go_enter Try.func39, Try.ntmps39
  go_wp2_with fail
  refine Calls.makes' (iIsSp_c p _ n s _ (H.out.below e3)) _ fun w1 hb1 => ?_
  rw [HOK.out]
  obtain ⟨f0, f1, f2, f3⟩ := boxKeep hb1 BX.out
  clear e0 e1 e2 e3
  go_wp2_with fail
  go_at_call 91
  refine Calls.makes' (HR.out _ f3) _ fun w2 hb2 => ?_
  have b4 := f3.trans (hb2.mono f3.size)
  go_wp2
  go_ret2
  exact ⟨rfl, b4⟩
theorem vDiscOf_c (p : Int) (sv : Value) (n : Nat) (s : Nat → Int) (w : World) (hok : spB p n s = true) (h : Ints w sv n s) :
    Calls Try.prog 40 #[dbl p sv] w fun e w' => Makes w w' e (.tuple #[.int .i64 (dF p s n), .int .i64 0]) := by
  have H := Lib.hid h
  have hsp := spB_ok hok
  obtain ⟨ao, c, b, o, rfl, p2, p3, qx⟩ := h.out
  have BX := Lib.hid (box0 w p ao n c 26)
  obtain ⟨e0, e1, e2, e3⟩ := BX.out
  have HOK := Lib.hid hok
  obtain ⟨d, hd⟩ : ∃ d, dF p s n = d := ⟨_, rfl⟩
  have HR : Hid (∀ W, Below w.heap.size w W → Calls Try.prog 94 #[dbl p (.slice ao n c)] W fun e w' => Makes W w' e (.int .i64 d)) := fun W hb => hd ▸ iDiscS_c p _ n s W ⟨H.out.below hb, hsp⟩
  rw [hd]
  clear h qx hok hd hsp
  go_enter Try.func40, Try.ntmps40
  go_wp2_with fail
  refine Calls.makes' (iIsSp_c p _ n s _ (H.out.below e3)) _ fun w1 hb1 => ?_
  rw [HOK.out]
  obtain ⟨f0, f1, f2, f3⟩ := boxKeep hb1 BX.out
  clear e0 e1 e2 e3
  go_wp2_with fail
  go_at_call 94
  refine Calls.makes' (HR.out _ f3) _ fun w2 hb2 => ?_
  have b4 := f3.trans (hb2.mono f3.size)
  go_wp2
  go_ret2
  exact ⟨rfl, b4⟩

set_option maxRecDepth 100000 in
set_option maxHeartbeats 2000000 in
theorem vIsTable_c (p : Int) (v : Value) (G n : Nat) (T : Nat → Nat → Int) (w : World) (hp : 3 ≤ p ∧ p ≤ 13) (hl : Tab w v G (fun _ => n) T) (hT : RowsIn p G n T) (hn : 1 ≤ n ∧ n ≤ 16) (hG : G ≤ 16) :
    Calls Try.prog 101 #[.int .i64 p, v] w fun e w' => Makes w w' e (.bool true) := by
  obtain ⟨ao, c, b, o, A, C, RB, RO, rfl, q2, q3, q4, q5, q6, q7, q8⟩ := hl.out
  have HR : Hid (∀ i W, i < G → Below w.heap.size w W → Calls Try.prog 72 #[.int .i64 p, .slice (A i) n (C i)] W fun e w' => e = .returned (.bool true) ∧ W = w') := fun i W hi hb => by
    have h1 := iIs_c p (.slice (A i) n (C i)) n (T i) W ((Tab.rowAt (L := fun _ => n) q6 q7 q8 hi).below hb) (by omega) (by omega)
    rw [show inPB 0 p n (T i) = true from inPB_true fun j hj => decide_eq_true (by have := hT i hi j hj; omega)] at h1
    exact h1
  have HC : Hid (∀ i W, i < G → Below w.heap.size w W → W.cell? ⟨b, o + i, none⟩ = some (.slice (A i) n (C i))) := fun i W hi hb => by rw [hb.cell (p := ⟨b, o + i, none⟩) (lt_of_cell (q5 i hi))]; exact q5 i hi
  have hG2 : ¬ (16 : Int) < (G : Int) := by omega
  have hn1 : ¬ (n : Int) < 1 := by omega
  have hn2 : ¬ (16 : Int) < (n : Int) := by omega
  clear hl hT q5 q6 q7 q8
  go_enter Try.func101, Try.ntmps101
  go_wp2
  go_loopg [12] G (fun gg i wr => ∃ k : Nat, k ≤ G ∧ gg = G - k ∧ i = .int .i64 k ∧ Hid (Below w.heap.size w wr))
  case atStart => exact ⟨0, Nat.zero_le _, rfl, rfl, Below.refl _ _⟩
  case round =>
    obtain ⟨k, hk, rfl, rfl, hb⟩ := hrel
    by_cases hlt : k < G
    · obtain rfl := q4 (by omega)
      have z1 := HC.out k _ hlt hb.out
      have z0 := HC.out 0 _ (by omega) hb.out
      rw [Nat.add_zero] at z0
      have HRk := Lib.hid (fun W (hb2 : Below wr.heap.size wr W) => HR.out k W hlt (hb.out.trans (hb2.mono hb.out.size)))
      have i0 : (0 : Int) ≤ (k : Int) := by omega
      have i1 : (k : Int) < (G : Int) := by omega
      have i2 : (0 : Int) < (G : Int) := by omega
      go_wp2_with (go_at_call 72; refine (HRk.out _ (by first | exact Below.refl _ _ | exact below_drewN _ _)).mono ?_; rintro e w' ⟨rfl, rfl⟩)
      go_roundg (G - (k + 1))
      case measure => omega
      case rel => exact ⟨k + 1, by omega, rfl, by go_num, by first | exact hb.out | exact hb.out.trans ((below_drewN _ _).mono hb.out.size)⟩
    · obtain rfl : k = G := by omega
      go_wp2
      go_ret
      exact ⟨rfl, hb.out⟩

set_option maxRecDepth 100000 in
set_option maxHeartbeats 2000000 in
theorem vSpanBasis_c (p : Int) (v : Value) (G n : Nat) (T : Nat → Nat → Int) (w : World) (hp : primeB p = true) (hl : Tab w v G (fun _ => n) T) (hT : RowsIn p G n T) (hn : 1 ≤ n ∧ n ≤ 16) (hG : G ≤ 16) :
    Calls Try.prog 41 #[.int .i64 p, v] w fun e w' => ∃ g c, e = .returned (.tuple #[.slice (some ⟨g, 0, none⟩) (bSt p G T n).2 c, .int .i64 0]) ∧ Below w.heap.size w w' := by
  have hpb := primeB_bd hp
  have HP := Lib.hid (hp ▸ iPrime_c p w)
  have HT := Lib.hid (vIsTable_c p v G n T w hpb hl hT hn hG)
  have HB : Hid (∀ W, Below w.heap.size w W → Calls Try.prog 102 #[.int .i64 p, v] W fun e w' => CopyT W w' e (bSt p G T n).2 (fun _ => n) (bSt p G T n).1) := fun W hb => iBasis_c p v G n T W (hl.below hb) ⟨hn.1, by omega⟩ (by omega) hpb hT
  obtain ⟨Z, hZ⟩ : ∃ Z, bSt p G T n = Z := ⟨_, rfl⟩
  rw [hZ] at HB
  rw [hZ]
  obtain ⟨ao, c, b, o, A, C, RB, RO, rfl, q2, q3, qq⟩ := hl.out
  clear hl hT hZ qq hp
  go_enter Try.func41, Try.ntmps41
  go_wp2_with fail
  refine HP.out.mono ?_
  rintro e w' ⟨rfl, rfl⟩
  go_wp2_with fail
  go_at_call 101
  refine Calls.makes' HT.out _ fun w1 hb1 => ?_
  have HB1 := Lib.hid hb1
  clear hb1 HT HP
  go_wp2_with fail
  go_at_call 102
  refine (HB.out _ HB1.out).mono ?_
  rintro e w2 ⟨g, c2, rfl, hb2, _⟩
  have hf := HB1.out.trans (hb2.mono HB1.out.size)
  clear HB hb2
  go_wp2
  go_ret2
  exact ⟨g, c2, rfl, hf⟩

end Go.Proofs.Ytnkflgigbielgaa

/-
  The law on orthogonal vectors returns true. No condition.
-/
set_option linter.unusedVariables false
set_option linter.unusedSimpArgs false
namespace Go.Proofs.Ytnkflgigbielgaa
open Go.RowKit

/-- the rows of a table, while memory is made -/
theorem Tab.opened {w : World} {G : Nat} {L : Nat → Nat} {T : Nat → Nat → Int} {ao : Option Addr} {c : Nat} (h : Tab w (.slice ao G c) G L T) :
    ∃ (b o : Nat) (A : Nat → Option Addr) (C : Nat → Nat), (0 < G → ao = some ⟨b, o, none⟩) ∧ (G ≤ c ∧ c ≤ 9223372036854775807) ∧ ∀ W, Below w.heap.size w W → ∀ i, i < G → W.cell? ⟨b, o + i, none⟩ = some (.slice (A i) (L i) (C i)) ∧ b < w.heap.size ∧ Ints W (.slice (A i) (L i) (C i)) (L i) (T i) := by
  obtain ⟨ao', c', b, o, A, C, RB, RO, h1, h2, h3, h4, h5, h6, h7, h8⟩ := h.out
  injection h1 with e1 e2 e3
  subst e1
  subst e3
  refine ⟨b, o, A, C, h4, ⟨h2, h3⟩, fun W hb i hi => ⟨?_, lt_of_cell (h5 i hi), ?_⟩⟩
  · rw [hb.cell (p := ⟨b, o + i, none⟩) (lt_of_cell (h5 i hi))]; exact h5 i hi
  · exact (Tab.rowAt h6 h7 h8 hi).below hb
/-- the box of the space and a row of each table -/
def SR2 (W0 : World) (bd : Nat) (P : Int) (a : Option Addr) (m c b o : Nat) (r : Value) (b2 o2 : Nat) (r2 : Value) (W : World) : Prop :=
  W.cell? ⟨bd, 0, none⟩ = some (.int .i64 P) ∧ W.cell? ⟨bd, 1, none⟩ = some (.slice a m c) ∧ W.cell? ⟨b, o, none⟩ = some r ∧ W.cell? ⟨b2, o2, none⟩ = some r2 ∧ Below W0.heap.size W0 W
theorem sr2Keep {W0 W W' : World} {bd : Nat} {P : Int} {a : Option Addr} {m c b o : Nat} {r : Value} {b2 o2 : Nat} {r2 : Value} (hb : Below W.heap.size W W') (h : SR2 W0 bd P a m c b o r b2 o2 r2 W) : SR2 W0 bd P a m c b o r b2 o2 r2 W' :=
  ⟨cellKp hb h.1, cellKp hb h.2.1, cellKp hb h.2.2.1, cellKp hb h.2.2.2.1, h.2.2.2.2.trans (hb.mono h.2.2.2.2.size)⟩
theorem sr2Drew {W0 : World} {bd : Nat} {P : Int} {a : Option Addr} {m c b o : Nat} {r : Value} {b2 o2 : Nat} {r2 : Value} (h0 : W0.cell? ⟨bd, 0, none⟩ = some (.int .i64 P)) (h1 : W0.cell? ⟨bd, 1, none⟩ = some (.slice a m c)) (h2 : W0.cell? ⟨b, o, none⟩ = some r) (h3 : W0.cell? ⟨b2, o2, none⟩ = some r2) : SR2 W0 bd P a m c b o r b2 o2 r2 W0.drew :=
  sr2Keep (drewB W0) ⟨h0, h1, h2, h3, Below.refl _ _⟩
theorem sr2Below {W0 W : World} {bd : Nat} {P : Int} {a : Option Addr} {m c b o : Nat} {r : Value} {b2 o2 : Nat} {r2 : Value} (h : SR2 W0 bd P a m c b o r b2 o2 r2 W) : Below W0.heap.size W0 W := h.2.2.2.2

theorem or_o (P : Int) (m : Nat) (s : Nat → Int) (G : Nat) (L : Nat → Nat) (T : Nat → Nat → Int) :
    ∃ (cc : Int) (M : Nat) (R : Nat → Nat → Int), (cc ≠ 0 ∨ (cc = 0 ∧ spB P m s = true ∧ (∀ i, i < G → L i = m ∧ InP P m (T i)) ∧ G ≤ 16 ∧ (∀ i, i < M → InP P m (R i) ∧ ∀ k, k < G → pairF P s m (R i) (T k) = 0) ∧ (dF P s m != 0) = regB s m ∧ (regB s m = true → M + (bSt P G T m).2 = m))) ∧
    (∀ (W : World) (v l : Value), Ints W v m s → Tab W l G L T → Calls Try.prog 38 #[dbl P v, l] W fun e w' => ResT W w' e cc M (fun _ => m) R) ∧
    (∀ (W : World) (v l : Value), Ints W v m s → Tab W l G L T → Calls Try.prog 37 #[dbl P v, l] W fun e w' => ResT W w' e cc M (fun _ => m) R) := by
  refine ⟨codeSl (spB P m s) P m G L T, if codeSl (spB P m s) P m G L T = 0 then (ortS P m G s T).2 else 0, (ortS P m G s T).1, ?_,
    fun W v l h hl => (sOrthogonalTo_c P v l m G s L T W h hl).mono fun _ _ h => h.toT, fun W v l h hl => (iOrthogonalTo_c P v l m G s L T W h hl).mono fun _ _ h => h.toT⟩
  by_cases h0 : codeSl (spB P m s) P m G L T = 0
  · obtain ⟨hok, hv, hG⟩ := codeSl_zero h0
    have hsp := spB_ok hok
    have hv2 : ∀ i, i < G → L i = m ∧ InP P m (T i) := fun i hi => by
      have h1 := hv i hi
      unfold vecB at h1
      simp only [Bool.and_eq_true, decide_eq_true_eq, beq_iff_eq] at h1
      exact ⟨by first | exact h1.1 | (have := h1.1; omega), inPB_ok (by first | exact h1.2 | (have h2 := h1.2; rw [show L i = m by first | exact h1.1 | (have := h1.1; omega)] at h2; exact h2))⟩
    obtain ⟨g1, g2⟩ := ort_facts (m := G) (T := T) hsp (fun i hi => (hv2 i hi).2)
    rw [if_pos h0]
    refine Or.inr ⟨h0, hok, hv2, hG, g1, ?_, g2⟩
    have h1 := disc_reg hsp.prime hsp.inp
    unfold regB
    rw [← h1]; rfl
  · exact Or.inl h0

set_option maxRecDepth 100000 in
set_option maxHeartbeats 8000000 in
theorem lawOrthogonals_c (cv : Value) (n : Nat) (B : Nat → Int) (w : World) (hB : Byt w cv n B) :
    Calls Try.prog 6 #[cv] w fun e w' => Law w w' e := by
  by_cases hbig : 4096 < n
  · have hb := Lib.hid (big_c cv n B w hB)
    obtain ⟨ao, c0, _, _, rfl, qq⟩ := hB.out
    clear hB qq
    go_enter Try.func6, Try.ntmps6
    go_wp2_with fail
    refine hb.out.mono ?_
    rintro e w1 ⟨rfl, rfl⟩
    rw [show decide (4096 < n) = true from decide_eq_true hbig]
    go_wp2
    go_ret
    exact ⟨rfl, Below.refl _ _⟩
  · have hb := Lib.hid (big_c cv n B w hB)
    have hD := Lib.hid (sDrawOrthogonalTo_c cv n B w hB)
    have HB : Hid (∀ W, Below w.heap.size w W → Byt W cv n B) := fun W hb => hB.below hb
    obtain ⟨ao, c0, _, _, rfl, qq⟩ := hB.out
    clear hB qq
    go_enter Try.func6, Try.ntmps6
    go_wp2_with fail
    refine hb.out.mono ?_
    rintro e w1 ⟨rfl, rfl⟩
    rw [show decide (4096 < n) = false from decide_eq_false hbig]
    go_wp2_with fail
    refine hD.out.mono ?_
    rintro e w2 ⟨P, a, c, m, s, g2, c2, G, L, T, rfl, hb2, hs2, hm7, hG17, hLb, hT2⟩
    have hs2 := hs2.ints
    have hp2 := Lib.hid hb2
    obtain ⟨cc, M, R, hcs0, k1, k2⟩ := or_o P m s G L T
    have hcs := Lib.hid hcs0
    have K1 := Lib.hid k1
    have K2 := Lib.hid k2
    have id : Hid (∀ W, Below w2.heap.size w2 W → Ints W (.slice a m c) m s) := fun W hb => hs2.below hb
    have il : Hid (∀ W, Below w2.heap.size w2 W → Tab W (.slice (some ⟨g2, 0, none⟩) G c2) G L T) := fun W hb => hT2.below hb
    obtain ⟨tb2, to2, LA, LC, hg2, hGc, hTO2⟩ := Tab.opened hT2
    have HTO2 := Lib.hid hTO2
    have HG2 := Lib.hid hg2
    obtain ⟨f0, f1, _, bb⟩ := box0 w2 P a m c 26
    have hl := hp2.out.size
    clear k1 k2 hs2 hb hD hb2 hT2 hcs0 hLb hTO2 hg2
    go_wp2_with fail
    go_at_call 37
    refine (K2.out _ _ _ (id.out _ bb) (il.out _ bb)).mono ?_
    rintro e w3 ⟨a3, c3, rfl, hb3, o3⟩
    replace f0 := cellKp hb3 f0
    replace f1 := cellKp hb3 f1
    have bb := bb.trans (hb3.mono bb.size)
    have hX := Lib.hid o3.tab
    clear o3 hb3
    go_wp2_with fail
    go_at_call 38
    refine (K1.out _ _ _ (id.out _ bb) (il.out _ bb)).mono ?_
    rintro e w4 ⟨a4, c4, rfl, hb4, o4⟩
    replace f0 := cellKp hb4 f0
    replace f1 := cellKp hb4 f1
    have bb := bb.trans (hb4.mono bb.size)
    replace hX := Lib.hid (hX.out.below hb4)
    have hY := Lib.hid o4.tab
    clear o4 hb4
    go_wp2_with fail
    go_at_call 23
    refine Calls.reads' (wr := w) (likeRows5_c _ _ _ _ _ _ _ _ _ hX.out hY.out) _ fun q5 => ?_
    rw [eqTB_refl]
    clear hY
    replace f0 := cellKp (below_drewN _ q5) f0
    replace f1 := cellKp (below_drewN _ q5) f1
    have bb := bb.trans ((below_drewN _ q5).mono bb.size)
    replace hX := Lib.hid (hX.out.below (below_drewN _ q5))
    clear K1 K2
    have hcs2 := hcs.out
    clear hcs
    have hfin0 := Lib.hid (hp2.out.trans (bb.mono hp2.out.size))
    rcases hcs2 with hcc | ⟨rfl, hok, hv, hG, hrow, hreg, hsum⟩
    · have hcc' : (cc != 0) = true := by simpa using hcc
      clear hcc id hp2 bb il hX f0 f1 HTO2 HG2
      go_wp2
      go_ret
      exact ⟨rfl, hfin0.out⟩
    have hsp := spB_ok hok
    have hpb := hsp.bd
    have hm1 := hsp.n1
    have hn6 := hsp.n6
    have hpr := Lib.hid hsp.prime
    have HOK := Lib.hid hok
    have HV := Lib.hid hv
    have HRW := Lib.hid hrow
    obtain ⟨q, hq⟩ : ∃ q, regB s m = q := ⟨_, rfl⟩
    obtain ⟨dd, hdd⟩ : ∃ d, dF P s m = d := ⟨_, rfl⟩
    obtain ⟨D, hDD⟩ : ∃ D, (bSt P G T m).2 = D := ⟨_, rfl⟩
    rw [hq, hdd] at hreg
    rw [hq, hDD] at hsum
    have HREG := Lib.hid hreg
    have HSUM := Lib.hid hsum
    obtain ⟨tb, tf, TA, TC, ha3, hMc, hTO⟩ := Tab.opened hX.out
    have HTO := Lib.hid hTO
    have HA3 := Lib.hid ha3
    obtain ⟨w6, hw6⟩ : ∃ W, (w4.drewN q5) = W := ⟨_, rfl⟩
    rw [hw6] at HTO bb f0 f1 hfin0
    try rw [hw6]
    have BB := Lib.hid bb
    have IDW : Hid (∀ W, Below w6.heap.size w6 W → Ints W (.slice a m c) m s) := fun W hb => id.out W (BB.out.trans (hb.mono BB.out.size))
    have ILW : Hid (∀ W, Below w6.heap.size w6 W → Tab W (.slice (some ⟨g2, 0, none⟩) G c2) G L T) := fun W hb => il.out W (BB.out.trans (hb.mono BB.out.size))
    have RB : Hid (∀ W, Below w6.heap.size w6 W → ∀ i, i < M → W.cell? ⟨tb, tf + i, none⟩ = some (.slice (TA i) m (TC i)) ∧ Vc W (.slice (TA i) m (TC i)) P m (R i)) := fun W hb i hi => ⟨(HTO.out W hb i hi).1, (HTO.out W hb i hi).2.2, (HRW.out i hi).1⟩
    have RL : Hid (∀ W, Below w6.heap.size w6 W → ∀ i, i < G → W.cell? ⟨tb2, to2 + i, none⟩ = some (.slice (LA i) m (LC i)) ∧ Vc W (.slice (LA i) m (LC i)) P m (T i)) := fun W hb i hi => by
      have h := HTO2.out W (BB.out.trans (hb.mono BB.out.size)) i hi
      rw [(HV.out i hi).1] at h
      exact ⟨h.1, h.2.2, (HV.out i hi).2⟩
    have HPR : Hid (∀ W i k, i < M → k < G → Below w6.heap.size w6 W → Calls Try.prog 12 #[dbl P (.slice a m c), .slice (TA i) m (TC i), .slice (LA k) m (LC k)] W fun e w' => Makes W w' e (.tuple #[.int .i64 0, .int .i64 0])) := fun W i k hi hk hb => by
      have h1 := iPairOf_c P (.slice a m c) m s _ m (R i) _ m (T k) W (IDW.out W hb) (RB.out W hb i hi).2.ints (RL.out W hb k hk).2.ints
      rw [rC_one, prC_ok HOK.out (vecB_of (HRW.out i hi).1) (vecB_of (HV.out k hk).2), (HRW.out i hi).2 k hk] at h1
      exact h1
    have HIR : Hid (∀ W, Below w6.heap.size w6 W → Calls Try.prog 39 #[dbl P (.slice a m c)] W fun e w' => Makes W w' e (.tuple #[.bool q, .int .i64 0])) := fun W hb => hq ▸ vIsRegular_c P _ m s W HOK.out (IDW.out W hb)
    have HDO : Hid (∀ W, Below w6.heap.size w6 W → Calls Try.prog 40 #[dbl P (.slice a m c)] W fun e w' => Makes W w' e (.tuple #[.int .i64 dd, .int .i64 0])) := fun W hb => hdd ▸ vDiscOf_c P _ m s W HOK.out (IDW.out W hb)
    have HSB : Hid (∀ W, Below w6.heap.size w6 W → Calls Try.prog 41 #[.int .i64 P, .slice (some ⟨g2, 0, none⟩) G c2] W fun e w' => ∃ g c, e = .returned (.tuple #[.slice (some ⟨g, 0, none⟩) D c, .int .i64 0]) ∧ Below W.heap.size W w') := fun W hb => hDD ▸ vSpanBasis_c P _ G m T W hpr.out ((ILW.out W hb).sameL (fun i hi => (HV.out i hi).1)) (fun i hi => (HV.out i hi).2) ⟨hm1, by omega⟩ hG
    clear hsp hok hv hrow hq hdd hDD hreg hsum hX ha3 hTO hw6 HTO HTO2 id il HV HRW HOK hpr bb BB
    go_wp2
    go_loopg [9] M (fun gg iv wr => ∃ i : Nat, i ≤ M ∧ gg = M - i ∧ iv = .int .i64 i ∧ Hid (Below w6.heap.size w6 wr) ∧ wr.cell? ⟨w2.heap.size, 0, none⟩ = some (.int .i64 P) ∧ wr.cell? ⟨w2.heap.size, 1, none⟩ = some (.slice a m c))
    case atStart => exact ⟨0, by omega, rfl, rfl, Below.refl _ _, f0, f1⟩
    case round =>
      clear f0 f1
      obtain ⟨i, hiM, rfl, rfl, HB8, f0, f1⟩ := hrel
      by_cases hlt : i < M
      · have ha6 := HA3.out (by omega)
        subst ha6
        have hM2 : (i : Int) < (M : Int) := by omega
        go_wp2
        go_loopg [10] G (fun gg kv wr => ∃ k : Nat, k ≤ G ∧ gg = G - k ∧ kv = .int .i64 k ∧ Hid (Below w6.heap.size w6 wr) ∧ wr.cell? ⟨w2.heap.size, 0, none⟩ = some (.int .i64 P) ∧ wr.cell? ⟨w2.heap.size, 1, none⟩ = some (.slice a m c))
        case atStart => exact ⟨0, by omega, rfl, rfl, HB8.out, f0, f1⟩
        case round =>
          clear f0 f1 HB8
          obtain ⟨k, hkG, rfl, rfl, HB9, f0, f1⟩ := hrel
          by_cases hlt2 : k < G
          · have hg3 := HG2.out (by omega)
            injection hg3 with hg3
            injection hg3 with hg4 hg5
            subst hg4
            replace hg5 := hg5.symm
            subst hg5
            have t0 := (RB.out _ HB9.out i hlt).1
            have t1 := (RL.out _ HB9.out k hlt2).1
            have IPR := Lib.hid (fun W (hb : Below wr.heap.size wr W) => HPR.out W i k hlt hlt2 (HB9.out.trans (hb.mono HB9.out.size)))
            have i0 : (0 : Int) ≤ (k : Int) := by omega
            have i1 : (k : Int) < (G : Int) := by omega
            have i2 : (0 : Int) ≤ (i : Int) := by omega
            try rw [Nat.zero_add] at t1
            go_wp2
            go_region_held3 (fun W => W.cell? ⟨w2.heap.size, 0, none⟩ = some (.int .i64 P) ∧ W.cell? ⟨w2.heap.size, 1, none⟩ = some (.slice a m c) ∧ W.cell? ⟨tb, tf + i, none⟩ = some (.slice (TA i) m (TC i)) ∧ W.cell? ⟨g2, k, none⟩ = some (.slice (LA k) m (LC k)) ∧ Below wr.heap.size wr W)
              ((first | assumption | exact sr2Drew f0 f1 t0 t1 | exact sr2Keep (by assumption) (by assumption)))
              ((first
                | (go_at_call 12; refine Calls.makes' (IPR.out _ (sr2Below (by assumption))) _ fun v1 hv1 => ?_)))
            all_goals rename_i hHeld
            all_goals have HB10 := Lib.hid (HB9.out.trans (hHeld.2.2.2.2.mono HB9.out.size))
            all_goals have f0' := hHeld.1
            all_goals have f1' := hHeld.2.1
            all_goals clear hHeld
            all_goals go_wp2
            all_goals go_roundg (G - (k + 1))
            case measure => omega
            case rel => exact ⟨k + 1, by omega, rfl, by go_num, HB10.out, f0', f1'⟩
          · obtain rfl : k = G := by omega
            go_wp2
            go_roundg (M - (i + 1))
            case measure => omega
            case rel => exact ⟨i + 1, by omega, rfl, by go_num, HB9.out, f0, f1⟩
      · obtain rfl : i = M := by omega
        clear HPR RB RL HG2 HA3
        go_wp2_with fail
        go_at_call 39
        refine Calls.makes' (HIR.out _ HB8.out) _ fun w11 hb11 => ?_
        replace f0 := cellKp hb11 f0
        replace f1 := cellKp hb11 f1
        have HB11 := Lib.hid (HB8.out.trans (hb11.mono HB8.out.size))
        clear hb11 HIR HB8
        go_wp2_with fail
        go_at_call 40
        refine Calls.makes' (HDO.out _ HB11.out) _ fun w12 hb12 => ?_
        replace f0 := cellKp hb12 f0
        replace f1 := cellKp hb12 f1
        have HB12 := Lib.hid (HB11.out.trans (hb12.mono HB11.out.size))
        clear hb12 HDO HB11
        go_wp2_with fail
        go_at_call 41
        refine (HSB.out _ HB12.out).mono ?_
        rintro e w13 ⟨g13, c13, rfl, hb13⟩
        have hbf := HB12.out.trans (hb13.mono HB12.out.size)
        have hfin := Lib.hid (hfin0.out.trans (hbf.mono hfin0.out.size))
        replace f1 := cellKp hb13 f1
        have hreg := HREG.out
        have hsum := HSUM.out
        clear hb13 hbf HSB HB12 HREG HSUM f0
        cases q
        · clear hsum
          go_wp2
          go_ret
          exact ⟨rfl, hfin.out⟩
        · have hs2 := hsum rfl
          have hwr : IntKind.i64.wrap ((i : Int) + (D : Int)) = (m : Int) := wrap_as (by omega) (by omega)
          clear hsum hs2
          go_wp2
          go_ret
          exact ⟨rfl, hfin.out⟩

end Go.Proofs.Ytnkflgigbielgaa
