/-
  The draws of lists and vectors; what the laws on spaces compare and roll. No condition beside sizes.
-/
import Derived.Test.YtnkflgigbielgaaLC1
import Derived.Test.YtnkflgigbielgaaLS1
import Derived.Test.YtnkflgigbielgaaD31
set_option linter.unusedVariables false
set_option linter.unusedSimpArgs false
namespace Go.Proofs.Ytnkflgigbielgaa
open Go.RowKit

theorem Chg.fresh {w w' W : World} {S S2 : Nat → Prop} (h : Chg w w' S) (h2 : Chg w' W S2) (hS : ∀ k, S2 k → S k ∨ w.heap.size ≤ k) : Chg w W S :=
  ⟨h2.os.trans h.os, h2.tape.trans h.tape, h2.output.trans h.output, Nat.le_trans h.size h2.size, fun k hk hne => (h2.block k (by have := h.size; omega) (fun e => by
    rcases hS k e with h3 | h3
    · exact hne h3
    · omega)).trans (h.block k hk hne)⟩
theorem Chg.grownC {w w' : World} {g : Nat} (h : w.grownBy w' (some g)) : Chg w w' (· = g) := ⟨h.os, h.tape, h.output, h.size, fun k hk hne => h.block k hk (fun e => by injection e with e; exact hne e)⟩
theorem Chg.cellC {w W : World} {S : Nat → Prop} {b o : Nat} {v : Value} (h : Chg w W S) (hc : w.cell? ⟨b, o, none⟩ = some v) (hn : ¬ S b) : W.cell? ⟨b, o, none⟩ = some v := by
  rw [World.cell?_of_block (w := w) (a := ⟨b, o, none⟩) (h.block b (lt_of_cell hc) hn)]; exact hc
theorem Dce.by {w w' : World} {g : Nat} {cv : Value} {n : Nat} {S : Nat → Prop} (h : Dce w g cv n) (hc : Chg w w' S) (hd : ¬ S g) : Dce w' g cv n := by
  obtain ⟨k, x, h1, h2⟩ := h.out
  exact ⟨k, x, h1, hc.own h2 hd⟩

/-- a list of numbers that a call made, drawn below P -/
structure Rol (w w' : World) (e : Ending) (g : Nat) (cv : Value) (ln : Nat) (m : Nat) (P : Int) : Prop where
  out : ∃ g' c' X, e = .returned (.slice (some ⟨g', 0, none⟩) m c') ∧ w.heap.size ≤ g' ∧ Own w' 2 g' c' m (fun i => .int .i64 (X i)) ∧ InP P m X
  dce : Dce w' g cv ln
  chg : Chg w w' (· = g)

def RowI (w : World) (v : Value) (m : Nat) (X : Nat → Int) (lo hi : Nat) : Prop := ∀ W, Chg w W (fun b => b < lo ∨ hi ≤ b) → Ints W v m X
theorem RowI.step {w w' : World} {v : Value} {m : Nat} {X : Nat → Int} {lo hi : Nat} {S : Nat → Prop} (h : RowI w v m X lo hi) (hc : Chg w w' S) (hS : ∀ b, S b → b < lo ∨ hi ≤ b) : RowI w' v m X lo hi :=
  fun W hW => h W ((hc.mono hS).trans hW)
theorem RowI.hi {w : World} {v : Value} {m : Nat} {X : Nat → Int} {lo hi hi' : Nat} (h : RowI w v m X lo hi) (hh : hi ≤ hi') : RowI w v m X lo hi' := fun W hW => h W (hW.mono fun b e => by rcases e with e | e <;> omega)
theorem ints_from1 {w : World} {e : TypeId} {g c n : Nat} {X : Nat → Int} (h : Own w e g c n (fun i => .int .i64 (X i))) (hn : 1 ≤ n) : Ints w (.slice (some ⟨g, 1, none⟩) (n - 1) (c - 1)) (n - 1) (fun i => X (1 + i)) :=
  ⟨_, c - 1, g, 1, rfl, by have := h.le; omega, by have := h.max; omega, fun _ => rfl, fun i hi => h.cell (show 1 + i < n by omega)⟩

set_option maxHeartbeats 400000 in
theorem likeInts_c (v1 v2 : Value) (n m : Nat) (X Y : Nat → Int) (w : World) (h1 : Ints w v1 n X) (h2 : Ints w v2 m Y) :
    Calls Try.prog 34 #[v1, v2] w fun e w' => Reads w w' e (.bool (eqB n m X Y)) := by
  obtain ⟨ao, c, ab, aoff, rfl, p2, p3, p4, p5⟩ := h1.out
  obtain ⟨bo, d, bb, boff, rfl, r2, r3, r4, r5⟩ := h2.out
  clear h1 h2
  by_cases hnm : n = m
  · subst hnm
    go_enter Try.func34, Try.ntmps34
    go_wp2
    go_loopg [5] n (fun g i wr => ∃ k : Nat, k ≤ n ∧ g = n - k ∧ i = .int .i64 k ∧ (∃ q, wr = w.drewN q) ∧ ∀ j, j < k → X j = Y j)
    case atStart => exact ⟨0, Nat.zero_le _, rfl, rfl, ⟨0, rfl⟩, fun j hj => absurd hj (Nat.not_lt_zero _)⟩
    case round =>
      obtain ⟨k, hk, rfl, rfl, ⟨q, rfl⟩, hall⟩ := hrel
      have H := Lib.hid hall; clear hall
      by_cases hlt : k < n
      · obtain rfl := p4 (by omega)
        obtain rfl := r4 (by omega)
        go_wp2
        go_quiet (fail)
        go_wp2
        · have ht : (X k != Y k) = true := by assumption
          go_ret
          exact ⟨ret_bool (eqB_at hlt (by simpa using ht)).symm, by first | exact ⟨_, rfl⟩ | exact ⟨_, World.drewN_drewN _ _ _⟩⟩
        · have ht : (X k != Y k) = false := by assumption
          go_roundg (n - (k + 1))
          case measure => omega
          case rel => exact ⟨k + 1, by omega, rfl, by go_num, (by first | exact ⟨_, rfl⟩ | exact ⟨_, World.drewN_drewN _ _ _⟩), fun j hj => by
            by_cases e : j = k
            · subst e; simpa using ht
            · exact H.out j (by omega)⟩
      · obtain rfl : k = n := by omega
        go_wp2
        go_ret
        exact ⟨ret_bool (eqB_all H.out).symm, _, rfl⟩
  · have hd : ((n : Int) != (m : Int)) = true := by rw [bne_iff_ne]; omega
    go_enter Try.func34, Try.ntmps34
    go_wp2
    go_ret
    exact ⟨ret_bool (eqB_ne hnm).symm, 0, rfl⟩

set_option maxHeartbeats 400000 in
theorem likeRows5_c (v1 v2 : Value) (G H : Nat) (L M : Nat → Nat) (T U : Nat → Nat → Int) (w : World) (h1 : Tab w v1 G L T) (h2 : Tab w v2 H M U) :
    Calls Try.prog 23 #[v1, v2] w fun e w' => Reads w w' e (.bool (eqTB G H L M T U)) := by
  obtain ⟨ao, c, ab, aoff, A, C, RB, RO, rfl, p2, p3, p4, p5, p6, p7, p8⟩ := h1.out
  obtain ⟨bo, d, bb, boff, A', C', RB', RO', rfl, r2, r3, r4, r5, r6, r7, r8⟩ := h2.out
  clear h1 h2
  have hr1 : ∀ i, i < G → Ints w (.slice (A i) (L i) (C i)) (L i) (T i) := fun i hi => Tab.rowAt p6 p7 p8 hi
  have hr2 : ∀ i, i < H → Ints w (.slice (A' i) (M i) (C' i)) (M i) (U i) := fun i hi => Tab.rowAt r6 r7 r8 hi
  have H1 := Lib.hid hr1
  have H2 := Lib.hid hr2
  clear hr1 hr2 p6 p7 p8 r6 r7 r8
  by_cases hnm : G = H
  · subst hnm
    go_enter Try.func23, Try.ntmps23
    go_wp2
    go_loopg [5] G (fun g i wr => ∃ k : Nat, k ≤ G ∧ g = G - k ∧ i = .int .i64 k ∧ (∃ q, wr = w.drewN q) ∧ ∀ j, j < k → eqB (L j) (M j) (T j) (U j) = true)
    case atStart => exact ⟨0, Nat.zero_le _, rfl, rfl, ⟨0, rfl⟩, fun j hj => absurd hj (Nat.not_lt_zero _)⟩
    case round =>
      obtain ⟨k, hk, rfl, rfl, hq, hall⟩ := hrel
      have H := Lib.hid hall; clear hall
      have Hq := Lib.hid hq
      by_cases hlt : k < G
      · obtain rfl := p4 (by omega)
        obtain rfl := r4 (by omega)
        have e1 : wr.cell? ⟨ab, aoff + k, none⟩ = some (.slice (A k) (L k) (C k)) := by obtain ⟨q, rfl⟩ := hq; simpa using p5 k hlt
        have e2 : wr.cell? ⟨bb, boff + k, none⟩ = some (.slice (A' k) (M k) (C' k)) := by obtain ⟨q, rfl⟩ := hq; simpa using r5 k hlt
        have i1 : ∀ n, Ints (wr.drewN n) (.slice (A k) (L k) (C k)) (L k) (T k) := fun n => by obtain ⟨q, rfl⟩ := hq; exact ((H1.out k hlt).drewN q).drewN n
        have i2 : ∀ n, Ints (wr.drewN n) (.slice (A' k) (M k) (C' k)) (M k) (U k) := fun n => by obtain ⟨q, rfl⟩ := hq; exact ((H2.out k hlt).drewN q).drewN n
        have I1 := Lib.hid i1
        have I2 := Lib.hid i2
        clear i1 i2 p5 r5 hq
        go_wp2
        go_quiet ((go_at_call 34; exact Calls.reads (likeInts_c _ _ _ _ _ _ _ (I1.out _) (I2.out _))))
        cases hb : eqB (L k) (M k) (T k) (U k)
        · go_wp2
          go_ret
          exact ⟨ret_bool (eqTB_at hlt hb).symm, drewN_more Hq.out _⟩
        · go_wp2
          go_roundg (G - (k + 1))
          case measure => omega
          case rel => exact ⟨k + 1, by omega, rfl, by go_num, drewN_more Hq.out _, fun j hj => by
            by_cases e : j = k
            · subst e; exact hb
            · exact H.out j (by omega)⟩
      · obtain rfl : k = G := by omega
        go_wp2
        go_ret
        exact ⟨ret_bool (eqTB_all H.out).symm, Hq.out⟩
  · have hd : ((G : Int) != (H : Int)) = true := by rw [bne_iff_ne]; omega
    go_enter Try.func23, Try.ntmps23
    go_wp2
    go_ret
    exact ⟨ret_bool (eqTB_ne hnm).symm, 0, rfl⟩


theorem OI.lowH {w : World} {B B' U U' : Nat} {a : Option Addr} {c n : Nat} {X : Nat → Int} (h : OI w B U a c n X) (hB : B' ≤ B) (hU : U ≤ U') : OI w B' U' a c n X := by
  rcases h.out with h | ⟨q, h1, h2, hO⟩
  · exact ⟨Or.inl h⟩
  · exact ⟨Or.inr ⟨q, h1, ⟨by have := h2.1; omega, by have := h2.2; omega⟩, hO⟩⟩
theorem OI.row {w : World} {B U : Nat} {a : Option Addr} {c n : Nat} {X : Nat → Int} (h : OI w B U a c n X) : RowI w (.slice a n c) n X B U := fun W hc => (h.by hc fun k e => e).ints
theorem Drew.below {w w' : World} {g : Nat} {cv : Value} {n B : Nat} (h : Drew w w' g cv n) (hB : B ≤ w.heap.size) (hg : B ≤ g) : Below B w w' := h.chg.below hB (fun k e => by have e : k = g := e; omega)

theorem wrap_as {a b : Int} (h : a = b) (hb : -9223372036854775808 ≤ b ∧ b ≤ 9223372036854775807) : IntKind.i64.wrap a = b := by rw [h]; exact wrap_in' _ hb
/-- a list that is drawn -/
structure DrL (w w' : World) (e : Ending) (g : Nat) (cv : Value) (ln : Nat) (m : Nat) : Prop where
  out : ∃ (g' c : Nat) (X : Nat → Int), e = .returned (.slice (some ⟨g', 0, none⟩) m c) ∧ w.heap.size ≤ g' ∧ Own w' 2 g' c m (fun i => .int .i64 (X i))
  drw : Drew w w' g cv ln

set_option maxRecDepth 100000 in
set_option maxHeartbeats 4000000 in
theorem sList01_c (g ln : Nat) (cv : Value) (B : Nat → Int) (P : Int) (m : Nat) (w : World) (hs : Src w g cv ln) (hB : ∀ W, Chg w W (· = g) → Byt W cv ln B) (hm : m ≤ 64) (hP : -1000 ≤ P ∧ P ≤ 1000) :
    Calls Try.prog 155 #[.pointer (some ⟨g, 0, none⟩), .int .i64 P, .int .i64 m] w fun e w' => DrL w w' e g cv ln m := by
  have HB := Lib.hid hB
  have hgl := hs.lt
  have hba : Below w.heap.size w (w.alloc (.cells #[] 2)) := (Below.refl _ _).alloc (Nat.le_refl _) _
  have HS := Lib.hid (hs.kept hba)
  have HC := Lib.hid (Chg.of_below hba (· = g))
  have HO := Lib.hid (Own.empty w 2 (fun i => .int .i64 ((fun _ => 0) i)))
  clear hs hB hba
  go_enter Try.func155, Try.ntmps155
  go_wp2
  go_loopg [2, 7] m (fun gg nv o wr => ∃ k : Nat, k ≤ m ∧ gg = m - k ∧ nv = .int .i64 ((m : Int) - (k : Int)) ∧ Hid (Src wr g cv ln) ∧ Hid (Chg w wr (· = g)) ∧ ∃ (g' c' : Nat) (X : Nat → Int), o = .slice (some ⟨g', 0, none⟩) k c' ∧ w.heap.size ≤ g' ∧ Own wr 2 g' c' k (fun i => .int .i64 (X i)))
  case atStart => exact ⟨0, Nat.zero_le _, rfl, by simp, HS.out, HC.out, _, _, _, rfl, Nat.le_refl _, HO.out⟩
  case round =>
    obtain ⟨k, hk, rfl, rfl, hD, hC, g', c', X, rfl, hg', hO⟩ := hrel
    clear HS HC HO
    by_cases hlt : k < m
    · have h1 : (0 : Int) < (m : Int) - (k : Int) := by omega
      have hwk : IntKind.i64.wrap ((m : Int) - (k : Int) - 1) = (m : Int) - ((k + 1 : Nat) : Int) := wrap_as (by omega) (by omega)
      have hN := Lib.hid (sNext_c g ln cv B P wr hD.out (HB.out _ hC.out) (by omega))
      go_wp2_with fail
      refine hN.out.mono ?_
      rintro e w2 ⟨y, rfl, _, _, hr2⟩
      have hV := hr2.chg.own hO (by show ¬ g' = g; omega)
      have hC2 := Lib.hid (hC.out.trans hr2.chg)
      have hD2 := Lib.hid hr2.src
      clear hr2 hN hC hD hO
      go_wp2_with (at_builtin; refine wpList_push _ rfl _ _ _ _ elI rfl hV (.int .i64 y) rfl rfl rfl (by omega) (by omega) ?_; intro g3 c3 w4 hO4 hg4 hgr4)
      go_roundg (m - (k + 1))
      case measure => omega
      case rel =>
        have hc3 := Chg.grownC hgr4
        have hsz := hC2.out.size
        exact ⟨k + 1, by omega, rfl, rfl, hD2.out.by hc3 (by omega), hC2.out.fresh hc3 (fun j e => Or.inr (by have e : j = g' := e; omega)), g3, c3, fun j => if j = k then y else X j, rfl, by omega, hO4.congr fun j hj => by by_cases e : j = k <;> simp [e]⟩
    · obtain rfl : k = m := by omega
      have h1 : ¬ (0 : Int) < (k : Int) - (k : Int) := by omega
      go_wp2
      go_ret
      exact ⟨⟨g', c', X, rfl, hg', hO⟩, hD.out, hC.out⟩

/-- a vector that is drawn -/
structure DrV (w w' : World) (e : Ending) (g : Nat) (cv : Value) (ln : Nat) : Prop where
  out : ∃ (g' c m : Nat) (X : Nat → Int), e = .returned (.slice (some ⟨g', 0, none⟩) m c) ∧ m ≤ 8 ∧ w.heap.size ≤ g' ∧ Own w' 2 g' c m (fun i => .int .i64 (X i))
  drw : Drew w w' g cv ln

set_option maxRecDepth 100000 in
set_option maxHeartbeats 4000000 in
theorem sVector02_c (g ln : Nat) (cv : Value) (B : Nat → Int) (P : Int) (m : Nat) (w : World) (hs : Src w g cv ln) (hB : ∀ W, Chg w W (· = g) → Byt W cv ln B) (hm : m ≤ 7) (hP : 0 ≤ P ∧ P ≤ 17) :
    Calls Try.prog 125 #[.pointer (some ⟨g, 0, none⟩), .int .i64 P, .int .i64 m] w fun e w' => DrV w w' e g cv ln := by
  have HB := Lib.hid hB
  have hgl := hs.lt
  by_cases hP0 : P < 1
  · have hL := sList01_c g ln cv B 3 m w hs hB (by omega) (by omega)
    have HL := Lib.hid hL
    have HH := Lib.hid hs
    clear hL
    go_enter Try.func125, Try.ntmps125
    go_wp2_with fail
    refine HL.out.mono ?_
    rintro e w1 ⟨⟨g', c', X, rfl, hg', hO⟩, hd⟩
    have hN := Lib.hid (sNext_c g ln cv B 24 w1 hd.src (HB.out _ hd.chg) (by omega))
    have HO := Lib.hid hO
    have HD := Lib.hid hd
    have hl1 := hO.lt
    clear HL hO hd
    go_wp2_with fail
    refine hN.out.mono ?_
    rintro e w2 ⟨x, rfl, hx, _, hd2⟩
    have hO2 := hd2.chg.own HO.out (by show ¬ g' = g; omega)
    have HD2 : Hid (Drew w w2 g cv ln) := ⟨hd2.src, HD.out.chg.trans hd2.chg⟩
    have hl2 := hO2.lt
    have hcs := HD.out.chg.size
    clear hN HO hd2 HD
    by_cases hx0 : x = 0
    · subst hx0
      go_wp2_with (at_builtin; refine wpList_push _ rfl _ _ _ _ elI rfl hO2 (.int .i64 0) rfl rfl rfl (by omega) (by omega) ?_; intro g3 c3 w4 hO4 hg4 hgr4)
      have hc3 := Chg.grownC hgr4
      have hsz := HD2.out.chg.size
      go_wp2
      go_ret
      exact ⟨⟨g3, c3, m + 1, fun j => if j = m then 0 else X j, rfl, by omega, by omega, hO4.congr fun j hj => by by_cases e : j = m <;> simp [e]⟩, HD2.out.src.by hc3 (by omega), HD2.out.chg.fresh hc3 (fun j e => Or.inr (by have e : j = g' := e; omega))⟩
    · by_cases hx1 : x = 1
      · subst hx1
        by_cases hm0 : 0 < m
        · have h1 : (0 : Int) < (m : Int) := by omega
          have hbc : Below w2.heap.size w2 (w2.alloc (.cells #[.int .i64 (-1), .int .i64 3] 2)) := (Below.refl _ _).alloc (Nat.le_refl _) _
          have h4 : Own (w2.alloc (.cells #[.int .i64 (-1), .int .i64 3] 2)) 2 w2.heap.size 2 2 (fun i => .int .i64 (if i = 0 then -1 else 3)) := ints2 w2 _ _ _
          have hp7 : Hid (Calls Try.prog 76 #[.pointer (some ⟨g, 0, none⟩), .slice (some ⟨w2.heap.size, 0, none⟩) 2 2] (w2.alloc (.cells #[.int .i64 (-1), .int .i64 3] 2)) fun e w' => ∃ y : Int, e = .returned (.int .i64 y) ∧ Drew w w' g cv ln ∧ Own w' 2 g' c' m (fun i => .int .i64 (X i))) := by
            have hg2 := HD2.out.src.lt
            refine (sPick_c g ln cv _ B _ 2 _ (HD2.out.src.kept hbc) (HB.out _ (HD2.out.chg.trans (Chg.of_below hbc _))) (fun W hc => h4.chgInts hc (by omega)) (by omega)).mono fun e w' h => ?_
            obtain ⟨j, hj, he, hd⟩ := h
            exact ⟨_, he, ⟨hd.src, (HD2.out.chg.trans (Chg.of_below hbc _)).trans hd.chg⟩, hd.chg.own (hO2.kept hbc) (by show ¬ g' = g; omega)⟩
          clear hbc h4 hO2
          go_wp2_with fail
          refine hp7.out.mono ?_
          rintro e w5 ⟨y, rfl, hd5, hO5⟩
          have z5 := hO5.cell (show 0 < m by omega)
          have zf5 := hO5.frozen 0
          have HD5 := Lib.hid hd5
          have HO5 := Lib.hid hO5
          clear hd5 hp7 HD2
          go_wp2
          go_ret
          have hc5 : Chg w5 (w5.setCell ⟨g', 0, none⟩ (.int .i64 y)) (· = g') := (Chg.refl w5 (· = g')).setCell (a := ⟨g', 0, none⟩) rfl (.int .i64 y)
          exact ⟨⟨g', c', m, fun j => if j = 0 then y else X j, rfl, by omega, hg', (HO5.out.set 0 (.int .i64 y)).congr fun i hi => by by_cases e : i = 0 <;> simp [e]⟩, HD5.out.src.by hc5 (by show ¬ g = g'; omega), HD5.out.chg.fresh hc5 (fun j e => Or.inr (by have e : j = g' := e; omega))⟩
        · have h1 : ¬ (0 : Int) < (m : Int) := by omega
          go_wp2
          go_ret
          exact ⟨⟨g', c', m, X, rfl, by omega, hg', hO2⟩, HD2.out⟩
      · have hx2 : ¬ x = 1 := hx1
        go_wp2
        go_ret
        exact ⟨⟨g', c', m, X, rfl, by omega, hg', hO2⟩, HD2.out⟩
  · have hL := sList01_c g ln cv B P m w hs hB (by omega) (by omega)
    have hP1 : ¬ P < 1 := hP0
    have HL := Lib.hid hL
    have HH := Lib.hid hs
    clear hL
    go_enter Try.func125, Try.ntmps125
    go_wp2_with fail
    refine HL.out.mono ?_
    rintro e w1 ⟨⟨g', c', X, rfl, hg', hO⟩, hd⟩
    have hN := Lib.hid (sNext_c g ln cv B 24 w1 hd.src (HB.out _ hd.chg) (by omega))
    have HO := Lib.hid hO
    have HD := Lib.hid hd
    have hl1 := hO.lt
    clear HL hO hd
    go_wp2_with fail
    refine hN.out.mono ?_
    rintro e w2 ⟨x, rfl, hx, _, hd2⟩
    have hO2 := hd2.chg.own HO.out (by show ¬ g' = g; omega)
    have HD2 : Hid (Drew w w2 g cv ln) := ⟨hd2.src, HD.out.chg.trans hd2.chg⟩
    have hl2 := hO2.lt
    have hcs := HD.out.chg.size
    clear hN HO hd2 HD
    by_cases hx0 : x = 0
    · subst hx0
      go_wp2_with (at_builtin; refine wpList_push _ rfl _ _ _ _ elI rfl hO2 (.int .i64 0) rfl rfl rfl (by omega) (by omega) ?_; intro g3 c3 w4 hO4 hg4 hgr4)
      have hc3 := Chg.grownC hgr4
      have hsz := HD2.out.chg.size
      go_wp2
      go_ret
      exact ⟨⟨g3, c3, m + 1, fun j => if j = m then 0 else X j, rfl, by omega, by omega, hO4.congr fun j hj => by by_cases e : j = m <;> simp [e]⟩, HD2.out.src.by hc3 (by omega), HD2.out.chg.fresh hc3 (fun j e => Or.inr (by have e : j = g' := e; omega))⟩
    · by_cases hx1 : x = 1
      · subst hx1
        by_cases hm0 : 0 < m
        · have h1 : (0 : Int) < (m : Int) := by omega
          have hbc : Below w2.heap.size w2 (w2.alloc (.cells #[.int .i64 (-1), .int .i64 P] 2)) := (Below.refl _ _).alloc (Nat.le_refl _) _
          have h4 : Own (w2.alloc (.cells #[.int .i64 (-1), .int .i64 P] 2)) 2 w2.heap.size 2 2 (fun i => .int .i64 (if i = 0 then -1 else P)) := ints2 w2 _ _ _
          have hp7 : Hid (Calls Try.prog 76 #[.pointer (some ⟨g, 0, none⟩), .slice (some ⟨w2.heap.size, 0, none⟩) 2 2] (w2.alloc (.cells #[.int .i64 (-1), .int .i64 P] 2)) fun e w' => ∃ y : Int, e = .returned (.int .i64 y) ∧ Drew w w' g cv ln ∧ Own w' 2 g' c' m (fun i => .int .i64 (X i))) := by
            have hg2 := HD2.out.src.lt
            refine (sPick_c g ln cv _ B _ 2 _ (HD2.out.src.kept hbc) (HB.out _ (HD2.out.chg.trans (Chg.of_below hbc _))) (fun W hc => h4.chgInts hc (by omega)) (by omega)).mono fun e w' h => ?_
            obtain ⟨j, hj, he, hd⟩ := h
            exact ⟨_, he, ⟨hd.src, (HD2.out.chg.trans (Chg.of_below hbc _)).trans hd.chg⟩, hd.chg.own (hO2.kept hbc) (by show ¬ g' = g; omega)⟩
          clear hbc h4 hO2
          go_wp2_with fail
          refine hp7.out.mono ?_
          rintro e w5 ⟨y, rfl, hd5, hO5⟩
          have z5 := hO5.cell (show 0 < m by omega)
          have zf5 := hO5.frozen 0
          have HD5 := Lib.hid hd5
          have HO5 := Lib.hid hO5
          clear hd5 hp7 HD2
          go_wp2
          go_ret
          have hc5 : Chg w5 (w5.setCell ⟨g', 0, none⟩ (.int .i64 y)) (· = g') := (Chg.refl w5 (· = g')).setCell (a := ⟨g', 0, none⟩) rfl (.int .i64 y)
          exact ⟨⟨g', c', m, fun j => if j = 0 then y else X j, rfl, by omega, hg', (HO5.out.set 0 (.int .i64 y)).congr fun i hi => by by_cases e : i = 0 <;> simp [e]⟩, HD5.out.src.by hc5 (by show ¬ g = g'; omega), HD5.out.chg.fresh hc5 (fun j e => Or.inr (by have e : j = g' := e; omega))⟩
        · have h1 : ¬ (0 : Int) < (m : Int) := by omega
          go_wp2
          go_ret
          exact ⟨⟨g', c', m, X, rfl, by omega, hg', hO2⟩, HD2.out⟩
      · have hx2 : ¬ x = 1 := hx1
        go_wp2
        go_ret
        exact ⟨⟨g', c', m, X, rfl, by omega, hg', hO2⟩, HD2.out⟩

set_option maxRecDepth 100000 in
set_option maxHeartbeats 4000000 in
theorem sDrawVec_c (g ln : Nat) (cv : Value) (B : Nat → Int) (P : Int) (sv : Value) (n : Nat) (s : Nat → Int) (w : World) (hs : Src w g cv ln) (hB : ∀ W, Chg w W (· = g) → Byt W cv ln B) (hd : Ints w sv n s) (hn : n ≤ 7) (hP : 0 ≤ P ∧ P ≤ 17) :
    Calls Try.prog 62 #[.pointer (some ⟨g, 0, none⟩), dbl P sv] w fun e w' => DrV w w' e g cv ln := by
  obtain ⟨ao, c, _, _, rfl, qq⟩ := hd.out
  clear hd qq
  have BX := box0 w P ao n c 26
  obtain ⟨e0, e1, e2, e3⟩ := BX
  have HL := Lib.hid (sVector02_c g ln cv B P n _ (hs.kept e3) (fun W hc => hB W ((Chg.of_below e3 _).trans hc)) hn hP)
  have hsz := e3.size
  have E3 := Lib.hid e3
  clear hs hB e3
  go_enter Try.func62, Try.ntmps62
  go_wp2_with fail
  refine HL.out.mono ?_
  rintro e w1 ⟨⟨g', c', m, X, rfl, hm, hg', hO⟩, hd⟩
  have hg2 : w.heap.size ≤ g' := by omega
  go_wp2
  go_ret
  exact ⟨⟨g', c', m, X, rfl, hm, hg2, hO⟩, hd.src, (Chg.of_below E3.out _).trans hd.chg⟩

set_option maxRecDepth 100000 in
set_option maxHeartbeats 4000000 in
theorem sSpoil01_c (g n : Nat) (cv : Value) (B : Nat → Int) (P : Int) (w : World) (hs : Src w g cv n) (hB : ∀ W, Chg w W (· = g) → Byt W cv n B) (hP : -1000 ≤ P ∧ P ≤ 1000) :
    Calls Try.prog 77 #[.pointer (some ⟨g, 0, none⟩), .int .i64 P] w fun e w' => ∃ x : Int, e = .returned (.int .i64 x) ∧ (-4611686018427387904 ≤ x ∧ x ≤ 1099511627776) ∧ Drew w w' g cv n := by
  have HB := Lib.hid hB
  have hgl := hs.lt
  have hN := Lib.hid (sNext_c g n cv B 24 w hs (hB _ (Chg.refl _ _)) (by omega))
  clear hs hB
  go_enter Try.func77, Try.ntmps77
  go_wp2_with fail
  refine hN.out.mono ?_
  rintro e w1 ⟨x, rfl, hx, _, hd⟩
  have HD := Lib.hid hd
  have hs1 := hd.chg.size
  clear hN hd
  by_cases hx0 : x = 0
  · subst hx0
    have hb4 : Below w1.heap.size w1 (w1.alloc (.cells #[.int .i64 (-1), .int .i64 P, .int .i64 1099511627776, .int .i64 (-4611686018427387904)] 2)) := (Below.refl _ _).alloc (Nat.le_refl _) _
    have h4 := ints4 w1 2 (-1) P 1099511627776 (-4611686018427387904)
    have hp7 : Hid (Calls Try.prog 76 #[.pointer (some ⟨g, 0, none⟩), .slice (some ⟨w1.heap.size, 0, none⟩) 4 4] (w1.alloc (.cells #[.int .i64 (-1), .int .i64 P, .int .i64 1099511627776, .int .i64 (-4611686018427387904)] 2)) fun e w' => ∃ x : Int, e = .returned (.int .i64 x) ∧ (-4611686018427387904 ≤ x ∧ x ≤ 1099511627776) ∧ Drew w w' g cv n) := by
      refine (sPick_c g n cv _ B _ 4 _ (HD.out.src.kept hb4) (HB.out _ (HD.out.chg.trans (Chg.of_below hb4 _))) (fun W hc => h4.chgInts hc (by omega)) (by omega)).mono fun e w' h => ?_
      obtain ⟨j, hj, he, hd⟩ := h
      have h3 : j = 0 ∨ j = 1 ∨ j = 2 ∨ j = 3 := by omega
      refine ⟨_, he, ?_, hd.src, (HD.out.chg.trans (Chg.of_below hb4 _)).trans hd.chg⟩
      rcases h3 with rfl | rfl | rfl | rfl <;> simp <;> omega
    clear hb4 h4
    go_wp2_with fail
    refine hp7.out.mono ?_
    rintro e w2 ⟨x, rfl, hx2, hd2⟩
    go_wp2
    go_ret
    exact ⟨x, rfl, hx2, hd2⟩
  · have hx1 : ¬ x = 0 := hx0
    have hN := Lib.hid (sNext_c g n cv B P w1 HD.out.src (HB.out _ HD.out.chg) (by omega))
    go_wp2_with fail
    refine hN.out.mono ?_
    rintro e w2 ⟨y, rfl, hy, hy0, hd2⟩
    go_wp2
    go_ret
    refine ⟨y, rfl, ?_, hd2.src, HD.out.chg.trans hd2.chg⟩
    by_cases h1 : 1 ≤ P
    · have := hy h1; omega
    · have := hy0 (by omega); omega

end Go.Proofs.Ytnkflgigbielgaa
