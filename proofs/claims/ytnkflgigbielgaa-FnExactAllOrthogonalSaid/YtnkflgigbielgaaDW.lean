/-
  The laws' lists and tables that a call owns, told by the interval of blocks they lie in. No condition beside sizes.
-/
import Derived.Test.YtnkflgigbielgaaD15
import Derived.Test.YtnkflgigbielgaaF11a
set_option linter.unusedVariables false
set_option linter.unusedSimpArgs false
namespace Go.Proofs.Ytnkflgigbielgaa
open Go.RowKit

/-- the blocks from B on, below U -/
abbrev IV (B U : Nat) : Nat → Prop := fun k => B ≤ k ∧ k < U
/-- an owned list, or nil -/
structure OI (w : World) (B U : Nat) (a : Option Addr) (c n : Nat) (X : Nat → Int) : Prop where
  out : (a = none ∧ n = 0 ∧ c = 0) ∨ ∃ g, a = some ⟨g, 0, none⟩ ∧ (B ≤ g ∧ g < U) ∧ Own w 2 g c n (fun i => .int .i64 (X i))
theorem OI.ints {w : World} {B U : Nat} {a : Option Addr} {c n : Nat} {X : Nat → Int} (h : OI w B U a c n X) : Ints w (.slice a n c) n X := by
  rcases h.out with ⟨rfl, rfl, rfl⟩ | ⟨g, rfl, _, hO⟩
  · exact Ints.nil _ _
  · exact hO.ints
theorem OI.kept {w w' : World} {B U : Nat} {a : Option Addr} {c n : Nat} {X : Nat → Int} (h : OI w B U a c n X) (hb : Below w.heap.size w w') : OI w' B U a c n X := by
  rcases h.out with h | ⟨g, h1, h2, hO⟩
  · exact ⟨Or.inl h⟩
  · exact ⟨Or.inr ⟨g, h1, h2, hO.kept hb⟩⟩
theorem OI.low {w : World} {B B' U : Nat} {a : Option Addr} {c n : Nat} {X : Nat → Int} (h : OI w B U a c n X) (hB : B' ≤ B) : OI w B' U a c n X := by
  rcases h.out with h | ⟨g, h1, h2, hO⟩
  · exact ⟨Or.inl h⟩
  · exact ⟨Or.inr ⟨g, h1, ⟨by omega, h2.2⟩, hO⟩⟩
theorem OI.chg {w w' : World} {B U B' U' : Nat} {a : Option Addr} {c n : Nat} {X : Nat → Int} (h : OI w B U a c n X) (hc : Chg w w' (IV B' U')) (hd : U ≤ B' ∨ U' ≤ B) : OI w' B U a c n X := by
  rcases h.out with h | ⟨g, h1, h2, hO⟩
  · exact ⟨Or.inl h⟩
  · exact ⟨Or.inr ⟨g, h1, h2, hc.own hO (fun e => by have e1 := e.1; have e2 := e.2; omega)⟩⟩
theorem Chg.cellI {w w' : World} {B' U' : Nat} (hc : Chg w w' (IV B' U')) {b o : Nat} {v : Value} (hd : b < B' ∨ U' ≤ b) (h : w.cell? ⟨b, o, none⟩ = some v) : w'.cell? ⟨b, o, none⟩ = some v := by
  rw [World.cell?_of_block (w := w) (hc.block b (lt_of_cell h) (fun e => by have e1 := e.1; have e2 := e.2; omega))]; exact h
theorem Chg.belowI {w w' : World} {B U B0 : Nat} (hc : Chg w w' (IV B U)) (hB : B0 ≤ w.heap.size) (h : B0 ≤ B) : Below B0 w w' :=
  hc.below hB (fun k hk => by have e1 := hk.1; omega)
theorem alloc_size (w : World) (o : Obj) : (w.alloc o).heap.size = w.heap.size + 1 := by simp

structure MadeI (w w' : World) (e : Ending) (n : Nat) (X : Nat → Int) : Prop where
  out : ∃ a c, e = .returned (.slice a n c) ∧ Below w.heap.size w w' ∧ OI w' w.heap.size w'.heap.size a c n X
theorem toI_o (v : Value) (n : Nat) (X : Nat → Int) (w : World) (h : Ints w v n X) (hn : n ≤ 1048576) :
    Calls Try.prog 106 #[v] w fun e w' => MadeI w w' e n X :=
  (toInt64S_c v n X w h hn).mono fun e w' h => by
    obtain ⟨g, c, he, hg, hb, hO⟩ := h.out
    exact ⟨_, c, he, hb, ⟨Or.inr ⟨g, rfl, ⟨hg, hO.lt⟩, hO⟩⟩⟩
structure MadeD (w w' : World) (e : Ending) (p : Int) (n : Nat) (X : Nat → Int) : Prop where
  out : ∃ a c, e = .returned (dbl p (.slice a n c)) ∧ Below w.heap.size w w' ∧ OI w' w.heap.size w'.heap.size a c n X

theorem markI_o (a : Option Addr) (B U c n : Nat) (X : Nat → Int) (k : Int) (w : World) (h : OI w B U a c n X) (h0 : 0 ≤ k) (hk : k ≤ 1099511627776) (hn : n ≤ 1099511627776) :
    Calls Try.prog 117 #[.slice a n c, .int .i64 k] w fun e w' => e = .returned (.int .i64 (k + n)) ∧ Chg w w' (IV B U) ∧ OI w' B U a c n (fun i => k + i) := by
  rcases h.out with ⟨rfl, rfl, rfl⟩ | ⟨g, rfl, h2, hO⟩
  · exact (markInt64S_nil k w).mono fun e w' h => ⟨by rw [h.1]; simp, by rw [← h.2]; exact Chg.refl _ _, ⟨Or.inl ⟨rfl, rfl, rfl⟩⟩⟩
  · exact (markInt64S_c g c n _ k w hO h0 hk hn).mono fun e w' h => ⟨h.1, h.2.1.mono (fun b e => by rw [e]; exact h2), ⟨Or.inr ⟨g, rfl, h2, h.2.2⟩⟩⟩

/-- A result that is a list that the call made, or nil, and a code. -/
structure ResO (w w' : World) (e : Ending) (cc : Int) (M : Nat) (X : Nat → Int) : Prop where
  out : ∃ a c, e = .returned (.tuple #[.slice a M c, .int .i64 cc]) ∧ Below w.heap.size w w' ∧ OI w' w.heap.size w'.heap.size a c M X

/-! ### tables -/

structure OT (w : World) (B U : Nat) (a : Option Addr) (c G : Nat) (L : Nat → Nat) (T : Nat → Nat → Int) : Prop where
  out : (a = none ∧ G = 0 ∧ c = 0) ∨ ∃ g, a = some ⟨g, 0, none⟩ ∧ OTabM w B U g c G L T
theorem Tab.nil (w : World) (L : Nat → Nat) (T : Nat → Nat → Int) : Tab w (.slice none 0 0) 0 L T :=
  ⟨none, 0, 0, 0, fun _ => none, fun _ => 0, fun _ => 0, fun _ => 0, rfl, Nat.le_refl _, by omega, fun h => absurd h (Nat.lt_irrefl _), fun i hi => absurd hi (Nat.not_lt_zero _), fun i hi => absurd hi (Nat.not_lt_zero _), fun i hi => absurd hi (Nat.not_lt_zero _), fun i j hi => absurd hi (Nat.not_lt_zero _)⟩
theorem OT.tab {w : World} {B U : Nat} {a : Option Addr} {c G : Nat} {L : Nat → Nat} {T : Nat → Nat → Int} (h : OT w B U a c G L T) : Tab w (.slice a G c) G L T := by
  rcases h.out with ⟨rfl, rfl, rfl⟩ | ⟨g, rfl, hO⟩
  · exact Tab.nil _ _ _
  · exact hO.otab.tab
theorem OT.kept {w w' : World} {B U : Nat} {a : Option Addr} {c G : Nat} {L : Nat → Nat} {T : Nat → Nat → Int} (h : OT w B U a c G L T) (hb : Below w.heap.size w w') : OT w' B U a c G L T := by
  rcases h.out with h | ⟨g, h1, hO⟩
  · exact ⟨Or.inl h⟩
  · exact ⟨Or.inr ⟨g, h1, hO.kept hb⟩⟩
theorem OT.low {w : World} {B B' U : Nat} {a : Option Addr} {c G : Nat} {L : Nat → Nat} {T : Nat → Nat → Int} (h : OT w B U a c G L T) (hB : B' ≤ B) : OT w B' U a c G L T := by
  rcases h.out with h | ⟨g, h1, hO⟩
  · exact ⟨Or.inl h⟩
  · obtain ⟨R, C, q1, q2, q3, q4⟩ := hO.out
    exact ⟨Or.inr ⟨g, h1, ⟨R, C, q1, ⟨by omega, q2.2⟩, fun i hi => ⟨(q3 i hi).1, ⟨by have := (q3 i hi).2.1.1; omega, (q3 i hi).2.1.2⟩, (q3 i hi).2.2⟩, q4⟩⟩⟩
theorem OT.chg {w w' : World} {B U B' U' : Nat} {a : Option Addr} {c G : Nat} {L : Nat → Nat} {T : Nat → Nat → Int} (h : OT w B U a c G L T) (hc : Chg w w' (IV B' U')) (hd : U ≤ B' ∨ U' ≤ B) : OT w' B U a c G L T := by
  rcases h.out with h | ⟨g, h1, hO⟩
  · exact ⟨Or.inl h⟩
  · obtain ⟨R, C, q1, q2, q3, q4⟩ := hO.out
    exact ⟨Or.inr ⟨g, h1, ⟨R, C, hc.own q1 (fun e => by have e1 := e.1; have e2 := e.2; omega), q2, fun i hi => ⟨hc.own (q3 i hi).1 (fun e => by have e1 := e.1; have e2 := e.2; have e3 := (q3 i hi).2.1; omega), (q3 i hi).2⟩, q4⟩⟩⟩
theorem OTab.ot {w : World} {B g cap G : Nat} {L : Nat → Nat} {T : Nat → Nat → Int} (h : OTab w B g cap G L T) : OT w B w.heap.size (some ⟨g, 0, none⟩) cap G L T := ⟨Or.inr ⟨g, rfl, h.bound⟩⟩

structure MadeT (w w' : World) (e : Ending) (G : Nat) (L : Nat → Nat) (T : Nat → Nat → Int) : Prop where
  out : ∃ a c, e = .returned (.slice a G c) ∧ Below w.heap.size w w' ∧ OT w' w.heap.size w'.heap.size a c G L T
theorem toT_o (v : Value) (G : Nat) (L : Nat → Nat) (T : Nat → Nat → Int) (w : World) (h : Tab w v G L T) (hG : G ≤ 1048576) (hL : ∀ i, i < G → L i ≤ 1048576) :
    Calls Try.prog 46 #[v] w fun e w' => MadeT w w' e G L T :=
  (toInt64SS_c v G L T w h hG hL).mono fun e w' h => by
    obtain ⟨g, c, he, hb, hO⟩ := h.out
    exact ⟨_, c, he, hb, hO.ot⟩

theorem markT_nil (k : Int) (w : World) :
    Calls Try.prog 53 #[.slice none 0 0, .int .i64 k] w fun e w' => e = .returned (.int .i64 k) ∧ w = w' := by
  go_enter Try.func53, Try.ntmps53
  go_wp2
  go_loopg [1, 5] 0 (fun _ q i wr => q = .int .i64 k ∧ i = .int .i64 0 ∧ wr = w)
  case atStart => exact ⟨rfl, rfl, rfl⟩
  case round =>
    obtain ⟨rfl, rfl, rfl⟩ := hrel
    go_wp2
    go_ret
    exact ⟨rfl, rfl⟩

theorem markT_o (a : Option Addr) (B U c G : Nat) (L : Nat → Nat) (T : Nat → Nat → Int) (k : Int) (w : World) (h : OT w B U a c G L T) (h0 : 0 ≤ k) (hk : k ≤ 1048576) (hG : G ≤ 1048576) (hn : sumL L G ≤ 1048576) :
    Calls Try.prog 53 #[.slice a G c, .int .i64 k] w fun e w' => e = .returned (.int .i64 (k + sumL L G)) ∧ Chg w w' (IV B U) ∧ OT w' B U a c G L (markT k L) := by
  rcases h.out with ⟨rfl, rfl, rfl⟩ | ⟨g, rfl, hO⟩
  · exact (markT_nil k w).mono fun e w' h => ⟨by rw [h.1]; simp [sumL], by rw [← h.2]; exact Chg.refl _ _, ⟨Or.inl ⟨rfl, rfl, rfl⟩⟩⟩
  · exact (markInt64SS_c B U g c G L T k w hO h0 hk hG hn).mono fun e w' h => ⟨h.1, h.2.1, ⟨Or.inr ⟨g, rfl, h.2.2⟩⟩⟩

set_option maxHeartbeats 400000 in
theorem heldT_c (v : Value) (G : Nat) (L : Nat → Nat) (T : Nat → Nat → Int) (k : Int) (w : World) (h : Tab w v G L T) (h0 : 0 ≤ k) (hk : k ≤ 1048576) (hG : G ≤ 1048576) (hn : sumL L G ≤ 1048576) (hT : ∀ i j, i < G → T i j = k + sumL L i + j) :
    Calls Try.prog 54 #[v, .int .i64 k] w fun e w' => e = .returned (.int .i64 (k + sumL L G)) ∧ w = w' := by
  obtain ⟨ao, c, b, o, A, C, RB, RO, rfl, h2, h3, h4, h5, h6, h7, h8⟩ := h.out
  have hr : ∀ i, i < G → Ints w (.slice (A i) (L i) (C i)) (L i) (T i) := fun i hi => Tab.rowAt h6 h7 h8 hi
  have HR := Lib.hid hr
  have P5 := Lib.hid h5
  have HT := Lib.hid hT
  clear h h5 h7 h8 hr hT h6
  go_enter Try.func54, Try.ntmps54
  go_wp2
  go_loopg [1, 5] G (fun gg q i wr => wr = w ∧ ∃ j : Nat, j ≤ G ∧ gg = G - j ∧ i = .int .i64 j ∧ q = .int .i64 (k + sumL L j))
  case atStart => exact ⟨rfl, 0, Nat.zero_le _, rfl, rfl, by simp [sumL]⟩
  case round =>
    obtain ⟨rfl, j, hj, rfl, rfl, rfl⟩ := hrel
    by_cases hlt : j < G
    · obtain rfl := h4 (by omega)
      have hc := P5.out j hlt
      have hs1 := sumL_row (L := L) hlt
      have hs2 := sumL_le (L := L) (show j ≤ G by omega)
      have hs3 : Hid (sumL L (j + 1) = sumL L j + L j) := rfl
      go_wp2_with fail
      refine (heldInt64S_c _ _ _ (k + sumL L j) _ (HR.out j hlt) (by omega) (by omega) (by omega) (fun i _ => HT.out j i hlt)).mono ?_
      rintro e w1 ⟨rfl, rfl⟩
      go_wp2
      go_roundg (G - (j + 1))
      case measure => omega
      case rel => exact ⟨rfl, j + 1, by omega, rfl, by go_num, by rw [hs3.out]; congr 1; simp; omega⟩
    · obtain rfl : j = G := by omega
      go_wp2
      go_ret
      exact ⟨rfl, rfl⟩

/-- A result that is a table that the call made, or nil, and a code. -/
structure ResT (w w' : World) (e : Ending) (cc : Int) (G : Nat) (L : Nat → Nat) (T : Nat → Nat → Int) : Prop where
  out : ∃ a c, e = .returned (.tuple #[.slice a G c, .int .i64 cc]) ∧ Below w.heap.size w w' ∧ OT w' w.heap.size w'.heap.size a c G L T

end Go.Proofs.Ytnkflgigbielgaa
