/-
  The laws' marks: a list or a table that is owned is filled with the numbers from k on; a list that holds them is found to hold them. No condition beside sizes.
-/
import Derived.Test.YtdehfpnlehbdjaaLA
set_option linter.unusedVariables false
set_option linter.unusedSimpArgs false
namespace Go.Proofs.Ytdehfpnlehbdjaa
open Go.RowKit

/-- From w to w' only blocks of S (and new ones) have turned. -/
structure Chg (w w' : World) (S : Nat → Prop) : Prop where
  os : w'.os = w.os
  tape : w'.tape = w.tape
  output : w'.output = w.output
  size : w.heap.size ≤ w'.heap.size
  block : ∀ k, k < w.heap.size → ¬ S k → w'.heap[k]? = w.heap[k]?

theorem Chg.refl (w : World) (S : Nat → Prop) : Chg w w S := ⟨rfl, rfl, rfl, Nat.le_refl _, fun _ _ _ => rfl⟩
theorem Chg.trans {w w1 w2 : World} {S : Nat → Prop} (h : Chg w w1 S) (k : Chg w1 w2 S) : Chg w w2 S :=
  ⟨k.os.trans h.os, k.tape.trans h.tape, k.output.trans h.output, Nat.le_trans h.size k.size, fun i hi hS => (k.block i (by have := h.size; omega) hS).trans (h.block i hi hS)⟩
theorem Chg.mono {w w' : World} {S S' : Nat → Prop} (h : Chg w w' S) (hs : ∀ k, S k → S' k) : Chg w w' S' := ⟨h.os, h.tape, h.output, h.size, fun k hk hS => h.block k hk (fun e => hS (hs k e))⟩
theorem Chg.setCell {w w' : World} {S : Nat → Prop} (h : Chg w w' S) {a : Addr} (ha : S a.block) (u : Value) : Chg w (w'.setCell a u) S :=
  h.trans ⟨rfl, rfl, rfl, by simp [World.setCell], fun k _ hS => Below.heap_setCell _ _ _ _ (fun e => hS (e ▸ ha))⟩
theorem Chg.below {w w' : World} {S : Nat → Prop} (h : Chg w w' S) {B : Nat} (hB : B ≤ w.heap.size) (hs : ∀ k, S k → B ≤ k) : Below B w w' :=
  ⟨h.os, h.tape, h.output, h.size, fun k hk => h.block k (by omega) (fun e => by have := hs k e; omega)⟩
theorem Chg.own {w w' : World} {S : Nat → Prop} (h : Chg w w' S) {e : TypeId} {g cap n : Nat} {V : Nat → Value} (ho : Own w e g cap n V) (hg : ¬ S g) : Own w' e g cap n V := ho.of_block (h.block g ho.lt hg)
theorem Chg.of_below {w w' : World} (h : Below w.heap.size w w') (S : Nat → Prop) : Chg w w' S := ⟨h.os, h.tape, h.output, h.size, fun k hk _ => h.block k hk⟩

set_option maxHeartbeats 400000 in
theorem markInt64S_c (g cap n : Nat) (V : Nat → Value) (k : Int) (w : World) (h : Own w 2 g cap n V) (h0 : 0 ≤ k) (hk : k ≤ 1099511627776) (hn : n ≤ 1099511627776) :
    Calls Try.prog 27 #[.slice (some ⟨g, 0, none⟩) n cap, .int .i64 k] w fun e w' => e = .returned (.int .i64 (k + n)) ∧ Chg w w' (· = g) ∧ Own w' 2 g cap n (fun i => .int .i64 (k + i)) := by
  have hle := h.le
  have hmax := h.max
  go_enter Try.func27, Try.ntmps27
  go_wp2
  go_loopg [1, 5] n (fun gg q i wr => ∃ j : Nat, j ≤ n ∧ gg = n - j ∧ i = .int .i64 j ∧ q = .int .i64 (k + j) ∧ Chg w wr (· = g) ∧ Own wr 2 g cap n (fun i => if i < j then .int .i64 (k + i) else V i))
  case atStart => exact ⟨0, Nat.zero_le _, rfl, rfl, by simp, Chg.refl _ _, h.congr fun i _ => by simp⟩
  case round =>
    obtain ⟨j, hj, rfl, rfl, rfl, hc, hO⟩ := hrel
    by_cases hlt : j < n
    · obtain ⟨u, hu⟩ := hO.cellAny (show j < cap by omega)
      have hf := hO.frozen j
      go_wp2
      go_roundg (n - (j + 1))
      case measure => omega
      case rel =>
        refine ⟨j + 1, by omega, rfl, by go_num, by congr 1; simp; omega, hc.setCell rfl _, (hO.set j _).congr fun i hi => ?_⟩
        by_cases e : i = j
        · subst e; simp
        · simp only [if_neg e]
          by_cases e2 : i < j
          · rw [if_pos e2, if_pos (by omega)]
          · rw [if_neg e2, if_neg (by omega)]
    · obtain rfl : j = n := by omega
      go_wp2
      go_ret
      exact ⟨rfl, hc, hO.congr fun i hi => by simp [hi]⟩

theorem markInt64S_nil (k : Int) (w : World) :
    Calls Try.prog 27 #[.slice none 0 0, .int .i64 k] w fun e w' => e = .returned (.int .i64 k) ∧ w = w' := by
  go_enter Try.func27, Try.ntmps27
  go_wp2
  go_loopg [1, 5] 0 (fun _ q i wr => q = .int .i64 k ∧ i = .int .i64 0 ∧ wr = w)
  case atStart => exact ⟨rfl, rfl, rfl⟩
  case round =>
    obtain ⟨rfl, rfl, rfl⟩ := hrel
    go_wp2
    go_ret
    exact ⟨rfl, rfl⟩

set_option maxHeartbeats 400000 in
theorem heldInt64S_c (v : Value) (n : Nat) (X : Nat → Int) (k : Int) (w : World) (h : Ints w v n X) (h0 : 0 ≤ k) (hk : k ≤ 1099511627776) (hn : n ≤ 1099511627776) (hX : ∀ i, i < n → X i = k + i) :
    Calls Try.prog 46 #[v, .int .i64 k] w fun e w' => e = .returned (.int .i64 (k + n)) ∧ w = w' := by
  obtain ⟨ao, c, b, o, rfl, h2, h3, h4, h5⟩ := (h.congr hX).out
  clear h hX
  go_enter Try.func46, Try.ntmps46
  go_wp2
  go_loopg [1, 5] n (fun gg q i wr => wr = w ∧ ∃ j : Nat, j ≤ n ∧ gg = n - j ∧ i = .int .i64 j ∧ q = .int .i64 (k + j))
  case atStart => exact ⟨rfl, 0, Nat.zero_le _, rfl, rfl, by simp⟩
  case round =>
    obtain ⟨rfl, j, hj, rfl, rfl, rfl⟩ := hrel
    by_cases hlt : j < n
    · obtain rfl := h4 (by omega)
      have hc := h5 j hlt
      clear h5
      go_wp2
      go_roundg (n - (j + 1))
      case measure => omega
      case rel => exact ⟨rfl, j + 1, by omega, rfl, by go_num, by congr 1; simp; omega⟩
    · obtain rfl : j = n := by omega
      clear h5
      go_wp2
      go_ret
      exact ⟨rfl, rfl⟩

/-- A table that is owned, its blocks from B on and below M. -/
structure OTabM (w : World) (B M g cap G : Nat) (L : Nat → Nat) (T : Nat → Nat → Int) : Prop where
  out : ∃ R C : Nat → Nat, Own w 22 g cap G (fun i => .slice (some ⟨R i, 0, none⟩) (L i) (C i)) ∧ (B ≤ g ∧ g < M) ∧
    (∀ i, i < G → Own w 2 (R i) (C i) (L i) (fun j => .int .i64 (T i j)) ∧ (B ≤ R i ∧ R i < M) ∧ R i ≠ g) ∧ ∀ i j, i < G → j < i → R i ≠ R j

theorem OTab.bound {w : World} {B g cap G : Nat} {L : Nat → Nat} {T : Nat → Nat → Int} (h : OTab w B g cap G L T) : OTabM w B w.heap.size g cap G L T := by
  obtain ⟨R, C, h1, h2, h3, h4⟩ := h.out
  exact ⟨R, C, h1, ⟨h2, h1.lt⟩, fun i hi => ⟨(h3 i hi).1, ⟨(h3 i hi).2.1, (h3 i hi).1.lt⟩, (h3 i hi).2.2⟩, h4⟩

theorem OTabM.otab {w : World} {B M g cap G : Nat} {L : Nat → Nat} {T : Nat → Nat → Int} (h : OTabM w B M g cap G L T) : OTab w B g cap G L T := by
  obtain ⟨R, C, h1, h2, h3, h4⟩ := h.out
  exact ⟨R, C, h1, h2.1, fun i hi => ⟨(h3 i hi).1, (h3 i hi).2.1.1, (h3 i hi).2.2⟩, h4⟩

theorem OTabM.kept {w w' : World} {B M g cap G : Nat} {L : Nat → Nat} {T : Nat → Nat → Int} (h : OTabM w B M g cap G L T) (hb : Below w.heap.size w w') : OTabM w' B M g cap G L T := by
  obtain ⟨R, C, h1, h2, h3, h4⟩ := h.out
  exact ⟨R, C, h1.kept hb, h2, fun i hi => ⟨(h3 i hi).1.kept hb, (h3 i hi).2⟩, h4⟩

/-- k and the lengths of the first i rows. -/
def markT (k : Int) (L : Nat → Nat) (i j : Nat) : Int := k + sumL L i + j

theorem sumL_mono (L : Nat → Nat) (a d : Nat) : sumL L a ≤ sumL L (a + d) := by
  induction d with
  | zero => exact Nat.le_refl _
  | succ d ih => have e : sumL L (a + (d + 1)) = sumL L (a + d) + L (a + d) := rfl; omega
theorem sumL_le {L : Nat → Nat} {a b : Nat} (h : a ≤ b) : sumL L a ≤ sumL L b := by
  have := sumL_mono L a (b - a); rwa [show a + (b - a) = b by omega] at this
theorem sumL_row {L : Nat → Nat} {a b : Nat} (h : a < b) : L a ≤ sumL L b := by
  have h1 : sumL L (a + 1) = sumL L a + L a := rfl
  have := sumL_le (L := L) (show a + 1 ≤ b by omega); omega

set_option maxHeartbeats 400000 in
theorem markInt64SS_c (B M g cap G : Nat) (L : Nat → Nat) (T : Nat → Nat → Int) (k : Int) (w : World) (h : OTabM w B M g cap G L T) (h0 : 0 ≤ k) (hk : k ≤ 1048576) (hG : G ≤ 1048576) (hn : sumL L G ≤ 1048576) :
    Calls Try.prog 19 #[.slice (some ⟨g, 0, none⟩) G cap, .int .i64 k] w fun e w' => e = .returned (.int .i64 (k + sumL L G)) ∧ Chg w w' (fun b => B ≤ b ∧ b < M) ∧ OTabM w' B M g cap G L (markT k L) := by
  obtain ⟨R, C, h1, h2, h3, h4⟩ := h.out
  have hle := h1.le
  have hmax := h1.max
  have H3 := Lib.hid h3
  have H4 := Lib.hid h4
  clear h h3 h4
  go_enter Try.func19, Try.ntmps19
  go_wp2
  go_loopg [1, 5] G (fun gg q i wr => ∃ j : Nat, j ≤ G ∧ gg = G - j ∧ i = .int .i64 j ∧ q = .int .i64 (k + sumL L j) ∧ Chg w wr (fun b => ∃ i, i < G ∧ R i = b) ∧ ∀ i, i < G → Own wr 2 (R i) (C i) (L i) (fun x => .int .i64 (if i < j then markT k L i x else T i x)))
  case atStart => exact ⟨0, Nat.zero_le _, rfl, rfl, by simp [sumL], Chg.refl _ _, fun i hi => (H3.out i hi).1.congr fun x _ => by simp⟩
  case round =>
    obtain ⟨j, hj, rfl, rfl, rfl, hc, hO⟩ := hrel
    have HO := Lib.hid hO; clear hO
    have hT : Own wr 22 g cap G (fun i => .slice (some ⟨R i, 0, none⟩) (L i) (C i)) := hc.own h1 (fun ⟨i, hi, e⟩ => (H3.out i hi).2.2 e)
    by_cases hlt : j < G
    · have hu := hT.cell hlt
      have hs1 := sumL_row (L := L) hlt
      have hs2 := sumL_le (L := L) (show j ≤ G by omega)
      have hs3 : Hid (sumL L (j + 1) = sumL L j + L j) := rfl
      go_wp2_with fail
      refine (markInt64S_c _ _ _ _ _ _ (HO.out j hlt) (by omega) (by omega) (by omega)).mono ?_
      rintro e w1 ⟨rfl, hc1, hO1⟩
      clear hu hT
      go_wp2
      go_roundg (G - (j + 1))
      case measure => omega
      case rel =>
        refine ⟨j + 1, by omega, rfl, by go_num, by rw [hs3.out]; congr 1; simp; omega, hc.trans (hc1.mono fun b e => ⟨j, hlt, e.symm⟩), fun i hi => ?_⟩
        by_cases e : i = j
        · subst e
          exact hO1.congr fun x _ => by simp [markT]
        · have hne : R i ≠ R j := by
            rcases Nat.lt_or_ge i j with h | h
            · exact fun e2 => H4.out j i hlt h e2.symm
            · exact H4.out i j hi (by omega)
          refine (hc1.own (HO.out i hi) hne).congr fun x _ => ?_
          by_cases e2 : i < j
          · rw [if_pos e2, if_pos (by omega)]
          · rw [if_neg e2, if_neg (by omega)]
    · obtain rfl : j = G := by omega
      clear hT
      go_wp2
      go_ret
      have hS : ∀ b, (∃ i, i < j ∧ R i = b) → B ≤ b ∧ b < M := fun b ⟨i, hi, e⟩ => e ▸ (H3.out i hi).2.1
      refine ⟨rfl, hc.mono hS, ⟨R, C, hc.own h1 (fun ⟨i, hi, e⟩ => (H3.out i hi).2.2 e), h2, fun i hi => ⟨(HO.out i hi).congr fun x _ => by simp [hi], (H3.out i hi).2⟩, H4.out⟩⟩

end Go.Proofs.Ytdehfpnlehbdjaa
