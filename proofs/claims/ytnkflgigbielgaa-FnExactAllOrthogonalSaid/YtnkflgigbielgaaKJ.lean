/-
  The words that the walks of this seat share: a slice of integers that is read, a table of rows that is read, a row that a call owns; and the laws on append, make and a store in these words. No condition.
-/
import Derived.Test.YtnkflgigbielgaaRows
import Derived.WalkKit
import Derived.WalkSpells
import Derived.WalkLawsBesides
import Derived.Deep.QuietTactic
import Derived.BigQuiet
import Derived.Lib.Hide
import Derived.Deep.LoopGhost
set_option linter.unusedVariables false
set_option linter.unusedSimpArgs false
namespace Go.Proofs.Ytnkflgigbielgaa
open Go.RowKit

/-! ### reading -/

/-- v is a slice of n integers, the i-th being X i. -/
structure Ints (w : World) (v : Value) (n : Nat) (X : Nat → Int) : Prop where
  out : ∃ ao c b o, v = .slice ao n c ∧ n ≤ c ∧ c ≤ 9223372036854775807 ∧ (0 < n → ao = some ⟨b, o, none⟩) ∧ ∀ i, i < n → w.cell? ⟨b, o + i, none⟩ = some (.int .i64 (X i))

/-- v is a slice of G rows, row i having L i integers, T i j. -/
structure Tab (w : World) (v : Value) (G : Nat) (L : Nat → Nat) (T : Nat → Nat → Int) : Prop where
  out : ∃ (ao : Option Addr) (c b o : Nat) (A : Nat → Option Addr) (C RB RO : Nat → Nat), v = .slice ao G c ∧ G ≤ c ∧ c ≤ 9223372036854775807 ∧ (0 < G → ao = some ⟨b, o, none⟩) ∧
    (∀ i, i < G → w.cell? ⟨b, o + i, none⟩ = some (.slice (A i) (L i) (C i))) ∧ (∀ i, i < G → L i ≤ C i ∧ C i ≤ 9223372036854775807) ∧
    (∀ i, i < G → 0 < L i → A i = some ⟨RB i, RO i, none⟩) ∧ (∀ i j, i < G → j < L i → w.cell? ⟨RB i, RO i + j, none⟩ = some (.int .i64 (T i j)))

theorem Ints.congr {w : World} {v : Value} {n : Nat} {X Y : Nat → Int} (h : Ints w v n X) (e : ∀ i, i < n → X i = Y i) : Ints w v n Y := by
  obtain ⟨ao, c, b, o, h1, h2, h3, h4, h5⟩ := h.out
  exact ⟨ao, c, b, o, h1, h2, h3, h4, fun i hi => by rw [h5 i hi, e i hi]⟩

theorem lt_of_cell {w : World} {b o : Nat} {v : Value} (h : w.cell? ⟨b, o, none⟩ = some v) : b < w.heap.size := World.block_lt_of_cell? w ⟨b, o, none⟩ h

theorem Ints.drewN {w : World} {v : Value} {n : Nat} {X : Nat → Int} (h : Ints w v n X) (q : Nat) : Ints (w.drewN q) v n X := by
  obtain ⟨ao, c, b, o, h1, h2, h3, h4, h5⟩ := h.out
  exact ⟨ao, c, b, o, h1, h2, h3, h4, fun i hi => by simpa using h5 i hi⟩

theorem Tab.drewN {w : World} {v : Value} {G : Nat} {L : Nat → Nat} {T : Nat → Nat → Int} (h : Tab w v G L T) (q : Nat) : Tab (w.drewN q) v G L T := by
  obtain ⟨ao, c, b, o, A, C, RB, RO, h1, h2, h3, h4, h5, h6, h7, h8⟩ := h.out
  exact ⟨ao, c, b, o, A, C, RB, RO, h1, h2, h3, h4, fun i hi => by simpa using h5 i hi, h6, h7, fun i j hi hj => by simpa using h8 i j hi hj⟩

theorem cells_below {B : Nat} {w w' : World} (hb : Below B w w') {b o n : Nat} {V : Nat → Value} (hB : 0 < n → b < B) (h : ∀ i, i < n → w.cell? ⟨b, o + i, none⟩ = some (V i)) : ∀ i, i < n → w'.cell? ⟨b, o + i, none⟩ = some (V i) := fun i hi => by
  rw [hb.cell (p := ⟨b, o + i, none⟩) (hB (by omega))]; exact h i hi

theorem Ints.below {w w' : World} {v : Value} {n : Nat} {X : Nat → Int} (h : Ints w v n X) (hb : Below w.heap.size w w') : Ints w' v n X := by
  obtain ⟨ao, c, b, o, h1, h2, h3, h4, h5⟩ := h.out
  exact ⟨ao, c, b, o, h1, h2, h3, h4, fun i hi => by rw [hb.cell (p := ⟨b, o + i, none⟩) (lt_of_cell (h5 i hi))]; exact h5 i hi⟩

theorem Tab.below {w w' : World} {v : Value} {G : Nat} {L : Nat → Nat} {T : Nat → Nat → Int} (h : Tab w v G L T) (hb : Below w.heap.size w w') : Tab w' v G L T := by
  obtain ⟨ao, c, b, o, A, C, RB, RO, h1, h2, h3, h4, h5, h6, h7, h8⟩ := h.out
  exact ⟨ao, c, b, o, A, C, RB, RO, h1, h2, h3, h4, fun i hi => by rw [hb.cell (p := ⟨b, o + i, none⟩) (lt_of_cell (h5 i hi))]; exact h5 i hi, h6, h7,
    fun i j hi hj => by rw [hb.cell (p := ⟨RB i, RO i + j, none⟩) (lt_of_cell (h8 i j hi hj))]; exact h8 i j hi hj⟩

/-- a draw, as a 'Below' -/
theorem below_drewN (w : World) (q : Nat) : Below w.heap.size w (w.drewN q) := ⟨rfl, rfl, rfl, Nat.le_refl _, fun _ _ => rfl⟩

/-! ### owning -/

/-- Block g has cap cells of type e, none frozen; the first n of them hold V. -/
structure Own (w : World) (e : TypeId) (g cap n : Nat) (V : Nat → Value) : Prop where
  out : ∃ cur : Array Value, w.heap[g]? = some (.cells cur e (0, 0)) ∧ cur.size = cap ∧ ∀ i, i < n → cur[i]? = some (V i)
  le : n ≤ cap
  max : cap ≤ 9223372036854775807

theorem Own.lt {w : World} {e : TypeId} {g cap n : Nat} {V : Nat → Value} (h : Own w e g cap n V) : g < w.heap.size := by
  obtain ⟨cur, h1, _⟩ := h.out
  exact (Array.getElem?_eq_some_iff.1 h1).1

theorem Own.cell {w : World} {e : TypeId} {g cap n : Nat} {V : Nat → Value} (h : Own w e g cap n V) {i : Nat} (hi : i < n) : w.cell? ⟨g, i, none⟩ = some (V i) := by
  obtain ⟨cur, h1, _, h3⟩ := h.out
  simp [World.cell?, h1, h3 i hi]

theorem Own.frozen {w : World} {e : TypeId} {g cap n : Nat} {V : Nat → Value} (h : Own w e g cap n V) (i : Nat) : w.frozen? ⟨g, i, none⟩ = false := by
  obtain ⟨cur, h1, _⟩ := h.out
  simp [World.frozen?, h1]

theorem Own.congr {w : World} {e : TypeId} {g cap n : Nat} {V V' : Nat → Value} (h : Own w e g cap n V) (he : ∀ i, i < n → V i = V' i) : Own w e g cap n V' := by
  obtain ⟨cur, h1, h2, h3⟩ := h.out
  exact ⟨⟨cur, h1, h2, fun i hi => by rw [h3 i hi, he i hi]⟩, h.le, h.max⟩

theorem Own.shorter {w : World} {e : TypeId} {g cap n m : Nat} {V : Nat → Value} (h : Own w e g cap n V) (hm : m ≤ n) : Own w e g cap m V := by
  obtain ⟨cur, h1, h2, h3⟩ := h.out
  exact ⟨⟨cur, h1, h2, fun i hi => h3 i (by omega)⟩, Nat.le_trans hm h.le, h.max⟩

theorem Own.of_block {w w' : World} {e : TypeId} {g cap n : Nat} {V : Nat → Value} (h : Own w e g cap n V) (hb : w'.heap[g]? = w.heap[g]?) : Own w' e g cap n V := by
  obtain ⟨cur, h1, h2, h3⟩ := h.out
  exact ⟨⟨cur, hb.trans h1, h2, h3⟩, h.le, h.max⟩

theorem Own.below {B : Nat} {w w' : World} {e : TypeId} {g cap n : Nat} {V : Nat → Value} (h : Own w e g cap n V) (hb : Below B w w') (hg : g < B) : Own w' e g cap n V := h.of_block (hb.block g hg)

theorem Own.kept {w w' : World} {e : TypeId} {g cap n : Nat} {V : Nat → Value} (h : Own w e g cap n V) (hb : Below w.heap.size w w') : Own w' e g cap n V := h.of_block (hb.block g h.lt)

theorem Own.drewN {w : World} {e : TypeId} {g cap n : Nat} {V : Nat → Value} (h : Own w e g cap n V) (q : Nat) : Own (w.drewN q) e g cap n V := h.of_block rfl
theorem Own.drew {w : World} {e : TypeId} {g cap n : Nat} {V : Nat → Value} (h : Own w e g cap n V) : Own w.drew e g cap n V := h.of_block rfl

theorem Own.alloc {w : World} {e : TypeId} {g cap n : Nat} {V : Nat → Value} (h : Own w e g cap n V) (o : Obj) : Own (w.alloc o) e g cap n V := h.of_block (Below.heap_alloc _ _ _ h.lt)

theorem Own.grown {w w' : World} {e : TypeId} {g cap n : Nat} {V : Nat → Value} {row : Option Nat} (h : Own w e g cap n V) (hg : w.grownBy w' row) (hr : row ≠ some g) : Own w' e g cap n V :=
  h.of_block (hg.block g h.lt (fun e => hr e.symm))

theorem Own.setOther {w : World} {e : TypeId} {g cap n : Nat} {V : Nat → Value} (h : Own w e g cap n V) {a : Addr} (ha : g ≠ a.block) (u : Value) : Own (w.setCell a u) e g cap n V :=
  h.of_block (Below.heap_setCell _ _ _ _ ha)

theorem Own.set {w : World} {e : TypeId} {g cap n : Nat} {V : Nat → Value} (h : Own w e g cap n V) (i : Nat) (u : Value) : Own (w.setCell ⟨g, i, none⟩ u) e g cap n (fun j => if j = i then u else V j) := by
  obtain ⟨cur, h1, h2, h3⟩ := h.out
  refine ⟨⟨cur.setIfInBounds i u, ?_, by simpa using h2, fun j hj => ?_⟩, h.le, h.max⟩
  · simp [World.setCell, Array.getElem?_modify, h1]
  · rw [Array.getElem?_setIfInBounds]
    by_cases e : j = i
    · subst e; have := h.le; simp [h2]; omega
    · rw [if_neg (fun h => e h.symm), if_neg e]; exact h3 j hj

theorem Own.cellAny {w : World} {e : TypeId} {g cap n : Nat} {V : Nat → Value} (h : Own w e g cap n V) {i : Nat} (hi : i < cap) : ∃ u, w.cell? ⟨g, i, none⟩ = some u := by
  obtain ⟨cur, h1, h2, _⟩ := h.out
  exact ⟨cur[i]'(by omega), by simp [World.cell?, h1, h2, hi]⟩

/-- A store behind what is known. -/
theorem Own.setNext {w : World} {e : TypeId} {g cap n : Nat} {V : Nat → Value} (h : Own w e g cap n V) (hn : n < cap) (u : Value) : Own (w.setCell ⟨g, n, none⟩ u) e g cap (n + 1) (fun j => if j = n then u else V j) := by
  obtain ⟨cur, h1, h2, h3⟩ := h.out
  refine ⟨⟨cur.setIfInBounds n u, ?_, by simpa using h2, fun j hj => ?_⟩, hn, h.max⟩
  · simp [World.setCell, Array.getElem?_modify, h1]
  · rw [Array.getElem?_setIfInBounds]
    by_cases e : j = n
    · subst e; simp [h2]; omega
    · rw [if_neg (fun h => e h.symm), if_neg e]; exact h3 j (by omega)

/-- What is owned reads as a slice of integers. -/
theorem Own.ints {w : World} {e : TypeId} {g cap n : Nat} {X : Nat → Int} (h : Own w e g cap n (fun i => .int .i64 (X i))) : Ints w (.slice (some ⟨g, 0, none⟩) n cap) n X :=
  ⟨_, cap, g, 0, rfl, h.le, h.max, fun _ => rfl, fun i hi => by rw [Nat.zero_add]; exact h.cell hi⟩

/-- A new block of known cells. -/
theorem Own.new (w : World) (e : TypeId) (c : Array Value) (V : Nat → Value) (hm : c.size ≤ 9223372036854775807) (h : ∀ i, i < c.size → c[i]? = some (V i)) : Own (w.alloc (.cells c e)) e w.heap.size c.size c.size V :=
  ⟨⟨c, heap_alloc_new _ _, rfl, h⟩, Nat.le_refl _, hm⟩

theorem Own.empty (w : World) (e : TypeId) (V : Nat → Value) : Own (w.alloc (.cells #[] e)) e w.heap.size 0 0 V :=
  ⟨⟨#[], heap_alloc_new _ _, rfl, fun _ hi => absurd hi (Nat.not_lt_zero _)⟩, Nat.le_refl _, Nat.zero_le _⟩

theorem Own.made (w : World) (e : TypeId) (n : Nat) (z : Value) (hm : n ≤ 9223372036854775807) : Own (w.alloc (.cells (madeCells #[z] n) e)) e w.heap.size n n (fun _ => z) :=
  ⟨⟨_, heap_alloc_new _ _, size_madeCells _ _, fun i hi => by simp [madeCells, hi, Nat.mod_one]⟩, Nat.le_refl _, hm⟩

theorem Own.made2 (w : World) (o : Obj) (e : TypeId) (n : Nat) (z : Value) (hm : n ≤ 9223372036854775807) : Own ((w.alloc o).alloc (.cells (madeCells #[z] n) e)) e (w.heap.size + 1) n n (fun _ => z) := by
  simpa using Own.made (w.alloc o) e n z hm

theorem Own.kept_cell {w : World} {g : Nat} {a : Addr} {v u : Value} (h : w.cell? a = some v) (hg : a.block ≠ g) (i : Nat) : (w.setCell ⟨g, i, none⟩ u).cell? a = some v := by
  rw [World.cell?_of_block (w := w) (Below.heap_setCell _ _ _ _ hg)]; exact h

/-- A table of G rows that a call owns: block g holds the rows, each row lies in a block of its own; all from block B on. -/
structure OTab (w : World) (B g cap G : Nat) (L : Nat → Nat) (T : Nat → Nat → Int) : Prop where
  out : ∃ R C : Nat → Nat, Own w 24 g cap G (fun i => .slice (some ⟨R i, 0, none⟩) (L i) (C i)) ∧ B ≤ g ∧
    (∀ i, i < G → Own w 2 (R i) (C i) (L i) (fun j => .int .i64 (T i j)) ∧ B ≤ R i ∧ R i ≠ g) ∧ ∀ i j, i < G → j < i → R i ≠ R j

theorem OTab.tab {w : World} {B g cap G : Nat} {L : Nat → Nat} {T : Nat → Nat → Int} (h : OTab w B g cap G L T) : Tab w (.slice (some ⟨g, 0, none⟩) G cap) G L T := by
  obtain ⟨R, C, h1, h2, h3, h4⟩ := h.out
  exact ⟨_, cap, g, 0, fun i => some ⟨R i, 0, none⟩, C, R, fun _ => 0, rfl, h1.le, h1.max, fun _ => rfl, fun i hi => by rw [Nat.zero_add]; exact h1.cell hi, fun i hi => ⟨(h3 i hi).1.le, (h3 i hi).1.max⟩, fun _ _ _ => rfl,
    fun i j hi hj => by rw [Nat.zero_add]; exact (h3 i hi).1.cell hj⟩

theorem OTab.mono {w : World} {B B' g cap G : Nat} {L : Nat → Nat} {T : Nat → Nat → Int} (h : OTab w B g cap G L T) (hB : B' ≤ B) : OTab w B' g cap G L T := by
  obtain ⟨R, C, h1, h2, h3, h4⟩ := h.out
  exact ⟨R, C, h1, by omega, fun i hi => ⟨(h3 i hi).1, by have := (h3 i hi).2.1; omega, (h3 i hi).2.2⟩, h4⟩

theorem OTab.congr {w : World} {B g cap G : Nat} {L L' : Nat → Nat} {T T' : Nat → Nat → Int} (h : OTab w B g cap G L T) (hL : ∀ i, i < G → L i = L' i) (hT : ∀ i j, i < G → j < L i → T i j = T' i j) : OTab w B g cap G L' T' := by
  obtain ⟨R, C, h1, h2, h3, h4⟩ := h.out
  exact ⟨R, C, h1.congr fun i hi => by rw [hL i hi], h2, fun i hi => ⟨by rw [← hL i hi]; exact (h3 i hi).1.congr fun j hj => by rw [hT i j hi hj], (h3 i hi).2⟩, h4⟩

theorem OTab.kept {w w' : World} {B g cap G : Nat} {L : Nat → Nat} {T : Nat → Nat → Int} (h : OTab w B g cap G L T) (hb : Below w.heap.size w w') : OTab w' B g cap G L T := by
  obtain ⟨R, C, h1, h2, h3, h4⟩ := h.out
  exact ⟨R, C, h1.kept hb, h2, fun i hi => ⟨(h3 i hi).1.kept hb, (h3 i hi).2⟩, h4⟩

theorem OTab.base {w : World} {B g cap G : Nat} {L : Nat → Nat} {T : Nat → Nat → Int} (h : OTab w B g cap G L T) : B ≤ g := by
  obtain ⟨R, C, h1, h2, h3, h4⟩ := h.out
  exact h2

theorem OTab.lt {w : World} {B g cap G : Nat} {L : Nat → Nat} {T : Nat → Nat → Int} (h : OTab w B g cap G L T) : g < w.heap.size := by
  obtain ⟨R, C, h1, h2, h3, h4⟩ := h.out
  exact h1.lt

/-- One row more, stored behind those that are there. -/
theorem OTab.setNext {w : World} {B g cap G : Nat} {L : Nat → Nat} {T : Nat → Nat → Int} (h : OTab w B g cap G L T) (hG : G < cap) {r c n : Nat} {X : Nat → Int} (hr : Own w 2 r c n (fun j => .int .i64 (X j))) (hB : B ≤ r) (hg : r ≠ g)
    (hne : ∀ i u, i < G → w.cell? ⟨g, i, none⟩ = some u → u.ownBlock ≠ some r) :
    OTab (w.setCell ⟨g, G, none⟩ (.slice (some ⟨r, 0, none⟩) n c)) B g cap (G + 1) (fun i => if i = G then n else L i) (fun i => if i = G then X else T i) := by
  obtain ⟨R, C, h1, h2, h3, h4⟩ := h.out
  refine ⟨fun i => if i = G then r else R i, fun i => if i = G then c else C i, (h1.setNext hG _).congr fun i hi => ?_, h2, fun i hi => ?_, fun i j hi hj => ?_⟩
  · by_cases e : i = G
    · subst e; simp
    · simp [e]
  · by_cases e : i = G
    · subst e; simp only [if_true]; exact ⟨hr.setOther hg _, hB, hg⟩
    · have hi' : i < G := by omega
      simp only [if_neg e]; exact ⟨(h3 i hi').1.setOther (h3 i hi').2.2 _, (h3 i hi').2⟩
  · by_cases e : i = G
    · subst e
      simp only [if_true, if_neg (show j ≠ i by omega)]
      have := hne j _ hj (h1.cell hj)
      simpa [Value.ownBlock, eq_comm] using this
    · simp only [if_neg e, if_neg (show j ≠ G by omega)]; exact h4 i j (by omega) hj

theorem OTab.empty (w : World) : OTab (w.alloc (.cells #[] 24)) w.heap.size w.heap.size 0 0 (fun _ => 0) (fun _ _ => 0) :=
  ⟨fun _ => 0, fun _ => 0, Own.empty _ _ _, Nat.le_refl _, fun i hi => absurd hi (Nat.not_lt_zero _), fun i j hi => absurd hi (Nat.not_lt_zero _)⟩

/-- 'out = append(out, row)': the table's own row of rows, and what the append makes of it. -/
theorem OTab.pushAt {w : World} {B g cap G : Nat} {L : Nat → Nat} {T : Nat → Nat → Int} (h : OTab w B g cap G L T) (hB : B ≤ w.heap.size) : ∃ V, Own w 24 g cap G V ∧
    ∀ (wr w' : World) (g' cap' r c n : Nat) (X : Nat → Int), Below w.heap.size w wr → Own wr 2 r c n (fun j => .int .i64 (X j)) → w.heap.size ≤ r → Own w' 24 g' cap' (G + 1) (fun j => if j = G then .slice (some ⟨r, 0, none⟩) n c else V j) →
      (g' = g ∨ wr.heap.size ≤ g') → wr.grownBy w' (some g) → OTab w' B g' cap' (G + 1) (fun i => if i = G then n else L i) (fun i => if i = G then X else T i) := by
  obtain ⟨R, C, h1, h2, h3, h4⟩ := h.out
  refine ⟨_, h1, fun wr w' g' cap' r c n X hb hr hrB hO hg hgr => ?_⟩
  have hs := hb.size
  have hgl := h1.lt
  refine ⟨fun i => if i = G then r else R i, fun i => if i = G then c else C i, hO.congr fun i hi => ?_, by omega, fun i hi => ?_, fun i j hi hj => ?_⟩
  · by_cases e : i = G
    · subst e; simp
    · simp [e]
  · by_cases e : i = G
    · subst e; simp only [if_true]
      have := hr.lt
      exact ⟨hr.grown hgr (by intro e; injection e with e; omega), by omega, by omega⟩
    · have hi' : i < G := by omega
      simp only [if_neg e]
      have h5 := (h3 i hi').1.lt
      refine ⟨((h3 i hi').1.kept hb).grown hgr (by intro e; injection e with e; exact (h3 i hi').2.2 e.symm), (h3 i hi').2.1, ?_⟩
      rcases hg with h | h
      · rw [h]; exact (h3 i hi').2.2
      · omega
  · by_cases e : i = G
    · subst e
      have := (h3 j hj).1.lt
      simp only [if_true, if_neg (show j ≠ i by omega)]; omega
    · simp only [if_neg e, if_neg (show j ≠ G by omega)]; exact h4 i j (by omega) hj

/-- What the program's table says of a slice's element type: one cell each. -/
structure Elem (P : Program) (t e : TypeId) (z : Value) (bytes : Nat) : Prop where
  und : P.underlying t = some (.slice e)
  info : (P.info? e).map (fun i => (i.zero, i.size, i.bytes)) = some (some z, 1, bytes)
  one : z.cells.size = 1

/-- APPEND of the cells of a slice that is no nil: what is owned before, what is owned behind. -/
theorem run_app {P : Program} (w : World) {t e : TypeId} {z : Value} {bytes : Nat} (el : Elem P t e z bytes) (ty : TypeId)
    {g cap n : Nat} {V : Nat → Value} (hown : Own w e g cap n V)
    (b off m c : Nat) (N : Nat → Value) (hN : ∀ j, j < m → w.cell? ⟨b, off + j, none⟩ = some (N j)) (h1 : ∀ j, j < m → (N j).oneCell' = true)
    (h63 : n + m ≤ 9223372036854775807) (hbytes : (n + m) * bytes ≤ 140737488355328) :
    ∃ g' cap' w', (Builtin.append_ #[t, t] ty #[.slice (some ⟨g, 0, none⟩) n cap, .slice (some ⟨b, off, none⟩) m c]).run P w = .ok (.slice (some ⟨g', 0, none⟩) (n + m) cap') w' ∧
      Own w' e g' cap' (n + m) (fun j => if j < n then V j else N (j - n)) ∧ (g' = g ∨ g' = w.heap.size) ∧ w.grownBy w' (some g) := by
  obtain ⟨i, hi, hz0, hz1, hz2⟩ := info_parts el.info
  obtain ⟨cur, hg, hsz, hV⟩ := hown.out
  have hle := hown.le
  have hmax := hown.max
  have hnews : ∀ j u, ((List.range m).map N)[j]? = some u → w.cell? ((⟨b, off, none⟩ : Addr).add j) = some u := by
    intro j u hu
    rw [Addr.add_lit]
    rw [List.getElem?_map] at hu
    by_cases hj : j < m
    · rw [List.getElem?_range hj] at hu
      simp at hu; subst hu; exact hN j hj
    · rw [List.getElem?_eq_none (by simp; omega)] at hu; simp at hu
  have hone : ∀ u ∈ (List.range m).map N, u.oneCell' = true := fun u hu => by
    obtain ⟨j, hj, rfl⟩ := List.mem_map.1 hu; exact h1 j (List.mem_range.1 hj)
  have hlen : ((List.range m).map N).length = m * i.size := by simp [hz1]
  have key : ∀ (pre : List Value) (post : Array Value), pre.length = n → (∀ j, j < n → pre[j]? = some (V j)) → ∀ j, j < n + m → (pre.toArray ++ ((List.range m).map N).toArray ++ post)[j]? = some (if j < n then V j else N (j - n)) := by
    intro pre post hl hp j hj
    rw [Array.getElem?_append_left (by simp; omega)]
    by_cases hlt : j < n
    · rw [Array.getElem?_append_left (by simp; omega), if_pos hlt]; simpa using hp j hlt
    · rw [Array.getElem?_append_right (by simp; omega), if_neg hlt]
      simp [hl]; rw [List.getElem?_range (by omega)]; exact ⟨_, rfl, rfl⟩
  have hpre : ∀ j, j < n → (cur.toList.take n)[j]? = some (V j) := fun j hj => by rw [List.getElem?_take, if_pos hj, Array.getElem?_toList]; exact hV j hj
  have hprel : (cur.toList.take n).length = n := by simp; omega
  by_cases hroom : n + m ≤ cap
  · have hr := run_append_room (P := P) w t ty e i el.und hi g n cap cur hg ⟨b, off, none⟩ m c ((List.range m).map N) hlen hnews hone hroom (by simp [hz1]; omega)
    refine ⟨_, _, _, hr, ⟨⟨_, setRow_heap w g cur _ e _ hg, ?_, ?_⟩, hroom, hmax⟩, .inl rfl, ⟨rfl, rfl, rfl, by simp, fun k _ hk => setRow_other w g k _ (fun e => hk (by simp [e]))⟩⟩
    · simp [hz1]; omega
    · intro j hj
      have := key (cur.toList.take n) (cur.toList.drop (n + m)).toArray hprel hpre j hj
      simpa [hz1] using this
  · have hr := run_append_grow (P := P) w t ty e i z el.und hi hz0 ⟨g, 0, none⟩ n cap (cur.toList.take n) (by rw [hprel, hz1]; omega)
      (fun j u hu => by
        rw [Addr.add_lit, Nat.zero_add]
        have hj : j < n := by
          have := (List.getElem?_eq_some_iff.1 hu).1
          rw [hprel] at this; exact this
        rw [hpre j hj] at hu; injection hu with hu; subst hu
        exact hown.cell hj)
      ⟨b, off, none⟩ m c ((List.range m).map N) hlen hnews (by omega) (by omega) (growslice_fits (by omega) (by rw [hz2]; exact hbytes))
    have hge := grownCap_ge w (n + m) cap e
    have hcm : grownCap w (n + m) cap e ≤ maxLen := grownCap_le_maxLen w (n + m) cap e (by unfold maxLen; omega)
    unfold maxLen at hcm
    refine ⟨_, _, _, hr, ⟨⟨_, heap_alloc_new w.drew _, ?_, ?_⟩, hge, by omega⟩, .inr rfl, ⟨rfl, rfl, rfl, by simp, fun k hk _ => Below.heap_alloc w.drew _ k hk⟩⟩
    · have := size_zeroCells z.cells (grownCap w (n + m) cap e - (n + m))
      rw [el.one] at this
      simp only [Array.size_append, List.size_toArray, this, hprel]
      simp; omega
    · exact key _ _ hprel hpre

theorem wpList_app {P : Program} (w : World) {ops : Array Oper} {rest : List Oper} {o : Oper} {a : Act} {Q : Exit → Act → World → Prop} (hgd : o.guard = none) (s x : Operand) (t e : TypeId) {z : Value} {bytes : Nat} (el : Elem P t e z bytes)
    (ho : o.op = .call { callee := .builtin .append, args := #[s, x], argTypes := #[t, t] })
    {g cap n : Nat} {V : Nat → Value} (hown : Own w e g cap n V) (hs : a.eval s = .slice (some ⟨g, 0, none⟩) n cap)
    (b off m c : Nat) (N : Nat → Value) (hx : a.eval x = .slice (some ⟨b, off, none⟩) m c) (hN : ∀ j, j < m → w.cell? ⟨b, off + j, none⟩ = some (N j)) (h1 : ∀ j, j < m → (N j).oneCell' = true)
    (h63 : n + m ≤ 9223372036854775807) (hbytes : (n + m) * bytes ≤ 140737488355328)
    (h : ∀ g' cap' w', Own w' e g' cap' (n + m) (fun j => if j < n then V j else N (j - n)) → (g' = g ∨ g' = w.heap.size) → w.grownBy w' (some g) → wpList P ops Q rest (a.put o.dst (.slice (some ⟨g', 0, none⟩) (n + m) cap')) w') :
    wpList P ops Q (o :: rest) a w := by
  obtain ⟨g', cap', w', hr, h2, h3, h4⟩ := run_app (P := P) w el o.type hown b off m c N hN h1 h63 hbytes
  refine wpList_plain hgd fun K hK => ?_
  unfold Oper.wp execOp
  simp only [ho, resolve, invoke, builtin, Sem.run_bind, Sem.run_pure, Result.andThen_ok, List.map_toArray, List.map_cons, List.map_nil, hs, hx, hr, Oper.upon_value]
  exact hK _ _ (h g' cap' w' h2 h3 h4)

/-- 'out = append(out, x)': x lies in a new block of one cell. -/
theorem wpList_push {P : Program} (w : World) {ops : Array Oper} {rest : List Oper} {o : Oper} {a : Act} {Q : Exit → Act → World → Prop} (hgd : o.guard = none) (s x : Operand) (t e : TypeId) {z : Value} {bytes : Nat} (el : Elem P t e z bytes)
    (ho : o.op = .call { callee := .builtin .append, args := #[s, x], argTypes := #[t, t] })
    {g cap n : Nat} {V : Nat → Value} (hown : Own w e g cap n V) (u : Value) (hs : a.eval s = .slice (some ⟨g, 0, none⟩) n cap)
    (hx : a.eval x = .slice (some ⟨w.heap.size, 0, none⟩) 1 1) (h1 : u.oneCell' = true)
    (h63 : n + 1 ≤ 9223372036854775807) (hbytes : (n + 1) * bytes ≤ 140737488355328)
    (h : ∀ g' cap' w', Own w' e g' cap' (n + 1) (fun j => if j = n then u else V j) → (g' = g ∨ w.heap.size ≤ g') → w.grownBy w' (some g) → wpList P ops Q rest (a.put o.dst (.slice (some ⟨g', 0, none⟩) (n + 1) cap')) w') :
    wpList P ops Q (o :: rest) a (w.alloc (.cells #[u] e)) := by
  refine wpList_app (w.alloc (.cells #[u] e)) hgd s x t e el ho (hown.alloc _) hs w.heap.size 0 1 1 (fun _ => u) hx ?_ (fun _ _ => h1) h63 hbytes ?_
  · intro j hj
    obtain rfl : j = 0 := by omega
    simp
  · intro g' cap' w' h2 h3 h4
    refine h g' cap' w' (h2.congr fun j hj => ?_) ?_ ⟨h4.os, h4.tape, h4.output, Nat.le_trans (by simp) h4.size, fun k hk hne => (h4.block k (by simp; omega) hne).trans (Below.heap_alloc _ _ _ hk)⟩
    · by_cases e : j = n
      · subst e; simp
      · rw [if_pos (by omega), if_neg e]
    · rcases h3 with h3 | h3
      · exact .inl h3
      · right; rw [h3]; simp

theorem elI : Elem Try.prog 24 2 (.int .i64 0) 8 := ⟨Try.underlying24, by kernel_rfl, rfl⟩
theorem elR : Elem Try.prog 39 24 (.slice none 0 0) 24 := ⟨Try.underlying39, by kernel_rfl, rfl⟩

/-- 'make([]T, n)'. -/
theorem wpList_mk {P : Program} (w : World) {ops : Array Oper} {rest : List Oper} {o : Oper} {a : Act} {Q : Exit → Act → World → Prop} (hgd : o.guard = none) (l c : Operand) (t e : TypeId) {z : Value} {bytes : Nat} (el : Elem P t e z bytes) (hz1 : z.cells = #[z])
    (ho : o.op = Op.makeSlice t l c) (kl kc : IntKind) (n : Nat) (hl : a.eval l = .int kl (n : Int)) (hc : a.eval c = .int kc (n : Int)) (hbytes : bytes * n ≤ 281474976710656) (h63 : n ≤ 9223372036854775807)
    (h : Own (w.alloc (.cells (madeCells #[z] n) e)) e w.heap.size n n (fun _ => z) → wpList P ops Q rest (a.put o.dst (.slice (some ⟨w.heap.size, 0, none⟩) n n)) (w.alloc (.cells (madeCells #[z] n) e))) :
    wpList P ops Q (o :: rest) a w := by
  obtain ⟨i, hi, hz0, hs1, hz2⟩ := info_parts el.info
  refine wpList_plain hgd fun K hK => ?_
  have hb' : (i.bytes : Int) * (n : Int) ≤ 281474976710656 := by
    rw [hz2]
    have h : ((bytes * n : Nat) : Int) ≤ 281474976710656 := by omega
    rwa [Int.natCast_mul] at h
  have hr := run_make (P := P) w t e i z el.und hi hz0 kl kc n n (by omega) (Int.le_refl _) hb' (by omega)
  simp only [Int.toNat_natCast, hs1, Nat.mul_one, hz1] at hr
  unfold Oper.wp
  simp [execOp, ho, hl, hc, hr, Result.andThen]
  exact hK _ _ (h (Own.made w e n z h63))

end Go.Proofs.Ytnkflgigbielgaa

/-
  What the laws' own small functions compute: the size of a table, copies and comparisons of lists and tables. No condition beside sizes.
-/
set_option linter.unusedVariables false
set_option linter.unusedSimpArgs false
namespace Go.Proofs.Ytnkflgigbielgaa
open Go.RowKit

def szP (left : Int) (tot : Nat) : Int := if (tot : Int) ≤ left then left - tot else -1
def sumL (L : Nat → Nat) : Nat → Nat
  | 0 => 0
  | k + 1 => sumL L k + L k

theorem ret_i64 {a b : Int} (h : a = b) : Ending.returned (.int .i64 a) = .returned (.int .i64 b) := by rw [h]
theorem ret_bool {a b : Bool} (h : a = b) : Ending.returned (.bool a) = .returned (.bool b) := by rw [h]

set_option maxHeartbeats 400000 in
theorem szInt64S_c (ao : Option Addr) (n c : Nat) (l : Int) (w : World) (hn : n ≤ 9223372036854775807) (h0 : 0 ≤ l) (hl : l ≤ 1048576) :
    Calls Try.prog 103 #[.slice ao n c, .int .i64 l] w fun e w' => e = .returned (.int .i64 (szP l n)) ∧ w = w' := by
  go_enter Try.func103, Try.ntmps103
  go_wp2
  all_goals
    go_ret
    exact ⟨ret_i64 (by unfold szP; split <;> omega), rfl⟩

set_option maxHeartbeats 400000 in
theorem szInt64SS_c (v : Value) (G : Nat) (L : Nat → Nat) (T : Nat → Nat → Int) (w : World) (h : Tab w v G L T) :
    Calls Try.prog 43 #[v, .int .i64 1048576] w fun e w' => e = .returned (.int .i64 (szP 1048576 (G + sumL L G))) ∧ w = w' := by
  obtain ⟨ao, c, b, o, A, C, RB, RO, rfl, h2, h3, h4, h5, h6, h7, h8⟩ := h.out
  clear h7 h8 h
  have mono : ∀ k d, sumL L k ≤ sumL L (k + d) := fun k d => by
    induction d with
    | zero => exact Nat.le_refl _
    | succ d ih => have e : sumL L (k + (d + 1)) = sumL L (k + d) + L (k + d) := rfl; omega
  have Hm := Lib.hid mono; clear mono
  by_cases hG : G ≤ 1048576
  · go_enter Try.func43, Try.ntmps43
    go_wp2
    go_loopg [1, 5] G (fun g l i wr => wr = w ∧ ∃ k : Nat, k ≤ G ∧ g = G - k ∧ i = .int .i64 k ∧ G + sumL L k ≤ 1048576 ∧ l = .int .i64 (1048576 - ((G + sumL L k : Nat) : Int)))
    case atStart => exact ⟨rfl, 0, Nat.zero_le _, rfl, rfl, by simp [sumL]; omega, by simp [sumL]⟩
    case round =>
      obtain ⟨rfl, k, hk, rfl, rfl, hs, rfl⟩ := hrel
      by_cases hlt : k < G
      · obtain rfl := h4 (by omega)
        have hC := h6 k hlt
        have Hs : Hid (sumL L (k + 1) = sumL L k + L k) := rfl
        go_wp2_with (go_at_call 103; refine (szInt64S_c _ _ _ _ _ (by omega) (by omega) (by omega)).mono ?_; rintro e w' ⟨rfl, rfl⟩)
        · go_ret
          have h1 : szP (1048576 - (↑G + ↑(sumL L k))) (L k) < 0 := by assumption
          have h2 := Hm.out (k + 1) (G - (k + 1))
          rw [show k + 1 + (G - (k + 1)) = G by omega] at h2
          have h3 := Hs.out
          exact ⟨ret_i64 (by unfold szP at *; split at h1 <;> split <;> omega), rfl⟩
        · have h1 : 0 ≤ szP (1048576 - (↑G + ↑(sumL L k))) (L k) := by assumption
          have h3 := Hs.out
          go_roundg (G - (k + 1))
          case measure => omega
          case rel => exact ⟨rfl, k + 1, by omega, rfl, by go_num, by unfold szP at h1; split at h1 <;> omega, by congr 1; unfold szP at *; split at h1 <;> split <;> omega⟩
      · obtain rfl : k = G := by omega
        go_wp2
        go_ret
        exact ⟨ret_i64 (by unfold szP; split <;> omega), rfl⟩
  · go_enter Try.func43, Try.ntmps43
    go_wp2
    go_ret
    exact ⟨ret_i64 (by unfold szP; split <;> omega), rfl⟩

/-- A copy of a list: new memory. -/
structure CopyI (w w' : World) (e : Ending) (n : Nat) (X : Nat → Int) : Prop where
  out : ∃ g c, e = .returned (.slice (some ⟨g, 0, none⟩) n c) ∧ w.heap.size ≤ g ∧ Below w.heap.size w w' ∧ Own w' 2 g c n (fun i => .int .i64 (X i))

set_option maxHeartbeats 400000 in
theorem toInt64S_c (v : Value) (n : Nat) (X : Nat → Int) (w : World) (h : Ints w v n X) (hn : n ≤ 1048576) :
    Calls Try.prog 106 #[v] w fun e w' => CopyI w w' e n X := by
  obtain ⟨ao, c, b, o, rfl, h2, h3, h4, h5⟩ := h.out
  clear h
  go_enter Try.func106, Try.ntmps106
  go_wp2_with (at_make; refine wpList_mk _ rfl _ _ _ _ elI rfl rfl .i64 .i64 n rfl rfl (by omega) (by omega) ?_; intro hO)
  go_loopg [4] n (fun gg i wr => ∃ k : Nat, k ≤ n ∧ gg = n - k ∧ i = .int .i64 k ∧ Below w.heap.size w wr ∧ Own wr 2 w.heap.size n k (fun i => .int .i64 (X i)))
  case atStart => exact ⟨0, Nat.zero_le _, rfl, rfl, (Below.refl _ _).alloc (Nat.le_refl _) _, (hO.shorter (Nat.zero_le _)).congr fun i hi => absurd hi (Nat.not_lt_zero _)⟩
  case round =>
    obtain ⟨k, hk, rfl, rfl, hb, hO2⟩ := hrel
    clear hO
    by_cases hlt : k < n
    · obtain rfl := h4 (by omega)
      have hx := cells_below hb (fun _ => lt_of_cell (h5 k hlt)) h5
      obtain ⟨u, hu⟩ := hO2.cellAny hlt
      have hf := hO2.frozen k
      clear h5
      go_wp2
      go_roundg (n - (k + 1))
      case measure => omega
      case rel => exact ⟨k + 1, by omega, rfl, by go_num, hb.setCell (Nat.le_refl _) _, (hO2.setNext hlt _).congr fun i hi => by by_cases e : i = k <;> simp [e]⟩
    · obtain rfl : k = n := by omega
      clear h5
      go_wp2
      go_ret
      exact ⟨_, _, rfl, Nat.le_refl _, hb, hO2⟩

/-- A copy of a table: new memory, each row its own. -/
structure CopyT (w w' : World) (e : Ending) (G : Nat) (L : Nat → Nat) (T : Nat → Nat → Int) : Prop where
  out : ∃ g c, e = .returned (.slice (some ⟨g, 0, none⟩) G c) ∧ Below w.heap.size w w' ∧ OTab w' w.heap.size g c G L T

theorem Tab.rowAt {w : World} {G : Nat} {A : Nat → Option Addr} {L C RB RO : Nat → Nat} {T : Nat → Nat → Int}
    (h6 : ∀ i, i < G → L i ≤ C i ∧ C i ≤ 9223372036854775807) (h7 : ∀ i, i < G → 0 < L i → A i = some ⟨RB i, RO i, none⟩) (h8 : ∀ i j, i < G → j < L i → w.cell? ⟨RB i, RO i + j, none⟩ = some (.int .i64 (T i j))) {i : Nat} (hi : i < G) : Ints w (.slice (A i) (L i) (C i)) (L i) (T i) :=
  ⟨A i, C i, RB i, RO i, rfl, (h6 i hi).1, (h6 i hi).2, h7 i hi, fun j hj => h8 i j hi hj⟩

set_option maxHeartbeats 400000 in
theorem toInt64SS_c (v : Value) (G : Nat) (L : Nat → Nat) (T : Nat → Nat → Int) (w : World) (h : Tab w v G L T) (hG : G ≤ 1048576) (hL : ∀ i, i < G → L i ≤ 1048576) :
    Calls Try.prog 46 #[v] w fun e w' => CopyT w w' e G L T := by
  obtain ⟨ao, c, b, o, A, C, RB, RO, rfl, h2, h3, h4, h5, h6, h7, h8⟩ := h.out
  clear h
  have hrow : ∀ i, i < G → Ints w (.slice (A i) (L i) (C i)) (L i) (T i) := fun i hi => Tab.rowAt h6 h7 h8 hi
  have Hr := Lib.hid hrow; clear hrow
  have HL := Lib.hid hL; clear hL
  clear h6 h7 h8
  go_enter Try.func46, Try.ntmps46
  go_wp2_with (at_make; refine wpList_mk _ rfl _ _ _ _ elR rfl rfl .i64 .i64 G rfl rfl (by omega) (by omega) ?_; intro hO)
  go_loopg [4] G (fun gg i wr => ∃ k : Nat, k ≤ G ∧ gg = G - k ∧ i = .int .i64 k ∧ Below w.heap.size w wr ∧ OTab wr w.heap.size w.heap.size G k L T)
  case atStart => exact ⟨0, Nat.zero_le _, rfl, rfl, (Below.refl _ _).alloc (Nat.le_refl _) _, ⟨fun _ => 0, fun _ => 0, (hO.shorter (Nat.zero_le _)).congr fun i hi => absurd hi (Nat.not_lt_zero _), Nat.le_refl _, fun i hi => absurd hi (Nat.not_lt_zero _), fun i j hi => absurd hi (Nat.not_lt_zero _)⟩⟩
  case round =>
    obtain ⟨k, hk, rfl, rfl, hb, hO2⟩ := hrel
    clear hO
    by_cases hlt : k < G
    · obtain rfl := h4 (by omega)
      have hx := cells_below hb (fun _ => lt_of_cell (h5 k hlt)) h5
      have hi := ((Hr.out k hlt).below hb)
      have hl := HL.out k hlt
      clear h5
      go_wp2_with fail
      refine (toInt64S_c _ _ _ _ hi hl).mono ?_
      rintro e w1 ⟨g1, c1, rfl, hg1, hb1, hO1⟩
      obtain ⟨R, C', q1, q2, q3, q4⟩ := hO2.out
      obtain ⟨u, hu⟩ := (q1.kept hb1).cellAny hlt
      have hf := (q1.kept hb1).frozen k
      have hO3 := hO2.kept hb1
      have hsz := q1.lt
      clear hx q1 q2 q3 q4
      go_wp2
      go_roundg (G - (k + 1))
      case measure => omega
      case rel =>
        refine ⟨k + 1, by omega, rfl, by go_num, (hb.trans (hb1.mono hb.size)).setCell (Nat.le_refl _) _, (hO3.setNext hlt hO1 (by omega) (by omega) ?_).congr (fun i hi => ?_) (fun i j hi hj => ?_)⟩
        · intro i u hi hc
          obtain ⟨R, C', q1, q2, q3, q4⟩ := hO2.out
          rw [(q1.kept hb1).cell hi] at hc
          injection hc with hc
          subst hc
          have := (q3 i hi).1.lt
          simp [Value.ownBlock]; omega
        · by_cases e : i = k <;> simp [e]
        · by_cases e : i = k <;> simp [e]
    · obtain rfl : k = G := by omega
      clear h5
      go_wp2
      go_ret
      exact ⟨_, _, rfl, hb, hO2⟩

def eqB (n m : Nat) (X Y : Nat → Int) : Bool := decide (n = m ∧ ∀ i, i < n → X i = Y i)
theorem eqB_ne {n m : Nat} {X Y : Nat → Int} (h : n ≠ m) : eqB n m X Y = false := by unfold eqB; simp [h]
theorem eqB_at {n : Nat} {X Y : Nat → Int} {k : Nat} (hk : k < n) (h : X k ≠ Y k) : eqB n n X Y = false := by
  unfold eqB; exact decide_eq_false fun ⟨_, h2⟩ => h (h2 k hk)
theorem eqB_all {n : Nat} {X Y : Nat → Int} (h : ∀ i, i < n → X i = Y i) : eqB n n X Y = true := by
  unfold eqB; exact decide_eq_true ⟨rfl, h⟩

/-- A call that only reads. -/
structure Reads (w w' : World) (e : Ending) (v : Value) : Prop where
  out : e = .returned v ∧ ∃ q, w' = w.drewN q

set_option maxHeartbeats 400000 in
theorem eqInt64S_c (v1 v2 : Value) (n m : Nat) (X Y : Nat → Int) (w : World) (h1 : Ints w v1 n X) (h2 : Ints w v2 m Y) :
    Calls Try.prog 108 #[v1, v2] w fun e w' => Reads w w' e (.bool (eqB n m X Y)) := by
  obtain ⟨ao, c, ab, aoff, rfl, p2, p3, p4, p5⟩ := h1.out
  obtain ⟨bo, d, bb, boff, rfl, r2, r3, r4, r5⟩ := h2.out
  clear h1 h2
  by_cases hnm : n = m
  · subst hnm
    go_enter Try.func108, Try.ntmps108
    go_wp2
    go_loopg [5] n (fun g i wr => ∃ k : Nat, k ≤ n ∧ g = n - k ∧ i = .int .i64 k ∧ (∃ q, wr = w.drewN q) ∧ ∀ j, j < k → X j = Y j)
    case atStart => exact ⟨0, Nat.zero_le _, rfl, rfl, ⟨0, rfl⟩, fun j hj => absurd hj (Nat.not_lt_zero _)⟩
    case round =>
      obtain ⟨k, hk, rfl, rfl, ⟨q, rfl⟩, hall⟩ := hrel
      have H := Lib.hid hall; clear hall
      by_cases hlt : k < n
      · obtain rfl := p4 (by omega)
        obtain rfl := r4 (by omega)
        go_wp2
        go_quiet (fail)
        go_wp2
        · have ht : (X k != Y k) = true := by assumption
          go_ret
          exact ⟨ret_bool (eqB_at hlt (by simpa using ht)).symm, by first | exact ⟨_, rfl⟩ | exact ⟨_, World.drewN_drewN _ _ _⟩⟩
        · have ht : (X k != Y k) = false := by assumption
          go_roundg (n - (k + 1))
          case measure => omega
          case rel => exact ⟨k + 1, by omega, rfl, by go_num, (by first | exact ⟨_, rfl⟩ | exact ⟨_, World.drewN_drewN _ _ _⟩), fun j hj => by
            by_cases e : j = k
            · subst e; simpa using ht
            · exact H.out j (by omega)⟩
      · obtain rfl : k = n := by omega
        go_wp2
        go_ret
        exact ⟨ret_bool (eqB_all H.out).symm, _, rfl⟩
  · have hd : ((n : Int) != (m : Int)) = true := by rw [bne_iff_ne]; omega
    go_enter Try.func108, Try.ntmps108
    go_wp2
    go_ret
    exact ⟨ret_bool (eqB_ne hnm).symm, 0, rfl⟩

def eqTB (G H : Nat) (L M : Nat → Nat) (T U : Nat → Nat → Int) : Bool := decide (G = H ∧ ∀ i, i < G → eqB (L i) (M i) (T i) (U i) = true)
theorem eqTB_ne {G H : Nat} {L M : Nat → Nat} {T U : Nat → Nat → Int} (h : G ≠ H) : eqTB G H L M T U = false := by unfold eqTB; simp [h]
theorem eqTB_at {G : Nat} {L M : Nat → Nat} {T U : Nat → Nat → Int} {k : Nat} (hk : k < G) (h : eqB (L k) (M k) (T k) (U k) = false) : eqTB G G L M T U = false := by
  unfold eqTB; exact decide_eq_false fun ⟨_, h2⟩ => by rw [h2 k hk] at h; cases h
theorem eqTB_all {G : Nat} {L M : Nat → Nat} {T U : Nat → Nat → Int} (h : ∀ i, i < G → eqB (L i) (M i) (T i) (U i) = true) : eqTB G G L M T U = true := by
  unfold eqTB; exact decide_eq_true ⟨rfl, h⟩
theorem eqB_refl (n : Nat) (X : Nat → Int) : eqB n n X X = true := eqB_all fun _ _ => rfl
theorem eqTB_refl (G : Nat) (L : Nat → Nat) (T : Nat → Nat → Int) : eqTB G G L L T T = true := eqTB_all fun _ _ => eqB_refl _ _

theorem drewN_more {w wr : World} (h : ∃ q, wr = w.drewN q) (n : Nat) : ∃ q, wr.drewN n = w.drewN q := by
  obtain ⟨q, rfl⟩ := h; exact ⟨_, World.drewN_drewN _ _ _⟩

theorem Calls.reads {P : Program} {f : FuncId} {args : Array Value} {w : World} {n : Nat} {v : Value}
    (h : Calls P f args (w.drewN n) fun e w' => Reads (w.drewN n) w' e v) : Calls P f args (w.drewN n) fun e w'' => e = .returned v ∧ ∃ m, w'' = w.drewN m :=
  Calls.quiet_of (h.mono fun _ _ h => h.out)

set_option maxHeartbeats 400000 in
theorem eqInt64SS_c (v1 v2 : Value) (G H : Nat) (L M : Nat → Nat) (T U : Nat → Nat → Int) (w : World) (h1 : Tab w v1 G L T) (h2 : Tab w v2 H M U) :
    Calls Try.prog 49 #[v1, v2] w fun e w' => Reads w w' e (.bool (eqTB G H L M T U)) := by
  obtain ⟨ao, c, ab, aoff, A, C, RB, RO, rfl, p2, p3, p4, p5, p6, p7, p8⟩ := h1.out
  obtain ⟨bo, d, bb, boff, A', C', RB', RO', rfl, r2, r3, r4, r5, r6, r7, r8⟩ := h2.out
  clear h1 h2
  have hr1 : ∀ i, i < G → Ints w (.slice (A i) (L i) (C i)) (L i) (T i) := fun i hi => Tab.rowAt p6 p7 p8 hi
  have hr2 : ∀ i, i < H → Ints w (.slice (A' i) (M i) (C' i)) (M i) (U i) := fun i hi => Tab.rowAt r6 r7 r8 hi
  have H1 := Lib.hid hr1
  have H2 := Lib.hid hr2
  clear hr1 hr2 p6 p7 p8 r6 r7 r8
  by_cases hnm : G = H
  · subst hnm
    go_enter Try.func49, Try.ntmps49
    go_wp2
    go_loopg [5] G (fun g i wr => ∃ k : Nat, k ≤ G ∧ g = G - k ∧ i = .int .i64 k ∧ (∃ q, wr = w.drewN q) ∧ ∀ j, j < k → eqB (L j) (M j) (T j) (U j) = true)
    case atStart => exact ⟨0, Nat.zero_le _, rfl, rfl, ⟨0, rfl⟩, fun j hj => absurd hj (Nat.not_lt_zero _)⟩
    case round =>
      obtain ⟨k, hk, rfl, rfl, hq, hall⟩ := hrel
      have H := Lib.hid hall; clear hall
      have Hq := Lib.hid hq
      by_cases hlt : k < G
      · obtain rfl := p4 (by omega)
        obtain rfl := r4 (by omega)
        have e1 : wr.cell? ⟨ab, aoff + k, none⟩ = some (.slice (A k) (L k) (C k)) := by obtain ⟨q, rfl⟩ := hq; simpa using p5 k hlt
        have e2 : wr.cell? ⟨bb, boff + k, none⟩ = some (.slice (A' k) (M k) (C' k)) := by obtain ⟨q, rfl⟩ := hq; simpa using r5 k hlt
        have i1 : ∀ n, Ints (wr.drewN n) (.slice (A k) (L k) (C k)) (L k) (T k) := fun n => by obtain ⟨q, rfl⟩ := hq; exact ((H1.out k hlt).drewN q).drewN n
        have i2 : ∀ n, Ints (wr.drewN n) (.slice (A' k) (M k) (C' k)) (M k) (U k) := fun n => by obtain ⟨q, rfl⟩ := hq; exact ((H2.out k hlt).drewN q).drewN n
        have I1 := Lib.hid i1
        have I2 := Lib.hid i2
        clear i1 i2 p5 r5 hq
        go_wp2
        go_quiet ((go_at_call 108; exact Calls.reads (eqInt64S_c _ _ _ _ _ _ _ (I1.out _) (I2.out _))))
        cases hb : eqB (L k) (M k) (T k) (U k)
        · go_wp2
          go_ret
          exact ⟨ret_bool (eqTB_at hlt hb).symm, drewN_more Hq.out _⟩
        · go_wp2
          go_roundg (G - (k + 1))
          case measure => omega
          case rel => exact ⟨k + 1, by omega, rfl, by go_num, drewN_more Hq.out _, fun j hj => by
            by_cases e : j = k
            · subst e; exact hb
            · exact H.out j (by omega)⟩
      · obtain rfl : k = G := by omega
        go_wp2
        go_ret
        exact ⟨ret_bool (eqTB_all H.out).symm, Hq.out⟩
  · have hd : ((G : Int) != (H : Int)) = true := by rw [bne_iff_ne]; omega
    go_enter Try.func49, Try.ntmps49
    go_wp2
    go_ret
    exact ⟨ret_bool (eqTB_ne hnm).symm, 0, rfl⟩

end Go.Proofs.Ytnkflgigbielgaa

/-
  The laws' marks: a list or a table that is owned is filled with the numbers from k on; a list that holds them is found to hold them. No condition beside sizes.
-/
set_option linter.unusedVariables false
set_option linter.unusedSimpArgs false
namespace Go.Proofs.Ytnkflgigbielgaa
open Go.RowKit

/-- From w to w' only blocks of S (and new ones) have turned. -/
structure Chg (w w' : World) (S : Nat → Prop) : Prop where
  os : w'.os = w.os
  tape : w'.tape = w.tape
  output : w'.output = w.output
  size : w.heap.size ≤ w'.heap.size
  block : ∀ k, k < w.heap.size → ¬ S k → w'.heap[k]? = w.heap[k]?

theorem Chg.refl (w : World) (S : Nat → Prop) : Chg w w S := ⟨rfl, rfl, rfl, Nat.le_refl _, fun _ _ _ => rfl⟩
theorem Chg.trans {w w1 w2 : World} {S : Nat → Prop} (h : Chg w w1 S) (k : Chg w1 w2 S) : Chg w w2 S :=
  ⟨k.os.trans h.os, k.tape.trans h.tape, k.output.trans h.output, Nat.le_trans h.size k.size, fun i hi hS => (k.block i (by have := h.size; omega) hS).trans (h.block i hi hS)⟩
theorem Chg.mono {w w' : World} {S S' : Nat → Prop} (h : Chg w w' S) (hs : ∀ k, S k → S' k) : Chg w w' S' := ⟨h.os, h.tape, h.output, h.size, fun k hk hS => h.block k hk (fun e => hS (hs k e))⟩
theorem Chg.setCell {w w' : World} {S : Nat → Prop} (h : Chg w w' S) {a : Addr} (ha : S a.block) (u : Value) : Chg w (w'.setCell a u) S :=
  h.trans ⟨rfl, rfl, rfl, by simp [World.setCell], fun k _ hS => Below.heap_setCell _ _ _ _ (fun e => hS (e ▸ ha))⟩
theorem Chg.below {w w' : World} {S : Nat → Prop} (h : Chg w w' S) {B : Nat} (hB : B ≤ w.heap.size) (hs : ∀ k, S k → B ≤ k) : Below B w w' :=
  ⟨h.os, h.tape, h.output, h.size, fun k hk => h.block k (by omega) (fun e => by have := hs k e; omega)⟩
theorem Chg.own {w w' : World} {S : Nat → Prop} (h : Chg w w' S) {e : TypeId} {g cap n : Nat} {V : Nat → Value} (ho : Own w e g cap n V) (hg : ¬ S g) : Own w' e g cap n V := ho.of_block (h.block g ho.lt hg)
theorem Chg.of_below {w w' : World} (h : Below w.heap.size w w') (S : Nat → Prop) : Chg w w' S := ⟨h.os, h.tape, h.output, h.size, fun k hk _ => h.block k hk⟩

set_option maxHeartbeats 400000 in
theorem markInt64S_c (g cap n : Nat) (V : Nat → Value) (k : Int) (w : World) (h : Own w 2 g cap n V) (h0 : 0 ≤ k) (hk : k ≤ 1099511627776) (hn : n ≤ 1099511627776) :
    Calls Try.prog 117 #[.slice (some ⟨g, 0, none⟩) n cap, .int .i64 k] w fun e w' => e = .returned (.int .i64 (k + n)) ∧ Chg w w' (· = g) ∧ Own w' 2 g cap n (fun i => .int .i64 (k + i)) := by
  have hle := h.le
  have hmax := h.max
  go_enter Try.func117, Try.ntmps117
  go_wp2
  go_loopg [1, 5] n (fun gg q i wr => ∃ j : Nat, j ≤ n ∧ gg = n - j ∧ i = .int .i64 j ∧ q = .int .i64 (k + j) ∧ Chg w wr (· = g) ∧ Own wr 2 g cap n (fun i => if i < j then .int .i64 (k + i) else V i))
  case atStart => exact ⟨0, Nat.zero_le _, rfl, rfl, by simp, Chg.refl _ _, h.congr fun i _ => by simp⟩
  case round =>
    obtain ⟨j, hj, rfl, rfl, rfl, hc, hO⟩ := hrel
    by_cases hlt : j < n
    · obtain ⟨u, hu⟩ := hO.cellAny (show j < cap by omega)
      have hf := hO.frozen j
      go_wp2
      go_roundg (n - (j + 1))
      case measure => omega
      case rel =>
        refine ⟨j + 1, by omega, rfl, by go_num, by congr 1; simp; omega, hc.setCell rfl _, (hO.set j _).congr fun i hi => ?_⟩
        by_cases e : i = j
        · subst e; simp
        · simp only [if_neg e]
          by_cases e2 : i < j
          · rw [if_pos e2, if_pos (by omega)]
          · rw [if_neg e2, if_neg (by omega)]
    · obtain rfl : j = n := by omega
      go_wp2
      go_ret
      exact ⟨rfl, hc, hO.congr fun i hi => by simp [hi]⟩

theorem markInt64S_nil (k : Int) (w : World) :
    Calls Try.prog 117 #[.slice none 0 0, .int .i64 k] w fun e w' => e = .returned (.int .i64 k) ∧ w = w' := by
  go_enter Try.func117, Try.ntmps117
  go_wp2
  go_loopg [1, 5] 0 (fun _ q i wr => q = .int .i64 k ∧ i = .int .i64 0 ∧ wr = w)
  case atStart => exact ⟨rfl, rfl, rfl⟩
  case round =>
    obtain ⟨rfl, rfl, rfl⟩ := hrel
    go_wp2
    go_ret
    exact ⟨rfl, rfl⟩

set_option maxHeartbeats 400000 in
theorem heldInt64S_c (v : Value) (n : Nat) (X : Nat → Int) (k : Int) (w : World) (h : Ints w v n X) (h0 : 0 ≤ k) (hk : k ≤ 1099511627776) (hn : n ≤ 1099511627776) (hX : ∀ i, i < n → X i = k + i) :
    Calls Try.prog 118 #[v, .int .i64 k] w fun e w' => e = .returned (.int .i64 (k + n)) ∧ w = w' := by
  obtain ⟨ao, c, b, o, rfl, h2, h3, h4, h5⟩ := (h.congr hX).out
  clear h hX
  go_enter Try.func118, Try.ntmps118
  go_wp2
  go_loopg [1, 5] n (fun gg q i wr => wr = w ∧ ∃ j : Nat, j ≤ n ∧ gg = n - j ∧ i = .int .i64 j ∧ q = .int .i64 (k + j))
  case atStart => exact ⟨rfl, 0, Nat.zero_le _, rfl, rfl, by simp⟩
  case round =>
    obtain ⟨rfl, j, hj, rfl, rfl, rfl⟩ := hrel
    by_cases hlt : j < n
    · obtain rfl := h4 (by omega)
      have hc := h5 j hlt
      clear h5
      go_wp2
      go_roundg (n - (j + 1))
      case measure => omega
      case rel => exact ⟨rfl, j + 1, by omega, rfl, by go_num, by congr 1; simp; omega⟩
    · obtain rfl : j = n := by omega
      clear h5
      go_wp2
      go_ret
      exact ⟨rfl, rfl⟩

/-- A table that is owned, its blocks from B on and below M. -/
structure OTabM (w : World) (B M g cap G : Nat) (L : Nat → Nat) (T : Nat → Nat → Int) : Prop where
  out : ∃ R C : Nat → Nat, Own w 24 g cap G (fun i => .slice (some ⟨R i, 0, none⟩) (L i) (C i)) ∧ (B ≤ g ∧ g < M) ∧
    (∀ i, i < G → Own w 2 (R i) (C i) (L i) (fun j => .int .i64 (T i j)) ∧ (B ≤ R i ∧ R i < M) ∧ R i ≠ g) ∧ ∀ i j, i < G → j < i → R i ≠ R j

theorem OTab.bound {w : World} {B g cap G : Nat} {L : Nat → Nat} {T : Nat → Nat → Int} (h : OTab w B g cap G L T) : OTabM w B w.heap.size g cap G L T := by
  obtain ⟨R, C, h1, h2, h3, h4⟩ := h.out
  exact ⟨R, C, h1, ⟨h2, h1.lt⟩, fun i hi => ⟨(h3 i hi).1, ⟨(h3 i hi).2.1, (h3 i hi).1.lt⟩, (h3 i hi).2.2⟩, h4⟩

theorem OTabM.otab {w : World} {B M g cap G : Nat} {L : Nat → Nat} {T : Nat → Nat → Int} (h : OTabM w B M g cap G L T) : OTab w B g cap G L T := by
  obtain ⟨R, C, h1, h2, h3, h4⟩ := h.out
  exact ⟨R, C, h1, h2.1, fun i hi => ⟨(h3 i hi).1, (h3 i hi).2.1.1, (h3 i hi).2.2⟩, h4⟩

theorem OTabM.kept {w w' : World} {B M g cap G : Nat} {L : Nat → Nat} {T : Nat → Nat → Int} (h : OTabM w B M g cap G L T) (hb : Below w.heap.size w w') : OTabM w' B M g cap G L T := by
  obtain ⟨R, C, h1, h2, h3, h4⟩ := h.out
  exact ⟨R, C, h1.kept hb, h2, fun i hi => ⟨(h3 i hi).1.kept hb, (h3 i hi).2⟩, h4⟩

/-- k and the lengths of the first i rows. -/
def markT (k : Int) (L : Nat → Nat) (i j : Nat) : Int := k + sumL L i + j

theorem sumL_mono (L : Nat → Nat) (a d : Nat) : sumL L a ≤ sumL L (a + d) := by
  induction d with
  | zero => exact Nat.le_refl _
  | succ d ih => have e : sumL L (a + (d + 1)) = sumL L (a + d) + L (a + d) := rfl; omega
theorem sumL_le {L : Nat → Nat} {a b : Nat} (h : a ≤ b) : sumL L a ≤ sumL L b := by
  have := sumL_mono L a (b - a); rwa [show a + (b - a) = b by omega] at this
theorem sumL_row {L : Nat → Nat} {a b : Nat} (h : a < b) : L a ≤ sumL L b := by
  have h1 : sumL L (a + 1) = sumL L a + L a := rfl
  have := sumL_le (L := L) (show a + 1 ≤ b by omega); omega

set_option maxHeartbeats 400000 in
theorem markInt64SS_c (B M g cap G : Nat) (L : Nat → Nat) (T : Nat → Nat → Int) (k : Int) (w : World) (h : OTabM w B M g cap G L T) (h0 : 0 ≤ k) (hk : k ≤ 1048576) (hG : G ≤ 1048576) (hn : sumL L G ≤ 1048576) :
    Calls Try.prog 53 #[.slice (some ⟨g, 0, none⟩) G cap, .int .i64 k] w fun e w' => e = .returned (.int .i64 (k + sumL L G)) ∧ Chg w w' (fun b => B ≤ b ∧ b < M) ∧ OTabM w' B M g cap G L (markT k L) := by
  obtain ⟨R, C, h1, h2, h3, h4⟩ := h.out
  have hle := h1.le
  have hmax := h1.max
  have H3 := Lib.hid h3
  have H4 := Lib.hid h4
  clear h h3 h4
  go_enter Try.func53, Try.ntmps53
  go_wp2
  go_loopg [1, 5] G (fun gg q i wr => ∃ j : Nat, j ≤ G ∧ gg = G - j ∧ i = .int .i64 j ∧ q = .int .i64 (k + sumL L j) ∧ Chg w wr (fun b => ∃ i, i < G ∧ R i = b) ∧ ∀ i, i < G → Own wr 2 (R i) (C i) (L i) (fun x => .int .i64 (if i < j then markT k L i x else T i x)))
  case atStart => exact ⟨0, Nat.zero_le _, rfl, rfl, by simp [sumL], Chg.refl _ _, fun i hi => (H3.out i hi).1.congr fun x _ => by simp⟩
  case round =>
    obtain ⟨j, hj, rfl, rfl, rfl, hc, hO⟩ := hrel
    have HO := Lib.hid hO; clear hO
    have hT : Own wr 24 g cap G (fun i => .slice (some ⟨R i, 0, none⟩) (L i) (C i)) := hc.own h1 (fun ⟨i, hi, e⟩ => (H3.out i hi).2.2 e)
    by_cases hlt : j < G
    · have hu := hT.cell hlt
      have hs1 := sumL_row (L := L) hlt
      have hs2 := sumL_le (L := L) (show j ≤ G by omega)
      have hs3 : Hid (sumL L (j + 1) = sumL L j + L j) := rfl
      go_wp2_with fail
      refine (markInt64S_c _ _ _ _ _ _ (HO.out j hlt) (by omega) (by omega) (by omega)).mono ?_
      rintro e w1 ⟨rfl, hc1, hO1⟩
      clear hu hT
      go_wp2
      go_roundg (G - (j + 1))
      case measure => omega
      case rel =>
        refine ⟨j + 1, by omega, rfl, by go_num, by rw [hs3.out]; congr 1; simp; omega, hc.trans (hc1.mono fun b e => ⟨j, hlt, e.symm⟩), fun i hi => ?_⟩
        by_cases e : i = j
        · subst e
          exact hO1.congr fun x _ => by simp [markT]
        · have hne : R i ≠ R j := by
            rcases Nat.lt_or_ge i j with h | h
            · exact fun e2 => H4.out j i hlt h e2.symm
            · exact H4.out i j hi (by omega)
          refine (hc1.own (HO.out i hi) hne).congr fun x _ => ?_
          by_cases e2 : i < j
          · rw [if_pos e2, if_pos (by omega)]
          · rw [if_neg e2, if_neg (by omega)]
    · obtain rfl : j = G := by omega
      clear hT
      go_wp2
      go_ret
      have hS : ∀ b, (∃ i, i < j ∧ R i = b) → B ≤ b ∧ b < M := fun b ⟨i, hi, e⟩ => e ▸ (H3.out i hi).2.1
      refine ⟨rfl, hc.mono hS, ⟨R, C, hc.own h1 (fun ⟨i, hi, e⟩ => (H3.out i hi).2.2 e), h2, fun i hi => ⟨(HO.out i hi).congr fun x _ => by simp [hi], (H3.out i hi).2⟩, H4.out⟩⟩

end Go.Proofs.Ytnkflgigbielgaa
