/-
  What the reference's functions on loops compute. No condition beside sizes.
-/
import Derived.Test.YtejbigdebjcomaaDoorKJ
import Derived.Test.YtejbigdebjcomaaDoorQ13
import Derived.Deep.DeepCutAuto
import Derived.Deep.OwnRows
import Derived.BigRegion
set_option linter.unusedVariables false
set_option linter.unusedSimpArgs false
set_option maxRecDepth 100000
namespace Go.Proofs.YtejbigdebjcomaaDoor
open Go.RowKit


theorem sIn_c (n low high : Int) (w : World) : Calls Tryd.prog 43 #[.int .i64 n, .int .i64 low, .int .i64 high] w fun e w' => e = .returned (.bool (inB n low high)) ∧ w = w' := by
  by_cases h : low ≤ n
  · by_cases h2 : n ≤ high
    · go_enter Tryd.func43, Tryd.ntmps43
      go_wp2
      go_ret
      exact ⟨ret_bool (by simp [inB, h, h2]), rfl⟩
    · go_enter Tryd.func43, Tryd.ntmps43
      go_wp2
      go_ret
      exact ⟨ret_bool (by simp [inB, h2]), rfl⟩
  · go_enter Tryd.func43, Tryd.ntmps43
    go_wp2
    go_ret
    exact ⟨ret_bool (by unfold inB; exact (decide_eq_false (by omega)).symm), rfl⟩


/-- A call that makes memory and turns none. -/
structure Makes (w w' : World) (e : Ending) (v : Value) : Prop where
  out : e = .returned v ∧ Below w.heap.size w w'

end Go.Proofs.YtejbigdebjcomaaDoor

/-
  A loop's table in memory; what the reference's functions compute of it. No condition beside sizes.
-/
set_option linter.unusedVariables false
set_option linter.unusedSimpArgs false
namespace Go.Proofs.YtejbigdebjcomaaDoor
open Go.RowKit


structure LT (w : World) (v : Value) (G : Nat) (N : Nat → Nat → Nat) : Prop where
  out : ∃ (c b o : Nat) (C RB RO : Nat → Nat), v = .slice (some ⟨b, o, none⟩) G c ∧ G ≤ c ∧ c ≤ 9223372036854775807 ∧ (∀ i, i < G → w.cell? ⟨b, o + i, none⟩ = some (.slice (some ⟨RB i, RO i, none⟩) G (C i))) ∧ (∀ i, i < G → G ≤ C i ∧ C i ≤ 9223372036854775807) ∧
    (∀ i j, i < G → j < G → w.cell? ⟨RB i, RO i + j, none⟩ = some (.int .i64 (N i j))) ∧ 1 ≤ G ∧ G ≤ 128 ∧ ∀ i j, N i j < G


theorem Tab.lt {w : World} {v : Value} {G : Nat} {L : Nat → Nat} {T : Nat → Nat → Int} (h : Tab w v G L T) (hl : LoopOk G L T) : LT w v G (NT G T) := by
  obtain ⟨ao, c, b, o, A, C, RB, RO, rfl, p2, p3, p4, p5, p6, p7, p8⟩ := h.out
  have h1 := hl.pos
  obtain rfl := p4 (by omega)
  refine ⟨c, b, o, C, RB, RO, rfl, p2, p3, fun i hi => ?_, fun i hi => ?_, fun i j hi hj => ?_, h1, hl.max, fun i j => NT_lt h1 T i j⟩
  · rw [p5 i hi, hl.len i hi, p7 i hi (by rw [hl.len i hi]; omega)]
  · have := p6 i hi; rw [hl.len i hi] at this; exact this
  · rw [p8 i j hi (by rw [hl.len i hi]; exact hj), hl.nt hi hj]


theorem LT.drewN {w : World} {v : Value} {G : Nat} {N : Nat → Nat → Nat} (h : LT w v G N) (q : Nat) : LT (w.drewN q) v G N := by
  obtain ⟨c, b, o, C, RB, RO, p1, p2, p3, p4, p5, p6, p7⟩ := h.out
  exact ⟨c, b, o, C, RB, RO, p1, p2, p3, fun i hi => by simpa using p4 i hi, p5, fun i j hi hj => by simpa using p6 i j hi hj, p7⟩

theorem LT.below {w w' : World} {v : Value} {G : Nat} {N : Nat → Nat → Nat} (h : LT w v G N) (hb : Below w.heap.size w w') : LT w' v G N := by
  obtain ⟨c, b, o, C, RB, RO, p1, p2, p3, p4, p5, p6, p7⟩ := h.out
  exact ⟨c, b, o, C, RB, RO, p1, p2, p3, fun i hi => by rw [hb.cell (p := ⟨b, o + i, none⟩) (lt_of_cell (p4 i hi))]; exact p4 i hi, p5, fun i j hi hj => by rw [hb.cell (p := ⟨RB i, RO i + j, none⟩) (lt_of_cell (p6 i j hi hj))]; exact p6 i j hi hj, p7⟩

theorem LT.pos {w : World} {v : Value} {G : Nat} {N : Nat → Nat → Nat} (h : LT w v G N) : 1 ≤ G ∧ G ≤ 128 ∧ ∀ i j, N i j < G := by
  obtain ⟨c, b, o, C, RB, RO, p1, p2, p3, p4, p5, p6, p7⟩ := h.out
  exact p7

end Go.Proofs.YtejbigdebjcomaaDoor

/-
  What the reference's functions on loops compute: triples, order, inverse, nucleus. No condition beside sizes.
-/
set_option linter.unusedVariables false
set_option linter.unusedSimpArgs false
namespace Go.Proofs.YtejbigdebjcomaaDoor
open Go.RowKit


theorem Calls.reads' {P : Program} {f : FuncId} {args : Array Value} {w wr : World} {v : Value} (h : Calls P f args w fun e w' => Reads w w' e v) (R : Ending → World → Prop) (hR : ∀ q, R (.returned v) (w.drewN q)) : Calls P f args w R :=
  h.mono fun e w' h => by obtain ⟨rfl, q, rfl⟩ := h.out; exact hR q


/-- a number and a code -/
def rI (ok : Bool) (x : Int) : Value := if ok then .tuple #[.int .i64 x, .int .i64 0] else .tuple #[.int .i64 0, .int .i64 1]

/-- a bool and a code -/
def rB (ok : Bool) (x : Bool) : Value := if ok then .tuple #[.bool x, .int .i64 0] else .tuple #[.bool false, .int .i64 1]


theorem ret_v {a b : Value} (h : a = b) : Ending.returned a = .returned b := by rw [h]


theorem Calls.makes' {P : Program} {f : FuncId} {args : Array Value} {w : World} {v : Value} (h : Calls P f args w fun e w' => Makes w w' e v) (R : Ending → World → Prop) (hR : ∀ w', Below w.heap.size w w' → R (.returned v) w') : Calls P f args w R :=
  h.mono fun e w' h => by obtain ⟨rfl, hb⟩ := h.out; exact hR w' hb


theorem Reads.below {w w' : World} {q : Nat} (h : Below w.heap.size w w') : Below w.heap.size w (w'.drewN q) := ⟨h.os, h.tape, h.output, h.size, h.block⟩

end Go.Proofs.YtejbigdebjcomaaDoor

/-
  What the reference's functions on loops compute: tests, order, inverse, nucleus. No condition beside sizes.
-/
set_option linter.unusedVariables false
set_option linter.unusedSimpArgs false
namespace Go.Proofs.YtejbigdebjcomaaDoor
open Go.RowKit


theorem natB (a b : Nat) : ((a : Int) == (b : Int)) = decide (a = b) := by
  by_cases e : a = b
  · subst e; simp
  · rw [decide_eq_false e]; exact beq_eq_false_iff_ne.2 (by omega)


/-- The code of a loop and an element. -/
def codeV (ok : Bool) (G : Nat) (x : Int) : Int := if ok then (if inB x 0 ((G : Int) - 1) then 0 else 2) else 1


/-- a number and a code: the code where it is not 0 -/
def rC (code : Int) (x : Int) : Value := if code = 0 then .tuple #[.int .i64 x, .int .i64 0] else .tuple #[.int .i64 0, .int .i64 code]


theorem LT.row {w : World} {v : Value} {G : Nat} {N : Nat → Nat → Nat} (h : LT w v G N) {x : Nat} (hx : x < G) : ∃ (c b o : Nat) (u : Value), v = .slice (some ⟨b, o, none⟩) G c ∧ w.cell? ⟨b, o + x, none⟩ = some u ∧ Ints w u G (fun j => N x j) := by
  obtain ⟨c, b, o, C, RB, RO, p1, p2, p3, p4, p5, p6, p7⟩ := h.out
  exact ⟨c, b, o, _, p1, p4 x hx, ⟨_, C x, RB x, RO x, rfl, (p5 x hx).1, (p5 x hx).2, fun _ => rfl, fun j hj => p6 x j hx hj⟩⟩


theorem codeV_ok {ok : Bool} {G : Nat} {x : Int} (h : codeV ok G x = 0) : ok = true ∧ 0 ≤ x ∧ x < G := by
  unfold codeV at h
  cases ok
  · simp at h
  · cases hx : inB x 0 ((G : Int) - 1)
    · simp [hx] at h
    · unfold inB at hx; have := of_decide_eq_true hx; exact ⟨rfl, by omega, by omega⟩

end Go.Proofs.YtejbigdebjcomaaDoor

/-
  What the reference's functions on loops compute: order, nucleus. No condition beside sizes.
-/
set_option linter.unusedVariables false
set_option linter.unusedSimpArgs false
namespace Go.Proofs.YtejbigdebjcomaaDoor
open Go.RowKit


/-- the place found, one more; or the code 5 -/
def ordV (n k : Nat) : Value := if k < n then .tuple #[.int .i64 ((k + 1 : Nat) : Int), .int .i64 0] else .tuple #[.int .i64 0, .int .i64 5]

def rO (code : Int) (n k : Nat) : Value := if code = 0 then ordV n k else .tuple #[.int .i64 0, .int .i64 code]


/-- A list and a code: where ok, a list in new memory and 0; else nil and 1. -/
structure ResI (w w' : World) (e : Ending) (ok : Bool) (n : Nat) (X : Nat → Int) : Prop where
  out : Below w.heap.size w w' ∧ ((ok = true ∧ ∃ g c, e = .returned (.tuple #[.slice (some ⟨g, 0, none⟩) n c, .int .i64 0]) ∧ w.heap.size ≤ g ∧ Own w' 2 g c n (fun i => .int .i64 (X i))) ∨ (ok = false ∧ e = .returned (.tuple #[.slice none 0 0, .int .i64 1])))


/-- x is in the nucleus -/
def nucX (G : Nat) (N : Nat → Nat → Nat) (x : Nat) : Bool := all2 G (fun y z => nucB N x y z)

end Go.Proofs.YtejbigdebjcomaaDoor

/-
  What the program's functions on loops compute. No condition beside sizes.
-/
set_option linter.unusedVariables false
set_option linter.unusedSimpArgs false
namespace Go.Proofs.YtejbigdebjcomaaDoor
open Go.RowKit


theorem iIn_c (n low high : Int) (w : World) : Calls Tryd.prog 51 #[.int .i64 n, .int .i64 low, .int .i64 high] w fun e w' => e = .returned (.bool (inB n low high)) ∧ w = w' := by
  by_cases h : low ≤ n
  · by_cases h2 : n ≤ high
    · go_enter Tryd.func51, Tryd.ntmps51
      go_wp2
      go_ret
      exact ⟨ret_bool (by simp [inB, h, h2]), rfl⟩
    · go_enter Tryd.func51, Tryd.ntmps51
      go_wp2
      go_ret
      exact ⟨ret_bool (by simp [inB, h2]), rfl⟩
  · go_enter Tryd.func51, Tryd.ntmps51
    go_wp2
    go_ret
    exact ⟨ret_bool (by unfold inB; exact (decide_eq_false (by omega)).symm), rfl⟩


theorem iLenI_c (ao : Option Addr) (n c : Nat) (w : World) (hn : n ≤ 9223372036854775807) : Calls Tryd.prog 52 #[.slice ao n c] w fun e w' => e = .returned (.int .i64 n) ∧ w = w' := by
  go_enter Tryd.func52, Tryd.ntmps52
  go_wp2
  go_ret
  exact ⟨rfl, rfl⟩


/-- Each number below n once, as far as place k. -/
structure OnceTo (n : Nat) (X : Nat → Int) (k : Nat) : Prop where
  range : ∀ j, j < k → 0 ≤ X j ∧ X j < n
  diff : ∀ i j, i < j → j < k → X i ≠ X j
open Classical in

noncomputable def onceB (n : Nat) (X : Nat → Int) : Bool := decide (OnceTo n X n)

theorem onceB_true {n : Nat} {X : Nat → Int} (h : OnceTo n X n) : onceB n X = true := by
  unfold onceB; exact @decide_eq_true _ (Classical.propDecidable _) h

theorem onceB_false {n : Nat} {X : Nat → Int} (h : ¬ OnceTo n X n) : onceB n X = false := by
  unfold onceB; exact @decide_eq_false _ (Classical.propDecidable _) h

theorem onceB_ok {n : Nat} {X : Nat → Int} (h : onceB n X = true) : OnceTo n X n := by
  unfold onceB at h; exact @of_decide_eq_true _ (Classical.propDecidable _) h

end Go.Proofs.YtejbigdebjcomaaDoor

/-
  What the program's functions on loops compute: the test of a table. No condition beside sizes.
-/
set_option linter.unusedVariables false
set_option linter.unusedSimpArgs false
namespace Go.Proofs.YtejbigdebjcomaaDoor
open Go.RowKit


/-- the least k below n with p k, -1 if there is none -/
def idxB (p : Nat → Bool) (n : Nat) : Int := if fst p n < n then fst p n else -1

theorem idxB_at {p : Nat → Bool} {k n : Nat} (hk : k < n) (h : ∀ j, j < k → p j = false) (e : p k = true) : idxB p n = k := by
  unfold idxB; rw [fst_at hk h e, if_pos hk]

theorem idxB_none {p : Nat → Bool} {n : Nat} (h : ∀ j, j < n → p j = false) : idxB p n = -1 := by
  unfold idxB; rw [fst_none h, if_neg (Nat.lt_irrefl _)]


def anyB (p : Nat → Bool) (n : Nat) : Bool := decide (0 ≤ idxB p n)

theorem anyB_at {p : Nat → Bool} {n k : Nat} (hk : k < n) (e : p k = true) : anyB p n = true := by
  have h := (fst_more ⟨k, hk, e⟩ 0).1
  unfold anyB idxB; rw [if_pos h]; exact decide_eq_true (by omega)

theorem anyB_none {p : Nat → Bool} {n : Nat} (h : ∀ j, j < n → p j = false) : anyB p n = false := by
  unfold anyB; rw [idxB_none h]; rfl

end Go.Proofs.YtejbigdebjcomaaDoor

/-
  What the program's functions on loops compute: the code of a table and elements; triples. No condition beside sizes.
-/
set_option linter.unusedVariables false
set_option linter.unusedSimpArgs false
namespace Go.Proofs.YtejbigdebjcomaaDoor
open Go.RowKit


/-- The code of a loop and elements. -/
def codeL (ok : Bool) (G n : Nat) (X : Nat → Int) : Int := if ok then (if anyB (fun i => !inB (X i) 0 ((G : Int) - 1)) n then 2 else 0) else 1

theorem codeL_nil (ok : Bool) (G : Nat) (X : Nat → Int) : codeL ok G 0 X = if ok then 0 else 1 := by
  unfold codeL; rw [anyB_none fun j hj => absurd hj (Nat.not_lt_zero _)]; rfl

theorem codeL_one (ok : Bool) (G : Nat) (X : Nat → Int) : codeL ok G 1 X = codeV ok G (X 0) := by
  unfold codeL codeV
  cases h : inB (X 0) 0 ((G : Int) - 1)
  · rw [anyB_at (k := 0) (by omega) (by simp [h])]; simp
  · rw [anyB_none fun j hj => by obtain rfl : j = 0 := by omega
                                 simp [h]]; simp


/-- the empty list -/
theorem Ints.nil (w : World) (X : Nat → Int) : Ints w (.slice none 0 0) 0 X := ⟨none, 0, 0, 0, rfl, Nat.le_refl _, Nat.zero_le _, fun h => absurd h (Nat.not_lt_zero _), fun i hi => absurd hi (Nat.not_lt_zero _)⟩

theorem Ints.one (w : World) (x : Int) (t : TypeId) : Ints (w.alloc (.cells #[.int .i64 x] t)) (.slice (some ⟨w.heap.size, 0, none⟩) 1 1) 1 (fun _ => x) :=
  ⟨_, 1, w.heap.size, 0, rfl, Nat.le_refl _, by omega, fun _ => rfl, fun i hi => by obtain rfl : i = 0 := by omega
                                                                                    simp⟩

end Go.Proofs.YtejbigdebjcomaaDoor
