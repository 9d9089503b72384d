/-
  What the reference's functions on loops compute. No condition beside sizes.
-/
import Derived.Test.YtnkflgigbielgaaKJ
import Derived.Test.YtnkflgigbielgaaQ13
import Derived.Deep.DeepCutAuto
import Derived.Deep.OwnRows
import Derived.BigRegion
set_option linter.unusedVariables false
set_option linter.unusedSimpArgs false
namespace Go.Proofs.Ytnkflgigbielgaa
open Go.RowKit

theorem sIn_c (n low high : Int) (w : World) : Calls Try.prog 82 #[.int .i64 n, .int .i64 low, .int .i64 high] w fun e w' => e = .returned (.bool (inB n low high)) ∧ w = w' := by
  by_cases h : low ≤ n
  · by_cases h2 : n ≤ high
    · go_enter Try.func82, Try.ntmps82
      go_wp2
      go_ret
      exact ⟨ret_bool (by simp [inB, h, h2]), rfl⟩
    · go_enter Try.func82, Try.ntmps82
      go_wp2
      go_ret
      exact ⟨ret_bool (by simp [inB, h2]), rfl⟩
  · go_enter Try.func82, Try.ntmps82
    go_wp2
    go_ret
    exact ⟨ret_bool (by unfold inB; exact (decide_eq_false (by omega)).symm), rfl⟩

/-- A call that makes memory and turns none. -/
structure Makes (w w' : World) (e : Ending) (v : Value) : Prop where
  out : e = .returned v ∧ Below w.heap.size w w'

end Go.Proofs.Ytnkflgigbielgaa

/-
  A loop's table in memory; what the reference's functions compute of it. No condition beside sizes.
-/
set_option linter.unusedVariables false
set_option linter.unusedSimpArgs false
namespace Go.Proofs.Ytnkflgigbielgaa
open Go.RowKit

structure LT (w : World) (v : Value) (G : Nat) (N : Nat → Nat → Nat) : Prop where
  out : ∃ (c b o : Nat) (C RB RO : Nat → Nat), v = .slice (some ⟨b, o, none⟩) G c ∧ G ≤ c ∧ c ≤ 9223372036854775807 ∧ (∀ i, i < G → w.cell? ⟨b, o + i, none⟩ = some (.slice (some ⟨RB i, RO i, none⟩) G (C i))) ∧ (∀ i, i < G → G ≤ C i ∧ C i ≤ 9223372036854775807) ∧
    (∀ i j, i < G → j < G → w.cell? ⟨RB i, RO i + j, none⟩ = some (.int .i64 (N i j))) ∧ 1 ≤ G ∧ G ≤ 128 ∧ ∀ i j, N i j < G

theorem Tab.lt {w : World} {v : Value} {G : Nat} {L : Nat → Nat} {T : Nat → Nat → Int} (h : Tab w v G L T) (hl : LoopOk G L T) : LT w v G (NT G T) := by
  obtain ⟨ao, c, b, o, A, C, RB, RO, rfl, p2, p3, p4, p5, p6, p7, p8⟩ := h.out
  have h1 := hl.pos
  obtain rfl := p4 (by omega)
  refine ⟨c, b, o, C, RB, RO, rfl, p2, p3, fun i hi => ?_, fun i hi => ?_, fun i j hi hj => ?_, h1, hl.max, fun i j => NT_lt h1 T i j⟩
  · rw [p5 i hi, hl.len i hi, p7 i hi (by rw [hl.len i hi]; omega)]
  · have := p6 i hi; rw [hl.len i hi] at this; exact this
  · rw [p8 i j hi (by rw [hl.len i hi]; exact hj), hl.nt hi hj]

theorem LT.drewN {w : World} {v : Value} {G : Nat} {N : Nat → Nat → Nat} (h : LT w v G N) (q : Nat) : LT (w.drewN q) v G N := by
  obtain ⟨c, b, o, C, RB, RO, p1, p2, p3, p4, p5, p6, p7⟩ := h.out
  exact ⟨c, b, o, C, RB, RO, p1, p2, p3, fun i hi => by simpa using p4 i hi, p5, fun i j hi hj => by simpa using p6 i j hi hj, p7⟩
theorem LT.below {w w' : World} {v : Value} {G : Nat} {N : Nat → Nat → Nat} (h : LT w v G N) (hb : Below w.heap.size w w') : LT w' v G N := by
  obtain ⟨c, b, o, C, RB, RO, p1, p2, p3, p4, p5, p6, p7⟩ := h.out
  exact ⟨c, b, o, C, RB, RO, p1, p2, p3, fun i hi => by rw [hb.cell (p := ⟨b, o + i, none⟩) (lt_of_cell (p4 i hi))]; exact p4 i hi, p5, fun i j hi hj => by rw [hb.cell (p := ⟨RB i, RO i + j, none⟩) (lt_of_cell (p6 i j hi hj))]; exact p6 i j hi hj, p7⟩
theorem LT.pos {w : World} {v : Value} {G : Nat} {N : Nat → Nat → Nat} (h : LT w v G N) : 1 ≤ G ∧ G ≤ 128 ∧ ∀ i j, N i j < G := by
  obtain ⟨c, b, o, C, RB, RO, p1, p2, p3, p4, p5, p6, p7⟩ := h.out
  exact p7

end Go.Proofs.Ytnkflgigbielgaa

/-
  What the reference's functions on loops compute: triples, order, inverse, nucleus. No condition beside sizes.
-/
set_option linter.unusedVariables false
set_option linter.unusedSimpArgs false
namespace Go.Proofs.Ytnkflgigbielgaa
open Go.RowKit

theorem Calls.reads' {P : Program} {f : FuncId} {args : Array Value} {w wr : World} {v : Value} (h : Calls P f args w fun e w' => Reads w w' e v) (R : Ending → World → Prop) (hR : ∀ q, R (.returned v) (w.drewN q)) : Calls P f args w R :=
  h.mono fun e w' h => by obtain ⟨rfl, q, rfl⟩ := h.out; exact hR q

/-- a number and a code -/
def rI (ok : Bool) (x : Int) : Value := if ok then .tuple #[.int .i64 x, .int .i64 0] else .tuple #[.int .i64 0, .int .i64 1]
/-- a bool and a code -/
def rB (ok : Bool) (x : Bool) : Value := if ok then .tuple #[.bool x, .int .i64 0] else .tuple #[.bool false, .int .i64 1]

theorem ret_v {a b : Value} (h : a = b) : Ending.returned a = .returned b := by rw [h]

theorem Calls.makes' {P : Program} {f : FuncId} {args : Array Value} {w : World} {v : Value} (h : Calls P f args w fun e w' => Makes w w' e v) (R : Ending → World → Prop) (hR : ∀ w', Below w.heap.size w w' → R (.returned v) w') : Calls P f args w R :=
  h.mono fun e w' h => by obtain ⟨rfl, hb⟩ := h.out; exact hR w' hb

theorem Reads.below {w w' : World} {q : Nat} (h : Below w.heap.size w w') : Below w.heap.size w (w'.drewN q) := ⟨h.os, h.tape, h.output, h.size, h.block⟩

end Go.Proofs.Ytnkflgigbielgaa

/-
  What the reference's functions on loops compute: tests, order, inverse, nucleus. No condition beside sizes.
-/
set_option linter.unusedVariables false
set_option linter.unusedSimpArgs false
namespace Go.Proofs.Ytnkflgigbielgaa
open Go.RowKit

/-- The code of a loop and an element. -/
def codeV (ok : Bool) (G : Nat) (x : Int) : Int := if ok then (if inB x 0 ((G : Int) - 1) then 0 else 2) else 1

set_option maxHeartbeats 400000 in
theorem sIndex_c (v : Value) (n : Nat) (X : Nat → Int) (x : Int) (w : World) (h : Ints w v n X) :
    Calls Try.prog 164 #[v, .int .i64 x] w fun e w' => e = .returned (.int .i64 (idx X x n)) ∧ w = w' := by
  obtain ⟨ao, c, b, o, rfl, p2, p3, p4, p5⟩ := h.out
  clear h
  go_enter Try.func164, Try.ntmps164
  go_wp2
  go_loopg [5] n (fun g i wr => w = wr ∧ ∃ k : Nat, k ≤ n ∧ g = n - k ∧ i = .int .i64 k ∧ ∀ j, j < k → X j ≠ x)
  case atStart => exact ⟨rfl, 0, Nat.zero_le _, rfl, rfl, fun j hj => absurd hj (Nat.not_lt_zero _)⟩
  case round =>
    obtain ⟨rfl, k, hk, rfl, rfl, hall⟩ := hrel
    have H := Lib.hid hall; clear hall
    by_cases hlt : k < n
    · obtain rfl := p4 (by omega)
      by_cases hx : X k = x
      · have ht : (X k == x) = true := by simpa using hx
        have HX := Lib.hid hx; clear hx
        go_wp2
        go_ret
        exact ⟨ret_i64 (idx_at hlt H.out HX.out).symm, rfl⟩
      · have ht : (X k == x) = false := by simpa using hx
        go_wp2
        go_roundg (n - (k + 1))
        case measure => omega
        case rel => exact ⟨rfl, k + 1, by omega, rfl, by go_num, fun j hj => by
          by_cases e : j = k
          · subst e; exact hx
          · exact H.out j (by omega)⟩
    · obtain rfl : k = n := by omega
      go_wp2
      go_ret
      exact ⟨ret_i64 (idx_none H.out).symm, rfl⟩

/-- a number and a code: the code where it is not 0 -/
def rC (code : Int) (x : Int) : Value := if code = 0 then .tuple #[.int .i64 x, .int .i64 0] else .tuple #[.int .i64 0, .int .i64 code]

theorem LT.row {w : World} {v : Value} {G : Nat} {N : Nat → Nat → Nat} (h : LT w v G N) {x : Nat} (hx : x < G) : ∃ (c b o : Nat) (u : Value), v = .slice (some ⟨b, o, none⟩) G c ∧ w.cell? ⟨b, o + x, none⟩ = some u ∧ Ints w u G (fun j => N x j) := by
  obtain ⟨c, b, o, C, RB, RO, p1, p2, p3, p4, p5, p6, p7⟩ := h.out
  exact ⟨c, b, o, _, p1, p4 x hx, ⟨_, C x, RB x, RO x, rfl, (p5 x hx).1, (p5 x hx).2, fun _ => rfl, fun j hj => p6 x j hx hj⟩⟩

theorem codeV_ok {ok : Bool} {G : Nat} {x : Int} (h : codeV ok G x = 0) : ok = true ∧ 0 ≤ x ∧ x < G := by
  unfold codeV at h
  cases ok
  · simp at h
  · cases hx : inB x 0 ((G : Int) - 1)
    · simp [hx] at h
    · unfold inB at hx; have := of_decide_eq_true hx; exact ⟨rfl, by omega, by omega⟩

end Go.Proofs.Ytnkflgigbielgaa

/-
  What the reference's functions on loops compute: order, nucleus. No condition beside sizes.
-/
set_option linter.unusedVariables false
set_option linter.unusedSimpArgs false
namespace Go.Proofs.Ytnkflgigbielgaa
open Go.RowKit

/-- the place found, one more; or the code 5 -/
def ordV (n k : Nat) : Value := if k < n then .tuple #[.int .i64 ((k + 1 : Nat) : Int), .int .i64 0] else .tuple #[.int .i64 0, .int .i64 5]
def rO (code : Int) (n k : Nat) : Value := if code = 0 then ordV n k else .tuple #[.int .i64 0, .int .i64 code]

/-- A list and a code: where ok, a list in new memory and 0; else nil and 1. -/
structure ResI (w w' : World) (e : Ending) (ok : Bool) (n : Nat) (X : Nat → Int) : Prop where
  out : Below w.heap.size w w' ∧ ((ok = true ∧ ∃ g c, e = .returned (.tuple #[.slice (some ⟨g, 0, none⟩) n c, .int .i64 0]) ∧ w.heap.size ≤ g ∧ Own w' 2 g c n (fun i => .int .i64 (X i))) ∨ (ok = false ∧ e = .returned (.tuple #[.slice none 0 0, .int .i64 1])))

/-- x is in the nucleus -/
def nucX (G : Nat) (N : Nat → Nat → Nat) (x : Nat) : Bool := all2 G (fun y z => nucB N x y z)

end Go.Proofs.Ytnkflgigbielgaa

/-
  What the program's functions on loops compute. No condition beside sizes.
-/
set_option linter.unusedVariables false
set_option linter.unusedSimpArgs false
namespace Go.Proofs.Ytnkflgigbielgaa
open Go.RowKit

theorem iIn_c (n low high : Int) (w : World) : Calls Try.prog 69 #[.int .i64 n, .int .i64 low, .int .i64 high] w fun e w' => e = .returned (.bool (inB n low high)) ∧ w = w' := by
  by_cases h : low ≤ n
  · by_cases h2 : n ≤ high
    · go_enter Try.func69, Try.ntmps69
      go_wp2
      go_ret
      exact ⟨ret_bool (by simp [inB, h, h2]), rfl⟩
    · go_enter Try.func69, Try.ntmps69
      go_wp2
      go_ret
      exact ⟨ret_bool (by simp [inB, h2]), rfl⟩
  · go_enter Try.func69, Try.ntmps69
    go_wp2
    go_ret
    exact ⟨ret_bool (by unfold inB; exact (decide_eq_false (by omega)).symm), rfl⟩

theorem iLenI_c (ao : Option Addr) (n c : Nat) (w : World) (hn : n ≤ 9223372036854775807) : Calls Try.prog 70 #[.slice ao n c] w fun e w' => e = .returned (.int .i64 n) ∧ w = w' := by
  go_enter Try.func70, Try.ntmps70
  go_wp2
  go_ret
  exact ⟨rfl, rfl⟩

/-- Each number below n once, as far as place k. -/
structure OnceTo (n : Nat) (X : Nat → Int) (k : Nat) : Prop where
  range : ∀ j, j < k → 0 ≤ X j ∧ X j < n
  diff : ∀ i j, i < j → j < k → X i ≠ X j
open Classical in
noncomputable def onceB (n : Nat) (X : Nat → Int) : Bool := decide (OnceTo n X n)
theorem onceB_true {n : Nat} {X : Nat → Int} (h : OnceTo n X n) : onceB n X = true := by
  unfold onceB; exact @decide_eq_true _ (Classical.propDecidable _) h
theorem onceB_false {n : Nat} {X : Nat → Int} (h : ¬ OnceTo n X n) : onceB n X = false := by
  unfold onceB; exact @decide_eq_false _ (Classical.propDecidable _) h
theorem onceB_ok {n : Nat} {X : Nat → Int} (h : onceB n X = true) : OnceTo n X n := by
  unfold onceB at h; exact @of_decide_eq_true _ (Classical.propDecidable _) h

set_option maxHeartbeats 1000000 in
theorem iTranspose_c (v : Value) (G M : Nat) (L : Nat → Nat) (T : Nat → Nat → Int) (w : World) (h : Tab w v G L T) (hG : 1 ≤ G) (hG2 : G ≤ 1048576) (hM : M ≤ 1048576) (hL0 : L 0 = M) (hL : ∀ i, i < G → M ≤ L i) :
    Calls Try.prog 116 #[v] w fun e w' => CopyT w w' e M (fun _ => G) (fun k i => T i k) := by
  obtain ⟨ao, c, b, o, A, C, RB, RO, rfl, p2, p3, p4, p5, p6, p7, p8⟩ := h.out
  clear h
  obtain rfl := p4 (by omega)
  have e0 : w.cell? ⟨b, o, none⟩ = some (.slice (A 0) M (C 0)) := by rw [show o = o + 0 from rfl, p5 0 (by omega), hL0]
  have hG0 : 0 < G := hG
  have hbl : b < w.heap.size := lt_of_cell e0
  have P5 := Lib.hid p5
  have P7 := Lib.hid p7
  have P8 := Lib.hid p8
  have HL := Lib.hid hL
  clear p4 p5 p6 p7 p8 hL hL0
  go_enter Try.func116, Try.ntmps116
  go_wp2
  go_loopg [3, 12] M (fun g s i wr => ∃ k : Nat, k ≤ M ∧ g = M - k ∧ i = .int .i64 k ∧ ∃ g' c', s = .slice (some ⟨g', 0, none⟩) k c' ∧ Below w.heap.size w wr ∧ OTab wr w.heap.size g' c' k (fun _ => G) (fun k i => T i k))
  case atStart => exact ⟨0, Nat.zero_le _, rfl, rfl, _, _, rfl, (Below.refl _ _).alloc (Nat.le_refl _) _, ⟨fun _ => 0, fun _ => 0, Own.empty _ _ _, Nat.le_refl _, fun i hi => absurd hi (Nat.not_lt_zero _), fun i j hi => absurd hi (Nat.not_lt_zero _)⟩⟩
  case round =>
    obtain ⟨k, hk, rfl, rfl, g', c', rfl, hb, hT⟩ := hrel
    by_cases hlt : k < M
    · go_wp2
      obtain ⟨wo, hwo⟩ : ∃ wo, wo = wr := ⟨_, rfl⟩
      rw [← hwo] at hb hT ⊢
      clear hwo
      have hbs := hb.size
      go_loopg [5, 18] G (fun g s i wr => ∃ j : Nat, j ≤ G ∧ g = G - j ∧ i = .int .i64 j ∧ ∃ g2 c2, s = .slice (some ⟨g2, 0, none⟩) j c2 ∧ wo.heap.size ≤ g2 ∧ Below wo.heap.size wo wr ∧ Own wr 2 g2 c2 j (fun i => .int .i64 (T i k)))
      case atStart => exact ⟨0, Nat.zero_le _, rfl, rfl, _, _, rfl, Nat.le_refl _, (Below.refl _ _).alloc (Nat.le_refl _) _, Own.empty _ _ _⟩
      case round =>
        obtain ⟨j, hj, rfl, rfl, g2, c2, rfl, hg2, hb2, hO⟩ := hrel
        by_cases hlt2 : j < G
        · have hkL : k < L j := by have := HL.out j hlt2; omega
          have hbb := hb.trans (hb2.mono hbs)
          have e1 : wr.cell? ⟨b, o + j, none⟩ = some (.slice (some ⟨RB j, RO j, none⟩) (L j) (C j)) := by
            rw [hbb.cell (p := ⟨b, o + j, none⟩) (lt_of_cell (P5.out j hlt2)), P5.out j hlt2, P7.out j hlt2 (by omega)]
          have e2 : wr.cell? ⟨RB j, RO j + k, none⟩ = some (.int .i64 (T j k)) := by
            rw [hbb.cell (p := ⟨RB j, RO j + k, none⟩) (lt_of_cell (P8.out j k hlt2 hkL)), P8.out j k hlt2 hkL]
          go_wp2_with (at_builtin; refine wpList_push _ rfl _ _ _ _ elI rfl hO (.int .i64 (T j k)) rfl rfl rfl (by omega) (by omega) ?_; rotate_right; intro g3 c3 w3 hO3 hg3 hgr3)
          go_roundg (G - (j + 1))
          case measure => omega
          case rel =>
            have hlt4 := hb2.size
            refine ⟨j + 1, by omega, rfl, by go_num, g3, c3, rfl, by omega, hb2.grown hgr3 hlt4 (fun k e => by injection e with e; omega), hO3.congr fun i hi => ?_⟩
            by_cases e2 : i = j
            · subst e2; simp
            · simp [e2]
        · obtain rfl : j = G := by omega
          obtain ⟨V, hV, hpush⟩ := hT.pushAt hbs
          have hV2 := hV.kept hb2
          have HP := Lib.hid hpush
          clear hpush
          go_wp2_with (at_builtin; refine wpList_push _ rfl _ _ _ _ elR rfl hV2 (.slice (some ⟨g2, 0, none⟩) j c2) rfl rfl rfl (by omega) (by omega) ?_; intro g3 c3 w3 hO3 hg3 hgr3)
          have hs2 := hb2.size
          have hgB := hT.base
          go_roundg (M - (k + 1))
          case measure => omega
          case rel => exact ⟨k + 1, by omega, rfl, by go_num, g3, c3, rfl, (hb.trans (hb2.mono hbs)).grown hgr3 (by omega) (fun k e => by injection e with e; omega), (HP.out _ _ _ _ _ _ _ _ hb2 hO hg2 hO3 hg3 hgr3).congr (fun i hi => by by_cases e : i = k <;> simp [e]) (fun i j hi hj => by by_cases e : i = k <;> simp [e])⟩
    · obtain rfl : k = M := by omega
      go_wp2
      go_ret
      exact ⟨g', c', rfl, hb, hT⟩

end Go.Proofs.Ytnkflgigbielgaa

/-
  What the program's functions on loops compute: the test of a table. No condition beside sizes.
-/
set_option linter.unusedVariables false
set_option linter.unusedSimpArgs false
namespace Go.Proofs.Ytnkflgigbielgaa
open Go.RowKit

/-- the least k below n with p k, -1 if there is none -/
def idxB (p : Nat → Bool) (n : Nat) : Int := if fst p n < n then fst p n else -1
theorem idxB_at {p : Nat → Bool} {k n : Nat} (hk : k < n) (h : ∀ j, j < k → p j = false) (e : p k = true) : idxB p n = k := by
  unfold idxB; rw [fst_at hk h e, if_pos hk]
theorem idxB_none {p : Nat → Bool} {n : Nat} (h : ∀ j, j < n → p j = false) : idxB p n = -1 := by
  unfold idxB; rw [fst_none h, if_neg (Nat.lt_irrefl _)]

set_option maxHeartbeats 400000 in
/-- slices.IndexFunc over a table, the test a function that makes memory and turns none. -/
theorem iIndexFuncR_c (f : FuncId) (hcf : ∀ (a : Array Value) (W : World), (callFunc f a).run Try.prog W = .ok (.enter f a) W) (v : Value) (G : Nat) (L : Nat → Nat) (T : Nat → Nat → Int) (p : Nat → Bool) (w : World) (h : Tab w v G L T)
    (hf : ∀ i, i < G → ∀ W u, Below w.heap.size w W → Ints W u (L i) (T i) → Calls Try.prog f #[u] W fun e W' => Makes W W' e (.bool (p i))) :
    Calls Try.prog 149 #[v, .func (.func f) #[] #[]] w fun e w' => Makes w w' e (.int .i64 (idxB p G)) := by
  obtain ⟨ao, c, b, o, A, C, RB, RO, rfl, p2, p3, p4, p5, p6, p7, p8⟩ := h.out
  have hr := fun i hi => Tab.rowAt p6 p7 p8 (i := i) hi
  have Hr := Lib.hid hr
  have P5 := Lib.hid p5
  have HF := Lib.hid hf
  clear p5 p6 p7 p8 h hf hr
  go_enter Try.func149, Try.ntmps149
  go_wp2
  go_loopg [8] G (fun g i wr => ∃ k : Nat, k ≤ G ∧ g = G - k ∧ i = .int .i64 k ∧ Below w.heap.size w wr ∧ ∀ j, j < k → p j = false)
  case atStart => exact ⟨0, Nat.zero_le _, rfl, rfl, Below.refl _ _, fun j hj => absurd hj (Nat.not_lt_zero _)⟩
  case round =>
    obtain ⟨k, hk, rfl, rfl, hb, hall⟩ := hrel
    have HA := Lib.hid hall; clear hall
    by_cases hlt : k < G
    · obtain rfl := p4 (by omega)
      have e1 : wr.cell? ⟨b, o + k, none⟩ = some (.slice (A k) (L k) (C k)) := by rw [hb.cell (p := ⟨b, o + k, none⟩) (lt_of_cell (P5.out k hlt))]; exact P5.out k hlt
      have hbs := hb.size
      go_wp2_with fail
      refine Calls.makes' (HF.out k hlt _ _ hb ((Hr.out k hlt).below hb)) _ fun w1 hb1 => ?_
      cases hp : p k
      · go_wp2
        go_roundg (G - (k + 1))
        case measure => omega
        case rel => exact ⟨k + 1, by omega, rfl, by go_num, hb.trans (hb1.mono hbs), fun j hj => by
          by_cases e : j = k
          · subst e; exact hp
          · exact HA.out j (by omega)⟩
      · go_wp2
        go_ret
        exact ⟨ret_i64 (idxB_at hlt HA.out hp).symm, hb.trans (hb1.mono hbs)⟩
    · obtain rfl : k = G := by omega
      go_wp2
      go_ret
      exact ⟨ret_i64 (idxB_none HA.out).symm, hb⟩

def anyB (p : Nat → Bool) (n : Nat) : Bool := decide (0 ≤ idxB p n)
theorem anyB_at {p : Nat → Bool} {n k : Nat} (hk : k < n) (e : p k = true) : anyB p n = true := by
  have h := (fst_more ⟨k, hk, e⟩ 0).1
  unfold anyB idxB; rw [if_pos h]; exact decide_eq_true (by omega)
theorem anyB_none {p : Nat → Bool} {n : Nat} (h : ∀ j, j < n → p j = false) : anyB p n = false := by
  unfold anyB; rw [idxB_none h]; rfl

theorem iContainsFuncR_c (f : FuncId) (hcf : ∀ (a : Array Value) (W : World), (callFunc f a).run Try.prog W = .ok (.enter f a) W) (v : Value) (G : Nat) (L : Nat → Nat) (T : Nat → Nat → Int) (p : Nat → Bool) (w : World) (h : Tab w v G L T)
    (hf : ∀ i, i < G → ∀ W u, Below w.heap.size w W → Ints W u (L i) (T i) → Calls Try.prog f #[u] W fun e W' => Makes W W' e (.bool (p i))) :
    Calls Try.prog 114 #[v, .func (.func f) #[] #[]] w fun e w' => Makes w w' e (.bool (anyB p G)) := by
  have HF := Lib.hid hf
  clear hf
  go_enter Try.func114, Try.ntmps114
  go_wp2_with fail
  refine Calls.makes' (iIndexFuncR_c f hcf _ _ _ _ p _ h HF.out) _ fun w1 hb1 => ?_
  go_wp2
  go_ret
  exact ⟨rfl, hb1⟩

end Go.Proofs.Ytnkflgigbielgaa

/-
  What the program's functions on loops compute: the code of a table and elements; triples. No condition beside sizes.
-/
set_option linter.unusedVariables false
set_option linter.unusedSimpArgs false
namespace Go.Proofs.Ytnkflgigbielgaa
open Go.RowKit

/-- The code of a loop and elements. -/
def codeL (ok : Bool) (G n : Nat) (X : Nat → Int) : Int := if ok then (if anyB (fun i => !inB (X i) 0 ((G : Int) - 1)) n then 2 else 0) else 1
theorem codeL_nil (ok : Bool) (G : Nat) (X : Nat → Int) : codeL ok G 0 X = if ok then 0 else 1 := by
  unfold codeL; rw [anyB_none fun j hj => absurd hj (Nat.not_lt_zero _)]; rfl
theorem codeL_one (ok : Bool) (G : Nat) (X : Nat → Int) : codeL ok G 1 X = codeV ok G (X 0) := by
  unfold codeL codeV
  cases h : inB (X 0) 0 ((G : Int) - 1)
  · rw [anyB_at (k := 0) (by omega) (by simp [h])]; simp
  · rw [anyB_none fun j hj => by obtain rfl : j = 0 := by omega
                                 simp [h]]; simp

/-- the empty list -/
theorem Ints.nil (w : World) (X : Nat → Int) : Ints w (.slice none 0 0) 0 X := ⟨none, 0, 0, 0, rfl, Nat.le_refl _, Nat.zero_le _, fun h => absurd h (Nat.not_lt_zero _), fun i hi => absurd hi (Nat.not_lt_zero _)⟩
theorem Ints.one (w : World) (x : Int) (t : TypeId) : Ints (w.alloc (.cells #[.int .i64 x] t)) (.slice (some ⟨w.heap.size, 0, none⟩) 1 1) 1 (fun _ => x) :=
  ⟨_, 1, w.heap.size, 0, rfl, Nat.le_refl _, by omega, fun _ => rfl, fun i hi => by obtain rfl : i = 0 := by omega
                                                                                    simp⟩

set_option maxHeartbeats 400000 in
theorem iIndex_c (v : Value) (n : Nat) (X : Nat → Int) (x : Int) (w : World) (h : Ints w v n X) :
    Calls Try.prog 156 #[v, .int .i64 x] w fun e w' => e = .returned (.int .i64 (idx X x n)) ∧ w = w' := by
  obtain ⟨ao, c, b, o, rfl, p2, p3, p4, p5⟩ := h.out
  clear h
  go_enter Try.func156, Try.ntmps156
  go_wp2
  go_loopg [8] n (fun g i wr => w = wr ∧ ∃ k : Nat, k ≤ n ∧ g = n - k ∧ i = .int .i64 k ∧ ∀ j, j < k → X j ≠ x)
  case atStart => exact ⟨rfl, 0, Nat.zero_le _, rfl, rfl, fun j hj => absurd hj (Nat.not_lt_zero _)⟩
  case round =>
    obtain ⟨rfl, k, hk, rfl, rfl, hall⟩ := hrel
    have H := Lib.hid hall; clear hall
    by_cases hlt : k < n
    · obtain rfl := p4 (by omega)
      by_cases hx : X k = x
      · have ht : (x == X k) = true := by simpa using hx.symm
        have HX := Lib.hid hx; clear hx
        go_wp2
        go_ret
        exact ⟨ret_i64 (idx_at hlt H.out HX.out).symm, rfl⟩
      · have ht : (x == X k) = false := by rw [beq_eq_false_iff_ne]; exact fun e => hx e.symm
        go_wp2
        go_roundg (n - (k + 1))
        case measure => omega
        case rel => exact ⟨rfl, k + 1, by omega, rfl, by go_num, fun j hj => by
          by_cases e : j = k
          · subst e; exact hx
          · exact H.out j (by omega)⟩
    · obtain rfl : k = n := by omega
      go_wp2
      go_ret
      exact ⟨ret_i64 (idx_none H.out).symm, rfl⟩

end Go.Proofs.Ytnkflgigbielgaa
