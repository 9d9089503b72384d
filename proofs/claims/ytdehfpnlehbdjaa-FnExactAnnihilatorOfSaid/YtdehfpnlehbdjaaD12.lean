/-
  Lists of the field's numbers: sums, multiples, conjugates, in both programs. No condition beside sizes.
-/
import Derived.Test.YtdehfpnlehbdjaaD11
import Derived.Deep.RegionWith
import Derived.Deep.RegionLaw
import Derived.Deep.RegionHeld3
set_option linter.unusedVariables false
set_option linter.unusedSimpArgs false
namespace Go.Proofs.Ytdehfpnlehbdjaa
open Go.RowKit

theorem mul_bd {a b : Int} (h1 : -1000 ≤ a ∧ a ≤ 1000) (h2 : -1000 ≤ b ∧ b ≤ 1000) : -1000000 ≤ a * b ∧ a * b ≤ 1000000 := by
  have h := Nat.mul_le_mul (show a.natAbs ≤ 1000 by omega) (show b.natAbs ≤ 1000 by omega)
  rw [← Int.natAbs_mul] at h
  omega
/-- Append of one value, as a step of a region that draws its order. -/
theorem step_push {P : Program} {ops : Array Oper} {o : Oper} {a : Act} {w : World} {K : Act → World → Prop} {Q : Exit → Act → World → Prop} {E : Prop} (hgd : o.guard = none) (s x : Operand) (t e : TypeId) {z : Value} {bytes : Nat} (el : Elem P t e z bytes)
    (ho : o.op = .call { callee := .builtin .append, args := #[s, x], argTypes := #[t, t] })
    {g cap n : Nat} {V : Nat → Value} (hown : Own w e g cap n V) (u : Value) (hs : a.eval s = .slice (some ⟨g, 0, none⟩) n cap)
    (hx : a.eval x = .slice (some ⟨w.heap.size, 0, none⟩) 1 1) (h1 : u.oneCell' = true)
    (h63 : n + 1 ≤ 9223372036854775807) (hbytes : (n + 1) * bytes ≤ 140737488355328)
    (h : ∀ g' cap' w', Own w' e g' cap' (n + 1) (fun j => if j = n then u else V j) → (g' = g ∨ w.heap.size ≤ g') → w.grownBy w' (some g) → K (a.put o.dst (.slice (some ⟨g', 0, none⟩) (n + 1) cap')) w') :
    if Region.wanted o (yielded ops a.tmps) = true then Oper.wp P o a (w.alloc (.cells #[u] e)) K Q else E := by
  have hw : Region.wanted o (yielded ops a.tmps) = true := by simp [Region.wanted, hgd]
  rw [if_pos hw]
  have hone : ∀ j, j < 1 → (w.alloc (.cells #[u] e)).cell? ⟨w.heap.size, 0 + j, none⟩ = some ((fun _ => u) j) := fun j hj => by
    obtain rfl : j = 0 := by omega
    simp
  obtain ⟨g', cap', w', hr, h2, h3, h4⟩ := run_app (P := P) (w.alloc (.cells #[u] e)) el o.type (hown.alloc _) w.heap.size 0 1 1 (fun _ => u) hone (fun _ _ => h1) h63 hbytes
  unfold Oper.wp execOp
  simp only [ho, resolve, invoke, builtin, Sem.run_bind, Sem.run_pure, Result.andThen_ok, List.map_toArray, List.map_cons, List.map_nil, hs, hx, hr, Oper.upon_value]
  refine h g' cap' w' (h2.congr fun j hj => ?_) ?_ ⟨h4.os, h4.tape, h4.output, Nat.le_trans (by simp) h4.size, fun k hk hne => (h4.block k (by simp; omega) hne).trans (Below.heap_alloc _ _ _ hk)⟩
  · by_cases e2 : j = n
    · subst e2; simp
    · rw [if_pos (by omega), if_neg e2]
  · rcases h3 with h3 | h3
    · exact Or.inl h3
    · right; rw [h3]; simp

theorem wrap_in (n : Int) (h : -9223372036854775808 ≤ n ∧ n ≤ 9223372036854775807) : IntKind.i64.wrap n = n := by rw [IntKind.wrap_i64]; omega
/-- small numbers -/
def Sm (n : Nat) (X : Nat → Int) : Prop := ∀ i, i < n → -1000 ≤ X i ∧ X i ≤ 1000
theorem InP.sm {p : Int} {n : Nat} {X : Nat → Int} (h : InP p n X) (hp : p ≤ 1000) : Sm n X := fun i hi => by have := h i hi; omega

theorem CopyI.ints {w w' : World} {e : Ending} {n : Nat} {X : Nat → Int} (h : CopyI w w' e n X) : ∃ v, e = .returned v ∧ Below w.heap.size w w' ∧ Ints w' v n X := by
  obtain ⟨g, c, rfl, _, hb, hO⟩ := h.out
  exact ⟨_, rfl, hb, hO.ints⟩
theorem CopyI.congr {w w' : World} {e : Ending} {n : Nat} {X Y : Nat → Int} (h : CopyI w w' e n X) (he : ∀ i, i < n → X i = Y i) : CopyI w w' e n Y := by
  obtain ⟨g, c, rfl, hg, hb, hO⟩ := h.out
  exact ⟨g, c, rfl, hg, hb, hO.congr fun i hi => by rw [he i hi]⟩

set_option maxHeartbeats 1000000 in
theorem iScaled_c (p : Int) (v : Value) (n : Nat) (X : Nat → Int) (k : Int) (w : World) (h : Ints w v n X) (hn : n ≤ 1048576) (h1 : 1 ≤ p) (h2 : p ≤ 1000) (hX : Sm n X) (hk : -1000 ≤ k ∧ k ≤ 1000) :
    Calls Try.prog 65 #[.int .i64 p, v, .int .i64 k] w fun e w' => CopyI w w' e n (fun i => (X i * k) % p) := by
  obtain ⟨ao, c, b, o, rfl, p2, p3, p4, p5⟩ := h.out
  have P5 := Lib.hid p5
  have HX := Lib.hid hX
  clear h p5 hX
  go_enter Try.func65, Try.ntmps65
  go_wp2
  go_loopg [7, 13] n (fun gg s i wr => ∃ j : Nat, j ≤ n ∧ gg = n - j ∧ i = .int .i64 j ∧ ∃ g2 c2, s = .slice (some ⟨g2, 0, none⟩) j c2 ∧ w.heap.size ≤ g2 ∧ Below w.heap.size w wr ∧ Own wr 2 g2 c2 j (fun i => .int .i64 ((X i * k) % p)))
  case atStart => exact ⟨0, Nat.zero_le _, rfl, rfl, _, _, rfl, Nat.le_refl _, (Below.refl _ _).alloc (Nat.le_refl _) _, Own.empty _ _ _⟩
  case round =>
    obtain ⟨j, hj, rfl, rfl, g2, c2, rfl, hg2, hb2, hO⟩ := hrel
    by_cases hlt : j < n
    · obtain rfl := p4 (by omega)
      have hm := mul_bd (HX.out j hlt) hk
      have e1 : wr.cell? ⟨b, o + j, none⟩ = some (.int .i64 (X j)) := by
        rw [hb2.cell (p := ⟨b, o + j, none⟩) (lt_of_cell (P5.out j hlt))]; exact P5.out j hlt
      go_wp2_with (first | (go_at_call 88; refine (iNum_c _ _ _ h1 h2 (by omega) (by omega)).mono ?_; rintro e w' ⟨rfl, rfl⟩) | (at_builtin; refine wpList_push _ rfl _ _ _ _ elI rfl hO (.int .i64 ((X j * k) % p)) rfl rfl rfl (by omega) (by omega) ?_; rotate_right; intro g3 c3 w3 hO3 hg3 hgr3))
      go_roundg (n - (j + 1))
      case measure => omega
      case rel =>
        have hlt4 := hb2.size
        refine ⟨j + 1, by omega, rfl, by go_num, g3, c3, rfl, by omega, hb2.grown hgr3 hlt4 (fun k e => by injection e with e; omega), hO3.congr fun i hi => ?_⟩
        by_cases e2 : i = j
        · subst e2; simp
        · simp [e2]
    · obtain rfl : j = n := by omega
      go_wp2
      go_ret
      exact ⟨g2, c2, rfl, hg2, hb2, hO⟩

set_option maxHeartbeats 1000000 in
theorem sScale_c (p : Int) (v : Value) (n : Nat) (X : Nat → Int) (k : Int) (w : World) (h : Ints w v n X) (hn : n ≤ 1048576) (h1 : 1 ≤ p) (h2 : p ≤ 1000) (hX : Sm n X) (hk : -1000 ≤ k ∧ k ≤ 1000) :
    Calls Try.prog 71 #[.int .i64 p, .int .i64 k, v] w fun e w' => CopyI w w' e n (fun i => (k * X i) % p) := by
  obtain ⟨ao, c, b, o, rfl, p2, p3, p4, p5⟩ := h.out
  have P5 := Lib.hid p5
  have HX := Lib.hid hX
  clear h p5 hX
  go_enter Try.func71, Try.ntmps71
  go_wp2
  go_loopg [7, 8] n (fun gg s i wr => ∃ j : Nat, j ≤ n ∧ gg = n - j ∧ i = .int .i64 j ∧ ∃ g2 c2, s = .slice (some ⟨g2, 0, none⟩) j c2 ∧ w.heap.size ≤ g2 ∧ Below w.heap.size w wr ∧ Own wr 2 g2 c2 j (fun i => .int .i64 ((k * X i) % p)))
  case atStart => exact ⟨0, Nat.zero_le _, rfl, rfl, _, _, rfl, Nat.le_refl _, (Below.refl _ _).alloc (Nat.le_refl _) _, Own.empty _ _ _⟩
  case round =>
    obtain ⟨j, hj, rfl, rfl, g2, c2, rfl, hg2, hb2, hO⟩ := hrel
    by_cases hlt : j < n
    · obtain rfl := p4 (by omega)
      have hm := mul_bd hk (HX.out j hlt)
      have e1 : wr.cell? ⟨b, o + j, none⟩ = some (.int .i64 (X j)) := by
        rw [hb2.cell (p := ⟨b, o + j, none⟩) (lt_of_cell (P5.out j hlt))]; exact P5.out j hlt
      go_wp2_with (first | (go_at_call 86; refine (sMod_c _ _ _ h1 h2 (by omega) (by omega)).mono ?_; rintro e w' ⟨rfl, rfl⟩) | (at_builtin; refine wpList_push _ rfl _ _ _ _ elI rfl hO (.int .i64 ((k * X j) % p)) rfl rfl rfl (by omega) (by omega) ?_; rotate_right; intro g3 c3 w3 hO3 hg3 hgr3))
      go_roundg (n - (j + 1))
      case measure => omega
      case rel =>
        have hlt4 := hb2.size
        refine ⟨j + 1, by omega, rfl, by go_num, g3, c3, rfl, by omega, hb2.grown hgr3 hlt4 (fun k e => by injection e with e; omega), hO3.congr fun i hi => ?_⟩
        by_cases e2 : i = j
        · subst e2; simp
        · simp [e2]
    · obtain rfl : j = n := by omega
      go_wp2
      go_ret
      exact ⟨g2, c2, rfl, hg2, hb2, hO⟩

set_option maxHeartbeats 1000000 in
theorem iPlus_c (p : Int) (v1 v2 : Value) (n m : Nat) (X Y : Nat → Int) (k : Int) (w : World) (h : Ints w v1 n X) (h' : Ints w v2 m Y) (hnm : n ≤ m) (hn : n ≤ 1048576) (h1 : 1 ≤ p) (h2 : p ≤ 1000) (hX : Sm n X) (hY : Sm m Y) (hk : -1000 ≤ k ∧ k ≤ 1000) :
    Calls Try.prog 67 #[.int .i64 p, v1, v2, .int .i64 k] w fun e w' => CopyI w w' e n (fun i => (X i + k * Y i) % p) := by
  obtain ⟨ao, c, b, o, rfl, p2, p3, p4, p5⟩ := h.out
  obtain ⟨ao', c', b', o', rfl, p2', p3', p4', p5'⟩ := h'.out
  have P5 := Lib.hid p5
  have P5' := Lib.hid p5'
  have HX := Lib.hid hX
  have HY := Lib.hid hY
  clear h p5 hX h' p5' hY
  go_enter Try.func67, Try.ntmps67
  go_wp2
  go_loopg [9, 15] n (fun gg s i wr => ∃ j : Nat, j ≤ n ∧ gg = n - j ∧ i = .int .i64 j ∧ ∃ g2 c2, s = .slice (some ⟨g2, 0, none⟩) j c2 ∧ w.heap.size ≤ g2 ∧ Below w.heap.size w wr ∧ Own wr 2 g2 c2 j (fun i => .int .i64 ((X i + k * Y i) % p)))
  case atStart => exact ⟨0, Nat.zero_le _, rfl, rfl, _, _, rfl, Nat.le_refl _, (Below.refl _ _).alloc (Nat.le_refl _) _, Own.empty _ _ _⟩
  case round =>
    obtain ⟨j, hj, rfl, rfl, g2, c2, rfl, hg2, hb2, hO⟩ := hrel
    by_cases hlt : j < n
    · obtain rfl := p4 (by omega)
      obtain rfl := p4' (by omega)
      have hm := mul_bd hk (HY.out j (by omega))
      have hx := HX.out j hlt
      have hjm : j < m := by omega
      have e1 : wr.cell? ⟨b, o + j, none⟩ = some (.int .i64 (X j)) := by
        rw [hb2.cell (p := ⟨b, o + j, none⟩) (lt_of_cell (P5.out j hlt))]; exact P5.out j hlt
      have e2 : wr.cell? ⟨b', o' + j, none⟩ = some (.int .i64 (Y j)) := by
        rw [hb2.cell (p := ⟨b', o' + j, none⟩) (lt_of_cell (P5'.out j hjm))]; exact P5'.out j hjm
      go_wp2_with (first | (go_at_call 88; refine (iNum_c _ _ _ h1 h2 (by omega) (by omega)).mono ?_; rintro e w' ⟨rfl, rfl⟩) | (at_builtin; refine wpList_push _ rfl _ _ _ _ elI rfl hO (.int .i64 ((X j + k * Y j) % p)) rfl rfl rfl (by omega) (by omega) ?_; rotate_right; intro g3 c3 w3 hO3 hg3 hgr3))
      go_roundg (n - (j + 1))
      case measure => omega
      case rel =>
        have hlt4 := hb2.size
        refine ⟨j + 1, by omega, rfl, by go_num, g3, c3, rfl, by omega, hb2.grown hgr3 hlt4 (fun k e => by injection e with e; omega), hO3.congr fun i hi => ?_⟩
        by_cases e2 : i = j
        · subst e2; simp
        · simp [e2]
    · obtain rfl : j = n := by omega
      go_wp2
      go_ret
      exact ⟨g2, c2, rfl, hg2, hb2, hO⟩

set_option maxRecDepth 100000 in
set_option maxHeartbeats 1000000 in
theorem sAdd_c (p : Int) (v1 v2 : Value) (n m : Nat) (X Y : Nat → Int) (w : World) (h : Ints w v1 n X) (h' : Ints w v2 m Y) (hnm : n ≤ m) (hn : n ≤ 1048576) (h1 : 1 ≤ p) (h2 : p ≤ 1000) (hX : Sm n X) (hY : Sm m Y) :
    Calls Try.prog 89 #[.int .i64 p, v1, v2] w fun e w' => CopyI w w' e n (fun i => (X i + Y i) % p) := by
  obtain ⟨ao, c, b, o, rfl, p2, p3, p4, p5⟩ := h.out
  obtain ⟨ao', c', b', o', rfl, p2', p3', p4', p5'⟩ := h'.out
  have P5 := Lib.hid p5
  have P5' := Lib.hid p5'
  have HX := Lib.hid hX
  have HY := Lib.hid hY
  clear h p5 hX h' p5' hY
  go_enter Try.func89, Try.ntmps89
  go_wp2
  go_loopg [7, 8] n (fun gg s i wr => ∃ j : Nat, j ≤ n ∧ gg = n - j ∧ i = .int .i64 j ∧ ∃ g2 c2, s = .slice (some ⟨g2, 0, none⟩) j c2 ∧ w.heap.size ≤ g2 ∧ Below w.heap.size w wr ∧ Own wr 2 g2 c2 j (fun i => .int .i64 ((X i + Y i) % p)))
  case atStart => exact ⟨0, Nat.zero_le _, rfl, rfl, _, _, rfl, Nat.le_refl _, (Below.refl _ _).alloc (Nat.le_refl _) _, Own.empty _ _ _⟩
  case round =>
    obtain ⟨j, hj, rfl, rfl, g2, c2, rfl, hg2, hb2, hO⟩ := hrel
    by_cases hlt : j < n
    · obtain rfl := p4 (by omega)
      obtain rfl := p4' (by omega)
      have hy := HY.out j (by omega)
      have hx := HX.out j hlt
      have hjm : j < m := by omega
      have e1 : wr.cell? ⟨b, o + j, none⟩ = some (.int .i64 (X j)) := by
        rw [hb2.cell (p := ⟨b, o + j, none⟩) (lt_of_cell (P5.out j hlt))]; exact P5.out j hlt
      have e2 : wr.cell? ⟨b', o' + j, none⟩ = some (.int .i64 (Y j)) := by
        rw [hb2.cell (p := ⟨b', o' + j, none⟩) (lt_of_cell (P5'.out j hjm))]; exact P5'.out j hjm
      go_wp2
      have hwr : IntKind.i64.wrap (X j + Y j) = X j + Y j := wrap_in _ (by omega)
      go_region_law (first | (go_simp; go_at_call 86; refine (sMod_c _ _ _ h1 h2 (by omega) (by omega)).mono ?_; rintro e w' ⟨rfl, rfl⟩) | (refine step_push rfl _ _ _ _ elI rfl (Own.drew hO) (.int .i64 ((X j + Y j) % p)) rfl rfl rfl (by omega) (by omega) ?_; intro g3 c3 w3 hO3 hg3 hgr3))
      all_goals go_wp2
      all_goals go_roundg (n - (j + 1))
      all_goals first
        | omega
        | (have hlt4 := hb2.size
           have hgr4 : wr.grownBy w3 (some g2) := ⟨hgr3.os, hgr3.tape, hgr3.output, hgr3.size, hgr3.block⟩
           have hg4 : g3 = g2 ∨ wr.heap.size ≤ g3 := hg3
           refine ⟨j + 1, by omega, rfl, by go_num, g3, c3, rfl, by omega, hb2.grown hgr4 hlt4 (fun k e => by injection e with e; omega), hO3.congr fun i hi => ?_⟩
           by_cases e2 : i = j
           · subst e2; simp
           · simp [e2])
    · obtain rfl : j = n := by omega
      go_wp2
      go_ret
      exact ⟨g2, c2, rfl, hg2, hb2, hO⟩

theorem sMinus_c (p : Int) (v1 v2 : Value) (n : Nat) (X Y : Nat → Int) (w : World) (h : Ints w v1 n X) (h' : Ints w v2 n Y) (hn : n ≤ 1048576) (h1 : 1 ≤ p) (h2 : p ≤ 1000) (hX : Sm n X) (hY : Sm n Y) :
    Calls Try.prog 61 #[.int .i64 p, v1, v2] w fun e w' => CopyI w w' e n (fun i => (X i + -1 * Y i) % p) := by
  go_enter Try.func61, Try.ntmps61
  go_wp2_with fail
  refine (sScale_c _ _ _ _ _ _ h' hn h1 h2 hY (by omega)).mono ?_
  rintro e w1 ⟨g1, c1, rfl, hg1, hb1, hO1⟩
  have hs : Sm n (fun i => ((p - 1) * Y i) % p) := fun i _ => by have := mod_bd ((p - 1) * Y i) p (by omega); dsimp only; omega
  go_wp2_with fail
  refine (sAdd_c _ _ _ _ _ _ _ _ (h.below hb1) hO1.ints (Nat.le_refl _) hn h1 h2 hX hs).mono ?_
  rintro e w2 h2'
  obtain ⟨g2, c2, rfl, hg2, hb2, hO2⟩ := (h2'.congr (Y := fun i => (X i + -1 * Y i) % p) fun i _ => by
    rw [mod_mod_add, show X i + (p - 1) * Y i = (X i + -1 * Y i) + p * Y i by rw [Int.sub_mul]; omega, Int.add_mul_emod_self_left]).out
  go_wp2
  go_ret
  exact ⟨g2, c2, rfl, by have := hb1.size; omega, hb1.trans (hb2.mono hb1.size), hO2⟩

theorem iConj_c (p : Int) (v : Value) (n : Nat) (X : Nat → Int) (w : World) (h : Ints w v n X) (h0 : 0 < n) (hn : n ≤ 1048576) (h1 : 1 ≤ p) (h2 : p ≤ 1000) (hX : Sm n X) :
    Calls Try.prog 95 #[.int .i64 p, v] w fun e w' => CopyI w w' e n (conjF p X) := by
  have H := h
  obtain ⟨ao, c, b, o, rfl, p2, p3, p4, p5⟩ := h.out
  obtain rfl := p4 h0
  have e0 : w.cell? ⟨b, o, none⟩ = some (.int .i64 (X 0)) := p5 0 h0
  have hl := lt_of_cell e0
  clear h p5
  go_enter Try.func95, Try.ntmps95
  go_wp2_with fail
  refine (iScaled_c _ _ _ _ _ _ H hn h1 h2 hX (by omega)).mono ?_
  rintro e w1 ⟨g1, c1, rfl, hg1, hb1, hO1⟩
  have e1 : w1.cell? ⟨b, o, none⟩ = some (.int .i64 (X 0)) := by rw [hb1.cell (p := ⟨b, o, none⟩) hl]; exact e0
  have e2 := hO1.cell h0
  have hf := hO1.frozen 0
  clear H
  go_wp2
  go_ret
  exact ⟨g1, c1, rfl, hg1, hb1.setCell hg1 _, (hO1.set 0 _).congr fun i hi => by
    unfold conjF
    by_cases e : i = 0
    · simp [e]
    · rw [if_neg e, if_neg e, show X i * -1 = -(X i) by omega]⟩

theorem sStar_c (p : Int) (v : Value) (n : Nat) (X : Nat → Int) (w : World) (h : Ints w v n X) (h0 : 0 < n) (hn : n ≤ 1048576) (h1 : 1 ≤ p) (h2 : p ≤ 1000) (hX : Sm n X) :
    Calls Try.prog 94 #[.int .i64 p, v] w fun e w' => CopyI w w' e n (conjF p X) := by
  have H := h
  obtain ⟨ao, c, b, o, rfl, p2, p3, p4, p5⟩ := h.out
  obtain rfl := p4 h0
  have e0 : w.cell? ⟨b, o, none⟩ = some (.int .i64 (X 0)) := p5 0 h0
  have hl := lt_of_cell e0
  clear h p5
  go_enter Try.func94, Try.ntmps94
  go_wp2_with fail
  refine (sScale_c _ _ _ _ _ _ H hn h1 h2 hX (by omega)).mono ?_
  rintro e w1 ⟨g1, c1, rfl, hg1, hb1, hO1⟩
  have e1 : w1.cell? ⟨b, o, none⟩ = some (.int .i64 (X 0)) := by rw [hb1.cell (p := ⟨b, o, none⟩) hl]; exact e0
  have e2 := hO1.cell h0
  have hf := hO1.frozen 0
  clear H
  go_wp2
  go_ret
  exact ⟨g1, c1, rfl, hg1, hb1.setCell hg1 _, (hO1.set 0 _).congr fun i hi => by
    rw [conjF_spec]
    by_cases e : i = 0
    · simp [e]
    · rw [if_neg e, if_neg e]⟩

end Go.Proofs.Ytdehfpnlehbdjaa
