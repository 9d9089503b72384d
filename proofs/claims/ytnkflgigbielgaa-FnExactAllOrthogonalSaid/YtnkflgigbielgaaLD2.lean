/-
  The draws: a source of a code, one of some numbers, a doubling. No condition beside sizes.
-/
import Derived.Test.YtnkflgigbielgaaLD1
import Derived.Test.YtnkflgigbielgaaDJB
set_option linter.unusedVariables false
set_option linter.unusedSimpArgs false
namespace Go.Proofs.Ytnkflgigbielgaa
open Go.RowKit

/-! ### an append to a list that is nil or owned -/
theorem run_pushI (w : World) (B : Nat) (a : Option Addr) (c n : Nat) (X : Nat → Int) (v : Int) (ty : TypeId) (hB : B ≤ w.heap.size) (h : OI w B w.heap.size a c n X) (hn : n ≤ 1000000000) :
    ∃ a' c' w', (Builtin.append_ #[24, 24] ty #[.slice a n c, .slice (some ⟨w.heap.size, 0, none⟩) 1 1]).run Try.prog (w.alloc (.cells #[.int .i64 v] 2)) = .ok (.slice a' (n + 1) c') w' ∧
      OI w' B w'.heap.size a' c' (n + 1) (fun j => if j = n then v else X j) ∧ Chg w w' (IV B w.heap.size) := by
  have hcell : ∀ j, j < 1 → (w.alloc (.cells #[.int .i64 v] 2)).cell? ⟨w.heap.size, 0 + j, none⟩ = some ((fun _ => Value.int .i64 v) j) := fun j hj => by
    obtain rfl : j = 0 := by omega
    simp
  rcases h.out with ⟨rfl, rfl, rfl⟩ | ⟨g, rfl, ⟨hg1, hg2⟩, hO⟩
  · obtain ⟨i, hi, hz0, hz1, hz2⟩ := info_parts (elI).info
    have hr := run_append_nil (P := Try.prog) (w.alloc (.cells #[.int .i64 v] 2)) 24 ty 2 i (.int .i64 0) (elI).und hi hz0 ⟨w.heap.size, 0, none⟩ 1 1 [.int .i64 v] (by simp [hz1]) (fun j u hu => by
      obtain ⟨hlt, he⟩ := List.getElem?_eq_some_iff.1 hu
      have hj : j = 0 := by simpa using hlt
      subst hj
      rw [← he, Addr.add_lit]
      simp) (by omega) (by omega) (by rw [hz2]; omega)
    have hge := grownCap_ge (w.alloc (.cells #[.int .i64 v] 2)) 1 0 2
    have hcm : grownCap (w.alloc (.cells #[.int .i64 v] 2)) 1 0 2 ≤ maxLen := grownCap_le_maxLen _ 1 0 _ (by unfold maxLen; omega)
    unfold maxLen at hcm
    refine ⟨_, _, _, hr, ⟨Or.inr ⟨(w.alloc (.cells #[.int .i64 v] 2)).heap.size, rfl, ⟨?_, ?_⟩, ⟨⟨_, heap_alloc_new (w.alloc (.cells #[.int .i64 v] 2)).drew _, ?_, ?_⟩, hge, by omega⟩⟩⟩, ?_⟩
    · simp; omega
    · simp
    · have := size_zeroCells (Value.int .i64 0).cells (grownCap (w.alloc (.cells #[.int .i64 v] 2)) 1 0 2 - 1)
      rw [(elI).one] at this
      simp only [Array.size_append, List.size_toArray, this]
      simp; omega
    · intro j hj
      obtain rfl : j = 0 := by omega
      rw [Array.getElem?_append_left (by simp)]
      simp
    · exact Chg.of_below ((((Below.refl _ _).alloc (Nat.le_refl _) _).trans ((drewB _).mono (by simp))).alloc (by simp) _) _
  · obtain ⟨g', cap', w', hr, h2, h3, h4⟩ := run_app (P := Try.prog) (w.alloc (.cells #[.int .i64 v] 2)) elI ty (hO.alloc _) w.heap.size 0 1 1 (fun _ => .int .i64 v) hcell (fun _ _ => rfl) (by omega) (by omega)
    have hs4 := h4.size
    simp only [alloc_size] at hs4 h3
    refine ⟨some ⟨g', 0, none⟩, cap', w', hr, ⟨Or.inr ⟨g', rfl, ⟨by omega, h2.lt⟩, h2.congr fun j hj => ?_⟩⟩, h4.os, h4.tape, h4.output, by omega, fun k hk hS => ?_⟩
    · by_cases e : j = n
      · subst e; simp
      · rw [if_pos (by omega), if_neg e]
    · exact (h4.block k (by simp; omega) (fun e => by injection e with e; exact hS ⟨by omega, by omega⟩)).trans (Below.heap_alloc _ _ _ hk)
theorem wpList_pushI (w : World) {ops : Array Oper} {rest : List Oper} {o : Oper} {a : Act} {Q : Exit → Act → World → Prop} (hgd : o.guard = none) (s x : Operand)
    (ho : o.op = .call { callee := .builtin .append, args := #[s, x], argTypes := #[24, 24] })
    {B c n : Nat} {ao : Option Addr} {X : Nat → Int} (hB : B ≤ w.heap.size) (hown : OI w B w.heap.size ao c n X) (hn : n ≤ 1000000000) (v : Int) (hs : a.eval s = .slice ao n c) (hx : a.eval x = .slice (some ⟨w.heap.size, 0, none⟩) 1 1)
    (h : ∀ a' c' w', OI w' B w'.heap.size a' c' (n + 1) (fun j => if j = n then v else X j) → Chg w w' (IV B w.heap.size) → wpList Try.prog ops Q rest (a.put o.dst (.slice a' (n + 1) c')) w') :
    wpList Try.prog ops Q (o :: rest) a (w.alloc (.cells #[.int .i64 v] 2)) := by
  obtain ⟨a', c', w', hr, h2, h3⟩ := run_pushI w B ao c n X v o.type hB hown hn
  refine wpList_plain hgd fun K hK => ?_
  unfold Oper.wp execOp
  simp only [ho, resolve, invoke, builtin, Sem.run_bind, Sem.run_pure, Result.andThen_ok, List.map_toArray, List.map_cons, List.map_nil, hs, hx, hr, Oper.upon_value]
  exact hK _ _ (h a' c' w' h2 h3)
theorem step_pushI {ops : Array Oper} {o : Oper} {a : Act} {w : World} {K : Act → World → Prop} {Q : Exit → Act → World → Prop} {E : Prop} (hgd : o.guard = none) (s x : Operand)
    (ho : o.op = .call { callee := .builtin .append, args := #[s, x], argTypes := #[24, 24] })
    {B c n : Nat} {ao : Option Addr} {X : Nat → Int} (hB : B ≤ w.heap.size) (hown : OI w B w.heap.size ao c n X) (hn : n ≤ 1000000000) (v : Int) (hs : a.eval s = .slice ao n c) (hx : a.eval x = .slice (some ⟨w.heap.size, 0, none⟩) 1 1)
    (h : ∀ a' c' w', OI w' B w'.heap.size a' c' (n + 1) (fun j => if j = n then v else X j) → Chg w w' (IV B w.heap.size) → K (a.put o.dst (.slice a' (n + 1) c')) w') :
    if Region.wanted o (yielded ops a.tmps) = true then Oper.wp Try.prog o a (w.alloc (.cells #[.int .i64 v] 2)) K Q else E := by
  have hw : Region.wanted o (yielded ops a.tmps) = true := by simp [Region.wanted, hgd]
  rw [if_pos hw]
  obtain ⟨a', c', w', hr, h2, h3⟩ := run_pushI w B ao c n X v o.type hB hown hn
  unfold Oper.wp execOp
  simp only [ho, resolve, invoke, builtin, Sem.run_bind, Sem.run_pure, Result.andThen_ok, List.map_toArray, List.map_cons, List.map_nil, hs, hx, hr, Oper.upon_value]
  exact h a' c' w' h2 h3

theorem src_set {w : World} {e : TypeId} {g : Nat} {cv u : Value} {h : Int} (hO : Own w e g 3 3 (fun i => if i = 0 then cv else if i = 1 then u else .int .u64 h)) (h' : Int) : Own ((w.setCell ⟨g, 2, none⟩ (.int .u64 h')).drew) e g 3 3 (fun i => if i = 0 then cv else if i = 1 then u else .int .u64 h') :=
  ((hO.set 2 (.int .u64 h')).drew).congr fun i hi => by
    have h3 : i = 0 ∨ i = 1 ∨ i = 2 := by omega
    rcases h3 with rfl | rfl | rfl <;> simp

set_option maxRecDepth 100000 in
set_option maxHeartbeats 4000000 in
theorem sFrom_c (cv : Value) (n : Nat) (B : Nat → Int) (w : World) (hB : Byt w cv n B) :
    Calls Try.prog 60 #[cv] w fun e w' => ∃ g, e = .returned (.pointer (some ⟨g, 0, none⟩)) ∧ w.heap.size ≤ g ∧ Below w.heap.size w w' ∧ Src w' g cv n := by
  obtain ⟨ao, c, b, o, rfl, p2, p3, p4, p5⟩ := hB.out
  have P5 := Lib.hid p5
  clear hB p5
  go_enter Try.func60, Try.ntmps60
  go_wp2
  go_loopg [4] n (fun gg i wr => ∃ k : Nat, k ≤ n ∧ gg = n - k ∧ i = .int .i64 k ∧ Below w.heap.size w wr ∧ ∃ h : Int, Own wr 117 w.heap.size 3 3 (fun i => if i = 0 then .slice ao n c else if i = 1 then .int .i64 ((0 : Nat) : Int) else .int .u64 h))
  case atStart =>
    refine ⟨0, Nat.zero_le _, rfl, rfl, (Below.refl _ _).alloc (Nat.le_refl _) _, 4409 + (n : Int), Own.new w _ _ (fun i => if i = 0 then .slice ao n c else if i = 1 then .int .i64 ((0 : Nat) : Int) else .int .u64 (4409 + (n : Int))) (by simp) fun i hi => ?_⟩
    have hi : i < 3 := by simpa using hi
    have h3 : i = 0 ∨ i = 1 ∨ i = 2 := by omega
    rcases h3 with rfl | rfl | rfl <;> rfl
  case round =>
    obtain ⟨k, hk, rfl, rfl, hb, h, hO⟩ := hrel
    have HO := Lib.hid hO
    have z2 := hO.cell (show 2 < 3 by omega)
    have zf := hO.frozen 2
    simp at z2
    clear hO
    by_cases hlt : k < n
    · by_cases h4 : (k : Int) < 4096
      · obtain ⟨y, hy⟩ : ∃ y, B k = y := ⟨_, rfl⟩
        have hb1 := P5.out k hlt
        rw [hy] at hb1
        obtain rfl := p4 (by omega)
        have zb : wr.cell? ⟨b, o + k, none⟩ = some (.int .u8 y) := by rw [hb.cell (p := ⟨b, o + k, none⟩) (lt_of_cell hb1.1)]; exact hb1.1
        have hwk : IntKind.i64.wrap ((k : Int) + 1) = (k : Int) + 1 := wrap_in' _ (by omega)
        have i0 : (0 : Int) ≤ (k : Int) := by omega
        have i1 : (k : Int) < (n : Int) := by omega
        clear hb1 hy
        go_wp2
        go_region_law (fail)
        all_goals go_wp2
        all_goals go_roundg (n - (k + 1))
        all_goals first
          | omega
          | exact ⟨k + 1, by omega, rfl, by go_num, (hb.setCell (p := ⟨w.heap.size, 2, none⟩) (Nat.le_refl _) _).trans ((drewB _).mono (by have := hb.size; simp [World.setCell]; omega)), _, src_set HO.out _⟩
      · go_wp2
        go_ret
        exact ⟨_, rfl, Nat.le_refl _, hb, ⟨0, h, Nat.zero_le _, HO.out⟩⟩
    · obtain rfl : k = n := by omega
      go_wp2
      go_ret
      exact ⟨_, rfl, Nat.le_refl _, hb, ⟨0, h, Nat.zero_le _, HO.out⟩⟩

set_option maxRecDepth 100000 in
set_option maxHeartbeats 4000000 in
theorem sPick_c (g n : Nat) (cv lv : Value) (B X : Nat → Int) (m : Nat) (w : World) (hs : Src w g cv n) (hB : Byt w cv n B) (hl : ∀ W, Chg w W (· = g) → Ints W lv m X) (hm : 1 ≤ m) :
    Calls Try.prog 76 #[.pointer (some ⟨g, 0, none⟩), lv] w fun e w' => ∃ j, j < m ∧ e = .returned (.int .i64 (X j)) ∧ Drew w w' g cv n := by
  have hl0 := (hl w (Chg.refl _ _)).out
  obtain ⟨ao, c, b, o, rfl, p2, p3, p4, p5⟩ := hl0
  obtain rfl := p4 (by omega)
  have HN := Lib.hid (sNext_c g n cv B m w hs hB (by omega))
  have HL := Lib.hid hl
  clear hs hB hl p4 p5
  go_enter Try.func76, Try.ntmps76
  go_wp2_with fail
  go_at_call 124
  refine HN.out.mono ?_
  rintro e w1 ⟨x, rfl, h1, _, hd⟩
  obtain ⟨h2, h3⟩ := h1 (by omega)
  obtain ⟨ao', c', b', o', he, _, _, q4, q5⟩ := (HL.out w1 hd.chg).out
  injection he with he1 _ he2
  have q4 := q4 (by omega)
  rw [← he1] at q4
  injection q4 with q4
  injection q4 with q6 q7
  subst q6
  subst q7
  obtain ⟨j, rfl⟩ : ∃ j : Nat, x = j := ⟨x.toNat, by omega⟩
  have hj : j < m := by omega
  have z := q5 j hj
  clear q5 he1 he2
  go_wp2
  go_ret
  exact ⟨j, hj, rfl, hd⟩

end Go.Proofs.Ytnkflgigbielgaa
