/-
  The grades of a multivector by the program: collected, sorted, made compact. No condition beside sizes.
-/
import Derived.Test.YtmedmkjlhcoepaaQGr
import Derived.Test.YtmedmkjlhcoepaaMV1
import Derived.Test.YtmedmkjlhcoepaaSh5
import Derived.Sort.OwnSortedInts
import Derived.Lib.RowBridge
set_option linter.unusedVariables false
set_option linter.unusedSimpArgs false
namespace Go.Proofs.Ytmedmkjlhcoepaa
open Go.RowKit

/-- a list of integers that a call has made -/
structure LstI (w w' : World) (e : Ending) (L : List Int) : Prop where
  out : ∃ g c, e = .returned (.slice (some ⟨g, 0, none⟩) L.length c) ∧ w.heap.size ≤ g ∧ Below w.heap.size w w' ∧ Own w' 2 g c L.length (fun i => .int .i64 (L.getD i 0))
theorem Own.holds {w : World} {e : TypeId} {g cap : Nat} {zs : List Int} (h : Own w e g cap zs.length (fun i => .int .i64 (zs.getD i 0))) : Go.Sort.Holds (Value.int .i64) w g 0 zs.toArray := fun j hj => by
  have hj' : j < zs.length := by simpa using hj
  refine ⟨?_, by rw [Nat.zero_add]; exact h.frozen j⟩
  rw [Nat.zero_add, h.cell hj', getElem!_pos zs.toArray j hj]
  simp [List.getD, List.getElem?_eq_getElem hj']
theorem Own.putRow {w : World} {e : TypeId} {g cap n m : Nat} {V : Nat → Value} {ts : List Int} {os : Array Obj} (h : Own w e g cap m V) (hl : ts.length = m) : Own (Go.Sort.grow (Go.Sort.putRow (Value.int .i64) (Go.Sort.ahead w n) g 0 ts.toArray) os) e g cap m (fun i => .int .i64 (ts.getD i 0)) := by
  obtain ⟨cur, h1, h2, h3⟩ := h.out
  have hle := h.le
  refine ⟨⟨_, Go.heap_sortedI ts.toArray h1, by simp [Go.Sort.putCells, h2], fun i hi => ?_⟩, h.le, h.max⟩
  have : i < cur.size := by omega
  simp [Go.Sort.putCells, this, hl, hi, List.getD, List.getElem?_eq_getElem (show i < ts.length by omega)]
theorem chg_putRow {w : World} {g n : Nat} {os : Array Obj} (d : Array Int) : Chg w (Go.Sort.grow (Go.Sort.putRow (Value.int .i64) (Go.Sort.ahead w n) g 0 d) os) (· = g) := by
  have h := Go.grownBy_sortedI (w := w) (g := g) (n := n) (os := os) d
  exact ⟨h.os, h.tape, h.output, h.size, fun k hk hne => h.block k hk (fun e => by injection e with e; exact hne e)⟩

set_option maxRecDepth 100000 in
set_option maxHeartbeats 1000000 in
theorem iGrades_c (v : Value) (n : Nat) (X : Nat → Int) (w : World) (h : Ints w v (2 ^ n) X) (hn : n ≤ 6) :
    Calls Try.prog 78 #[v] w fun e w' => LstI w w' e (gL (2 ^ n) X (n + 1)) := by
  have hge := grades_eq hn X
  obtain ⟨N, hN⟩ : ∃ N, 2 ^ n = N := ⟨_, rfl⟩
  have hN64 : N ≤ 64 := hN ▸ pow_le6 hn
  rw [hN] at h hge ⊢
  obtain ⟨G, hG⟩ : ∃ G, gL N X (n + 1) = G := ⟨_, rfl⟩
  rw [hG] at hge ⊢
  have HGE := Lib.hid hge
  clear hge hG hN
  obtain ⟨ao, c, b, o, rfl, p2, p3, p4, p5⟩ := h.out
  have P5 := Lib.hid p5
  clear h p5
  go_enter Try.func78, Try.ntmps78
  go_wp2
  go_loopg [3, 9] N (fun gg s i wr => ∃ j : Nat, j ≤ N ∧ gg = N - j ∧ i = .int .i64 j ∧ ∃ g2 c2 l, s = .slice (some ⟨g2, 0, none⟩) l c2 ∧ w.heap.size ≤ g2 ∧ l = (unsG X j).length ∧ Hid (Below w.heap.size w wr) ∧ Hid (Own wr 2 g2 c2 l (fun i => .int .i64 ((unsG X j).getD i 0))))
  case atStart => exact ⟨0, Nat.zero_le _, rfl, rfl, _, _, _, rfl, Nat.le_refl _, rfl, (Below.refl _ _).alloc (Nat.le_refl _) _, Own.empty _ _ _⟩
  case round =>
    obtain ⟨j, hj, rfl, rfl, g2, c2, l, rfl, hg2, hl, hb, hO⟩ := hrel
    by_cases hlt : j < N
    · obtain rfl := p4 (by omega)
      have e1 : wr.cell? ⟨b, o + j, none⟩ = some (.int .i64 (X j)) := by
        rw [hb.out.cell (p := ⟨b, o + j, none⟩) (lt_of_cell (P5.out j hlt))]; exact P5.out j hlt
      have hs := unsG_succ X j
      have HL := Lib.hid hl
      have hlle : l ≤ 64 := by have := unsG_le X j; omega
      clear hl
      by_cases hz : X j = 0
      · rw [hz] at e1
        have HU : Hid (unsG X (j + 1) = unsG X j) := by rw [hs, if_neg (by simpa using hz)]; exact List.append_nil _
        clear hs
        go_wp2
        go_roundg (N - (j + 1))
        case measure => omega
        case rel => exact ⟨j + 1, by omega, rfl, by go_num, g2, c2, l, rfl, hg2, by rw [HU.out]; exact HL.out, hb, by rw [HU.out]; exact hO⟩
      · have hne : (X j != 0) = true := by simpa using hz
        obtain ⟨x, hx⟩ : ∃ x, X j = x := ⟨_, rfl⟩
        have HU : Hid (unsG X (j + 1) = unsG X j ++ [(pc j : Int)]) := by rw [hs, if_pos (by simpa using hz)]; exact rfl
        have HG := Lib.hid (iGradeOf_c j (by omega) wr)
        obtain ⟨z, hzz⟩ : ∃ z, pc j = z := ⟨_, rfl⟩
        rw [hzz] at HG HU
        rw [hx] at e1 hne
        have hO' := hO.out
        clear hs hz hx hzz
        go_wp2_with (first
          | (go_at_call 129; refine HG.out.mono ?_; rintro e w' ⟨rfl, rfl⟩)
          | (at_builtin; refine wpList_push _ rfl _ _ _ _ elI rfl hO' (.int .i64 z) rfl rfl rfl (by omega) (by omega) ?_; intro g3 c3 w3 hO3 hg3 hgr3))
        go_roundg (N - (j + 1))
        case measure => omega
        case rel =>
          have hlt4 := hb.out.size
          refine ⟨j + 1, by omega, rfl, by go_num, g3, c3, l + 1, rfl, by omega, by rw [HU.out]; simp; exact HL.out, hb.out.grown hgr3 hlt4 (fun k e => by injection e with e; omega), hO3.congr fun i hi => ?_⟩
          have hll : l = (unsG X j).length := HL.out
          by_cases e2 : i = l
          · subst e2; simp [HU.out, hll, List.getD]
          · simp [HU.out, e2, List.getD, List.getElem?_append_left (show i < (unsG X j).length by omega)]
    · obtain rfl : j = N := by omega
      have hlle : l ≤ 64 := by have := unsG_le X j; omega
      have hlt2 := hO.out.lt
      have hle2 := hO.out.le
      have hmx := hO.out.max
      by_cases h0 : l = 0
      · have hnil : G = [] := by
          have h1 : unsG X j = [] := List.length_eq_zero_iff.1 (by omega)
          have h2 := HGE.out
          rw [h1] at h2
          rw [← h2, List.mergeSort_nil]; simp [Go.Lib.compact, Go.Lib.compactUpTo]
        subst hnil
        subst h0
        have HO := Lib.hid hO.out
        clear hl hO
        go_wp2_with (first
          | (go_at_call 130; refine (Try.slices_Sort_int_none _ _ _).mono ?_; rintro e w' ⟨rfl, rfl⟩)
          | (go_at_call 131; refine (Try.slices_Compact_int_empty _ _ _).mono ?_; rintro e w' ⟨rfl, rfl⟩))
        go_ret
        exact ⟨g2, c2, rfl, hg2, hb.out, HO.out.congr fun i hi => absurd hi (Nat.not_lt_zero _)⟩
      · obtain ⟨U, hU⟩ : ∃ U, unsG X j = U := ⟨_, rfl⟩
        rw [hU] at hl hO HGE
        subst hl
        obtain ⟨S, hS⟩ : ∃ S, U.mergeSort (fun x y => decide (x ≤ y)) = S := ⟨_, rfl⟩
        have hSl : S.length = U.length := by rw [← hS]; exact List.length_mergeSort _
        have HSrt := Lib.hid (Try.slices_Sort_int g2 0 c2 U wr hO.out.holds hlt2 (by omega))
        rw [hS] at HSrt HGE
        have HSL := Lib.hid hSl
        have HO := Lib.hid hO.out
        clear hO hS hU hSl
        go_wp2_with fail
        go_at_call 130
        refine HSrt.out.mono ?_
        rintro e w4 ⟨rfl, nq, os, hw4⟩
        have hc4 : Hid (Chg wr w4 (· = g2)) := by rw [hw4]; exact chg_putRow _
        have hO4 : Hid (Own w4 2 g2 c2 U.length (fun i => .int .i64 (S.getD i 0))) := by rw [hw4]; exact HO.out.putRow HSL.out
        have hO4' : Hid (Own w4 2 g2 c2 S.length (fun i => .int .i64 (S.getD i 0))) := by have h1 := hO4.out; rw [← HSL.out] at h1; exact h1
        have HCp := Lib.hid (Try.slices_Compact_int g2 0 c2 S w4 hO4'.out.holds (by have := HSL.out; omega) (by have := HSL.out; omega))
        rw [HSL.out, HGE.out] at HCp
        clear hw4
        have hs4 := hc4.out.size
        go_wp2_with fail
        go_at_call 131
        refine HCp.out.mono ?_
        rintro e w5 ⟨rfl, nq5, hw5⟩
        have hw5' : w5 = Go.Sort.grow (Go.Sort.putRow (Value.int .i64) (Go.Sort.ahead w4 nq5) g2 0 (G ++ List.replicate (U.length - G.length) 0).toArray) #[] := by rw [Go.Sort.grow_empty]; exact hw5
        have hGl : G.length ≤ U.length := by
          have h1 := Go.Lib.compact_length_le S
          rw [HGE.out, HSL.out] at h1
          exact h1
        have hc5 : Hid (Chg w4 w5 (· = g2)) := by rw [hw5']; exact chg_putRow _
        have hO5 : Hid (Own w5 2 g2 c2 U.length (fun i => .int .i64 ((G ++ List.replicate (U.length - G.length) 0).getD i 0))) := by rw [hw5']; exact hO4.out.putRow (by simp; omega)
        have hb5 : Hid (Below w.heap.size w w5) := hb.out.trans ((hc4.out.trans hc5.out).below hb.out.size (fun k e => by have e : k = g2 := e; omega))
        clear hw5 hw5'
        go_wp2
        go_ret
        refine ⟨g2, c2, rfl, hg2, hb5.out, ?_⟩
        obtain ⟨cur, q1, q2, q3⟩ := hO5.out.out
        refine ⟨⟨cur, q1, q2, fun i hi => ?_⟩, by omega, hO5.out.max⟩
        rw [q3 i (by omega)]
        simp [List.getD, List.getElem?_append_left hi]

end Go.Proofs.Ytmedmkjlhcoepaa
