/-
  The reference's numbers out of texts and its cutting of texts. Conditions: sizes.
-/
import Derived.Test.YtejbigdebjcomaaDoorTP2
set_option linter.unusedVariables false
set_option linter.unusedSimpArgs false
set_option maxRecDepth 100000
namespace Go.Proofs.YtejbigdebjcomaaDoor
open Go.RowKit


/-- a text of few digits with no needless nought -/
structure OkV (T : ByteArray) : Prop where
  s1 : 1 ≤ T.size
  s9 : T.size ≤ 9
  nz : ∀ h : 1 < T.size, T[0]'(by omega) ≠ 48
  dg : ∀ i (h : i < T.size), 48 ≤ (T[i]'h).toNat ∧ (T[i]'h).toNat ≤ 57
open Classical in

/-- what the reference reads out of a text -/
noncomputable def valZ (T : ByteArray) : Int := if OkV T then valD T.data.toList else -1

theorem valZ_no {T : ByteArray} (h : ¬ OkV T) : valZ T = -1 := by unfold valZ; rw [if_neg h]

theorem valZ_yes {T : ByteArray} (h : OkV T) : valZ T = valD T.data.toList := by unfold valZ; rw [if_pos h]

theorem valD_take {T : ByteArray} {a : Nat} (h : a < T.size) : valD (T.data.toList.take (a + 1)) = valD (T.data.toList.take a) * 10 + ((T[a]'h).toNat - 48) := by
  have hl : a < T.data.toList.length := by rw [← Lib.size_eq]; exact h
  rw [← List.take_append_getElem hl, valD_app]; rfl


set_option maxHeartbeats 1000000 in
theorem sValue_c (T : ByteArray) (w : World) (hs : T.size ≤ 1000000000) :
    Calls Tryd.prog 21 #[.string T] w fun e w' => Makes w w' e (.int .i64 (valZ T)) := by
  by_cases h0 : T.size = 0
  · go_enter Tryd.func21, Tryd.ntmps21
    go_wp2
    go_ret
    exact ⟨ret_i64 (valZ_no fun h => absurd h.s1 (by omega)).symm, Below.refl _ _⟩
  by_cases h9 : 9 < T.size
  · have n9 : ¬ T.size ≤ 9 := by omega
    go_enter Tryd.func21, Tryd.ntmps21
    go_wp2
    go_ret
    exact ⟨ret_i64 (valZ_no fun h => absurd h.s9 (by omega)).symm, Below.refl _ _⟩
  have hp0 : 0 < T.size := by omega
  obtain ⟨x0, hx0⟩ : ∃ x0, T[0]'hp0 = x0 := ⟨_, rfl⟩
  by_cases hz : 1 < T.size ∧ x0 = 48
  · obtain ⟨h1, rfl⟩ := hz
    have hnz := Lib.hid (fun h : OkV T => h.nz h1 hx0)
    have n9 : T.size ≤ 9 := by omega
    clear h9
    go_enter Tryd.func21, Tryd.ntmps21
    go_wp2
    go_ret
    exact ⟨ret_i64 (valZ_no fun h => hnz.out h).symm, Below.refl _ _⟩
  have n9 : T.size ≤ 9 := by omega
  have HV : Hid (∀ a (h : a < T.size), valD (T.data.toList.take (a + 1)) = valD (T.data.toList.take a) * 10 + ((T[a]'h).toNat - 48)) := fun a h => valD_take h
  have HE : Hid (T.data.toList.take T.size = T.data.toList) := by show T.data.toList.take T.size = _; rw [Lib.size_eq, List.take_length]
  have hpick : ¬ 1 < T.size ∨ (1 < T.size ∧ ((x0.toNat : Int) == 48) = false) := by
    by_cases h1 : 1 < T.size
    · exact Or.inr ⟨h1, beq_eq_false_iff_ne.2 fun e => hz ⟨h1, UInt8.toNat_inj.1 (by have h48 : (48 : UInt8).toNat = 48 := rfl; rw [h48]; omega)⟩⟩
    · exact Or.inl (by omega)
  clear hz
  have HNZ : Hid (∀ h : 1 < T.size, T[0]'(by omega) ≠ 48) := fun h e => by
    rcases hpick with h1 | ⟨_, h1⟩
    · exact h1 h
    · rw [hx0] at e; subst e; exact absurd h1 (by decide)
  have hb0 : ((T.size : Int) == 0) = false := beq_eq_false_iff_ne.2 (by omega)
  rcases hpick with hq | ⟨hq, hq2⟩
  all_goals (
    go_enter Tryd.func21, Tryd.ntmps21
    go_wp2
    go_loopg [3, 4] T.size (fun g n i wr => ∃ a : Nat, a ≤ T.size ∧ g = T.size - a ∧ i = .int .i64 a ∧ ∃ x : Nat, n = .int .i64 x ∧ Hid (x < 10 ^ a) ∧ Hid (Below w.heap.size w wr) ∧ Hid (x = valD (T.data.toList.take a)) ∧ Hid (∀ i (h : i < T.size), i < a → 48 ≤ (T[i]'h).toNat ∧ (T[i]'h).toNat ≤ 57))
    case atStart => exact ⟨0, Nat.zero_le _, rfl, rfl, 0, rfl, Nat.one_pos, Below.refl _ _, rfl, fun i h h2 => absurd h2 (Nat.not_lt_zero _)⟩
    case round =>
      obtain ⟨a, ha, rfl, rfl, x, rfl, hx, hb, hv, hd⟩ := hrel
      by_cases hlt : a < T.size
      · obtain ⟨x1, hx1⟩ : ∃ x1, T[a]'hlt = x1 := ⟨_, rfl⟩
        obtain ⟨d, hd1⟩ : ∃ d, x1.toNat = d := ⟨_, rfl⟩
        have HVa := Lib.hid (HV.out a hlt)
        rw [hx1, hd1] at HVa
        by_cases hd0 : d < 48
        · have hno := Lib.hid (fun h : OkV T => (h.dg a hlt).1)
          rw [hx1, hd1] at hno
          go_wp2
          go_ret
          exact ⟨ret_i64 (valZ_no fun h => absurd (hno.out h) (by omega)).symm, hb.out⟩
        by_cases hd9 : 57 < d
        · have hno := Lib.hid (fun h : OkV T => (h.dg a hlt).2)
          rw [hx1, hd1] at hno
          go_wp2
          go_ret
          exact ⟨ret_i64 (valZ_no fun h => absurd (hno.out h) (by omega)).symm, hb.out⟩
        obtain ⟨c, rfl⟩ : ∃ c, d = 48 + c := ⟨d - 48, by omega⟩
        have hc9 : c ≤ 9 := by omega
        have hxb : x < 100000000 := Nat.lt_of_lt_of_le hx.out (Nat.pow_le_pow_right (by decide) (show a ≤ 8 by omega))
        have HX1 : Hid ((T[a]'hlt).toNat = 48 + c) := by show (T[a]'hlt).toNat = 48 + c; rw [hx1, hd1]
        have e1 : IntKind.u8.wrap (((48 + c : Nat) : Int) - 48) = (c : Int) := by rw [IntKind.wrap_u8]; omega
        have e2 : IntKind.i64.wrap (c : Int) = (c : Int) := wrap_in _ (by omega)
        have e3 : IntKind.i64.wrap ((x : Int) * 10) = (x : Int) * 10 := wrap_in _ (by omega)
        have e4 : IntKind.i64.wrap ((x : Int) * 10 + (c : Int)) = ((x * 10 + c : Nat) : Int) := by rw [wrap_in _ (by omega)]; omega
        go_wp2
        go_roundg (T.size - (a + 1))
        case measure => omega
        case rel => exact ⟨a + 1, by omega, rfl, by go_num, x * 10 + c, by go_num, by
            show x * 10 + c < 10 ^ (a + 1)
            have := hx.out
            rw [Nat.pow_succ]; omega, hb.out, by
            show _ = valD _
            rw [HVa.out, ← hv.out, Nat.add_sub_cancel_left], fun i h h2 => by
            by_cases e : i = a
            · subst e
              rw [HX1.out]; omega
            · exact hd.out i h (by omega)⟩
      · obtain rfl : a = T.size := by omega
        go_wp2
        go_ret
        exact ⟨ret_i64 (by rw [valZ_yes ⟨hp0, n9, HNZ.out, fun i h => hd.out i h h⟩, hv.out, HE.out]), hb.out⟩)


/-- the pieces of a text so far, and the one that is under way -/
def splF (c : UInt8) (l : List UInt8) : List (List UInt8) × List UInt8 := l.foldl (fun a b => if b = c then (a.1 ++ [a.2], []) else (a.1, a.2 ++ [b])) ([], [])

def splL (c : UInt8) (l : List UInt8) : List (List UInt8) := (splF c l).1 ++ [(splF c l).2]

theorem splF_app (c : UInt8) (l : List UInt8) (b : UInt8) : splF c (l ++ [b]) = if b = c then ((splF c l).1 ++ [(splF c l).2], []) else ((splF c l).1, (splF c l).2 ++ [b]) := by
  unfold splF; rw [List.foldl_append]; rfl

theorem spl_word {c : UInt8} : ∀ {x : List UInt8} {a : List (List UInt8) × List UInt8}, c ∉ x → x.foldl (fun a b => if b = c then (a.1 ++ [a.2], []) else (a.1, a.2 ++ [b])) a = (a.1, a.2 ++ x)
  | [], a, _ => by simp
  | b :: x, a, h => by
    have h1 : ¬ b = c := fun e => h (by rw [e]; simp)
    rw [List.foldl_cons, if_neg h1, spl_word fun e => h (List.mem_cons_of_mem _ e)]
    simp

theorem spl_words {c : UInt8} : ∀ {ws : List (List UInt8)} {a : List (List UInt8) × List UInt8}, (∀ x ∈ ws, c ∉ x) → (fun q : List (List UInt8) × List UInt8 => q.1 ++ [q.2]) ((wordsR c ws).foldl (fun a b => if b = c then (a.1 ++ [a.2], []) else (a.1, a.2 ++ [b])) a) = a.1 ++ a.2 :: ws
  | [], a, _ => rfl
  | x :: ws, a, h => by
    show (fun q : List (List UInt8) × List UInt8 => q.1 ++ [q.2]) ((c :: (x ++ wordsR c ws)).foldl _ a) = _
    rw [List.foldl_cons, if_pos rfl, List.foldl_append, spl_word (h x (by simp)), spl_words fun y hy => h y (List.mem_cons_of_mem _ hy)]
    simp

theorem splL_words {c : UInt8} {ws : List (List UInt8)} (h : ∀ x ∈ ws, c ∉ x) : splL c (wordsR c ws) = [] :: ws := spl_words (a := ([], [])) h

theorem splL_two {c : UInt8} {x y : List UInt8} (hx : c ∉ x) (hy : c ∉ y) : splL c (x ++ c :: y) = [x, y] := by
  unfold splL splF
  rw [List.foldl_append, spl_word hx, List.foldl_cons, if_pos rfl, spl_word hy]
  simp


theorem ext_list (T : ByteArray) (r a : Nat) : (T.extract r a).data.toList = (T.data.toList.take a).drop r := by
  rw [ByteArray.data_extract, Array.toList_extract, List.extract_eq_take_drop, ← List.drop_take]

theorem ext_size (T : ByteArray) (r a : Nat) : (T.extract r a).size ≤ T.size := by
  rw [ByteArray.size_extract]; omega

theorem take_next {T : ByteArray} {a : Nat} (h : a < T.size) : T.data.toList.take (a + 1) = T.data.toList.take a ++ [T[a]'h] := by
  have hl : a < T.data.toList.length := by rw [← Lib.size_eq]; exact h
  rw [← List.take_append_getElem hl]; rfl

theorem elS : Elem Tryd.prog 41 9 (.string ByteArray.empty) 16 := ⟨Tryd.underlying41, by kernel_rfl, rfl⟩

theorem map_push (k : Nat) (P : Nat → ByteArray) (x : ByteArray) : ((List.range (k + 1)).map fun i => ((if i = k then x else P i) : ByteArray).data.toList) = ((List.range k).map fun i => (P i).data.toList) ++ [x.data.toList] := by
  rw [List.range_succ, List.map_append]
  congr 1
  · apply List.map_congr_left
    intro i hi
    rw [if_neg (by have := List.mem_range.1 hi; omega)]
  · simp


set_option maxHeartbeats 1000000 in
theorem sSplit_c (T : ByteArray) (c : UInt8) (w : World) (hs : T.size ≤ 1000000000) :
    Calls Tryd.prog 19 #[.string T, .int .u8 c.toNat] w fun e w' => ∃ (G : Nat) (P : Nat → ByteArray) (g cap : Nat), e = .returned (.slice (some ⟨g, 0, none⟩) (G + 1) cap) ∧ w.heap.size ≤ g ∧ Below w.heap.size w w' ∧ G ≤ T.size ∧ Own w' 9 g cap (G + 1) (fun i => .string (P i)) ∧ (∀ i, i < G + 1 → (P i).size ≤ T.size) ∧ splL c T.data.toList = (List.range (G + 1)).map fun i => (P i).data.toList := by
  obtain ⟨N, hN⟩ : ∃ N, T.size = N := ⟨_, rfl⟩
  have HT : Hid (∀ a (h : a < T.size), T.data.toList.take (a + 1) = T.data.toList.take a ++ [T[a]'h]) := fun a h => take_next h
  have HE : Hid (T.data.toList.take N = T.data.toList) := by show T.data.toList.take N = _; rw [← hN, Lib.size_eq, List.take_length]
  have HS : Hid (∀ r a, (T.extract r a).size ≤ N) := fun r a => by rw [← hN]; exact ext_size T r a
  obtain ⟨C, hC⟩ : ∃ C, c.toNat = C := ⟨_, rfl⟩
  rw [hC]
  rw [hN] at hs
  have HN := Lib.hid hN
  have HC := Lib.hid hC
  clear hC
  go_enter Tryd.func19, Tryd.ntmps19
  go_wp2
  go_loopg [5, 6, 7] N (fun g out s6 i wr => ∃ a : Nat, a ≤ N ∧ g = N - a ∧ i = .int .i64 a ∧ ∃ k r : Nat, s6 = .int .i64 r ∧ r ≤ a ∧ k ≤ a ∧ ∃ g2 c2, out = .slice (some ⟨g2, 0, none⟩) k c2 ∧ w.heap.size ≤ g2 ∧ Hid (Below w.heap.size w wr) ∧ ∃ P : Nat → ByteArray, Hid (Own wr 9 g2 c2 k (fun i => .string (P i))) ∧ Hid (∀ i, i < k → (P i).size ≤ N) ∧ Hid (splF c (T.data.toList.take a) = ((List.range k).map fun i => (P i).data.toList, (T.extract r a).data.toList)))
  case atStart => exact ⟨0, Nat.zero_le _, rfl, rfl, 0, 0, rfl, Nat.le_refl _, Nat.le_refl _, _, _, rfl, Nat.le_refl _, (Below.refl _ _).alloc (Nat.le_refl _) _, fun _ => ByteArray.empty, Own.empty _ _ _, fun i hi => absurd hi (Nat.not_lt_zero _), by show splF c _ = _; rw [ext_list]; rfl⟩
  case round =>
    obtain ⟨a, ha, rfl, rfl, k, r, rfl, hra, hka, g2, c2, rfl, hg2, hb, P, hO, hP, hS⟩ := hrel
    have i1 : (r : Int) ≤ (a : Int) := by omega
    have i2 : (a : Int) ≤ (N : Int) := by omega
    by_cases hlt : a < N
    · have hlt2 : a < T.size := by rw [hN]; exact hlt
      have HTa := Lib.hid (HT.out a hlt2)
      obtain ⟨x1, hx1⟩ : ∃ x1, T[a]'hlt2 = x1 := ⟨_, rfl⟩
      rw [hx1] at HTa
      obtain ⟨d, hd⟩ : ∃ d, x1.toNat = d := ⟨_, rfl⟩
      by_cases he : d = C
      · subst he
        obtain rfl : x1 = c := UInt8.toNat_inj.1 (hd.trans HC.out.symm)
        have hO2 := hO.out
        go_wp2_with (at_builtin; refine wpList_push _ rfl _ _ _ _ elS rfl hO2 (.string (T.extract r a)) rfl rfl rfl (by omega) (by omega) ?_; intro g3 c3 w3 hO3 hg3 hgr3)
        go_roundg (N - (a + 1))
        case measure => omega
        case rel => exact ⟨a + 1, by omega, rfl, by go_num, k + 1, a + 1, by go_num, Nat.le_refl _, by omega, g3, c3, by go_num, by have := hb.out.size; omega, hb.out.grown hgr3 hb.out.size (fun k e => by injection e with e; omega), fun i => if i = k then T.extract r a else P i, hO3.congr fun i hi => by
            by_cases e2 : i = k
            · subst e2; simp
            · simp [e2], fun i hi => by
            by_cases e2 : i = k
            · simp only [if_pos e2]; exact HS.out _ _
            · simp only [if_neg e2]; exact hP.out i (by omega), by
            show splF _ _ = _
            rw [HTa.out, splF_app, if_pos rfl, hS.out, map_push, ext_list]
            simp⟩
      · have hne : ¬ x1 = c := fun e => he (by rw [← hd, ← HC.out, e])
        have HNE := Lib.hid hne
        have hbq : ((d : Int) == (C : Int)) = false := beq_eq_false_iff_ne.2 (by omega)
        clear hne
        go_wp2
        go_roundg (N - (a + 1))
        case measure => omega
        case rel => exact ⟨a + 1, by omega, rfl, by go_num, k, r, rfl, by omega, by omega, g2, c2, rfl, hg2, hb.out, P, hO.out, hP.out, by
            show splF _ _ = _
            rw [HTa.out, splF_app, if_neg HNE.out, hS.out, ext_list, ext_list, HTa.out, List.drop_append_of_le_length (by rw [List.length_take, ← Lib.size_eq]; omega)]⟩
    · obtain rfl : a = N := by omega
      have hO2 := hO.out
      go_wp2_with (at_builtin; refine wpList_push _ rfl _ _ _ _ elS rfl hO2 (.string (T.extract r a)) rfl rfl rfl (by omega) (by omega) ?_; intro g3 c3 w3 hO3 hg3 hgr3)
      go_ret
      exact ⟨k, fun i => if i = k then T.extract r a else P i, g3, c3, rfl, by have := hb.out.size; omega, hb.out.grown hgr3 hb.out.size (fun k e => by injection e with e; omega), by omega, hO3.congr fun i hi => by
            by_cases e2 : i = k
            · subst e2; simp
            · simp [e2], fun i hi => by
            by_cases e2 : i = k
            · simp only [if_pos e2]; rw [HN.out]; exact HS.out _ _
            · simp only [if_neg e2]; rw [HN.out]; exact hP.out i (by omega), by
            rw [map_push]; unfold splL; have := hS.out; rw [HE.out] at this; rw [this]⟩
end Go.Proofs.YtejbigdebjcomaaDoor
