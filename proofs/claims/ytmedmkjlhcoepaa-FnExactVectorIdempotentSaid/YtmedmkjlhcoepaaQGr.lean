/-
  The grades of a multivector: sorted and made compact, they are the grades in order. Plain. No condition.
-/
import Derived.Test.YtmedmkjlhcoepaaMG1
import Derived.Lib.SlicesCompact
set_option linter.unusedVariables false
set_option linter.unusedSimpArgs false
namespace Go.Proofs.Ytmedmkjlhcoepaa
open Go.Lib

theorem strict_ext : ∀ {a b : List Int}, a.Pairwise (· < ·) → b.Pairwise (· < ·) → (∀ x, x ∈ a ↔ x ∈ b) → a = b
  | [], [], _, _, _ => rfl
  | [], y :: b, _, _, h => absurd ((h y).2 (List.mem_cons_self ..)) (by simp)
  | x :: a, [], _, _, h => absurd ((h x).1 (List.mem_cons_self ..)) (by simp)
  | x :: a, y :: b, ha, hb, h => by
    rw [List.pairwise_cons] at ha hb
    have hxy : x = y := by
      have h1 := (h x).1 (List.mem_cons_self ..)
      have h2 := (h y).2 (List.mem_cons_self ..)
      rw [List.mem_cons] at h1 h2
      rcases h1 with h1 | h1
      · exact h1
      · rcases h2 with h2 | h2
        · exact h2.symm
        · have := hb.1 x h1; have := ha.1 y h2; omega
    subst hxy
    rw [strict_ext ha.2 hb.2 fun z => ?_]
    constructor
    · intro hz
      have h1 := (h z).1 (List.mem_cons_of_mem _ hz)
      rw [List.mem_cons] at h1
      rcases h1 with rfl | h1
      · exact absurd (ha.1 z hz) (by omega)
      · exact h1
    · intro hz
      have h1 := (h z).2 (List.mem_cons_of_mem _ hz)
      rw [List.mem_cons] at h1
      rcases h1 with rfl | h1
      · exact absurd (hb.1 z hz) (by omega)
      · exact h1

theorem compact_inv (d : Array Int) (hs : ∀ i j, i < j → j < d.size → d[i]! ≤ d[j]!) : ∀ m, m ≤ d.size → (compactUpTo d m).Pairwise (· < ·) ∧ (∀ x, x ∈ compactUpTo d m ↔ ∃ j, j < m ∧ d[j]! = x) ∧ ∀ x, x ∈ compactUpTo d m → x ≤ d[m - 1]!
  | 0, _ => by simp [compactUpTo]
  | m + 1, hm => by
    obtain ⟨h1, h2, h3⟩ := compact_inv d hs m (by omega)
    rw [compactUpTo_succ]
    have hmem : ∀ x, (∃ j, j < m + 1 ∧ d[j]! = x) ↔ (∃ j, j < m ∧ d[j]! = x) ∨ d[m]! = x := fun x => by
      constructor
      · rintro ⟨j, hj, e⟩
        by_cases e2 : j = m
        · subst e2; exact Or.inr e
        · exact Or.inl ⟨j, by omega, e⟩
      · rintro (⟨j, hj, e⟩ | e)
        · exact ⟨j, by omega, e⟩
        · exact ⟨m, by omega, e⟩
    by_cases hk : keeps d m = true
    · rw [if_pos hk]
      refine ⟨?_, fun x => ?_, fun x hx => ?_⟩
      · rw [List.pairwise_append]
        refine ⟨h1, by simp, fun x hx y hy => ?_⟩
        rw [List.mem_singleton] at hy
        subst hy
        have h4 := h3 x hx
        by_cases h0 : m = 0
        · subst h0; simp [compactUpTo] at hx
        · have h5 : d[m]! ≠ d[m - 1]! := fun e => by rw [keeps_neg (by omega) e] at hk; cases hk
          have h6 := hs (m - 1) m (by omega) (by omega)
          omega
      · rw [List.mem_append, h2, hmem, List.mem_singleton]
        exact ⟨fun h => h.imp id Eq.symm, fun h => h.imp id Eq.symm⟩
      · rw [List.mem_append, List.mem_singleton] at hx
        show x ≤ d[m]!
        rcases hx with hx | rfl
        · obtain ⟨j, hj, rfl⟩ := (h2 x).1 hx
          exact hs j m hj (by omega)
        · exact Int.le_refl _
    · rw [if_neg hk, List.append_nil]
      have h0 : 0 < m := by
        rcases Nat.eq_zero_or_pos m with h0 | h0
        · subst h0; exact absurd (keeps_lt_one d 0 (by omega)) hk
        · exact h0
      have h5 : d[m]! = d[m - 1]! := by
        by_cases e : d[m]! = d[m - 1]!
        · exact e
        · exact absurd (keeps_pos e) hk
      refine ⟨h1, fun x => ?_, fun x hx => ?_⟩
      · rw [h2, hmem]
        constructor
        · exact Or.inl
        · rintro (h | h)
          · exact h
          · exact ⟨m - 1, by omega, by rw [← h5]; exact h⟩
      · show x ≤ d[m]!
        rw [h5]; exact h3 x hx

/-- the grades as they are met -/
def unsG (X : Nat → Int) (N : Nat) : List Int := ((List.range N).filter fun m => decide (X m ≠ 0)).map fun m : Nat => (pc m : Int)
theorem unsG_succ (X : Nat → Int) (k : Nat) : unsG X (k + 1) = unsG X k ++ if X k ≠ 0 then [(pc k : Int)] else [] := by
  unfold unsG
  rw [List.range_succ, List.filter_append, List.map_append]
  by_cases h : X k ≠ 0
  · simp [h]
  · simp at h; simp [h]
theorem unsG_le (X : Nat → Int) (N : Nat) : (unsG X N).length ≤ N := by
  unfold unsG
  rw [List.length_map]
  exact Nat.le_trans (List.length_filter_le _ _) (by simp)
/-- is k a grade -/
def gB (N : Nat) (X : Nat → Int) (k : Nat) : Bool := decide (∃ m, m < N ∧ pc m = k ∧ X m ≠ 0)
/-- the grades in order -/
def gL (N : Nat) (X : Nat → Int) (n : Nat) : List Int := ((List.range n).filter (gB N X)).map fun k : Nat => (k : Int)
theorem gL_succ (N : Nat) (X : Nat → Int) (k : Nat) : gL N X (k + 1) = gL N X k ++ if gB N X k then [(k : Int)] else [] := by
  unfold gL
  rw [List.range_succ, List.filter_append, List.map_append]
  cases h : gB N X k <;> simp [h]
theorem gL_mem (N : Nat) (X : Nat → Int) (n : Nat) (x : Int) : x ∈ gL N X n ↔ ∃ k, k < n ∧ gB N X k = true ∧ (k : Int) = x := by
  unfold gL
  rw [List.mem_map]
  constructor
  · rintro ⟨k, hk, e⟩
    rw [List.mem_filter, List.mem_range] at hk
    exact ⟨k, hk.1, hk.2, e⟩
  · rintro ⟨k, h1, h2, e⟩
    exact ⟨k, by rw [List.mem_filter, List.mem_range]; exact ⟨h1, h2⟩, e⟩
theorem gL_le (N : Nat) (X : Nat → Int) (n : Nat) : (gL N X n).length ≤ n := by
  unfold gL
  rw [List.length_map]
  exact Nat.le_trans (List.length_filter_le _ _) (by simp)
theorem gL_strict (N : Nat) (X : Nat → Int) (n : Nat) : (gL N X n).Pairwise (· < ·) := by
  unfold gL
  rw [List.pairwise_map]
  exact (List.Pairwise.filter _ List.pairwise_lt_range).imp fun h => by omega

theorem grades_eq {n : Nat} (hn : n ≤ 6) (X : Nat → Int) : compact ((unsG X (2 ^ n)).mergeSort fun x y => decide (x ≤ y)) = gL (2 ^ n) X (n + 1) := by
  obtain ⟨S, hS⟩ : ∃ S, (unsG X (2 ^ n)).mergeSort (fun x y => decide (x ≤ y)) = S := ⟨_, rfl⟩
  have hsrt : S.Pairwise (fun x y => decide (x ≤ y) = true) := by
    rw [← hS]
    exact List.pairwise_mergeSort (fun a b c h1 h2 => decide_eq_true (by have := of_decide_eq_true h1; have := of_decide_eq_true h2; omega)) (fun a b => by rw [Bool.or_eq_true, decide_eq_true_eq, decide_eq_true_eq]; omega) _
  have hmemS : ∀ x, x ∈ S ↔ x ∈ unsG X (2 ^ n) := fun x => by rw [← hS]; exact List.mem_mergeSort
  rw [hS]
  have hmono : ∀ i j, i < j → j < S.toArray.size → S.toArray[i]! ≤ S.toArray[j]! := fun i j hij hj => by
    have hj' : j < S.length := by simpa using hj
    rw [getElem!_pos S.toArray i (by simp; omega), getElem!_pos S.toArray j hj]
    have := List.pairwise_iff_getElem.1 hsrt i j (by omega) hj' hij
    simpa using this
  obtain ⟨h1, h2, _⟩ := compact_inv S.toArray hmono S.length (by simp)
  refine strict_ext h1 (gL_strict _ _ _) fun x => ?_
  show x ∈ compactUpTo S.toArray S.length ↔ _
  rw [h2, gL_mem]
  constructor
  · rintro ⟨j, hj, rfl⟩
    have hm : S.toArray[j]! ∈ S := by
      rw [getElem!_pos S.toArray j (by simpa using hj)]
      simp
    rw [hmemS] at hm
    unfold unsG at hm
    rw [List.mem_map] at hm
    obtain ⟨m, hm1, hm2⟩ := hm
    rw [List.mem_filter, List.mem_range] at hm1
    have hle := pc_le hn hm1.1
    refine ⟨pc m, by omega, decide_eq_true ⟨m, hm1.1, rfl, by simpa using hm1.2⟩, hm2⟩
  · rintro ⟨k, hk, hg, rfl⟩
    obtain ⟨m, hm, e, hx⟩ := of_decide_eq_true hg
    have : (k : Int) ∈ S := by
      rw [hmemS]
      unfold unsG
      rw [List.mem_map]
      exact ⟨m, by rw [List.mem_filter, List.mem_range]; exact ⟨hm, by simpa using hx⟩, by rw [e]⟩
    obtain ⟨j, hj, e2⟩ := List.getElem_of_mem this
    exact ⟨j, hj, by rw [getElem!_pos S.toArray j (by simpa using hj)]; simpa using e2⟩

end Go.Proofs.Ytmedmkjlhcoepaa
