/-
  The loop that spoils a text: it ends, and the text stays short. No program is in sight. No condition.
-/
import Derived.Test.YtejbigdebjcomaaDoorTN1
set_option linter.unusedVariables false
set_option linter.unusedSimpArgs false
set_option maxRecDepth 100000
namespace Go.Proofs.YtejbigdebjcomaaDoor


/-- the draw at index i from hs is a multiple of 3 -/
def Z3 (hs : Int) (i : Nat) : Prop := xD (itL (i + 1) hs) % 3 = 0

/-- behind the code: j draws since the state hs; the last m rounds drew four times each -/
structure PhB (n : Nat) (h : Int) (L fuel : Nat) (hs : Int) (j m : Nat) : Prop where
  ev : j % 2 = 0
  st : h = itL j hs
  prs : ∀ i, i % 2 = 0 → i + 2 < j → Z3 hs i ∨ Z3 hs (i + 2)
  m4 : 4 * m ≤ j
  zs : ∀ r, 1 ≤ r → r ≤ m → Z3 hs (j - 4 * r)
  len : L ≤ 30 + 2 * n + 2 * m
  fu : 144115188075855890 ≤ fuel + j

/-- where the loop stands -/
structure Ph (n k : Nat) (h : Int) (L fuel : Nat) : Prop where
  kn : k ≤ n
  out : (k < n ∧ L ≤ 28 + 2 * k ∧ n - k + 144115188075855900 ≤ fuel) ∨ (k = n ∧ ∃ hs j m, PhB n h L fuel hs j m)

theorem PhB.j_le {n : Nat} {h : Int} {L fuel : Nat} {hs : Int} {j m : Nat} (H : PhB n h L fuel hs j m) : j ≤ 144115188075855874 := by
  obtain ⟨i, hi, he, h1, h2⟩ := soon_pair hs
  by_cases hj : i + 2 < j
  · rcases H.prs i he hj with h3 | h3
    · exact absurd h3 h1
    · exact absurd h3 h2
  · omega

theorem PhB.m_le {n : Nat} {h : Int} {L fuel : Nat} {hs : Int} {j m : Nat} (H : PhB n h L fuel hs j m) : m ≤ 301989888 := by
  obtain ⟨q, hq, h1⟩ := soon_four (itL (j - 4 * m + 1) hs)
  have h4 := H.m4
  by_cases hm : q < m
  · have h3 := H.zs (m - q) (by omega) (by omega)
    unfold Z3 at h3
    rw [show j - 4 * (m - q) + 1 = j - 4 * m + 1 + 4 * q by omega, itL_add] at h3
    exact absurd h3 h1
  · omega

theorem Ph.len {n k : Nat} {h : Int} {L fuel : Nat} (H : Ph n k h L fuel) (hn : n ≤ 4096) : L ≤ 700000000 := by
  rcases H.out with ⟨h1, h2, _⟩ | ⟨_, hs, j, m, hB⟩
  · omega
  · have := hB.m_le
    have := hB.len
    omega

/-- one round -/
theorem Ph.step {n k : Nat} {h : Int} {L L' d fuel : Nat} (H : Ph n k h L fuel) (hz : k = n → xD (fL h) % 3 = 0) (hd : (L = 0 ∧ d = 2) ∨ (1 ≤ L ∧ d = 4)) (hL : L' ≤ L + 2) : ∃ fuel', fuel' < fuel ∧ Ph n (min (k + d) n) (itL d h) L' fuel' := by
  rcases H.out with ⟨h1, h2, h3⟩ | ⟨rfl, hs, j, m, hB⟩
  · by_cases hk : k + d < n
    · exact ⟨n - (k + d) + 144115188075855900, by omega, by omega, Or.inl ⟨by omega, by omega, by omega⟩⟩
    · exact ⟨144115188075855890, by omega, by omega, Or.inr ⟨by omega, itL d h, 0, 0, rfl, rfl, fun i _ hi => absurd hi (by omega), by omega, fun r h1 h2 => absurd h1 (by omega), by omega, by omega⟩⟩
  · have hj := hB.j_le
    have hf := hB.fu
    have hzj : Z3 hs j := by unfold Z3; rw [itL_succ, ← hB.st]; exact hz rfl
    have hev := hB.ev
    have hlen := hB.len
    have hm4 := hB.m4
    rcases hd with ⟨hL0, rfl⟩ | ⟨hL1, rfl⟩
    · refine ⟨fuel - 2, by omega, by omega, Or.inr ⟨by omega, hs, j + 2, 0, by omega, by rw [itL_add, ← hB.st], fun i he hi => ?_, by omega, fun r h1 h2 => absurd h1 (by omega), by omega, by omega⟩⟩
      by_cases h5 : i + 2 < j
      · exact hB.prs i he h5
      · right; rw [show i + 2 = j by omega]; exact hzj
    · refine ⟨fuel - 4, by omega, by omega, Or.inr ⟨by omega, hs, j + 4, m + 1, by omega, by rw [itL_add, ← hB.st], fun i he hi => ?_, by omega, fun r h1 h2 => ?_, by omega, by omega⟩⟩
      · by_cases h5 : i + 2 < j
        · exact hB.prs i he h5
        · by_cases h6 : i + 2 = j
          · right; rw [h6]; exact hzj
          · left; rw [show i = j by omega]; exact hzj
      · by_cases h5 : r = 1
        · rw [h5, show j + 4 - 4 * 1 = j by omega]; exact hzj
        · have := hB.zs (r - 1) (by omega) (by omega)
          rw [show j + 4 - 4 * r = j - 4 * (r - 1) by omega]; exact this

theorem Ph.start {n k : Nat} (h : Int) {L : Nat} (hk : k ≤ n) (hL : L ≤ 28) : Ph n k h L (n + 144115188075855900) := by
  by_cases e : k = n
  · exact ⟨hk, Or.inr ⟨e, h, 0, 0, rfl, rfl, fun i _ hi => absurd hi (by omega), by omega, fun r h1 h2 => absurd h1 (by omega), by omega, by omega⟩⟩
  · exact ⟨hk, Or.inl ⟨by omega, by omega, by omega⟩⟩

end Go.Proofs.YtejbigdebjcomaaDoor
