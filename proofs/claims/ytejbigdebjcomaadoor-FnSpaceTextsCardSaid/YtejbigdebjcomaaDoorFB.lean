/-
  How an argument of a law is opened: bytes. No condition.
-/
import Derived.Test.YtejbigdebjcomaaDoorFr
import Derived.Test.YtejbigdebjcomaaDoorLD1
set_option linter.unusedVariables false
set_option linter.unusedSimpArgs false
set_option maxRecDepth 100000
namespace Go.Proofs.YtejbigdebjcomaaDoor
open Go.ChangeShapes Go.WideShapes Go.ChangeAt Go.RowKit Go.Deep


theorem getD_nth {zs : List Int} {i : Nat} (h : i < zs.length) : zs.getD i 0 ∈ zs := by
  rw [List.getD_eq_getElem?_getD, List.getElem?_eq_getElem h]; exact List.getElem_mem h

theorem wf_u8 {n : Int} (h : (Lit.int .u8 n).wf = true) : 0 ≤ n ∧ n ≤ 255 := by
  simp only [Lit.wf, Bool.and_eq_true, decide_eq_true_eq] at h
  have h0 : IntKind.min .u8 = 0 := by kernel_rfl
  have h1 : IntKind.max .u8 = 255 := by kernel_rfl
  rw [h0, h1] at h; exact h


/-- Bytes that can be read as data are bytes. -/
theorem open_bytes {H : Type} {enc : TypeId × Value → H} {w : World} {a0 : Option Addr} {len0 cap0 : Nat} {d : DataW H} {p : List MemPlace}
    (h : DataW.Trod enc Tryd.prog w 0 (fun _ => true) true 36 (.slice a0 len0 cap0) d p) : ∃ n X, Byt w (.slice a0 len0 cap0) n X := by
  obtain ⟨fuel, hf⟩ := h
  rcases open_ints Tryd.underlying36 Tryd.underlying5 (by kernel_rfl) hf with ⟨hcs, _⟩ | ⟨a, len, cap, zs, hcs, _, hl, hm, hz, _, hc, hw⟩
  · simp [Value.cells] at hcs
    obtain ⟨rfl, rfl, rfl⟩ := hcs
    exact ⟨0, fun _ => 0, ⟨none, 0, 0, 0, rfl, Nat.le_refl _, Nat.zero_le _, fun h => absurd h (Nat.not_lt_zero _), fun i hi => absurd hi (Nat.not_lt_zero _)⟩⟩
  · simp [Value.cells] at hcs
    obtain ⟨rfl, rfl, rfl⟩ := hcs
    unfold maxLen at hm
    have hz' : zs.length = cap0 := by simpa using hz
    refine ⟨len0, fun i => zs.getD i 0, ⟨some a, cap0, a.block, a.off, rfl, hl, by omega, fun h0 => ?_, fun i hi => ?_⟩⟩
    · have := spot_of_add (hc 0 (by omega))
      obtain ⟨b, o, s⟩ := a; simp at this; subst this; rfl
    · have hs := spot_of_add (hc 0 (by omega))
      exact ⟨by rw [← addr_add a hs]; exact hc i (by omega), wf_u8 (hw _ (getD_nth (by omega)))⟩

end Go.Proofs.YtejbigdebjcomaaDoor
