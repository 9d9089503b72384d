/-
  How the arguments of a law are opened: a table. No condition.
-/
import Derived.Test.YtnkflgigbielgaaKJ
import Derived.ProofKit
import Derived.OpenShut
import Derived.ShutString
import Derived.ChangeOld
import Derived.Deep.Matrix
set_option linter.unusedVariables false
set_option linter.unusedSimpArgs false
namespace Go.Proofs.Ytnkflgigbielgaa
open Go.ChangeShapes Go.WideShapes Go.ChangeAt Go.RowKit Go.Deep

theorem own : ownKnob Try.prog.godebug = none := by kernel_rfl
theorem laidOut : laidOutB Try.prog = true := by kernel_rfl

theorem addr_add (a : Addr) (h : a.spot = none) (j : Nat) : a.add j = ⟨a.block, a.off + j, none⟩ := by
  obtain ⟨b, o, s⟩ := a; subst h; exact Addr.add_lit _ _ _

theorem spot_of_cell {w : World} {a : Addr} {v : Value} (h : w.cell? a = some v) : a.spot = none := by
  unfold World.cell? at h
  split at h
  · split at h
    · cases h
    · rename_i h2; simpa using h2
  · cases h

theorem spot_of_add {w : World} {a : Addr} {v : Value} (h : w.cell? (a.add 0) = some v) : a.spot = none := by
  have e : a.add 0 = a := by unfold Addr.add; simp
  rw [e] at h; exact spot_of_cell h

/-- A table that can be read as data is a table. -/
theorem open_tab {H : Type} {enc : TypeId × Value → H} {w : World} {a0 : Option Addr} {len0 cap0 : Nat} {d : DataW H} {p : List MemPlace}
    (h : DataW.Trod enc Try.prog w 0 (fun _ => true) true 39 (.slice a0 len0 cap0) d p) : ∃ G L T, Tab w (.slice a0 len0 cap0) G L T := by
  obtain ⟨fuel, hf⟩ := h
  rcases open_int_rows Try.underlying39 Try.underlying24 Try.underlying2 (by kernel_rfl) (by kernel_rfl) hf with ⟨hcs, _⟩ | ⟨a, len, cap, A, L, C, Z, hcs, _, hl, hm, _, hrow⟩
  · simp [Value.cells] at hcs
    obtain ⟨rfl, rfl, rfl⟩ := hcs
    exact ⟨0, fun _ => 0, fun _ _ => 0, none, 0, 0, 0, fun _ => none, fun _ => 0, fun _ => 0, fun _ => 0, rfl, Nat.le_refl _, Nat.zero_le _, fun h => absurd h (Nat.not_lt_zero _), fun i hi => absurd hi (Nat.not_lt_zero _), fun i hi => absurd hi (Nat.not_lt_zero _), fun i hi => absurd hi (Nat.not_lt_zero _), fun i j hi => absurd hi (Nat.not_lt_zero _)⟩
  · simp [Value.cells] at hcs
    obtain ⟨rfl, rfl, rfl⟩ := hcs
    unfold maxLen at hm hrow
    have hrow' : ∀ r, r < cap0 → w.cell? (a.add r) = some (.slice (A r) (L r) (C r)) ∧ L r ≤ C r ∧ C r ≤ 9223372036854775807 ∧ ∀ a', A r = some a' → ∀ c, c < C r → w.cell? (a'.add c) = some (.int .i64 ((Z r).getD c 0)) := fun r hr => by
      obtain ⟨h1, h2, h3, _, _, _, h7⟩ := hrow r hr
      exact ⟨h1, h2, by omega, fun a' e c hc => (h7 a' e).2 c hc⟩
    have hnone : ∀ r, r < cap0 → A r = none → C r = 0 := fun r hr e => (hrow r hr).2.2.2.2.2.1 e
    have hsp : 0 < len0 → a.spot = none := fun h0 => spot_of_add (hrow' 0 (by omega)).1
    refine ⟨len0, L, fun i j => (Z i).getD j 0, some a, cap0, a.block, a.off, A, C, fun i => ((A i).getD ⟨0, 0, none⟩).block, fun i => ((A i).getD ⟨0, 0, none⟩).off, rfl, hl, by omega, fun h0 => ?_, fun i hi => ?_, fun i hi => ⟨(hrow' i (by omega)).2.1, (hrow' i (by omega)).2.2.1⟩, fun i hi h0 => ?_, fun i j hi hj => ?_⟩
    · have := hsp h0
      obtain ⟨b, o, s⟩ := a; simp at this; subst this; rfl
    · rw [← addr_add a (hsp (by omega))]; exact (hrow' i (by omega)).1
    · have hr := hrow' i (by omega)
      cases hA : A i with
      | none => have := hnone i (by omega) hA; omega
      | some a' =>
        have := hr.2.2.2 a' hA 0 (by omega)
        have := spot_of_add this
        obtain ⟨b, o, s⟩ := a'; simp at this; subst this
        show some _ = some (⟨((A i).getD ⟨0, 0, none⟩).block, ((A i).getD ⟨0, 0, none⟩).off, none⟩ : Addr)
        rw [hA]; rfl
    · have hr := hrow' i (by omega)
      cases hA : A i with
      | none => have := hnone i (by omega) hA; omega
      | some a' =>
        have h0 := hr.2.2.2 a' hA j (by omega)
        have h1 := spot_of_add (hr.2.2.2 a' hA 0 (by omega))
        rw [addr_add a' h1] at h0
        show w.cell? ⟨((A i).getD ⟨0, 0, none⟩).block, ((A i).getD ⟨0, 0, none⟩).off + j, none⟩ = _
        rw [hA]; exact h0

theorem ints_of_trod {H : Type} {enc : TypeId × Value → H} {w : World} {fuel : Nat} {v : Value} {x : DataW H × List MemPlace}
    (h : DataW.trod enc Try.prog w 0 (fun _ => true) true fuel 24 [v] = some x) : ∃ n X, Ints w v n X := by
  rcases open_ints Try.underlying24 Try.underlying2 (by kernel_rfl) h with ⟨hcs, _⟩ | ⟨a, len, cap, zs, hcs, _, hl, hm, hz, _, hc, _⟩
  · simp at hcs
    subst hcs
    exact ⟨0, fun _ => 0, none, 0, 0, 0, rfl, Nat.le_refl _, Nat.zero_le _, fun h => absurd h (Nat.not_lt_zero _), fun i hi => absurd hi (Nat.not_lt_zero _)⟩
  · simp at hcs
    subst hcs
    unfold maxLen at hm
    have hz' : zs.length = cap := by simpa using hz
    refine ⟨len, fun i => zs.getD i 0, some a, cap, a.block, a.off, rfl, hl, by omega, fun h0 => ?_, fun i hi => ?_⟩
    · have := spot_of_add (hc 0 (by omega))
      obtain ⟨b, o, s⟩ := a; simp at this; subst this; rfl
    · have hs := spot_of_add (hc 0 (by omega))
      rw [← addr_add a hs]; exact hc i (by omega)

/-- A list that can be read as data is a list. -/
theorem open_intsl {H : Type} {enc : TypeId × Value → H} {w : World} {a0 : Option Addr} {len0 cap0 : Nat} {d : DataW H} {p : List MemPlace}
    (h : DataW.Trod enc Try.prog w 0 (fun _ => true) true 24 (.slice a0 len0 cap0) d p) : ∃ n X, Ints w (.slice a0 len0 cap0) n X := by
  obtain ⟨fuel, hf⟩ := h
  exact ints_of_trod (by simpa [Value.cells] using hf)

set_option maxRecDepth 100000 in
/-- A space that can be read as data is one. -/
theorem open_space {H : Type} {enc : TypeId × Value → H} {w W : World} {r : Reach} {base : Nat} {v : Value} {d : DataW H} {p : List MemPlace}
    (hv : Value.okWide Try.prog W r base 59 v) (h : DataW.Trod enc Try.prog w 0 (fun _ => true) true 59 v d p) : ∃ P sv n X, v = .agg #[.int .i64 P, sv] ∧ Ints w sv n X := by
  obtain ⟨cs, rfl, hsz⟩ := okWide_struct Try.underlying59 hv
  obtain ⟨fuel, hf⟩ := h
  obtain ⟨y0, y1, m, hx, hl, h0, h1⟩ := trod_struct2 Try.underlying59 hf
  have hc : Try.prog.cellsOf 59 = 2 := by kernel_rfl
  have hc0 : Try.prog.cellsOf 2 = 1 := by kernel_rfl
  have hc1 : Try.prog.cellsOf 24 = 1 := by kernel_rfl
  rw [hc] at hsz
  obtain ⟨l⟩ := cs
  match l, hsz with
  | [c0, c1], _ =>
    simp [Value.cells, hc0] at h0
    simp [Value.cells, hc1] at h1
    obtain ⟨n, hn, _, _⟩ := DataW.trod_int Try.underlying2 h0
    simp at hn
    subst hn
    obtain ⟨k, X, hi⟩ := ints_of_trod h1
    exact ⟨n, c1, k, X, rfl, hi⟩

end Go.Proofs.Ytnkflgigbielgaa
