/-
  How the arguments of a law are opened: a table. No condition.
-/
import Derived.Test.YtejbigdebjcomaaDoorKJ
import Derived.ProofKit
import Derived.OpenShut
import Derived.ShutString
import Derived.ChangeOld
import Derived.Deep.Matrix
set_option linter.unusedVariables false
set_option linter.unusedSimpArgs false
set_option maxRecDepth 100000
namespace Go.Proofs.YtejbigdebjcomaaDoor
open Go.ChangeShapes Go.WideShapes Go.ChangeAt Go.RowKit Go.Deep


theorem own : ownKnob Tryd.prog.godebug = none := by kernel_rfl

theorem laidOut : laidOutB Tryd.prog = true := by kernel_rfl


theorem addr_add (a : Addr) (h : a.spot = none) (j : Nat) : a.add j = ⟨a.block, a.off + j, none⟩ := by
  obtain ⟨b, o, s⟩ := a; subst h; exact Addr.add_lit _ _ _


theorem spot_of_cell {w : World} {a : Addr} {v : Value} (h : w.cell? a = some v) : a.spot = none := by
  unfold World.cell? at h
  split at h
  · split at h
    · cases h
    · rename_i h2; simpa using h2
  · cases h


theorem spot_of_add {w : World} {a : Addr} {v : Value} (h : w.cell? (a.add 0) = some v) : a.spot = none := by
  have e : a.add 0 = a := by unfold Addr.add; simp
  rw [e] at h; exact spot_of_cell h


theorem ints_of_trod {H : Type} {enc : TypeId × Value → H} {w : World} {fuel : Nat} {v : Value} {x : DataW H × List MemPlace}
    (h : DataW.trod enc Tryd.prog w 0 (fun _ => true) true fuel 22 [v] = some x) : ∃ n X, Ints w v n X := by
  rcases open_ints Tryd.underlying22 Tryd.underlying2 (by kernel_rfl) h with ⟨hcs, _⟩ | ⟨a, len, cap, zs, hcs, _, hl, hm, hz, _, hc, _⟩
  · simp at hcs
    subst hcs
    exact ⟨0, fun _ => 0, none, 0, 0, 0, rfl, Nat.le_refl _, Nat.zero_le _, fun h => absurd h (Nat.not_lt_zero _), fun i hi => absurd hi (Nat.not_lt_zero _)⟩
  · simp at hcs
    subst hcs
    unfold maxLen at hm
    have hz' : zs.length = cap := by simpa using hz
    refine ⟨len, fun i => zs.getD i 0, some a, cap, a.block, a.off, rfl, hl, by omega, fun h0 => ?_, fun i hi => ?_⟩
    · have := spot_of_add (hc 0 (by omega))
      obtain ⟨b, o, s⟩ := a; simp at this; subst this; rfl
    · have hs := spot_of_add (hc 0 (by omega))
      rw [← addr_add a hs]; exact hc i (by omega)


/-- A list that can be read as data is a list. -/
theorem open_intsl {H : Type} {enc : TypeId × Value → H} {w : World} {a0 : Option Addr} {len0 cap0 : Nat} {d : DataW H} {p : List MemPlace}
    (h : DataW.Trod enc Tryd.prog w 0 (fun _ => true) true 22 (.slice a0 len0 cap0) d p) : ∃ n X, Ints w (.slice a0 len0 cap0) n X := by
  obtain ⟨fuel, hf⟩ := h
  exact ints_of_trod (by simpa [Value.cells] using hf)


set_option maxRecDepth 100000 in
/-- A space that can be read as data is one. -/
theorem open_space {H : Type} {enc : TypeId × Value → H} {w W : World} {r : Reach} {base : Nat} {v : Value} {d : DataW H} {p : List MemPlace}
    (hv : Value.okWide Tryd.prog W r base 30 v) (h : DataW.Trod enc Tryd.prog w 0 (fun _ => true) true 30 v d p) : ∃ P sv n X, v = .agg #[.int .i64 P, sv] ∧ Ints w sv n X := by
  obtain ⟨cs, rfl, hsz⟩ := okWide_struct Tryd.underlying30 hv
  obtain ⟨fuel, hf⟩ := h
  obtain ⟨y0, y1, m, hx, hl, h0, h1⟩ := trod_struct2 Tryd.underlying30 hf
  have hc : Tryd.prog.cellsOf 30 = 2 := by kernel_rfl
  have hc0 : Tryd.prog.cellsOf 2 = 1 := by kernel_rfl
  have hc1 : Tryd.prog.cellsOf 22 = 1 := by kernel_rfl
  rw [hc] at hsz
  obtain ⟨l⟩ := cs
  match l, hsz with
  | [c0, c1], _ =>
    simp [Value.cells, hc0] at h0
    simp [Value.cells, hc1] at h1
    obtain ⟨n, hn, _, _⟩ := DataW.trod_int Tryd.underlying2 h0
    simp at hn
    subst hn
    obtain ⟨k, X, hi⟩ := ints_of_trod h1
    exact ⟨n, c1, k, X, rfl, hi⟩

end Go.Proofs.YtejbigdebjcomaaDoor
