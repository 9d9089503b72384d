/-
  CyclicForm, in both programs. No condition beside sizes.
-/
import Derived.Test.YtdehfpnlehbdjaaD17
set_option linter.unusedVariables false
set_option linter.unusedSimpArgs false
namespace Go.Proofs.Ytdehfpnlehbdjaa
open Go.RowKit

def pick3 {α : Type} (a b c : α) (i : Nat) : α := if i = 0 then a else if i = 1 then b else c
/-- a list of three elements, as it is handed to a variadic function -/
theorem list3 {w : World} {xv yv zv : Value} {nx ny nz : Nat} {X Y Z : Nat → Int} (t : TypeId) (hx : Ints w xv nx X) (hy : Ints w yv ny Y) (hz : Ints w zv nz Z) :
    Tab (w.alloc (.cells #[xv, yv, zv] t)) (.slice (some ⟨w.heap.size, 0, none⟩) 3 3) 3 (pick3 nx ny nz) (pick3 X Y Z) := by
  have hb : Below w.heap.size w (w.alloc (.cells #[xv, yv, zv] t)) := (Below.refl _ _).alloc (Nat.le_refl _) _
  obtain ⟨a1, c1, b1, o1, h11, h12, h13, h14, h15⟩ := (hx.below hb).out
  obtain ⟨a2, c2, b2, o2, h21, h22, h23, h24, h25⟩ := (hy.below hb).out
  obtain ⟨a3, c3, b3, o3, h31, h32, h33, h34, h35⟩ := (hz.below hb).out
  have h3 : ∀ i, i < 3 → i = 0 ∨ i = 1 ∨ i = 2 := fun i hi => by omega
  refine ⟨some ⟨w.heap.size, 0, none⟩, 3, w.heap.size, 0, pick3 a1 a2 a3, pick3 c1 c2 c3, pick3 b1 b2 b3, pick3 o1 o2 o3, rfl, Nat.le_refl _, by omega, fun _ => rfl, fun i hi => ?_, fun i hi => ?_, fun i hi => ?_, fun i j hi => ?_⟩
  · rcases h3 i hi with rfl | rfl | rfl
    · simp [pick3, h11]
    · simp [pick3, h21]
    · simp [pick3, h31]
  · rcases h3 i hi with rfl | rfl | rfl
    · exact ⟨h12, h13⟩
    · exact ⟨h22, h23⟩
    · exact ⟨h32, h33⟩
  · rcases h3 i hi with rfl | rfl | rfl
    · exact h14
    · exact h24
    · exact h34
  · rcases h3 i hi with rfl | rfl | rfl
    · exact h15 j
    · exact h25 j
    · exact h35 j

theorem codeE_zero {ok : Bool} {p : Int} {n m : Nat} {L : Nat → Nat} {T : Nat → Nat → Int} (h : codeE ok p n m L T = 0) : ok = true ∧ ∀ i, i < m → elemB p n (L i) (T i) = true := by
  unfold codeE at h
  cases ok
  · simp at h
  · cases ha : anyB (fun i => !elemB p n (L i) (T i)) m
    · refine ⟨rfl, fun i hi => ?_⟩
      cases he : elemB p n (L i) (T i)
      · have := anyB_at (p := fun i => !elemB p n (L i) (T i)) hi (by simp [he])
        rw [this] at ha; cases ha
      · rfl
    · rw [ha] at h; simp at h

/-- the cyclic form -/
def cycV (p : Int) (n : Nat) (s X Y Z : Nat → Int) : Int := (2 * mulF p s n (mulF p s n X Y) Z 0) % p

end Go.Proofs.Ytdehfpnlehbdjaa
