/-
  The unit matrix and the elements of the basis, in both programs. No condition beside sizes.
-/
import Derived.Test.YtmedmkjlhcoepaaD24
set_option linter.unusedVariables false
set_option linter.unusedSimpArgs false
namespace Go.Proofs.Ytmedmkjlhcoepaa
open Go.RowKit

def dlt (i j : Nat) : Int := if j = i then 1 else 0
theorem dlt_in {p : Int} (hp : 2 ≤ p) (n i : Nat) : InP p n (dlt i) := fun j _ => by unfold dlt; split <;> omega

/-- a row of noughts with one number stored -/
theorem Own.made1 (w : World) (e : TypeId) (n k : Nat) (hm : n ≤ 9223372036854775807) :
    Own (w.alloc (.cells ((madeCells #[.int .i64 0] n).setIfInBounds k (.int .i64 1)) e)) e w.heap.size n n (fun i => .int .i64 (dlt k i)) := by
  have hs : (madeCells #[Value.int .i64 0] n).size = n := by simp [madeCells]
  have h := Own.new w e ((madeCells #[.int .i64 0] n).setIfInBounds k (.int .i64 1)) (fun i => .int .i64 (dlt k i)) (by simp [hs]; exact hm) (fun i hi => by
    rw [Array.size_setIfInBounds, hs] at hi
    rw [Array.getElem?_setIfInBounds]
    unfold dlt
    by_cases e : k = i
    · subst e; simp [hs, hi]
    · rw [if_neg e, if_neg (fun e2 => e e2.symm)]
      simp [madeCells, hi, Nat.mod_one])
  rw [Array.size_setIfInBounds, hs] at h
  exact h

set_option maxHeartbeats 1000000 in
theorem iUnit_c (n : Nat) (w : World) (hn : n ≤ 1048576) :
    Calls Try.prog 146 #[.int .i64 n] w fun e w' => CopyT w w' e n (fun _ => n) dlt := by
  go_enter Try.func146, Try.ntmps146
  go_wp2
  go_loopg [3, 8] n (fun g s i wr => ∃ k : Nat, k ≤ n ∧ g = n - k ∧ i = .int .i64 k ∧ ∃ g' c', s = .slice (some ⟨g', 0, none⟩) k c' ∧ Below w.heap.size w wr ∧ OTab wr w.heap.size g' c' k (fun _ => n) dlt)
  case atStart => exact ⟨0, Nat.zero_le _, rfl, rfl, _, _, rfl, (Below.refl _ _).alloc (Nat.le_refl _) _, ⟨fun _ => 0, fun _ => 0, Own.empty _ _ _, Nat.le_refl _, fun i hi => absurd hi (Nat.not_lt_zero _), fun i j hi => absurd hi (Nat.not_lt_zero _)⟩⟩
  case round =>
    obtain ⟨k, hk, rfl, rfl, g', c', rfl, hb, hT⟩ := hrel
    by_cases hlt : k < n
    · have hbs := hb.size
      obtain ⟨V, hV, hpush⟩ := hT.pushAt hbs
      have HP := Lib.hid hpush
      clear hpush
      have hb1 : Below wr.heap.size wr (wr.alloc (.cells (madeCells #[.int .i64 0] n) 2)) := (Below.refl _ _).alloc (Nat.le_refl _) _
      have hO0 : Own (wr.alloc (.cells (madeCells #[.int .i64 0] n) 2)) 2 wr.heap.size n n (fun _ => .int .i64 0) := Own.made wr _ n _ (by omega)
      have hb2 : Below wr.heap.size wr (wr.alloc (.cells ((madeCells #[.int .i64 0] n).setIfInBounds k (.int .i64 1)) 2)) := (Below.refl _ _).alloc (Nat.le_refl _) _
      have hOs := Own.made1 wr 2 n k (by omega)
      have hV2 := hV.kept hb2
      have hu := hO0.cell hlt
      have hf := hO0.frozen k
      clear hO0 hb1
      go_wp2_with (first | (at_make; refine wpList_mk _ rfl _ _ _ _ elI rfl rfl .i64 .i64 n rfl rfl (by omega) (by omega) ?_; intro hO) | (at_builtin; refine wpList_push _ rfl _ _ _ _ elR rfl hV2 (.slice (some ⟨wr.heap.size, 0, none⟩) n n) rfl (by rw [alloc_size]; rfl) rfl (by omega) (by omega) ?_; intro g3 c3 w3 hO3 hg3 hgr3))
      have hs2 := hb2.size
      have hgB := hT.base
      go_roundg (n - (k + 1))
      case measure => omega
      case rel => exact ⟨k + 1, by omega, rfl, by go_num, g3, c3, rfl, (hb.trans (hb2.mono hbs)).grown hgr3 (by omega) (fun k e => by injection e with e; omega), (HP.out _ _ _ _ _ _ _ (dlt k) hb2 hOs (Nat.le_refl _) hO3 hg3 hgr3).congr (fun i hi => by by_cases e : i = k <;> simp [e]) (fun i j hi hj => by by_cases e : i = k <;> simp [e])⟩
    · obtain rfl : k = n := by omega
      go_wp2
      go_ret
      exact ⟨g', c', rfl, hb, hT⟩

end Go.Proofs.Ytmedmkjlhcoepaa
