/-
  The unit matrix and the elements of the basis, in both programs. No condition beside sizes.
-/
import Derived.Test.YtnnacligfoonbaaD24
set_option linter.unusedVariables false
set_option linter.unusedSimpArgs false
namespace Go.Proofs.Ytnnacligfoonbaa
open Go.RowKit

def dlt (i j : Nat) : Int := if j = i then 1 else 0
theorem dlt_in {p : Int} (hp : 2 ≤ p) (n i : Nat) : InP p n (dlt i) := fun j _ => by unfold dlt; split <;> omega

/-- a row of noughts with one number stored -/
theorem Own.made1 (w : World) (e : TypeId) (n k : Nat) (hm : n ≤ 9223372036854775807) :
    Own (w.alloc (.cells ((madeCells #[.int .i64 0] n).setIfInBounds k (.int .i64 1)) e)) e w.heap.size n n (fun i => .int .i64 (dlt k i)) := by
  have hs : (madeCells #[Value.int .i64 0] n).size = n := by simp [madeCells]
  have h := Own.new w e ((madeCells #[.int .i64 0] n).setIfInBounds k (.int .i64 1)) (fun i => .int .i64 (dlt k i)) (by simp [hs]; exact hm) (fun i hi => by
    rw [Array.size_setIfInBounds, hs] at hi
    rw [Array.getElem?_setIfInBounds]
    unfold dlt
    by_cases e : k = i
    · subst e; simp [hs, hi]
    · rw [if_neg e, if_neg (fun e2 => e e2.symm)]
      simp [madeCells, hi, Nat.mod_one])
  rw [Array.size_setIfInBounds, hs] at h
  exact h

set_option maxHeartbeats 1000000 in
theorem iUnit_c (n : Nat) (w : World) (hn : n ≤ 1048576) :
    Calls Try.prog 106 #[.int .i64 n] w fun e w' => CopyT w w' e n (fun _ => n) dlt := by
  go_enter Try.func106, Try.ntmps106
  go_wp2
  go_loopg [3, 8] n (fun g s i wr => ∃ k : Nat, k ≤ n ∧ g = n - k ∧ i = .int .i64 k ∧ ∃ g' c', s = .slice (some ⟨g', 0, none⟩) k c' ∧ Below w.heap.size w wr ∧ OTab wr w.heap.size g' c' k (fun _ => n) dlt)
  case atStart => exact ⟨0, Nat.zero_le _, rfl, rfl, _, _, rfl, (Below.refl _ _).alloc (Nat.le_refl _) _, ⟨fun _ => 0, fun _ => 0, Own.empty _ _ _, Nat.le_refl _, fun i hi => absurd hi (Nat.not_lt_zero _), fun i j hi => absurd hi (Nat.not_lt_zero _)⟩⟩
  case round =>
    obtain ⟨k, hk, rfl, rfl, g', c', rfl, hb, hT⟩ := hrel
    by_cases hlt : k < n
    · have hbs := hb.size
      obtain ⟨V, hV, hpush⟩ := hT.pushAt hbs
      have HP := Lib.hid hpush
      clear hpush
      have hb1 : Below wr.heap.size wr (wr.alloc (.cells (madeCells #[.int .i64 0] n) 2)) := (Below.refl _ _).alloc (Nat.le_refl _) _
      have hO0 : Own (wr.alloc (.cells (madeCells #[.int .i64 0] n) 2)) 2 wr.heap.size n n (fun _ => .int .i64 0) := Own.made wr _ n _ (by omega)
      have hb2 : Below wr.heap.size wr (wr.alloc (.cells ((madeCells #[.int .i64 0] n).setIfInBounds k (.int .i64 1)) 2)) := (Below.refl _ _).alloc (Nat.le_refl _) _
      have hOs := Own.made1 wr 2 n k (by omega)
      have hV2 := hV.kept hb2
      have hu := hO0.cell hlt
      have hf := hO0.frozen k
      clear hO0 hb1
      go_wp2_with (first | (at_make; refine wpList_mk _ rfl _ _ _ _ elI rfl rfl .i64 .i64 n rfl rfl (by omega) (by omega) ?_; intro hO) | (at_builtin; refine wpList_push _ rfl _ _ _ _ elR rfl hV2 (.slice (some ⟨wr.heap.size, 0, none⟩) n n) rfl (by rw [alloc_size]; rfl) rfl (by omega) (by omega) ?_; intro g3 c3 w3 hO3 hg3 hgr3))
      have hs2 := hb2.size
      have hgB := hT.base
      go_roundg (n - (k + 1))
      case measure => omega
      case rel => exact ⟨k + 1, by omega, rfl, by go_num, g3, c3, rfl, (hb.trans (hb2.mono hbs)).grown hgr3 (by omega) (fun k e => by injection e with e; omega), (HP.out _ _ _ _ _ _ _ (dlt k) hb2 hOs (Nat.le_refl _) hO3 hg3 hgr3).congr (fun i hi => by by_cases e : i = k <;> simp [e]) (fun i j hi hj => by by_cases e : i = k <;> simp [e])⟩
    · obtain rfl : k = n := by omega
      go_wp2
      go_ret
      exact ⟨g', c', rfl, hb, hT⟩

set_option maxRecDepth 100000 in
set_option maxHeartbeats 400000 in
theorem iElem_c (p : Int) (sv : Value) (n : Nat) (s : Nat → Int) (i : Nat) (w : World) (hd : DV w sv p n s) (hp : 2 ≤ p) (hi : i < 2 ^ n) :
    Calls Try.prog 99 #[dbl p sv, .int .i64 i] w fun e w' => MakesE w w' e p n (dlt i) := by
  obtain ⟨ao, c, _, _, rfl, _⟩ := hd.ints.out
  obtain ⟨e0, e1, e2, e3⟩ := box0 w p ao n c 26
  obtain ⟨_, hp1, hp2, hn4, _⟩ := hd
  have HE : ∀ (w' : World) (e : Ending), (∃ g c, e = .returned (.slice (some ⟨g, 0, none⟩) (2 ^ n) c) ∧ w.heap.size ≤ g ∧ Below w.heap.size w w' ∧ Own w' 2 g c (2 ^ n) (fun j => .int .i64 (dlt i j))) → MakesE w w' e p n (dlt i) := fun w' e ⟨g, c, h1, h2, h3, h4⟩ => ⟨g, c, h1, h2, h3, h4, h4.ints, dlt_in hp _ _⟩
  obtain ⟨M, hM⟩ : ∃ M, 2 ^ n = M := ⟨_, rfl⟩
  have HZ : Hid (∀ W, Calls Try.prog 88 #[dbl p (.slice ao n c)] W fun e w' => Makes W w' e (.int .i64 ((M : Nat) : Int))) := fun W => hM ▸ iSize_c p ao n c W hn4
  have hM16 : M ≤ 16 := hM ▸ pow_le hn4
  rw [hM] at hi HE
  have HEE := Lib.hid HE
  clear hM HE
  have i0 : (0 : Int) ≤ (i : Int) := by omega
  have i1 : (i : Int) < (M : Int) := by omega
  go_enter Try.func99, Try.ntmps99
  go_wp2_with fail
  refine Calls.makes' (HZ.out _) _ fun w1 hb1 => ?_
  have b1 := e3.trans (hb1.mono e3.size)
  go_wp2_with fail
  go_at_call 106
  refine (iUnit_c M _ (by omega)).mono ?_
  rintro e w2 ⟨g2, c2, rfl, hb2, hT⟩
  obtain ⟨R, C, o1, o2, o3, o4⟩ := hT.out
  have hc := o1.cell hi
  have hr := o3 i hi
  have b2 := b1.trans (hb2.mono b1.size)
  have hRR := Lib.hid hr
  clear o3 o4 hT hr hb2 e0 e1
  go_wp2
  go_ret
  exact HEE.out _ _ ⟨R i, C i, rfl, by have := hRR.out.2.1; have := b1.size; omega, b2, hRR.out.1⟩

set_option maxRecDepth 100000 in
set_option maxHeartbeats 400000 in
theorem sOne_c (p : Int) (sv : Value) (n : Nat) (s : Nat → Int) (i : Nat) (w : World) (hd : DV w sv p n s) (hp : 2 ≤ p) (hi : i < 2 ^ n) :
    Calls Try.prog 118 #[dbl p sv, .int .i64 i] w fun e w' => MakesE w w' e p n (dlt i) := by
  obtain ⟨ao, c, _, _, rfl, _⟩ := hd.ints.out
  obtain ⟨e0, e1, e2, e3⟩ := box0 w p ao n c 26
  obtain ⟨_, hp1, hp2, hn4, _⟩ := hd
  have HE : ∀ (w' : World) (e : Ending), (∃ g c, e = .returned (.slice (some ⟨g, 0, none⟩) (2 ^ n) c) ∧ w.heap.size ≤ g ∧ Below w.heap.size w w' ∧ Own w' 2 g c (2 ^ n) (fun j => .int .i64 (dlt i j))) → MakesE w w' e p n (dlt i) := fun w' e ⟨g, c, h1, h2, h3, h4⟩ => ⟨g, c, h1, h2, h3, h4, h4.ints, dlt_in hp _ _⟩
  obtain ⟨M, hM⟩ : ∃ M, 2 ^ n = M := ⟨_, rfl⟩
  have HZ : Hid (∀ W, Calls Try.prog 124 #[dbl p (.slice ao n c)] W fun e w' => Makes W w' e (.int .i64 ((M : Nat) : Int))) := fun W => hM ▸ sSize_c p ao n c W hn4
  have hM16 : M ≤ 16 := hM ▸ pow_le hn4
  rw [hM] at hi HE
  have HEE := Lib.hid HE
  clear hM HE
  have i0 : (0 : Int) ≤ (i : Int) := by omega
  have i1 : (i : Int) < (M : Int) := by omega
  go_enter Try.func118, Try.ntmps118
  go_wp2_with fail
  refine Calls.makes' (HZ.out _) _ fun w1 hb1 => ?_
  have b1 := e3.trans (hb1.mono e3.size)
  have h1 : Below w1.heap.size w1 (w1.alloc (.cells (madeCells #[.int .i64 0] M) 2)) := (Below.refl _ _).alloc (Nat.le_refl _) _
  have hO0 : Own (w1.alloc (.cells (madeCells #[.int .i64 0] M) 2)) 2 w1.heap.size M M (fun _ => .int .i64 0) := Own.made w1 _ M _ (by omega)
  have hb2 : Below w1.heap.size w1 (w1.alloc (.cells ((madeCells #[.int .i64 0] M).setIfInBounds i (.int .i64 1)) 2)) := (Below.refl _ _).alloc (Nat.le_refl _) _
  have hOs := Own.made1 w1 2 M i (by omega)
  have hu := hO0.cell hi
  have hf := hO0.frozen i
  have HO := Lib.hid hOs
  have HB := Lib.hid (b1.trans (hb2.mono b1.size))
  clear hO0 h1 hb2 hOs e0 e1
  go_wp2_with (first | (at_make; refine wpList_mk _ rfl _ _ _ _ elI rfl rfl .i64 .i64 M rfl rfl (by omega) (by omega) ?_; intro hO))
  go_ret
  exact HEE.out _ _ ⟨w1.heap.size, M, rfl, b1.size, HB.out, HO.out⟩

end Go.Proofs.Ytnnacligfoonbaa
