/-
  CyclicForm, in both programs. No condition beside sizes.
-/
import Derived.Test.YtfcloojemfencaaD17
set_option linter.unusedVariables false
set_option linter.unusedSimpArgs false
namespace Go.Proofs.Ytfcloojemfencaa
open Go.RowKit

def pick3 {α : Type} (a b c : α) (i : Nat) : α := if i = 0 then a else if i = 1 then b else c
/-- a list of three elements, as it is handed to a variadic function -/
theorem list3 {w : World} {xv yv zv : Value} {nx ny nz : Nat} {X Y Z : Nat → Int} (t : TypeId) (hx : Ints w xv nx X) (hy : Ints w yv ny Y) (hz : Ints w zv nz Z) :
    Tab (w.alloc (.cells #[xv, yv, zv] t)) (.slice (some ⟨w.heap.size, 0, none⟩) 3 3) 3 (pick3 nx ny nz) (pick3 X Y Z) := by
  have hb : Below w.heap.size w (w.alloc (.cells #[xv, yv, zv] t)) := (Below.refl _ _).alloc (Nat.le_refl _) _
  obtain ⟨a1, c1, b1, o1, h11, h12, h13, h14, h15⟩ := (hx.below hb).out
  obtain ⟨a2, c2, b2, o2, h21, h22, h23, h24, h25⟩ := (hy.below hb).out
  obtain ⟨a3, c3, b3, o3, h31, h32, h33, h34, h35⟩ := (hz.below hb).out
  have h3 : ∀ i, i < 3 → i = 0 ∨ i = 1 ∨ i = 2 := fun i hi => by omega
  refine ⟨some ⟨w.heap.size, 0, none⟩, 3, w.heap.size, 0, pick3 a1 a2 a3, pick3 c1 c2 c3, pick3 b1 b2 b3, pick3 o1 o2 o3, rfl, Nat.le_refl _, by omega, fun _ => rfl, fun i hi => ?_, fun i hi => ?_, fun i hi => ?_, fun i j hi => ?_⟩
  · rcases h3 i hi with rfl | rfl | rfl
    · simp [pick3, h11]
    · simp [pick3, h21]
    · simp [pick3, h31]
  · rcases h3 i hi with rfl | rfl | rfl
    · exact ⟨h12, h13⟩
    · exact ⟨h22, h23⟩
    · exact ⟨h32, h33⟩
  · rcases h3 i hi with rfl | rfl | rfl
    · exact h14
    · exact h24
    · exact h34
  · rcases h3 i hi with rfl | rfl | rfl
    · exact h15 j
    · exact h25 j
    · exact h35 j

theorem codeE_zero {ok : Bool} {p : Int} {n m : Nat} {L : Nat → Nat} {T : Nat → Nat → Int} (h : codeE ok p n m L T = 0) : ok = true ∧ ∀ i, i < m → elemB p n (L i) (T i) = true := by
  unfold codeE at h
  cases ok
  · simp at h
  · cases ha : anyB (fun i => !elemB p n (L i) (T i)) m
    · refine ⟨rfl, fun i hi => ?_⟩
      cases he : elemB p n (L i) (T i)
      · have := anyB_at (p := fun i => !elemB p n (L i) (T i)) hi (by simp [he])
        rw [this] at ha; cases ha
      · rfl
    · rw [ha] at h; simp at h

set_option maxRecDepth 100000 in
set_option maxHeartbeats 1000000 in
theorem iTrace_c (p : Int) (sv xv : Value) (n : Nat) (s X : Nat → Int) (w : World) (hd : DV w sv p n s) (hx : El w xv p n X) :
    Calls Try.prog 130 #[dbl p sv, xv] w fun e w' => Makes w w' e (.int .i64 ((2 * X 0) % p)) := by
  obtain ⟨hints, hp1, hp2, hn, _⟩ := hd
  obtain ⟨ao, c, _, _, rfl, _⟩ := hints.out
  have hM : 0 < 2 ^ n := hx.pos
  have hX0 := hx.inp 0 hM
  obtain ⟨xa, xc, b, o, rfl, p2, p3, p4, p5⟩ := hx.ints.out
  obtain rfl := p4 hM
  have hc0 : w.cell? ⟨b, o, none⟩ = some (.int .i64 (X 0)) := p5 0 hM
  have hl0 := lt_of_cell hc0
  obtain ⟨e0, e1, e2, e3⟩ := box0 w p ao n c 28
  have hwr : IntKind.i64.wrap (2 * X 0) = 2 * X 0 := wrap_in _ (by omega)
  obtain ⟨M, hMM⟩ : ∃ M, 2 ^ n = M := ⟨_, rfl⟩
  rw [hMM] at hM p2 ⊢
  have i1 : (0 : Int) < (M : Int) := by omega
  clear hx p5 p4 hints hMM
  go_enter Try.func130, Try.ntmps130
  go_wp2
  go_region_held3 (fun W => (W.cell? ⟨w.heap.size, 0, none⟩ = some (.int .i64 p) ∧ W.cell? ⟨w.heap.size, 1, none⟩ = some (.slice ao n c) ∧ w.heap.size < W.heap.size ∧ Below w.heap.size w W) ∧ W.cell? ⟨b, o, none⟩ = some (.int .i64 (X 0)))
    ((first | assumption | exact boxStartC hl0 (boxDrew ⟨e0, e1, e2, e3⟩) hc0 | exact boxKeepC hl0 (by assumption) (by assumption)))
    ((first
      | (go_at_call 90; refine Calls.makes' (iField_c _ _ _) _ fun w1 hb1 => ?_)
      | (go_at_call 91; refine (iNum_c _ _ _ hp1 hp2 (by omega) (by omega)).mono ?_; rintro e w' ⟨rfl, rfl⟩)))
  have b2 : Below w.heap.size w w1 := boxBelowC (by assumption)
  go_wp2
  go_ret
  exact ⟨rfl, b2⟩

/-- the cyclic form -/
def cycV (p : Int) (n : Nat) (s X Y Z : Nat → Int) : Int := (2 * mulF p s n (mulF p s n X Y) Z 0) % p

set_option maxRecDepth 100000 in
set_option maxHeartbeats 400000 in
theorem iCyclic_c (p : Int) (sv : Value) (n : Nat) (s : Nat → Int) (xv : Value) (nx : Nat) (X : Nat → Int) (yv : Value) (ny : Nat) (Y : Nat → Int) (zv : Value) (nz : Nat) (Z : Nat → Int) (w : World)
    (h : Ints w sv n s) (hx : Ints w xv nx X) (hy : Ints w yv ny Y) (hz : Ints w zv nz Z) :
    Calls Try.prog 78 #[dbl p sv, xv, yv, zv] w fun e w' => Makes w w' e (rC (codeE (dblB p n s) p n 3 (pick3 nx ny nz) (pick3 X Y Z)) (cycV p n s X Y Z)) := by
  have h' := h
  obtain ⟨ao, c, _, _, rfl, _⟩ := h.out
  obtain ⟨xa, xc, _, _, rfl, _⟩ := hx.out
  obtain ⟨ya, yc, _, _, rfl, _⟩ := hy.out
  obtain ⟨za, zc, _, _, rfl, _⟩ := hz.out
  have BX := Lib.hid (box0 w p ao n c 28)
  have b0 := BX.out.2.2.2
  have BL : Hid (Below w.heap.size w ((w.alloc (.cells #[.int .i64 p, .slice ao n c] 28)).alloc (.cells #[.slice xa nx xc, .slice ya ny yc, .slice za nz zc] 22))) := b0.alloc b0.size _
  have ht := list3 22 (hx.below b0) (hy.below b0) (hz.below b0)
  rw [show (w.alloc (.cells #[.int .i64 p, .slice ao n c] 28)).heap.size = w.heap.size + 1 by simp] at ht
  have HT := Lib.hid ht
  clear ht
  have bA : Below (w.alloc (.cells #[.int .i64 p, .slice ao n c] 28)).heap.size (w.alloc (.cells #[.int .i64 p, .slice ao n c] 28)) ((w.alloc (.cells #[.int .i64 p, .slice ao n c] 28)).alloc (.cells #[.slice xa nx xc, .slice ya ny yc, .slice za nz zc] 22)) := (Below.refl _ _).alloc (Nat.le_refl _) _
  have BXA := Lib.hid (boxKeep bA BX.out)
  obtain ⟨e0, e1, e2, e3⟩ := BX.out
  obtain ⟨cc, hcc⟩ : ∃ cc, codeE (dblB p n s) p n 3 (pick3 nx ny nz) (pick3 X Y Z) = cc := ⟨_, rfl⟩
  by_cases h0 : cc = 0
  · obtain ⟨hok, hel⟩ := codeE_zero (hcc.trans h0)
    have hv := dv_of h' hok
    obtain ⟨l0, x0⟩ := elemB_el hx (hel 0 (by omega))
    obtain ⟨l1, y0⟩ := elemB_el hy (hel 1 (by omega))
    obtain ⟨l2, z0⟩ := elemB_el hz (hel 2 (by omega))
    have HV : Hid (∀ W, Below w.heap.size w W → DV W (.slice ao n c) p n s) := fun W hb => hv.below hb
    have HX : Hid (∀ W, Below w.heap.size w W → El W (.slice xa nx xc) p n X) := fun W hb => x0.below hb
    have HY : Hid (∀ W, Below w.heap.size w W → El W (.slice ya ny yc) p n Y) := fun W hb => y0.below hb
    have HZ : Hid (∀ W, Below w.heap.size w W → El W (.slice za nz zc) p n Z) := fun W hb => z0.below hb
    have HC := Lib.hid hcc
    have H' := Lib.hid h'
    clear h hx hy hz hv x0 y0 z0 hel bA h' l0 l1 l2 hok
    subst h0
    go_enter Try.func78, Try.ntmps78
    go_wp2_with fail
    go_at_call 95
    refine Calls.makes' (iCheckE_c p _ _ n 3 s _ _ _ (H'.out.below BL.out) HT.out) _ fun w1 hb1 => ?_
    rw [HC.out]
    obtain ⟨f0, f1, f2, f3⟩ := boxKeep hb1 BXA.out
    go_wp2
    go_region_held3 (fun W => W.cell? ⟨w.heap.size, 0, none⟩ = some (.int .i64 p) ∧ W.cell? ⟨w.heap.size, 1, none⟩ = some (.slice ao n c) ∧ w.heap.size < W.heap.size ∧ Below w.heap.size w W)
      ((first | assumption | exact boxDrew ⟨f0, f1, f2, f3⟩ | exact boxKeep (by assumption) (by assumption)))
      ((first
        | (go_at_call 105; have hx := hE1; refine (iTimes_c p _ _ _ n s _ Z _ (HV.out _ (boxBelow (by assumption))) hE1 (HZ.out _ (boxBelow (by assumption)))).mono ?_; rintro e w3 ⟨g3, c3, rfl, hg3, hb3, hO3, hE3⟩)
        | (go_at_call 105; refine (iTimes_c p _ _ _ n s X Y _ (HV.out _ (boxBelow (by assumption))) (HX.out _ (boxBelow (by assumption))) (HY.out _ (boxBelow (by assumption)))).mono ?_; rintro e w2 ⟨g2, c2, rfl, hg2, hb2, hO2, hE1⟩)
        | (go_at_call 130; refine Calls.makes' (iTrace_c p _ _ n s _ _ (HV.out _ (boxBelow (by assumption))) hE3) _ fun w4 hb4 => ?_)))
    have b4 : Below w.heap.size w w4 := boxBelow (by assumption)
    go_wp2
    go_ret2
    exact ⟨by rw [HC.out]; rfl, b4⟩
  · have HC := Lib.hid hcc
    have H' := Lib.hid h'
    have hne : (cc != 0) = true := by rw [bne_iff_ne]; exact h0
    clear h hx hy hz bA h'
    go_enter Try.func78, Try.ntmps78
    go_wp2_with fail
    go_at_call 95
    refine Calls.makes' (iCheckE_c p _ _ n 3 s _ _ _ (H'.out.below BL.out) HT.out) _ fun w1 hb1 => ?_
    rw [HC.out]
    go_wp2
    go_ret2
    exact ⟨by rw [HC.out]; unfold rC; rw [if_neg h0]; rfl, BL.out.trans (hb1.mono BL.out.size)⟩

end Go.Proofs.Ytfcloojemfencaa
