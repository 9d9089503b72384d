/-
  Doublings: products and the code of elements, in both programs. No condition beside sizes.
-/
import Derived.Test.YtnkflgigbielgaaD15
set_option linter.unusedVariables false
set_option linter.unusedSimpArgs false
namespace Go.Proofs.Ytnkflgigbielgaa
open Go.RowKit

theorem cellKp {W W' : World} {b o : Nat} {v : Value} (hb : Below W.heap.size W W') (h : W.cell? ⟨b, o, none⟩ = some v) : W'.cell? ⟨b, o, none⟩ = some v := by
  rw [hb.cell (p := ⟨b, o, none⟩) (lt_of_cell h)]; exact h
theorem drewB (W : World) : Below W.heap.size W W.drew := ⟨rfl, rfl, rfl, Nat.le_refl _, fun _ _ => rfl⟩
theorem boxBelow {w W : World} {p : Int} {ao : Option Addr} {n c : Nat} (h : BoxD w p ao n c W) : Below w.heap.size w W := h.2.2.2

/-- an element of a doubling at a world -/
structure El (w : World) (v : Value) (p : Int) (n : Nat) (X : Nat → Int) : Prop where
  ints : Ints w v (2 ^ n) X
  inp : InP p (2 ^ n) X
theorem El.below {w w' : World} {v : Value} {p : Int} {n : Nat} {X : Nat → Int} (h : El w v p n X) (hb : Below w.heap.size w w') : El w' v p n X := ⟨h.ints.below hb, h.inp⟩
theorem El.pos {w : World} {v : Value} {p : Int} {n : Nat} {X : Nat → Int} (h : El w v p n X) : 0 < 2 ^ n := Nat.pos_of_ne_zero (by simp)
theorem pow_le {n : Nat} (h : n ≤ 4) : 2 ^ n ≤ 16 := by
  have : n = 0 ∨ n = 1 ∨ n = 2 ∨ n = 3 ∨ n = 4 := by omega
  rcases this with rfl | rfl | rfl | rfl | rfl <;> decide
/-- A call that makes an element. -/
structure MakesE (w w' : World) (e : Ending) (p : Int) (n : Nat) (X : Nat → Int) : Prop where
  out : ∃ g c, e = .returned (.slice (some ⟨g, 0, none⟩) (2 ^ n) c) ∧ w.heap.size ≤ g ∧ Below w.heap.size w w' ∧ Own w' 2 g c (2 ^ n) (fun i => .int .i64 (X i)) ∧ El w' (.slice (some ⟨g, 0, none⟩) (2 ^ n) c) p n X
theorem CopyI.makesE {w w' : World} {e : Ending} {p : Int} {n : Nat} {X : Nat → Int} (h : CopyI w w' e (2 ^ n) X) (hX : InP p (2 ^ n) X) : MakesE w w' e p n X := by
  obtain ⟨g, c, rfl, hg, hb, hO⟩ := h.out
  exact ⟨g, c, rfl, hg, hb, hO, hO.ints, hX⟩

end Go.Proofs.Ytnkflgigbielgaa

/-
  Doublings: the code of a list of elements, in both programs. No condition beside sizes.
-/
set_option linter.unusedVariables false
set_option linter.unusedSimpArgs false
namespace Go.Proofs.Ytnkflgigbielgaa
open Go.RowKit

def elemB (p : Int) (n L : Nat) (X : Nat → Int) : Bool := decide (L = 2 ^ n) && inPB 0 p L X
theorem elemB_ne {p : Int} {n L : Nat} {X : Nat → Int} (h : L ≠ 2 ^ n) : elemB p n L X = false := by unfold elemB; rw [decide_eq_false h]; rfl
theorem elemB_eq {p : Int} {n L : Nat} {X : Nat → Int} (h : L = 2 ^ n) : elemB p n L X = inPB 0 p L X := by unfold elemB; rw [decide_eq_true h]; rfl
theorem elemB_out {p : Int} {n L : Nat} {X : Nat → Int} (h : inPB 0 p L X = false) : elemB p n L X = false := by unfold elemB; rw [h]; simp
theorem elemB_el {w : World} {v : Value} {p : Int} {n L : Nat} {X : Nat → Int} (h : Ints w v L X) (he : elemB p n L X = true) : L = 2 ^ n ∧ El w v p n X := by
  unfold elemB at he
  simp only [Bool.and_eq_true, decide_eq_true_eq] at he
  obtain ⟨rfl, h2⟩ := he
  exact ⟨rfl, h, inPB_ok h2⟩
/-- the code of m elements -/
def codeE (ok : Bool) (p : Int) (n m : Nat) (L : Nat → Nat) (T : Nat → Nat → Int) : Int := if ok then (if anyB (fun i => !elemB p n (L i) (T i)) m then 2 else 0) else 1

set_option maxHeartbeats 400000 in
/-- slices.IndexFunc over a table, the test a closure over one pointer, that makes memory and turns none. -/
theorem iIndexFuncRI_c (f : FuncId) (hcf : ∀ (a : Array Value) (W : World), (callFunc f a).run Try.prog W = .ok (.enter f a) W) (cp : Value) (v : Value) (G : Nat) (L : Nat → Nat) (T : Nat → Nat → Int) (p : Nat → Bool) (w : World) (h : Tab w v G L T)
    (hf : ∀ i, i < G → ∀ W u, Below w.heap.size w W → Ints W u (L i) (T i) → Calls Try.prog f #[u, cp] W fun e W' => Makes W W' e (.bool (p i))) :
    Calls Try.prog 149 #[v, .func (.func f) #[] #[cp]] w fun e w' => Makes w w' e (.int .i64 (idxB p G)) := by
  obtain ⟨ao, c, b, o, A, C, RB, RO, rfl, p2, p3, p4, p5, p6, p7, p8⟩ := h.out
  have hr := fun i hi => Tab.rowAt p6 p7 p8 (i := i) hi
  have Hr := Lib.hid hr
  have P5 := Lib.hid p5
  have HF := Lib.hid hf
  clear p5 p6 p7 p8 h hf hr
  go_enter Try.func149, Try.ntmps149
  go_wp2
  go_loopg [8] G (fun g i wr => ∃ k : Nat, k ≤ G ∧ g = G - k ∧ i = .int .i64 k ∧ Below w.heap.size w wr ∧ ∀ j, j < k → p j = false)
  case atStart => exact ⟨0, Nat.zero_le _, rfl, rfl, Below.refl _ _, fun j hj => absurd hj (Nat.not_lt_zero _)⟩
  case round =>
    obtain ⟨k, hk, rfl, rfl, hb, hall⟩ := hrel
    have HA := Lib.hid hall; clear hall
    by_cases hlt : k < G
    · obtain rfl := p4 (by omega)
      have e1 : wr.cell? ⟨b, o + k, none⟩ = some (.slice (A k) (L k) (C k)) := by rw [hb.cell (p := ⟨b, o + k, none⟩) (lt_of_cell (P5.out k hlt))]; exact P5.out k hlt
      have hbs := hb.size
      go_wp2_with fail
      refine Calls.makes' (HF.out k hlt _ _ hb ((Hr.out k hlt).below hb)) _ fun w1 hb1 => ?_
      cases hp : p k
      · go_wp2
        go_roundg (G - (k + 1))
        case measure => omega
        case rel => exact ⟨k + 1, by omega, rfl, by go_num, hb.trans (hb1.mono hbs), fun j hj => by
          by_cases e : j = k
          · subst e; exact hp
          · exact HA.out j (by omega)⟩
      · go_wp2
        go_ret
        exact ⟨ret_i64 (idxB_at hlt HA.out hp).symm, hb.trans (hb1.mono hbs)⟩
    · obtain rfl : k = G := by omega
      go_wp2
      go_ret
      exact ⟨ret_i64 (idxB_none HA.out).symm, hb⟩

theorem iContainsFuncRI_c (f : FuncId) (hcf : ∀ (a : Array Value) (W : World), (callFunc f a).run Try.prog W = .ok (.enter f a) W) (cp : Value) (v : Value) (G : Nat) (L : Nat → Nat) (T : Nat → Nat → Int) (p : Nat → Bool) (w : World) (h : Tab w v G L T)
    (hf : ∀ i, i < G → ∀ W u, Below w.heap.size w W → Ints W u (L i) (T i) → Calls Try.prog f #[u, cp] W fun e W' => Makes W W' e (.bool (p i))) :
    Calls Try.prog 114 #[v, .func (.func f) #[] #[cp]] w fun e w' => Makes w w' e (.bool (anyB p G)) := by
  have HF := Lib.hid hf
  clear hf
  go_enter Try.func114, Try.ntmps114
  go_wp2_with fail
  refine Calls.makes' (iIndexFuncRI_c f hcf _ _ _ _ _ p _ h HF.out) _ fun w1 hb1 => ?_
  go_wp2
  go_ret
  exact ⟨rfl, hb1⟩

end Go.Proofs.Ytnkflgigbielgaa

/-
  CyclicForm, in both programs. No condition beside sizes.
-/
set_option linter.unusedVariables false
set_option linter.unusedSimpArgs false
namespace Go.Proofs.Ytnkflgigbielgaa
open Go.RowKit

def pick3 {α : Type} (a b c : α) (i : Nat) : α := if i = 0 then a else if i = 1 then b else c
/-- a list of three elements, as it is handed to a variadic function -/
theorem list3 {w : World} {xv yv zv : Value} {nx ny nz : Nat} {X Y Z : Nat → Int} (t : TypeId) (hx : Ints w xv nx X) (hy : Ints w yv ny Y) (hz : Ints w zv nz Z) :
    Tab (w.alloc (.cells #[xv, yv, zv] t)) (.slice (some ⟨w.heap.size, 0, none⟩) 3 3) 3 (pick3 nx ny nz) (pick3 X Y Z) := by
  have hb : Below w.heap.size w (w.alloc (.cells #[xv, yv, zv] t)) := (Below.refl _ _).alloc (Nat.le_refl _) _
  obtain ⟨a1, c1, b1, o1, h11, h12, h13, h14, h15⟩ := (hx.below hb).out
  obtain ⟨a2, c2, b2, o2, h21, h22, h23, h24, h25⟩ := (hy.below hb).out
  obtain ⟨a3, c3, b3, o3, h31, h32, h33, h34, h35⟩ := (hz.below hb).out
  have h3 : ∀ i, i < 3 → i = 0 ∨ i = 1 ∨ i = 2 := fun i hi => by omega
  refine ⟨some ⟨w.heap.size, 0, none⟩, 3, w.heap.size, 0, pick3 a1 a2 a3, pick3 c1 c2 c3, pick3 b1 b2 b3, pick3 o1 o2 o3, rfl, Nat.le_refl _, by omega, fun _ => rfl, fun i hi => ?_, fun i hi => ?_, fun i hi => ?_, fun i j hi => ?_⟩
  · rcases h3 i hi with rfl | rfl | rfl
    · simp [pick3, h11]
    · simp [pick3, h21]
    · simp [pick3, h31]
  · rcases h3 i hi with rfl | rfl | rfl
    · exact ⟨h12, h13⟩
    · exact ⟨h22, h23⟩
    · exact ⟨h32, h33⟩
  · rcases h3 i hi with rfl | rfl | rfl
    · exact h14
    · exact h24
    · exact h34
  · rcases h3 i hi with rfl | rfl | rfl
    · exact h15 j
    · exact h25 j
    · exact h35 j

theorem codeE_zero {ok : Bool} {p : Int} {n m : Nat} {L : Nat → Nat} {T : Nat → Nat → Int} (h : codeE ok p n m L T = 0) : ok = true ∧ ∀ i, i < m → elemB p n (L i) (T i) = true := by
  unfold codeE at h
  cases ok
  · simp at h
  · cases ha : anyB (fun i => !elemB p n (L i) (T i)) m
    · refine ⟨rfl, fun i hi => ?_⟩
      cases he : elemB p n (L i) (T i)
      · have := anyB_at (p := fun i => !elemB p n (L i) (T i)) hi (by simp [he])
        rw [this] at ha; cases ha
      · rfl
    · rw [ha] at h; simp at h

/-- the cyclic form -/
def cycV (p : Int) (n : Nat) (s X Y Z : Nat → Int) : Int := (2 * mulF p s n (mulF p s n X Y) Z 0) % p

end Go.Proofs.Ytnkflgigbielgaa
