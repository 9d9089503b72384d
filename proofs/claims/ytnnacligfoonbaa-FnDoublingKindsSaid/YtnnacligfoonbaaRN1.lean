/-
  The tests of the nucleus by the program: closures in a list. No condition beside sizes.
-/
import Derived.Test.YtnnacligfoonbaaQG
import Derived.Test.YtnnacligfoonbaaRE1
import Derived.Test.YtnnacligfoonbaaD31
import Derived.Test.YtnnacligfoonbaaD20
set_option linter.unusedVariables false
set_option linter.unusedSimpArgs false
namespace Go.Proofs.Ytnnacligfoonbaa
open Go.RowKit

/-- lists of functions -/
theorem elF : Elem Try.prog 102 98 .nilFunc 8 := ⟨Try.underlying102, by kernel_rfl, rfl⟩

/-- a function value and what it makes of a list; it rests on no cell of block g -/
structure FnOk (w : World) (g : Nat) (p : Int) (m : Nat) (v : Value) (f : (Nat → Int) → Nat → Int) : Prop where
  out : ∃ fid : FuncId, (∀ (a : Array Value) (W : World), (callFunc fid a).run Try.prog W = .ok (.enter fid a) W) ∧
    ((∃ c1 c2 c3 : Value, v = .func (.func fid) #[] #[c1, c2, c3] ∧ ∀ W, Chg w W (· = g) → ∀ xv X, Ints W xv m X → InP p m X → Calls Try.prog fid #[xv, c1, c2, c3] W fun e w' => CopyI W w' e m (f X)) ∨
     (∃ c1 c2 : Value, v = .func (.func fid) #[] #[c1, c2] ∧ ∀ W, Chg w W (· = g) → ∀ xv X, Ints W xv m X → InP p m X → Calls Try.prog fid #[xv, c1, c2] W fun e w' => CopyI W w' e m (f X)))
theorem Chg.then {w w' W : World} {g g' : Nat} (h : Chg w w' (· = g)) (hg : g' = g ∨ w.heap.size ≤ g') (h2 : Chg w' W (· = g')) : Chg w W (· = g) :=
  ⟨h2.os.trans h.os, h2.tape.trans h.tape, h2.output.trans h.output, Nat.le_trans h.size h2.size, fun k hk hne => (h2.block k (by have := h.size; omega) (fun e => by
    have e : k = g' := e
    rcases hg with hg | hg
    · exact hne (e.trans hg)
    · omega)).trans (h.block k hk hne)⟩
theorem FnOk.chg {w w' : World} {g g' : Nat} {p : Int} {m : Nat} {v : Value} {f : (Nat → Int) → Nat → Int} (h : FnOk w g p m v f) (hc : Chg w w' (· = g)) (hg : g' = g ∨ w.heap.size ≤ g') : FnOk w' g' p m v f := by
  obtain ⟨fid, h1, h2⟩ := h.out
  refine ⟨fid, h1, ?_⟩
  rcases h2 with ⟨c1, c2, c3, h3, h4⟩ | ⟨c1, c2, h3, h4⟩
  · exact Or.inl ⟨c1, c2, c3, h3, fun W hW => h4 W (hc.then hg hW)⟩
  · exact Or.inr ⟨c1, c2, h3, fun W hW => h4 W (hc.then hg hW)⟩
theorem Chg.of_grown {w w' : World} {g : Nat} (h : w.grownBy w' (some g)) : Chg w w' (· = g) := ⟨h.os, h.tape, h.output, h.size, fun k hk hne => h.block k hk (fun e => by injection e with e; exact hne e)⟩
/-- a list of functions that a call owns -/
structure OFns (w : World) (p : Int) (m B g cap K : Nat) (F : Nat → (Nat → Int) → Nat → Int) : Prop where
  out : ∃ V : Nat → Value, Own w 98 g cap K V ∧ B ≤ g ∧ ∀ t, t < K → FnOk w g p m (V t) (F t)
theorem OFns.kept {w w' : World} {p : Int} {m B g cap K : Nat} {F : Nat → (Nat → Int) → Nat → Int} (h : OFns w p m B g cap K F) (hb : Below w.heap.size w w') : OFns w' p m B g cap K F := by
  obtain ⟨V, h1, h2, h3⟩ := h.out
  exact ⟨V, h1.kept hb, h2, fun t ht => (h3 t ht).chg (Chg.of_below hb _) (Or.inl rfl)⟩
theorem OFns.congr {w : World} {p : Int} {m B g cap K : Nat} {F F' : Nat → (Nat → Int) → Nat → Int} (h : OFns w p m B g cap K F) (e : ∀ t, t < K → F t = F' t) : OFns w p m B g cap K F' := by
  obtain ⟨V, h1, h2, h3⟩ := h.out
  exact ⟨V, h1, h2, fun t ht => e t ht ▸ h3 t ht⟩
theorem OFns.mono {w : World} {p : Int} {m B B' g cap K : Nat} {F : Nat → (Nat → Int) → Nat → Int} (h : OFns w p m B g cap K F) (hB : B' ≤ B) : OFns w p m B' g cap K F := by
  obtain ⟨V, h1, h2, h3⟩ := h.out
  exact ⟨V, h1, by omega, h3⟩
theorem OFns.base {w : World} {p : Int} {m B g cap K : Nat} {F : Nat → (Nat → Int) → Nat → Int} (h : OFns w p m B g cap K F) : B ≤ g := by
  obtain ⟨V, h1, h2, h3⟩ := h.out
  exact h2
theorem OFns.lt {w : World} {p : Int} {m B g cap K : Nat} {F : Nat → (Nat → Int) → Nat → Int} (h : OFns w p m B g cap K F) : g < w.heap.size := by
  obtain ⟨V, h1, h2, h3⟩ := h.out
  exact h1.lt
/-- some functions appended -/
theorem OFns.push {w : World} {p : Int} {m B g cap K : Nat} {F : Nat → (Nat → Int) → Nat → Int} (h : OFns w p m B g cap K F) (hB : B ≤ w.heap.size) : ∃ V, Own w 98 g cap K V ∧
    ∀ (w' : World) (g' cap' d : Nat) (N : Nat → Value), Own w' 98 g' cap' (K + d) (fun j => if j < K then V j else N (j - K)) → Chg w w' (· = g) → (g' = g ∨ w.heap.size ≤ g') → (∀ a, a < d → FnOk w' g' p m (N a) (F (K + a))) → OFns w' p m B g' cap' (K + d) F := by
  obtain ⟨V, h1, h2, h3⟩ := h.out
  refine ⟨V, h1, fun w' g' cap' d N hO hc hg hN => ⟨_, hO, by omega, fun t ht => ?_⟩⟩
  by_cases e : t < K
  · show FnOk w' g' p m (if t < K then V t else N (t - K)) (F t)
    rw [if_pos e]; exact (h3 t e).chg hc hg
  · show FnOk w' g' p m (if t < K then V t else N (t - K)) (F t)
    rw [if_neg e]
    have := hN (t - K) (by omega)
    rwa [show K + (t - K) = t by omega] at this
theorem OTabM.rowO {w : World} {B M g cap G : Nat} {L : Nat → Nat} {T : Nat → Nat → Int} (h : OTabM w B M g cap G L T) {k : Nat} (hk : k < G) : ∃ r c, w.cell? ⟨g, k, none⟩ = some (.slice (some ⟨r, 0, none⟩) (L k) c) ∧ Own w 2 r c (L k) (fun j => .int .i64 (T k j)) ∧ B ≤ r ∧ r < M := by
  obtain ⟨R, C, h1, h2, h3, h4⟩ := h.out
  exact ⟨R k, C k, h1.cell hk, (h3 k hk).1, (h3 k hk).2.1⟩
theorem Chg.cellAt {w W : World} {g b o : Nat} {v : Value} (h : Chg w W (· = g)) (hn : b ≠ g) (hc : w.cell? ⟨b, o, none⟩ = some v) : W.cell? ⟨b, o, none⟩ = some v := by
  rw [World.cell?_of_block (w := w) (a := ⟨b, o, none⟩) (h.block b (lt_of_cell hc) hn)]; exact hc
theorem Chg.belowB {w w6 W : World} {g : Nat} (hb : Below w.heap.size w w6) (hc : Chg w6 W (· = g)) (hg : w.heap.size ≤ g) : Below w.heap.size w W :=
  hb.trans (hc.below hb.size (fun k e => by have e : k = g := e; omega))

set_option maxRecDepth 100000 in
set_option maxHeartbeats 1000000 in
theorem tst1_c (p : Int) (ao : Option Addr) (n c : Nat) (s : Nat → Int) (bb yb zb : Nat) (ay az : Option Addr) (cy cz : Nat) (Y Z : Nat → Int) (W : World) (hv : DV W (.slice ao n c) p n s) (h0 : W.cell? ⟨bb, 0, none⟩ = some (.int .i64 p)) (h1 : W.cell? ⟨bb, 1, none⟩ = some (.slice ao n c))
    (hy : W.cell? ⟨yb, 0, none⟩ = some (.slice ay (2 ^ n) cy)) (hz : W.cell? ⟨zb, 0, none⟩ = some (.slice az (2 ^ n) cz)) (iy : El W (.slice ay (2 ^ n) cy) p n Y) (iz : El W (.slice az (2 ^ n) cz) p n Z) (xv : Value) (X : Nat → Int) (ix : El W xv p n X) :
    Calls Try.prog 142 #[xv, .pointer (some ⟨bb, 0, none⟩), .pointer (some ⟨yb, 0, none⟩), .pointer (some ⟨zb, 0, none⟩)] W fun e w' => CopyI W w' e (2 ^ n) (asF p s n X Y Z) := by
  have HA := Lib.hid (iAssoc_c p _ _ _ _ n s X Y Z W hv ix iy iz)
  obtain ⟨xa, xc, _, _, rfl, _⟩ := ix.ints.out
  obtain ⟨M, hM⟩ : ∃ M, 2 ^ n = M := ⟨_, rfl⟩
  have hx : ∀ w' e, MakesE W w' e p n (asF p s n X Y Z) → CopyI W w' e (2 ^ n) (asF p s n X Y Z) := fun w' e h => by
    obtain ⟨g, cg, q1, q2, q3, q4, _⟩ := h.out
    exact ⟨g, cg, q1, q2, q3, q4⟩
  have HX := Lib.hid hx
  rw [hM] at hy hz HA HX ⊢
  clear hM iy iz ix hv hx
  go_enter Try.func142, Try.ntmps142
  go_wp2_with fail
  go_at_call 113
  refine HA.out.mono ?_
  intro e w' h
  obtain ⟨g, cg, rfl, q2, q3, q4⟩ := (HX.out _ _ h).out
  go_wp2
  go_ret
  exact ⟨g, cg, rfl, q2, q3, q4⟩

set_option maxRecDepth 100000 in
set_option maxHeartbeats 1000000 in
theorem tst2_c (p : Int) (ao : Option Addr) (n c : Nat) (s : Nat → Int) (bb yb zb : Nat) (ay az : Option Addr) (cy cz : Nat) (Y Z : Nat → Int) (W : World) (hv : DV W (.slice ao n c) p n s) (h0 : W.cell? ⟨bb, 0, none⟩ = some (.int .i64 p)) (h1 : W.cell? ⟨bb, 1, none⟩ = some (.slice ao n c))
    (hy : W.cell? ⟨yb, 0, none⟩ = some (.slice ay (2 ^ n) cy)) (hz : W.cell? ⟨zb, 0, none⟩ = some (.slice az (2 ^ n) cz)) (iy : El W (.slice ay (2 ^ n) cy) p n Y) (iz : El W (.slice az (2 ^ n) cz) p n Z) (xv : Value) (X : Nat → Int) (ix : El W xv p n X) :
    Calls Try.prog 143 #[xv, .pointer (some ⟨bb, 0, none⟩), .pointer (some ⟨yb, 0, none⟩), .pointer (some ⟨zb, 0, none⟩)] W fun e w' => CopyI W w' e (2 ^ n) (asF p s n Y X Z) := by
  have HA := Lib.hid (iAssoc_c p _ _ _ _ n s Y X Z W hv iy ix iz)
  obtain ⟨xa, xc, _, _, rfl, _⟩ := ix.ints.out
  obtain ⟨M, hM⟩ : ∃ M, 2 ^ n = M := ⟨_, rfl⟩
  have hx : ∀ w' e, MakesE W w' e p n (asF p s n Y X Z) → CopyI W w' e (2 ^ n) (asF p s n Y X Z) := fun w' e h => by
    obtain ⟨g, cg, q1, q2, q3, q4, _⟩ := h.out
    exact ⟨g, cg, q1, q2, q3, q4⟩
  have HX := Lib.hid hx
  rw [hM] at hy hz HA HX ⊢
  clear hM iy iz ix hv hx
  go_enter Try.func143, Try.ntmps143
  go_wp2_with fail
  go_at_call 113
  refine HA.out.mono ?_
  intro e w' h
  obtain ⟨g, cg, rfl, q2, q3, q4⟩ := (HX.out _ _ h).out
  go_wp2
  go_ret
  exact ⟨g, cg, rfl, q2, q3, q4⟩

set_option maxRecDepth 100000 in
set_option maxHeartbeats 1000000 in
theorem tst3_c (p : Int) (ao : Option Addr) (n c : Nat) (s : Nat → Int) (bb yb zb : Nat) (ay az : Option Addr) (cy cz : Nat) (Y Z : Nat → Int) (W : World) (hv : DV W (.slice ao n c) p n s) (h0 : W.cell? ⟨bb, 0, none⟩ = some (.int .i64 p)) (h1 : W.cell? ⟨bb, 1, none⟩ = some (.slice ao n c))
    (hy : W.cell? ⟨yb, 0, none⟩ = some (.slice ay (2 ^ n) cy)) (hz : W.cell? ⟨zb, 0, none⟩ = some (.slice az (2 ^ n) cz)) (iy : El W (.slice ay (2 ^ n) cy) p n Y) (iz : El W (.slice az (2 ^ n) cz) p n Z) (xv : Value) (X : Nat → Int) (ix : El W xv p n X) :
    Calls Try.prog 144 #[xv, .pointer (some ⟨bb, 0, none⟩), .pointer (some ⟨yb, 0, none⟩), .pointer (some ⟨zb, 0, none⟩)] W fun e w' => CopyI W w' e (2 ^ n) (asF p s n Y Z X) := by
  have HA := Lib.hid (iAssoc_c p _ _ _ _ n s Y Z X W hv iy iz ix)
  obtain ⟨xa, xc, _, _, rfl, _⟩ := ix.ints.out
  obtain ⟨M, hM⟩ : ∃ M, 2 ^ n = M := ⟨_, rfl⟩
  have hx : ∀ w' e, MakesE W w' e p n (asF p s n Y Z X) → CopyI W w' e (2 ^ n) (asF p s n Y Z X) := fun w' e h => by
    obtain ⟨g, cg, q1, q2, q3, q4, _⟩ := h.out
    exact ⟨g, cg, q1, q2, q3, q4⟩
  have HX := Lib.hid hx
  rw [hM] at hy hz HA HX ⊢
  clear hM iy iz ix hv hx
  go_enter Try.func144, Try.ntmps144
  go_wp2_with fail
  go_at_call 113
  refine HA.out.mono ?_
  intro e w' h
  obtain ⟨g, cg, rfl, q2, q3, q4⟩ := (HX.out _ _ h).out
  go_wp2
  go_ret
  exact ⟨g, cg, rfl, q2, q3, q4⟩

set_option maxRecDepth 100000 in
set_option maxHeartbeats 1000000 in
theorem tstC_c (p : Int) (ao : Option Addr) (n c : Nat) (s : Nat → Int) (bb yb : Nat) (ay : Option Addr) (cy : Nat) (Y : Nat → Int) (W : World) (hv : DV W (.slice ao n c) p n s) (h0 : W.cell? ⟨bb, 0, none⟩ = some (.int .i64 p)) (h1 : W.cell? ⟨bb, 1, none⟩ = some (.slice ao n c))
    (hy : W.cell? ⟨yb, 0, none⟩ = some (.slice ay (2 ^ n) cy)) (iy : El W (.slice ay (2 ^ n) cy) p n Y) (xv : Value) (X : Nat → Int) (ix : El W xv p n X) :
    Calls Try.prog 107 #[xv, .pointer (some ⟨bb, 0, none⟩), .pointer (some ⟨yb, 0, none⟩)] W fun e w' => CopyI W w' e (2 ^ n) (coF p s n X Y) := by
  have HA := Lib.hid (iComm_c p _ _ _ n s X Y W hv ix iy)
  obtain ⟨xa, xc, _, _, rfl, _⟩ := ix.ints.out
  obtain ⟨M, hM⟩ : ∃ M, 2 ^ n = M := ⟨_, rfl⟩
  have hx : ∀ w' e, MakesE W w' e p n (coF p s n X Y) → CopyI W w' e (2 ^ n) (coF p s n X Y) := fun w' e h => by
    obtain ⟨g, cg, q1, q2, q3, q4, _⟩ := h.out
    exact ⟨g, cg, q1, q2, q3, q4⟩
  have HX := Lib.hid hx
  rw [hM] at hy HA HX ⊢
  clear hM iy ix hv hx
  go_enter Try.func107, Try.ntmps107
  go_wp2_with fail
  go_at_call 108
  refine HA.out.mono ?_
  intro e w' h
  obtain ⟨g, cg, rfl, q2, q3, q4⟩ := (HX.out _ _ h).out
  go_wp2
  go_ret
  exact ⟨g, cg, rfl, q2, q3, q4⟩

set_option maxRecDepth 100000 in
set_option maxHeartbeats 8000000 in
theorem iTests_c (p : Int) (sv : Value) (n : Nat) (s : Nat → Int) (w : World) (hd : DV w sv p n s) (hp : 2 ≤ p) :
    Calls Try.prog 104 #[dbl p sv] w fun e w' => ∃ g c, e = .returned (.slice (some ⟨g, 0, none⟩) (2 ^ n * 2 ^ n * 3) c) ∧ Below w.heap.size w w' ∧ OFns w' p (2 ^ n) w.heap.size g c (2 ^ n * 2 ^ n * 3) (tstF p s n) := by
  obtain ⟨ao, c, _, _, rfl, qq⟩ := hd.ints.out
  clear qq
  obtain ⟨e0, e1, e2, e3⟩ := box0 w p ao n c 26
  have BX := Lib.hid (box0 w p ao n c 26)
  have hn4 := hd.le
  have hM0 : 0 < 2 ^ n := Nat.pos_of_ne_zero (by simp)
  have HV : Hid (∀ W, Below w.heap.size w W → DV W (.slice ao n c) p n s) := fun W hb => hd.below hb
  have HF : Hid (∀ i k a, k < 2 ^ n → a < 3 → tstF p s n ((i * 2 ^ n + k) * 3 + a) = nucF p s n i k a) := fun i k a hk ha => tstF_at hk ha
  -- a closure of each kind, at every world that has the box, the two cells and the two rows
  have HN : Hid (∀ (W : World) (g yb zb ry cy rz cz i k : Nat), BoxD w p ao n c W → w.heap.size < g → W.cell? ⟨yb, 0, none⟩ = some (.slice (some ⟨ry, 0, none⟩) (2 ^ n) cy) → yb ≠ g → W.cell? ⟨zb, 0, none⟩ = some (.slice (some ⟨rz, 0, none⟩) (2 ^ n) cz) → zb ≠ g →
      Own W 2 ry cy (2 ^ n) (fun j => .int .i64 (dlt i j)) → ry ≠ g → Own W 2 rz cz (2 ^ n) (fun j => .int .i64 (dlt k j)) → rz ≠ g → ∀ a, a < 3 →
      FnOk W g p (2 ^ n) (.func (.func (if a = 0 then 142 else if a = 1 then 143 else 144)) #[] #[.pointer (some ⟨w.heap.size, 0, none⟩), .pointer (some ⟨yb, 0, none⟩), .pointer (some ⟨zb, 0, none⟩)]) (nucF p s n i k a)) := by
    intro W g yb zb ry cy rz cz i k hbx hg hy hyg hz hzg oy hry oz hrz a ha
    have hall : ∀ W', Chg W W' (· = g) → DV W' (.slice ao n c) p n s ∧ W'.cell? ⟨w.heap.size, 0, none⟩ = some (.int .i64 p) ∧ W'.cell? ⟨w.heap.size, 1, none⟩ = some (.slice ao n c) ∧ W'.cell? ⟨yb, 0, none⟩ = some (.slice (some ⟨ry, 0, none⟩) (2 ^ n) cy) ∧ W'.cell? ⟨zb, 0, none⟩ = some (.slice (some ⟨rz, 0, none⟩) (2 ^ n) cz) ∧ El W' (.slice (some ⟨ry, 0, none⟩) (2 ^ n) cy) p n (dlt i) ∧ El W' (.slice (some ⟨rz, 0, none⟩) (2 ^ n) cz) p n (dlt k) := fun W' hc =>
      ⟨hd.below (Chg.belowB hbx.2.2.2 hc (by omega)), hc.cellAt (by omega) hbx.1, hc.cellAt (by omega) hbx.2.1, hc.cellAt hyg hy, hc.cellAt hzg hz, ⟨(hc.own oy hry).ints, dlt_in hp _ _⟩, ⟨(hc.own oz hrz).ints, dlt_in hp _ _⟩⟩
    have h3 : a = 0 ∨ a = 1 ∨ a = 2 := by omega
    rcases h3 with rfl | rfl | rfl
    · exact ⟨_, fun _ _ => by simp [go_sem], Or.inl ⟨_, _, _, rfl, fun W' hc xv X hx hX => by
        obtain ⟨q1, q2, q3, q4, q5, q6, q7⟩ := hall W' hc
        exact tst1_c p ao n c s _ _ _ _ _ _ _ _ _ W' q1 q2 q3 q4 q5 q6 q7 xv X ⟨hx, hX⟩⟩⟩
    · exact ⟨_, fun _ _ => by simp [go_sem], Or.inl ⟨_, _, _, rfl, fun W' hc xv X hx hX => by
        obtain ⟨q1, q2, q3, q4, q5, q6, q7⟩ := hall W' hc
        exact tst2_c p ao n c s _ _ _ _ _ _ _ _ _ W' q1 q2 q3 q4 q5 q6 q7 xv X ⟨hx, hX⟩⟩⟩
    · exact ⟨_, fun _ _ => by simp [go_sem], Or.inl ⟨_, _, _, rfl, fun W' hc xv X hx hX => by
        obtain ⟨q1, q2, q3, q4, q5, q6, q7⟩ := hall W' hc
        exact tst3_c p ao n c s _ _ _ _ _ _ _ _ _ W' q1 q2 q3 q4 q5 q6 q7 xv X ⟨hx, hX⟩⟩⟩
  obtain ⟨F, hF⟩ : ∃ F, tstF p s n = F := ⟨_, rfl⟩
  rw [hF] at HF ⊢
  obtain ⟨M, hM⟩ : ∃ M, 2 ^ n = M := ⟨_, rfl⟩
  have hM16 : M ≤ 16 := hM ▸ pow_le hn4
  have hMM : M * M ≤ 16 * 16 := Nat.mul_le_mul hM16 hM16
  have HZ : Hid (∀ W, Calls Try.prog 88 #[dbl p (.slice ao n c)] W fun e w' => Makes W w' e (.int .i64 ((M : Nat) : Int))) := fun W => hM ▸ iSize_c p ao n c W hn4
  rw [hM] at HN HF hM0 ⊢
  clear hM hF hd
  have hT0 : OFns ((w.alloc (.cells #[.int .i64 p, .slice ao n c] 26)).alloc (.cells #[] 98)) p M (w.heap.size + 1) (w.heap.size + 1) 0 0 F := by
    have h := Own.empty (w.alloc (.cells #[.int .i64 p, .slice ao n c] 26)) 98 (fun _ => .nilFunc)
    rw [alloc_size] at h
    exact ⟨_, h, Nat.le_refl _, fun t ht => absurd ht (Nat.not_lt_zero _)⟩
  have bA : Below (w.alloc (.cells #[.int .i64 p, .slice ao n c] 26)).heap.size (w.alloc (.cells #[.int .i64 p, .slice ao n c] 26)) ((w.alloc (.cells #[.int .i64 p, .slice ao n c] 26)).alloc (.cells #[] 98)) := (Below.refl _ _).alloc (Nat.le_refl _) _
  have BXA := Lib.hid (boxKeep bA BX.out)
  have HT0 := Lib.hid hT0
  clear hT0 bA
  go_enter Try.func104, Try.ntmps104
  go_wp2_with fail
  refine Calls.makes' (HZ.out _) _ fun w1 hb1 => ?_
  have hT1 := HT0.out.kept hb1
  have bx1 := boxKeep hb1 BXA.out
  have l1 : w.heap.size + 2 ≤ w1.heap.size := by have := hb1.size; simp only [alloc_size] at this; omega
  go_wp2_with fail
  go_at_call 106
  refine (iUnit_c M _ (by omega)).mono ?_
  rintro e w2 ⟨gu, cu, rfl, hb2, hU⟩
  have hU2 := Lib.hid hU.bound
  have l2 := hb2.size
  have hT2 := Lib.hid (hT1.kept hb2)
  have BX2 := Lib.hid (boxKeep hb2 bx1)
  clear hU hT1 e0 e1 e2 e3 bx1 hb1 hb2
  obtain ⟨B1, hB1⟩ : ∃ B, w1.heap.size = B := ⟨_, rfl⟩
  obtain ⟨U1, hU1⟩ : ∃ U, w2.heap.size = U := ⟨_, rfl⟩
  have hU3 : Hid (OTabM w2 B1 U1 gu cu M (fun _ => M) dlt) := by subst hB1; subst hU1; exact hU2
  have l3 : Hid (U1 ≤ w2.heap.size) := Nat.le_of_eq hU1.symm
  rw [hB1] at l1 l2
  rw [hU1] at l2
  clear hU1 hB1 hU2
  go_wp2
  go_loopg [3, 13] M (fun g o i wr => ∃ x : Nat, x ≤ M ∧ g = M - x ∧ i = .int .i64 x ∧ BoxD w p ao n c wr ∧ Hid (U1 ≤ wr.heap.size) ∧ Hid (OTabM wr B1 U1 gu cu M (fun _ => M) dlt) ∧ ∃ g' c' K, o = .slice (some ⟨g', 0, none⟩) K c' ∧ Hid (K = x * M * 3) ∧ Hid (g' < B1 ∨ U1 ≤ g') ∧ Hid (OFns wr p M (w.heap.size + 1) g' c' K F))
  case atStart => exact ⟨0, Nat.zero_le _, rfl, rfl, BX2.out, l3, hU3, _, _, _, rfl, by show 0 = 0 * M * 3; omega, Or.inl (by omega), hT2.out⟩
  case round =>
    obtain ⟨x, hx, rfl, rfl, ⟨f0, f1, f2, f3⟩, hul, hu, g', c', K, rfl, hK, hgd, hT⟩ := hrel
    obtain ⟨wo, rfl⟩ : ∃ wo, wo = wr := ⟨_, rfl⟩
    have BXo := Lib.hid (show BoxD w p ao n c wo from ⟨f0, f1, f2, f3⟩)
    clear BX2 l3 hU3 hT2 BXA HT0 BX
    by_cases hxd : x < M
    · obtain ⟨ry, cy, hcy, hoy, hry1, hry2⟩ := hu.out.rowO hxd
      have hul1 := hul.out
      have hgl := hT.out.lt
      have HBy : Hid (Below wo.heap.size wo (wo.alloc (.cells #[.slice (some ⟨ry, 0, none⟩) M cy] 24))) := (Below.refl _ _).alloc (Nat.le_refl _) _
      have hYc : Hid ((wo.alloc (.cells #[.slice (some ⟨ry, 0, none⟩) M cy] 24)).cell? ⟨wo.heap.size, 0, none⟩ = some (.slice (some ⟨ry, 0, none⟩) M cy)) := by show _ = _; simp
      have hOY := Lib.hid hoy
      clear hoy
      go_wp2_with fail
      refine Calls.makes' (HZ.out _) _ fun w3 hb3 => ?_
      have hb3a : Below wo.heap.size wo w3 := HBy.out.trans (hb3.mono HBy.out.size)
      have l4 : wo.heap.size + 1 ≤ w3.heap.size := by have := hb3.size; simp only [alloc_size] at this; omega
      have hYc3 := cellKp hb3 hYc.out
      clear hb3 f0 f1 f2 f3 hcy
      go_wp2_with fail
      go_at_call 106
      refine (iUnit_c M _ (by omega)).mono ?_
      rintro e w4 ⟨gz, cz, rfl, hb4, hUz⟩
      have HB4 := Lib.hid (hb3a.trans (hb4.mono hb3a.size))
      have hYc4 := Lib.hid (cellKp hb4 hYc3)
      have l5 := hb4.size
      have hOY4 := Lib.hid (hOY.out.kept HB4.out)
      have BX4 := Lib.hid (boxKeep HB4.out BXo.out)
      have HT4 := Lib.hid (hT.out.kept HB4.out)
      have HU4 := Lib.hid (hu.out.kept HB4.out)
      have HUz := Lib.hid hUz.bound
      clear hUz hb4 hYc3 hb3a hYc HBy hOY
      obtain ⟨B2, hB2⟩ : ∃ B, w3.heap.size = B := ⟨_, rfl⟩
      obtain ⟨U2, hU2⟩ : ∃ U, w4.heap.size = U := ⟨_, rfl⟩
      have HUz3 : Hid (OTabM w4 B2 U2 gz cz M (fun _ => M) dlt) := by subst hB2; subst hU2; exact HUz
      have l6 : Hid (U2 ≤ w4.heap.size) := Nat.le_of_eq hU2.symm
      rw [hB2] at l4 l5
      rw [hU2] at l5
      clear hU2 hB2 HUz
      go_wp2_with fail
      go_loopg [3, 21] M (fun g o i wq => ∃ y : Nat, y ≤ M ∧ g = M - y ∧ i = .int .i64 y ∧ BoxD w p ao n c wq ∧ Hid (U2 ≤ wq.heap.size) ∧ Hid (OTabM wq B1 U1 gu cu M (fun _ => M) dlt) ∧ Hid (OTabM wq B2 U2 gz cz M (fun _ => M) dlt) ∧ Hid (wq.cell? ⟨wo.heap.size, 0, none⟩ = some (.slice (some ⟨ry, 0, none⟩) M cy)) ∧ Hid (Own wq 2 ry cy M (fun j => .int .i64 (dlt x j))) ∧ ∃ g' c' K, o = .slice (some ⟨g', 0, none⟩) K c' ∧ Hid (K = (x * M + y) * 3) ∧ Hid (g' < B1 ∨ U1 ≤ g') ∧ Hid (g' < wo.heap.size ∨ U2 ≤ g') ∧ Hid (OFns wq p M (w.heap.size + 1) g' c' K F))
      case atStart => exact ⟨0, Nat.zero_le _, rfl, rfl, BX4.out, l6, HU4, HUz3, hYc4, hOY4, _, _, _, rfl, hK, hgd, Or.inl hgl, HT4⟩
      case round =>
        obtain ⟨y, hy, rfl, rfl, ⟨j0, j1, j2, j3⟩, hul2, hu2, hz2, hyc, hoy, g2, c2, J, rfl, hJ, hgd1, hgd2, hT2⟩ := hrel
        have BXr := Lib.hid (show BoxD w p ao n c wr from ⟨j0, j1, j2, j3⟩)
        clear BX4 l6 HU4 HUz3 hYc4 hOY4 HT4 hK hgd hT
        by_cases hyd : y < M
        · obtain ⟨rz, czz, hcz, hoz, hrz1, hrz2⟩ := hz2.out.rowO hyd
          obtain ⟨V, hV, hpush⟩ := hT2.out.push (show w.heap.size + 1 ≤ wr.heap.size by omega)
          have HPU := Lib.hid hpush
          have hOZ := Lib.hid hoz
          have hgB := hT2.out.base
          have hgl2 := hT2.out.lt
          have a1 := hgd1.out
          have a2 := hgd2.out
          have a3 := hul2.out
          have hJ1 := hJ.out
          have hpl := pair_lt hxd hyd
          have hJ3 : J ≤ 1000 := by omega
          have hul1 := hul.out
          obtain ⟨NV, hNV⟩ : ∃ NV : Nat → Value, (fun a => .func (.func (if a = 0 then 142 else if a = 1 then 143 else 144)) #[] #[.pointer (some ⟨w.heap.size, 0, none⟩), .pointer (some ⟨wo.heap.size, 0, none⟩), .pointer (some ⟨wr.heap.size, 0, none⟩)]) = NV := ⟨_, rfl⟩
          have hNVa : Hid (∀ a, NV a = .func (.func (if a = 0 then 142 else if a = 1 then 143 else 144)) #[] #[.pointer (some ⟨w.heap.size, 0, none⟩), .pointer (some ⟨wo.heap.size, 0, none⟩), .pointer (some ⟨wr.heap.size, 0, none⟩)]) := fun a => by rw [← hNV]
          have hcells : Hid (∀ j, j < 3 → ((wr.alloc (.cells #[.slice (some ⟨rz, 0, none⟩) M czz] 24)).alloc (.cells #[.func (.func 142) #[] #[.pointer (some ⟨w.heap.size, 0, none⟩), .pointer (some ⟨wo.heap.size, 0, none⟩), .pointer (some ⟨wr.heap.size, 0, none⟩)], .func (.func 143) #[] #[.pointer (some ⟨w.heap.size, 0, none⟩), .pointer (some ⟨wo.heap.size, 0, none⟩), .pointer (some ⟨wr.heap.size, 0, none⟩)], .func (.func 144) #[] #[.pointer (some ⟨w.heap.size, 0, none⟩), .pointer (some ⟨wo.heap.size, 0, none⟩), .pointer (some ⟨wr.heap.size, 0, none⟩)]] 98)).cell? ⟨wr.heap.size + 1, 0 + j, none⟩ = some (NV j)) := fun j hj => by
            have h3 : j = 0 ∨ j = 1 ∨ j = 2 := by omega
            have hs5 : (wr.alloc (.cells #[.slice (some ⟨rz, 0, none⟩) M czz] 24)).heap.size = wr.heap.size + 1 := by simp
            rw [← hs5]
            generalize wr.alloc (.cells #[.slice (some ⟨rz, 0, none⟩) M czz] 24) = w5
            rcases h3 with rfl | rfl | rfl <;> rw [hNVa.out] <;> simp
          have hone : Hid (∀ j, j < 3 → (NV j).oneCell' = true) := fun j _ => by rw [hNVa.out]; rfl
          have hVw := (hV.alloc (.cells #[.slice (some ⟨rz, 0, none⟩) M czz] 24)).alloc (.cells #[.func (.func 142) #[] #[.pointer (some ⟨w.heap.size, 0, none⟩), .pointer (some ⟨wo.heap.size, 0, none⟩), .pointer (some ⟨wr.heap.size, 0, none⟩)], .func (.func 143) #[] #[.pointer (some ⟨w.heap.size, 0, none⟩), .pointer (some ⟨wo.heap.size, 0, none⟩), .pointer (some ⟨wr.heap.size, 0, none⟩)], .func (.func 144) #[] #[.pointer (some ⟨w.heap.size, 0, none⟩), .pointer (some ⟨wo.heap.size, 0, none⟩), .pointer (some ⟨wr.heap.size, 0, none⟩)]] 98)
          clear hpush hoz hNV hJ1 hpl
          go_wp2_with (at_builtin; refine wpList_app _ rfl _ _ _ _ elF rfl hVw rfl (wr.heap.size + 1) 0 3 3 NV rfl hcells.out hone.out (by omega) (by omega) ?_; intro g3 c3 w6 hO6 hg6 hgr6)
          go_roundg (M - (y + 1))
          case measure => omega
          case rel =>
            simp only [alloc_size] at hg6
            have hs6 := hgr6.size
            simp only [alloc_size] at hs6
            have hba : Below wr.heap.size wr (wr.alloc (.cells #[.slice (some ⟨rz, 0, none⟩) M czz] 24)) := (Below.refl _ _).alloc (Nat.le_refl _) _
            have hbb : Below wr.heap.size wr ((wr.alloc (.cells #[.slice (some ⟨rz, 0, none⟩) M czz] 24)).alloc (.cells #[.func (.func 142) #[] #[.pointer (some ⟨w.heap.size, 0, none⟩), .pointer (some ⟨wo.heap.size, 0, none⟩), .pointer (some ⟨wr.heap.size, 0, none⟩)], .func (.func 143) #[] #[.pointer (some ⟨w.heap.size, 0, none⟩), .pointer (some ⟨wo.heap.size, 0, none⟩), .pointer (some ⟨wr.heap.size, 0, none⟩)], .func (.func 144) #[] #[.pointer (some ⟨w.heap.size, 0, none⟩), .pointer (some ⟨wo.heap.size, 0, none⟩), .pointer (some ⟨wr.heap.size, 0, none⟩)]] 98)) := hba.alloc hba.size _
            generalize hwA : ((wr.alloc (.cells #[.slice (some ⟨rz, 0, none⟩) M czz] 24)).alloc (.cells #[.func (.func 142) #[] #[.pointer (some ⟨w.heap.size, 0, none⟩), .pointer (some ⟨wo.heap.size, 0, none⟩), .pointer (some ⟨wr.heap.size, 0, none⟩)], .func (.func 143) #[] #[.pointer (some ⟨w.heap.size, 0, none⟩), .pointer (some ⟨wo.heap.size, 0, none⟩), .pointer (some ⟨wr.heap.size, 0, none⟩)], .func (.func 144) #[] #[.pointer (some ⟨w.heap.size, 0, none⟩), .pointer (some ⟨wo.heap.size, 0, none⟩), .pointer (some ⟨wr.heap.size, 0, none⟩)]] 98)) = wA at hbb hgr6
            have hzA : wA.cell? ⟨wr.heap.size, 0, none⟩ = some (.slice (some ⟨rz, 0, none⟩) M czz) := by rw [← hwA]; exact cellKp ((Below.refl _ _).alloc (Nat.le_refl _) _) (by simp)
            have bx6 := boxGrown hgr6 (by omega) (boxKeep hbb BXr.out)
            have hy6 := grown_cell hgr6 (by omega) (cellKp hbb hyc.out)
            have hz6 := grown_cell hgr6 (by omega) hzA
            have oy6 := (hoy.out.kept hbb).grown hgr6 (by intro e; injection e with e; omega)
            have oz6 := (hOZ.out.kept hbb).grown hgr6 (by intro e; injection e with e; omega)
            have hT6 := HPU.out w6 g3 c3 3 NV hO6 ((Chg.of_below hbb _).trans (Chg.of_grown hgr6)) (by omega) (fun a ha => by
              rw [hNVa.out a, hJ.out, HF.out x y a hyd ha]
              exact HN.out w6 g3 wo.heap.size wr.heap.size ry cy rz czz x y bx6 (by omega) hy6 (by omega) hz6 (by omega) oy6 (by omega) oz6 (by omega) a ha)
            exact ⟨y + 1, by omega, rfl, by go_num, bx6, (show U2 ≤ w6.heap.size by omega), (hu2.out.kept hbb).grown hgr6 a1, (hz2.out.kept hbb).grown hgr6 (by omega), hy6, oy6, g3, c3, _, rfl, (by have := hJ.out; show J + 3 = (x * M + (y + 1)) * 3; omega), (show g3 < B1 ∨ U1 ≤ g3 by omega), (show g3 < wo.heap.size ∨ U2 ≤ g3 by omega), hT6⟩
        · obtain rfl : y = M := by omega
          go_wp2
          go_roundg (y - (x + 1))
          case measure => omega
          case rel => exact ⟨x + 1, by omega, rfl, by go_num, BXr.out, (show U1 ≤ wr.heap.size by have := hul2.out; omega), hu2, _, _, _, rfl, by have := hJ.out; show J = (x + 1) * y * 3; rw [Nat.succ_mul]; exact this, hgd1, hT2⟩
    · obtain rfl : x = M := by omega
      have hK2 := hK.out
      subst hK2
      go_wp2
      go_ret
      exact ⟨g', c', rfl, f3, hT.out.mono (by omega)⟩


end Go.Proofs.Ytnnacligfoonbaa
