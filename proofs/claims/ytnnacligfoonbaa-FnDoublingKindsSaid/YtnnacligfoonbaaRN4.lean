/-
  The equations of the nucleus and of the centre by the reference. No condition beside sizes.
-/
import Derived.Test.YtnnacligfoonbaaRN3
set_option linter.unusedVariables false
set_option linter.unusedSimpArgs false
namespace Go.Proofs.Ytnnacligfoonbaa
open Go.RowKit

theorem elC : Elem Try.prog 128 37 (.slice none 0 0) 24 := ⟨Try.underlying128, by kernel_rfl, rfl⟩

/-- a list of rows that is owned, no block of it is g -/
structure LOk (w : World) (g : Nat) (v : Value) (A N : Nat) (U : Nat → Nat → Int) : Prop where
  out : ∃ (gl cl : Nat) (R C : Nat → Nat), v = .slice (some ⟨gl, 0, none⟩) A cl ∧ Own w 24 gl cl A (fun a => .slice (some ⟨R a, 0, none⟩) N (C a)) ∧ (∀ a, a < A → Own w 2 (R a) (C a) N (fun q => .int .i64 (U a q))) ∧ gl ≠ g ∧ ∀ a, a < A → R a ≠ g
theorem LOk.chg {w w' : World} {g g' : Nat} {v : Value} {A N : Nat} {U : Nat → Nat → Int} (h : LOk w g v A N U) (hc : Chg w w' (· = g)) (hg : g' = g ∨ w.heap.size ≤ g') : LOk w' g' v A N U := by
  obtain ⟨gl, cl, R, C, h1, h2, h3, h4, h5⟩ := h.out
  refine ⟨gl, cl, R, C, h1, hc.own h2 h4, fun a ha => hc.own (h3 a ha) (h5 a ha), ?_, fun a ha => ?_⟩
  · have := h2.lt; rcases hg with hg | hg <;> omega
  · have := (h3 a ha).lt; have := h5 a ha; rcases hg with hg | hg <;> omega
/-- tables in a list that is owned -/
structure OParts (w : World) (B g cap G A N : Nat) (P : Nat → Nat → Nat → Int) : Prop where
  out : ∃ V : Nat → Value, Own w 37 g cap G V ∧ B ≤ g ∧ ∀ j, j < G → LOk w g (V j) A N (P j)
theorem OParts.kept {w w' : World} {B g cap G A N : Nat} {P : Nat → Nat → Nat → Int} (h : OParts w B g cap G A N P) (hb : Below w.heap.size w w') : OParts w' B g cap G A N P := by
  obtain ⟨V, h1, h2, h3⟩ := h.out
  exact ⟨V, h1.kept hb, h2, fun j hj => (h3 j hj).chg (Chg.of_below hb _) (Or.inl rfl)⟩
theorem OParts.lt {w : World} {B g cap G A N : Nat} {P : Nat → Nat → Nat → Int} (h : OParts w B g cap G A N P) : g < w.heap.size := by
  obtain ⟨V, h1, h2, h3⟩ := h.out
  exact h1.lt
theorem OParts.base {w : World} {B g cap G A N : Nat} {P : Nat → Nat → Nat → Int} (h : OParts w B g cap G A N P) : B ≤ g := by
  obtain ⟨V, h1, h2, h3⟩ := h.out
  exact h2
/-- what is read of it -/
theorem OParts.at {w : World} {B g cap G A N : Nat} {P : Nat → Nat → Nat → Int} (h : OParts w B g cap G A N P) {j : Nat} (hj : j < G) : ∃ gl cl, w.cell? ⟨g, j, none⟩ = some (.slice (some ⟨gl, 0, none⟩) A cl) ∧ ∀ a, a < A → ∃ r c, w.cell? ⟨gl, a, none⟩ = some (.slice (some ⟨r, 0, none⟩) N c) ∧ ∀ q, q < N → w.cell? ⟨r, q, none⟩ = some (.int .i64 (P j a q)) := by
  obtain ⟨V, h1, h2, h3⟩ := h.out
  obtain ⟨gl, cl, R, C, k1, k2, k3, k4, k5⟩ := (h3 j hj).out
  refine ⟨gl, cl, by rw [← k1]; exact h1.cell hj, fun a ha => ⟨R a, C a, k2.cell ha, fun q hq => (k3 a ha).cell hq⟩⟩
theorem OParts.push {w : World} {B g cap G A N : Nat} {P : Nat → Nat → Nat → Int} (h : OParts w B g cap G A N P) (hB : B ≤ w.heap.size) : ∃ V, Own w 37 g cap G V ∧
    ∀ (wr w' : World) (g' cap' : Nat) (v : Value), Below w.heap.size w wr → LOk wr g v A N (P G) → Own w' 37 g' cap' (G + 1) (fun j => if j = G then v else V j) → wr.grownBy w' (some g) → (g' = g ∨ wr.heap.size ≤ g') → OParts w' B g' cap' (G + 1) A N P := by
  obtain ⟨V, h1, h2, h3⟩ := h.out
  refine ⟨V, h1, fun wr w' g' cap' v hb hv hO hgr hg => ⟨_, hO, by have := hb.size; omega, fun j hj => ?_⟩⟩
  by_cases e : j = G
  · show LOk w' g' (if j = G then v else V j) A N (P j)
    rw [if_pos e, e]; exact hv.chg (Chg.of_grown hgr) hg
  · show LOk w' g' (if j = G then v else V j) A N (P j)
    rw [if_neg e]
    exact ((h3 j (by omega)).chg (Chg.of_below hb _) (Or.inl rfl)).chg (Chg.of_grown hgr) hg
theorem belowOW {w wo W : World} {p : Int} {ao : Option Addr} {n c : Nat} (h : BoxD w p ao n c W ∧ Below wo.heap.size wo W) : Below w.heap.size w W := h.1.2.2.2
theorem own3 (w : World) (e : TypeId) (u0 u1 u2 : Value) : Own (w.alloc (.cells #[u0, u1, u2] e)) e w.heap.size 3 3 (fun a => if a = 0 then u0 else if a = 1 then u1 else u2) :=
  Own.new w e #[u0, u1, u2] _ (by simp) fun i hi => by
    have hi : i < 3 := by simpa using hi
    have h3 : i = 0 ∨ i = 1 ∨ i = 2 := by omega
    rcases h3 with rfl | rfl | rfl <;> rfl

set_option maxRecDepth 100000 in
set_option maxHeartbeats 16000000 in
theorem sNuc_c (p : Int) (sv : Value) (n : Nat) (s : Nat → Int) (cen : Bool) (A : Nat) (hA : A = if cen = true then 4 else 3) (w : World) (hd : DV w sv p n s) (hpr : primeB p = true) :
    Calls Try.prog 105 #[dbl p sv, .bool cen] w fun e w' => CopyT w w' e (nucQ p s n A).2 (fun _ => 2 ^ n) (nucQ p s n A).1 := by
  obtain ⟨ao, c, _, _, rfl, qq⟩ := hd.ints.out
  clear qq
  have hbd := primeB_bd hpr
  have hp2 : 2 ≤ p := by omega
  obtain ⟨e0, e1, e2, e3⟩ := box0 w p ao n c 26
  have BX := Lib.hid (box0 w p ao n c 26)
  have hn4 := hd.le
  have hM0 : 0 < 2 ^ n := Nat.pos_of_ne_zero (by simp)
  have hM16 := pow_le hn4
  have hA4 : A ≤ 4 := by cases cen <;> simp at hA <;> omega
  have hA1 : 3 ≤ A := by cases cen <;> simp at hA <;> omega
  have hAh := Lib.hid hA
  clear hA
  have HOne : Hid (∀ W (i : Nat), Below w.heap.size w W → i < 2 ^ n → Calls Try.prog 118 #[dbl p (.slice ao n c), .int .i64 i] W fun e w' => ∃ g cg, e = .returned (.slice (some ⟨g, 0, none⟩) (2 ^ n) cg) ∧ W.heap.size ≤ g ∧ Below W.heap.size W w' ∧ Own w' 2 g cg (2 ^ n) (fun j => .int .i64 (dltU i j))) := fun W i hb hi =>
    (sOne_c p _ n s i W (hd.below hb) hp2 hi).mono fun e w' h => by
      obtain ⟨g, cg, q1, q2, q3, q4, _⟩ := h.out
      exact ⟨g, cg, q1, q2, q3, q4⟩
  have HAs : Hid (∀ W xv yv zv X Y Z, Below w.heap.size w W → Ints W xv (2 ^ n) X → Ints W yv (2 ^ n) Y → Ints W zv (2 ^ n) Z → InP p (2 ^ n) X → InP p (2 ^ n) Y → InP p (2 ^ n) Z → Calls Try.prog 145 #[dbl p (.slice ao n c), xv, yv, zv] W fun e w' => ∃ g cg, e = .returned (.slice (some ⟨g, 0, none⟩) (2 ^ n) cg) ∧ W.heap.size ≤ g ∧ Below W.heap.size W w' ∧ Own w' 2 g cg (2 ^ n) (fun j => .int .i64 (asF p s n X Y Z j))) := fun W xv yv zv X Y Z hb h1 h2 h3 k1 k2 k3 =>
    (sAssoc_c p _ _ _ _ n s X Y Z W (hd.below hb) ⟨h1, k1⟩ ⟨h2, k2⟩ ⟨h3, k3⟩).mono fun e w' h => by
      obtain ⟨g, cg, q1, q2, q3, q4, _⟩ := h.out
      exact ⟨g, cg, q1, q2, q3, q4⟩
  have HCo : Hid (∀ W xv yv X Y, Below w.heap.size w W → Ints W xv (2 ^ n) X → Ints W yv (2 ^ n) Y → InP p (2 ^ n) X → InP p (2 ^ n) Y → Calls Try.prog 146 #[dbl p (.slice ao n c), xv, yv] W fun e w' => ∃ g cg, e = .returned (.slice (some ⟨g, 0, none⟩) (2 ^ n) cg) ∧ W.heap.size ≤ g ∧ Below W.heap.size W w' ∧ Own w' 2 g cg (2 ^ n) (fun j => .int .i64 (coF p s n X Y j))) := fun W xv yv X Y hb h1 h2 k1 k2 =>
    (sComm_c p _ _ _ n s X Y W (hd.below hb) ⟨h1, k1⟩ ⟨h2, k2⟩).mono fun e w' h => by
      obtain ⟨g, cg, q1, q2, q3, q4, _⟩ := h.out
      exact ⟨g, cg, q1, q2, q3, q4⟩
  have HDI : Hid (∀ i, InP p (2 ^ n) (dltU i)) := fun i => dlt_in hp2 _ _
  have HPut : Hid (∀ (S : (Nat → Int) → Prop) (Q : (Nat → Nat → Int) × Nat), RedOf p (2 ^ n) S Q → ∀ W B g cap v X, OTab W B g cap Q.2 (fun _ => 2 ^ n) Q.1 → B ≤ W.heap.size → Ints W v (2 ^ n) X → InP p (2 ^ n) X → Calls Try.prog 119 #[.int .i64 p, .slice (some ⟨g, 0, none⟩) Q.2 cap, v] W fun e w' => ∃ g' c', e = .returned (.slice (some ⟨g', 0, none⟩) (putS p (2 ^ n) X Q).2 c') ∧ Below W.heap.size W w' ∧ OTab w' B g' c' (putS p (2 ^ n) X Q).2 (fun _ => 2 ^ n) (putS p (2 ^ n) X Q).1) := fun S Q hQ W B g cap v X h1 h2 h3 h4 => sPut_c p g cap Q.2 (2 ^ n) B Q.1 v X W h1 h2 h3 ⟨hM0, by omega⟩ hpr h4 hQ.red
  have HEq : Hid (∀ x y a q Q, x < 2 ^ n → y < 2 ^ n → a < A → q < 2 ^ n → RedOf p (2 ^ n) (EqP p s n A x y a q) Q → (ldd (2 ^ n) (eqR p s n x y a q) < 2 ^ n → RedOf p (2 ^ n) (EqP p s n A x y a (q + 1)) (putS p (2 ^ n) (eqR p s n x y a q) Q)) ∧ (¬ ldd (2 ^ n) (eqR p s n x y a q) < 2 ^ n → RedOf p (2 ^ n) (EqP p s n A x y a (q + 1)) Q)) := fun x y a q Q h1 h2 h3 h4 h => EqP_put hpr h1 h2 h3 h4 h
  have HEi : Hid (∀ x y a q, InP p (2 ^ n) (eqR p s n x y a q)) := fun x y a q => eqR_in (by omega) s n x y a q _
  have HEa : Hid (∀ x y a Q, RedOf p (2 ^ n) (EqP p s n A x y a (2 ^ n)) Q → RedOf p (2 ^ n) (EqP p s n A x y (a + 1) 0) Q) := fun x y a Q h => h.iff fun u => EqP_a u
  have HEk : Hid (∀ x y Q, RedOf p (2 ^ n) (EqP p s n A x y A 0) Q → RedOf p (2 ^ n) (EqP p s n A x (y + 1) 0 0) Q) := fun x y Q h => h.iff fun u => EqP_k u
  have HEx : Hid (∀ x Q, RedOf p (2 ^ n) (EqP p s n A x (2 ^ n) 0 0) Q → RedOf p (2 ^ n) (EqP p s n A (x + 1) 0 0 0) Q) := fun x Q h => h.iff fun u => EqP_i u
  have HFi : Hid (∀ (W : World) (v : Value) (X : Nat → Int), Ints W v (2 ^ n) X → Calls Try.prog 147 #[v] W fun e w' => e = .returned (.int .i64 (ldd (2 ^ n) X)) ∧ W = w') := fun W v X h => sFst_c v (2 ^ n) X W h (by omega)
  have HK : Hid (∀ W v Q, RedOf p (2 ^ n) (EqP p s n A (2 ^ n) 0 0 0) Q → Tab W v Q.2 (fun _ => 2 ^ n) Q.1 → Calls Try.prog 127 #[.int .i64 p, .int .i64 ((2 ^ n : Nat) : Int), v] W fun e w' => CopyT W w' e (nucQ p s n A).2 (fun _ => 2 ^ n) (nucQ p s n A).1) := fun W v Q hQ h => by
    have hQ2 := hQ.iff fun u => EqP_all (p := p) (s := s) (n := n) (A := A) u
    have hs := nuc_s hpr hQ2
    exact (sK12_c p v Q.2 (2 ^ n) Q.1 W h ⟨hM0, by omega⟩ (by have := hQ.le; omega) hpr hQ.inp).mono fun e w' hc => hc.turn hs.1 hs.2
  have HR0 : Hid (RedOf p (2 ^ n) (EqP p s n A 0 0 0 0) ((fun _ _ => 0), 0)) := (RedOf.nil p (2 ^ n) (fun _ _ => 0)).iff fun u => (EqP_zero (p := p) (s := s) (n := n) (A := A) u).symm
  have HQL : Hid (∀ S Q, RedOf p (2 ^ n) S Q → Q.2 ≤ 2 ^ n) := fun S Q h => h.le
  obtain ⟨Z, hZ⟩ : ∃ Z, nucQ p s n A = Z := ⟨_, rfl⟩
  rw [hZ] at HK ⊢
  obtain ⟨M, hM⟩ : ∃ M, 2 ^ n = M := ⟨_, rfl⟩
  have HZ : Hid (∀ W, Calls Try.prog 124 #[dbl p (.slice ao n c)] W fun e w' => Makes W w' e (.int .i64 ((M : Nat) : Int))) := fun W => hM ▸ sSize_c p ao n c W hn4
  rw [hM] at HOne HAs HCo HDI HPut HEq HEi HEa HEk HEx HFi HK HR0 HQL hM0 hM16 ⊢
  clear hM hZ hd
  go_enter Try.func105, Try.ntmps105
  go_wp2_with fail
  refine Calls.makes' (HZ.out _) _ fun w1 hb1 => ?_
  have BX1 := Lib.hid (boxKeep hb1 BX.out)
  have f2 := BX1.out.2.2.1
  have HT1 : Hid (OTab (w1.alloc (.cells #[] 24)) (w.heap.size + 1) w1.heap.size 0 0 (fun _ => M) (fun _ _ => 0)) := ((OTab.empty w1).mono (by omega)).congr (fun i hi => absurd hi (Nat.not_lt_zero _)) (fun i j hi => absurd hi (Nat.not_lt_zero _))
  have BXA : Hid (BoxD w p ao n c (w1.alloc (.cells #[] 24))) := boxKeep ((Below.refl _ _).alloc (Nat.le_refl _) _) BX1.out
  clear e0 e1 e2 e3 BX hb1 BX1 f2
  go_wp2_with fail
  go_loopg [6, 7] M (fun g o i wr => ∃ x : Nat, x ≤ M ∧ g = M - x ∧ i = .int .i64 x ∧ BoxD w p ao n c wr ∧ ∃ (Q : (Nat → Nat → Int) × Nat) (g' c' : Nat), o = .slice (some ⟨g', 0, none⟩) Q.2 c' ∧ Hid (RedOf p M (EqP p s n A x 0 0 0) Q) ∧ Hid (OTab wr (w.heap.size + 1) g' c' Q.2 (fun _ => M) Q.1))
  case atStart => exact ⟨0, Nat.zero_le _, rfl, rfl, BXA.out, ((fun _ _ => 0), 0), _, _, rfl, HR0.out, HT1.out⟩
  case round =>
    obtain ⟨x, hx, rfl, rfl, ⟨f0, f1, f2, f3⟩, Q, g', c', rfl, hR, hO⟩ := hrel
    have BX0 := Lib.hid (show BoxD w p ao n c wr from ⟨f0, f1, f2, f3⟩)
    clear BXA HT1
    by_cases hxd : x < M
    · go_wp2_with fail
      go_loopg [6, 8] M (fun g o i wr => ∃ y : Nat, y ≤ M ∧ g = M - y ∧ i = .int .i64 y ∧ BoxD w p ao n c wr ∧ ∃ (Q : (Nat → Nat → Int) × Nat) (g' c' : Nat), o = .slice (some ⟨g', 0, none⟩) Q.2 c' ∧ Hid (RedOf p M (EqP p s n A x y 0 0) Q) ∧ Hid (OTab wr (w.heap.size + 1) g' c' Q.2 (fun _ => M) Q.1))
      case atStart => exact ⟨0, Nat.zero_le _, rfl, rfl, BX0.out, Q, _, _, rfl, hR.out, hO.out⟩
      case round =>
        clear hR hO BX0 f0 f1 f2 f3
        obtain ⟨y, hy, rfl, rfl, ⟨f0, f1, f2, f3⟩, Q, g', c', rfl, hR, hO⟩ := hrel
        obtain ⟨wo, rfl⟩ : ∃ wo, wo = wr := ⟨_, rfl⟩
        have BX0 := Lib.hid (show BoxD w p ao n c wo from ⟨f0, f1, f2, f3⟩)
        by_cases hyd : y < M
        · obtain ⟨P, hP⟩ : ∃ P : Nat → Nat → Nat → Int, (fun j a q => nucF p s n x y a (dltU j) q) = P := ⟨_, rfl⟩
          have HP0 : Hid (∀ j a, P j a = nucF p s n x y a (dltU j)) := fun j a => by rw [← hP]
          have HPA : Hid (OParts (wo.alloc (.cells #[] 37)) wo.heap.size wo.heap.size 0 0 A M P) := ⟨fun _ => .slice none 0 0, Own.empty _ _ _, Nat.le_refl _, fun j hj => absurd hj (Nat.not_lt_zero _)⟩
          have BXP : Hid (BoxD w p ao n c (wo.alloc (.cells #[] 37))) := boxKeep ((Below.refl _ _).alloc (Nat.le_refl _) _) BX0.out
          have HBP : Hid (Below wo.heap.size wo (wo.alloc (.cells #[] 37))) := (Below.refl _ _).alloc (Nat.le_refl _) _
          clear hP
          go_wp2_with fail
          go_loopg [9, 10] M (fun g o i wq => ∃ j : Nat, j ≤ M ∧ g = M - j ∧ i = .int .i64 j ∧ BoxD w p ao n c wq ∧ Hid (Below wo.heap.size wo wq) ∧ ∃ gp cp, o = .slice (some ⟨gp, 0, none⟩) j cp ∧ Hid (OParts wq wo.heap.size gp cp j A M P))
          case atStart => exact ⟨0, Nat.zero_le _, rfl, rfl, BXP.out, HBP.out, _, _, rfl, HPA.out⟩
          case round =>
            clear f0 f1 BXP HBP HPA
            obtain ⟨j, hj, rfl, rfl, ⟨j0, j1, j2, j3⟩, hbj, gp, cp, rfl, hPa⟩ := hrel
            have BXj := Lib.hid (show BoxD w p ao n c wr from ⟨j0, j1, j2, j3⟩)
            by_cases hjd : j < M
            · obtain ⟨V, hV, hpush⟩ := hPa.out.push hbj.out.size
              have HPU := Lib.hid hpush
              have HV := Lib.hid hV
              have hgpB := hPa.out.base
              have hgpl := hPa.out.lt
              clear hpush hV
              go_wp2_with fail
              go_region_held3 (fun W => (W.cell? ⟨w.heap.size, 0, none⟩ = some (.int .i64 p) ∧ W.cell? ⟨w.heap.size, 1, none⟩ = some (.slice ao n c) ∧ w.heap.size < W.heap.size ∧ Below w.heap.size w W) ∧ Below wr.heap.size wr W)
                ((first | assumption | exact ⟨boxDrew ⟨j0, j1, j2, j3⟩, drewB _⟩ | exact keepOD (by assumption) (by assumption)))
                ((first
                  | (go_at_call 118; have hx := hb12; refine (HOne.out _ y (belowOW (by assumption)) hyd).mono ?_; rintro e w13 ⟨g13, c13, rfl, hg13, hb13, hO13⟩)
                  | (go_at_call 118; have hx := hb11; refine (HOne.out _ x (belowOW (by assumption)) hxd).mono ?_; rintro e w12 ⟨g12, c12, rfl, hg12, hb12, hO12⟩)
                  | (go_at_call 118; refine (HOne.out _ j (belowOW (by assumption)) hjd).mono ?_; rintro e w11 ⟨g11, c11, rfl, hg11, hb11, hO11⟩)))
              have hS13 : BoxD w p ao n c w13 ∧ Below wr.heap.size wr w13 := by assumption
              have HS13 := Lib.hid hS13
              have HX := Lib.hid ((hO11.kept hb12).kept hb13).ints
              have HY := Lib.hid (hO12.kept hb13).ints
              have HZz := Lib.hid hO13.ints
              have HA1 : Hid (∀ W, BoxD w p ao n c W ∧ Below w13.heap.size w13 W → Calls Try.prog 145 #[dbl p (.slice ao n c), .slice (some ⟨g11, 0, none⟩) M c11, .slice (some ⟨g12, 0, none⟩) M c12, .slice (some ⟨g13, 0, none⟩) M c13] W fun e w' => ∃ g cg, e = .returned (.slice (some ⟨g, 0, none⟩) M cg) ∧ W.heap.size ≤ g ∧ Below W.heap.size W w' ∧ Own w' 2 g cg M (fun q => .int .i64 (asF p s n (dltU j) (dltU x) (dltU y) q))) := fun W h => HAs.out W _ _ _ _ _ _ h.1.2.2.2 (HX.out.below h.2) (HY.out.below h.2) (HZz.out.below h.2) (HDI.out _) (HDI.out _) (HDI.out _)
              have HA2 : Hid (∀ W, BoxD w p ao n c W ∧ Below w13.heap.size w13 W → Calls Try.prog 145 #[dbl p (.slice ao n c), .slice (some ⟨g12, 0, none⟩) M c12, .slice (some ⟨g11, 0, none⟩) M c11, .slice (some ⟨g13, 0, none⟩) M c13] W fun e w' => ∃ g cg, e = .returned (.slice (some ⟨g, 0, none⟩) M cg) ∧ W.heap.size ≤ g ∧ Below W.heap.size W w' ∧ Own w' 2 g cg M (fun q => .int .i64 (asF p s n (dltU x) (dltU j) (dltU y) q))) := fun W h => HAs.out W _ _ _ _ _ _ h.1.2.2.2 (HY.out.below h.2) (HX.out.below h.2) (HZz.out.below h.2) (HDI.out _) (HDI.out _) (HDI.out _)
              have HA3 : Hid (∀ W, BoxD w p ao n c W ∧ Below w13.heap.size w13 W → Calls Try.prog 145 #[dbl p (.slice ao n c), .slice (some ⟨g12, 0, none⟩) M c12, .slice (some ⟨g13, 0, none⟩) M c13, .slice (some ⟨g11, 0, none⟩) M c11] W fun e w' => ∃ g cg, e = .returned (.slice (some ⟨g, 0, none⟩) M cg) ∧ W.heap.size ≤ g ∧ Below W.heap.size W w' ∧ Own w' 2 g cg M (fun q => .int .i64 (asF p s n (dltU x) (dltU y) (dltU j) q))) := fun W h => HAs.out W _ _ _ _ _ _ h.1.2.2.2 (HY.out.below h.2) (HZz.out.below h.2) (HX.out.below h.2) (HDI.out _) (HDI.out _) (HDI.out _)
              have HC1 : Hid (∀ W, BoxD w p ao n c W ∧ Below w13.heap.size w13 W → Calls Try.prog 146 #[dbl p (.slice ao n c), .slice (some ⟨g11, 0, none⟩) M c11, .slice (some ⟨g12, 0, none⟩) M c12] W fun e w' => ∃ g cg, e = .returned (.slice (some ⟨g, 0, none⟩) M cg) ∧ W.heap.size ≤ g ∧ Below W.heap.size W w' ∧ Own w' 2 g cg M (fun q => .int .i64 (coF p s n (dltU j) (dltU x) q))) := fun W h => HCo.out W _ _ _ _ h.1.2.2.2 (HX.out.below h.2) (HY.out.below h.2) (HDI.out _) (HDI.out _)
              obtain ⟨h0, h1, h2, h3⟩ := hS13.1
              have l13 := hS13.2.size
              clear hO11 hb11 hg11 hO12 hb12 hg12 hO13 hb13 hg13 hS13 j0 j1
              go_wp2_with fail
              go_region_held3 (fun W => (W.cell? ⟨w.heap.size, 0, none⟩ = some (.int .i64 p) ∧ W.cell? ⟨w.heap.size, 1, none⟩ = some (.slice ao n c) ∧ w.heap.size < W.heap.size ∧ Below w.heap.size w W) ∧ Below w13.heap.size w13 W)
                ((first | assumption | exact ⟨boxDrew ⟨h0, h1, h2, h3⟩, drewB _⟩ | exact keepOD (by assumption) (by assumption) | exact keepOD ((Below.refl _ _).alloc (Nat.le_refl _) _) (by assumption)))
                ((first
                  | (go_at_call 145; have hx := hb22; refine (HA3.out _ (by assumption)).mono ?_; rintro e w23 ⟨g23, c23, rfl, hg23, hb23, hO23⟩)
                  | (go_at_call 145; have hx := hb21; refine (HA2.out _ (by assumption)).mono ?_; rintro e w22 ⟨g22, c22, rfl, hg22, hb22, hO22⟩)
                  | (go_at_call 145; refine (HA1.out _ (by assumption)).mono ?_; rintro e w21 ⟨g21, c21, rfl, hg21, hb21, hO21⟩)))
              have hS24 : BoxD w p ao n c (w23.alloc (.cells #[.slice (some ⟨g21, 0, none⟩) M c21, .slice (some ⟨g22, 0, none⟩) M c22, .slice (some ⟨g23, 0, none⟩) M c23] 24)) ∧ Below w13.heap.size w13 (w23.alloc (.cells #[.slice (some ⟨g21, 0, none⟩) M c21, .slice (some ⟨g22, 0, none⟩) M c22, .slice (some ⟨g23, 0, none⟩) M c23] 24)) := by assumption
              have hOL := own3 w23 24 (.slice (some ⟨g21, 0, none⟩) M c21) (.slice (some ⟨g22, 0, none⟩) M c22) (.slice (some ⟨g23, 0, none⟩) M c23)
              have l21 := hb21.size
              have l22 := hb22.size
              have l23 := hb23.size
              have u21 := hO21.lt
              have u22 := hO22.lt
              have u23 := hO23.lt
              have l21' : w13.heap.size ≤ w21.heap.size := l21
              have l22' : w21.heap.size ≤ w22.heap.size := l22
              have l23' : w22.heap.size ≤ w23.heap.size := l23
              have q21 : w13.heap.size ≤ g21 := hg21
              have q22 : w21.heap.size ≤ g22 := hg22
              have q23 : w22.heap.size ≤ g23 := hg23
              have o21 := ((hO21.kept hb22).kept hb23).alloc (.cells #[.slice (some ⟨g21, 0, none⟩) M c21, .slice (some ⟨g22, 0, none⟩) M c22, .slice (some ⟨g23, 0, none⟩) M c23] 24)
              have o22 := (hO22.kept hb23).alloc (.cells #[.slice (some ⟨g21, 0, none⟩) M c21, .slice (some ⟨g22, 0, none⟩) M c22, .slice (some ⟨g23, 0, none⟩) M c23] 24)
              have o23 := hO23.alloc (.cells #[.slice (some ⟨g21, 0, none⟩) M c21, .slice (some ⟨g22, 0, none⟩) M c22, .slice (some ⟨g23, 0, none⟩) M c23] 24)
              have l24 : (w23.alloc (.cells #[.slice (some ⟨g21, 0, none⟩) M c21, .slice (some ⟨g22, 0, none⟩) M c22, .slice (some ⟨g23, 0, none⟩) M c23] 24)).heap.size = w23.heap.size + 1 := by simp
              obtain ⟨w24, hw24⟩ : ∃ W, w23.alloc (.cells #[.slice (some ⟨g21, 0, none⟩) M c21, .slice (some ⟨g22, 0, none⟩) M c22, .slice (some ⟨g23, 0, none⟩) M c23] 24) = W := ⟨_, rfl⟩
              rw [hw24] at hS24 hOL o21 o22 o23 l24 ⊢
              obtain ⟨gl, hgl⟩ : ∃ g, w23.heap.size = g := ⟨_, rfl⟩
              rw [hgl] at hOL l23' l24 u23 ⊢
              have l24b : gl < w24.heap.size := by omega
              have HO0 := Lib.hid o21
              have HO1 := Lib.hid o22
              have HO2 := Lib.hid o23
              have HOL := Lib.hid hOL
              have HS24 := Lib.hid hS24
              have HB24 : Hid (Below wr.heap.size wr w24) := HS13.out.2.trans (hS24.2.mono l13)
              clear hw24 hgl hO21 hO22 hO23 hb21 hb22 hb23 hg21 hg22 hg23 l21 l22 l23 o21 o22 o23 hOL hS24 HA1 HA2 HA3 h0 h1 l24
              cases cen
              · obtain rfl : A = 3 := by simpa using hAh.out
                have LKN : Hid (LOk w24 gp (.slice (some ⟨gl, 0, none⟩) 3 3) 3 M (P j)) := by
                  refine ⟨gl, 3, fun a => if a = 0 then g21 else if a = 1 then g22 else g23, fun a => if a = 0 then c21 else if a = 1 then c22 else c23, rfl, HOL.out.congr fun a ha => ?_, fun a ha => ?_, by omega, fun a ha => ?_⟩
                  · have h3 : a = 0 ∨ a = 1 ∨ a = 2 := by omega
                    rcases h3 with rfl | rfl | rfl <;> simp
                  · have h3 : a = 0 ∨ a = 1 ∨ a = 2 := by omega
                    rw [HP0.out]
                    rcases h3 with rfl | rfl | rfl
                    · exact HO0.out
                    · exact HO1.out
                    · exact HO2.out
                  · have h3 : a = 0 ∨ a = 1 ∨ a = 2 := by omega
                    rcases h3 with rfl | rfl | rfl
                    · show g21 ≠ gp; omega
                    · show g22 ≠ gp; omega
                    · show g23 ≠ gp; omega
                have HBN := HB24
                have HVN := HV.out.kept HB24.out
                have BXN := Lib.hid HS24.out.1
                clear HO0 HO1 HO2 HOL
                go_wp2_with (at_builtin; go_must (refine wpList_push _ rfl _ _ _ _ elC rfl HVN (.slice (some ⟨gl, 0, none⟩) 3 3) rfl rfl rfl (by omega) (by omega) ?_); intro g9 c9 w9 hO9 hg9 hgr9)
                go_roundg (M - (j + 1))
                case measure => omega
                case rel =>
                  have l1 := HBN.out.size
                  have l2 := hgr9.size
                  exact ⟨j + 1, by omega, rfl, by go_num, boxGrown hgr9 (by omega) BXN.out, (hbj.out.trans (HBN.out.mono hbj.out.size)).grown hgr9 (by omega) (fun q e => by injection e with e; omega), g9, c9, rfl, HPU.out _ _ _ _ _ HBN.out LKN.out hO9 hgr9 hg9⟩
              · obtain rfl : A = 4 := by simpa using hAh.out
                obtain ⟨h0, h1, h2, h3⟩ := HS24.out.1
                go_wp2_with fail
                go_at_call 146
                refine (HC1.out _ HS24.out).mono ?_
                rintro e w25 ⟨g25, c25, rfl, hg25, hb25, hO25⟩
                have hOL5 := HOL.out.kept hb25
                have HB25 := Lib.hid (HB24.out.trans (hb25.mono HB24.out.size))
                have BX25 := Lib.hid (boxKeep hb25 HS24.out.1)
                have l25 := hb25.size
                have HO0' := Lib.hid (HO0.out.kept hb25)
                have HO1' := Lib.hid (HO1.out.kept hb25)
                have HO2' := Lib.hid (HO2.out.kept hb25)
                have HO3' := Lib.hid hO25
                have hlg := hO25.lt
                clear h0 h1 HO0 HO1 HO2 HOL hO25 hb25
                go_upto_region 17 with (at_builtin; refine wpList_push _ rfl _ _ _ _ elR rfl hOL5 (.slice (some ⟨g25, 0, none⟩) M c25) rfl rfl rfl (by omega) (by omega) ?_; intro g26 c26 w26 hO26 hg26 hgr26)
                have l26 := hgr26.size
                have LKN : Hid (LOk w26 gp (.slice (some ⟨g26, 0, none⟩) 4 c26) 4 M (P j)) := by
                  refine ⟨g26, c26, fun a => if a = 0 then g21 else if a = 1 then g22 else if a = 2 then g23 else g25, fun a => if a = 0 then c21 else if a = 1 then c22 else if a = 2 then c23 else c25, rfl, hO26.congr fun a ha => ?_, fun a ha => ?_, by omega, fun a ha => ?_⟩
                  · have h3 : a = 0 ∨ a = 1 ∨ a = 2 ∨ a = 3 := by omega
                    rcases h3 with rfl | rfl | rfl | rfl <;> simp
                  · have h3 : a = 0 ∨ a = 1 ∨ a = 2 ∨ a = 3 := by omega
                    rw [HP0.out]
                    rcases h3 with rfl | rfl | rfl | rfl
                    · exact HO0'.out.grown hgr26 (by intro e; injection e with e; omega)
                    · exact HO1'.out.grown hgr26 (by intro e; injection e with e; omega)
                    · exact HO2'.out.grown hgr26 (by intro e; injection e with e; omega)
                    · exact HO3'.out.grown hgr26 (by intro e; injection e with e; omega)
                  · have h3 : a = 0 ∨ a = 1 ∨ a = 2 ∨ a = 3 := by omega
                    rcases h3 with rfl | rfl | rfl | rfl
                    · show g21 ≠ gp; omega
                    · show g22 ≠ gp; omega
                    · show g23 ≠ gp; omega
                    · show g25 ≠ gp; omega
                have HBN : Hid (Below wr.heap.size wr w26) := HB25.out.grown hgr26 HB25.out.size (fun q e => by injection e with e; omega)
                have HVN := HV.out.kept HBN.out
                have BXN := Lib.hid (boxGrown hgr26 (by omega) BX25.out)
                clear HO0' HO1' HO2' HO3' hO26 hg26 hgr26 hOL5 HB25 BX25
                go_wp2_with (at_builtin; go_must (refine wpList_push _ rfl _ _ _ _ elC rfl HVN (.slice (some ⟨g26, 0, none⟩) 4 c26) rfl rfl rfl (by omega) (by omega) ?_); intro g9 c9 w9 hO9 hg9 hgr9)
                go_roundg (M - (j + 1))
                case measure => omega
                case rel =>
                  have l1 := HBN.out.size
                  have l2 := hgr9.size
                  exact ⟨j + 1, by omega, rfl, by go_num, boxGrown hgr9 (by omega) BXN.out, (hbj.out.trans (HBN.out.mono hbj.out.size)).grown hgr9 (by omega) (fun q e => by injection e with e; omega), g9, c9, rfl, HPU.out _ _ _ _ _ HBN.out LKN.out hO9 hgr9 hg9⟩
            · obtain rfl : j = M := by omega
              have hat0 := hPa.out.at hM0
              obtain ⟨gl0, cl0, hc0, _⟩ := hat0
              have HPt := Lib.hid hPa.out
              have hOP := Lib.hid (hO.out.kept hbj.out)
              have hgpl := hPa.out.lt
              obtain ⟨wP, rfl⟩ : ∃ wP, wP = wr := ⟨_, rfl⟩
              have HC0 := Lib.hid hc0
              clear hPa hO hc0 j0 j1
              go_wp2_with fail
              go_loopg [6, 15] A (fun g o i wq => ∃ a : Nat, a ≤ A ∧ g = A - a ∧ i = .int .i64 a ∧ BoxD w p ao n c wq ∧ Hid (Below wP.heap.size wP wq) ∧ ∃ (Q : (Nat → Nat → Int) × Nat) (g' c' : Nat), o = .slice (some ⟨g', 0, none⟩) Q.2 c' ∧ Hid (RedOf p j (EqP p s n A x y a 0) Q) ∧ Hid (OTab wq (w.heap.size + 1) g' c' Q.2 (fun _ => j) Q.1))
              case atStart => exact ⟨0, Nat.zero_le _, rfl, rfl, BXj.out, Below.refl _ _, Q, _, _, rfl, hR.out, hOP.out⟩
              case round =>
                clear hR hOP BXj BX0
                obtain ⟨a, ha, rfl, rfl, ⟨j0, j1, j2', j3'⟩, hba, Q, g', c', rfl, hR, hO⟩ := hrel
                have BXa := Lib.hid (show BoxD w p ao n c wr from ⟨j0, j1, j2', j3'⟩)
                have hc0 : wr.cell? ⟨gp, 0, none⟩ = some (.slice (some ⟨gl0, 0, none⟩) A cl0) := by rw [hba.out.cell (p := ⟨gp, 0, none⟩) (lt_of_cell HC0.out)]; exact HC0.out
                by_cases had : a < A
                · go_wp2_with fail
                  go_loopg [6, 16] j (fun g o i wq => ∃ q : Nat, q ≤ j ∧ g = j - q ∧ i = .int .i64 q ∧ BoxD w p ao n c wq ∧ Hid (Below wP.heap.size wP wq) ∧ ∃ (Q : (Nat → Nat → Int) × Nat) (g' c' : Nat), o = .slice (some ⟨g', 0, none⟩) Q.2 c' ∧ Hid (RedOf p j (EqP p s n A x y a q) Q) ∧ Hid (OTab wq (w.heap.size + 1) g' c' Q.2 (fun _ => j) Q.1))
                  case atStart => exact ⟨0, Nat.zero_le _, rfl, rfl, BXa.out, hba.out, Q, _, _, rfl, hR.out, hO.out⟩
                  case round =>
                    clear hR hO BXa j0 j1 j2' j3' hc0 hba
                    obtain ⟨q, hq, rfl, rfl, ⟨j0, j1, j2', j3'⟩, hba, Q, g', c', rfl, hR, hO⟩ := hrel
                    have BXa := Lib.hid (show BoxD w p ao n c wr from ⟨j0, j1, j2', j3'⟩)
                    obtain ⟨wb, rfl⟩ : ∃ wb, wb = wr := ⟨_, rfl⟩
                    by_cases hqd : q < j
                    · have HRw : Hid (Own (wb.alloc (.cells #[] 2)) 2 wb.heap.size 0 0 (fun t => .int .i64 (eqR p s n x y a q t))) := Own.empty _ _ _
                      have BXb : Hid (BoxD w p ao n c (wb.alloc (.cells #[] 2))) := boxKeep ((Below.refl _ _).alloc (Nat.le_refl _) _) BXa.out
                      have HBb : Hid (Below wb.heap.size wb (wb.alloc (.cells #[] 2))) := (Below.refl _ _).alloc (Nat.le_refl _) _
                      have hsb := hba.out.size
                      go_wp2_with fail
                      go_loopg [17, 18] j (fun g o i wq => ∃ t : Nat, t ≤ j ∧ g = j - t ∧ i = .int .i64 t ∧ BoxD w p ao n c wq ∧ Hid (Below wb.heap.size wb wq) ∧ ∃ gr cr, o = .slice (some ⟨gr, 0, none⟩) t cr ∧ Hid (wb.heap.size ≤ gr) ∧ Hid (Own wq 2 gr cr t (fun t => .int .i64 (eqR p s n x y a q t))))
                      case atStart => exact ⟨0, Nat.zero_le _, rfl, rfl, BXb.out, HBb.out, _, _, rfl, Nat.le_refl _, HRw.out⟩
                      case round =>
                        clear BXb HBb HRw j0 j1
                        obtain ⟨t, ht, rfl, rfl, ⟨k0, k1, k2, k3⟩, hbt, gr, cr, rfl, hgr, hrow⟩ := hrel
                        have BXt := Lib.hid (show BoxD w p ao n c wr from ⟨k0, k1, k2, k3⟩)
                        have hbPt : Below wP.heap.size wP wr := hba.out.trans (hbt.out.mono hsb)
                        by_cases htd : t < j
                        · obtain ⟨glt, clt, z1, hz⟩ := HPt.out.at htd
                          obtain ⟨rt, crt, z2, hz3⟩ := hz a had
                          have z3 := hz3 q hqd
                          have y1 : wr.cell? ⟨gp, t, none⟩ = some (.slice (some ⟨glt, 0, none⟩) A clt) := by rw [hbPt.cell (p := ⟨gp, t, none⟩) (lt_of_cell z1)]; exact z1
                          have y2 : wr.cell? ⟨glt, a, none⟩ = some (.slice (some ⟨rt, 0, none⟩) j crt) := by rw [hbPt.cell (p := ⟨glt, a, none⟩) (lt_of_cell z2)]; exact z2
                          obtain ⟨u, hu⟩ : ∃ u, P t a q = u := ⟨_, rfl⟩
                          have hue : Hid (eqR p s n x y a q t = u) := by show _ = _; rw [← hu, HP0.out]; rfl
                          rw [hu] at z3
                          have y3 : wr.cell? ⟨rt, q, none⟩ = some (.int .i64 u) := by rw [hbPt.cell (p := ⟨rt, q, none⟩) (lt_of_cell z3)]; exact z3
                          have hrw := hrow.out
                          have hgr1 := hgr.out
                          clear hz hz3 z1 z2 z3 hu k0 k1 hbPt
                          go_wp2_with (at_builtin; refine wpList_push _ rfl _ _ _ _ elI rfl hrw (.int .i64 u) rfl rfl rfl (by omega) (by omega) ?_; intro g3 c3 w3 hO3 hg3 hgr3)
                          go_roundg (j - (t + 1))
                          case measure => omega
                          case rel =>
                            have l1 := hbt.out.size
                            have l3 := hgr3.size
                            exact ⟨t + 1, by omega, rfl, by go_num, boxGrown hgr3 (by omega) BXt.out, hbt.out.grown hgr3 l1 (fun q e => by injection e with e; omega), g3, c3, rfl, (show wb.heap.size ≤ g3 by omega), hO3.congr fun i hi => by
                              by_cases e : i = t
                              · subst e; simp [hue.out]
                              · simp [e]⟩
                        · obtain rfl : t = j := by omega
                          have hF := Lib.hid (HFi.out wr _ _ hrow.out.ints)
                          obtain ⟨l, hl⟩ : ∃ l, ldd t (eqR p s n x y a q) = l := ⟨_, rfl⟩
                          have heq := Lib.hid (HEq.out x y a q Q hxd hyd had hqd hR.out)
                          rw [hl] at hF heq
                          have hOt := Lib.hid (hO.out.kept hbt.out)
                          have HBt := Lib.hid hbPt
                          clear hl hbPt k0 k1
                          by_cases hlt : l < t
                          · obtain ⟨Q2, hQ2⟩ : ∃ Q2, putS p t (eqR p s n x y a q) Q = Q2 := ⟨_, rfl⟩
                            have hR2 := Lib.hid (heq.out.1 hlt)
                            have HPc : Hid (Calls Try.prog 119 #[.int .i64 p, .slice (some ⟨g', 0, none⟩) Q.2 c', .slice (some ⟨gr, 0, none⟩) t cr] wr fun e w' => ∃ g2 c2, e = .returned (.slice (some ⟨g2, 0, none⟩) Q2.2 c2) ∧ Below wr.heap.size wr w' ∧ OTab w' (w.heap.size + 1) g2 c2 Q2.2 (fun _ => t) Q2.1) := hQ2 ▸ HPut.out _ Q hR.out wr (w.heap.size + 1) g' c' _ _ hOt.out (by omega) hrow.out.ints (HEi.out x y a q)
                            rw [hQ2] at hR2
                            obtain ⟨k0, k1, k2', k3'⟩ := BXt.out
                            clear hQ2
                            go_wp2_with (first | (go_at_call 147; refine hF.out.mono ?_; rintro e w' ⟨rfl, rfl⟩))
                            go_wp2_with fail
                            go_at_call 119
                            refine HPc.out.mono ?_
                            rintro e w4 ⟨g4, c4, rfl, hb4, hO4⟩
                            go_wp2
                            go_roundg (t - (q + 1))
                            case measure => omega
                            case rel => exact ⟨q + 1, by omega, rfl, by go_num, boxKeep hb4 BXt.out, HBt.out.trans (hb4.mono HBt.out.size), Q2, g4, c4, rfl, hR2.out, hO4⟩
                          · have hR2 := Lib.hid (heq.out.2 hlt)
                            go_wp2_with (first | (go_at_call 147; refine hF.out.mono ?_; rintro e w' ⟨rfl, rfl⟩))
                            go_roundg (t - (q + 1))
                            case measure => omega
                            case rel => exact ⟨q + 1, by omega, rfl, by go_num, BXt.out, HBt.out, Q, g', c', rfl, hR2.out, hOt.out⟩
                    · obtain rfl : q = j := by omega
                      go_wp2
                      go_roundg (A - (a + 1))
                      case measure => omega
                      case rel => exact ⟨a + 1, by omega, rfl, by go_num, BXa.out, hba.out, Q, g', c', rfl, HEa.out x y a Q hR.out, hO.out⟩
                · obtain rfl : a = A := by omega
                  go_wp2
                  go_roundg (j - (y + 1))
                  case measure => omega
                  case rel => exact ⟨y + 1, by omega, rfl, by go_num, BXa.out, Q, g', c', rfl, HEk.out x y Q hR.out, hO.out⟩
        · obtain rfl : y = M := by omega
          go_wp2
          go_roundg (y - (x + 1))
          case measure => omega
          case rel => exact ⟨x + 1, by omega, rfl, by go_num, BX0.out, Q, g', c', rfl, HEx.out x Q hR.out, hO.out⟩
    · obtain rfl : x = M := by omega
      go_wp2_with fail
      go_at_call 127
      refine (HK.out _ _ Q hR.out hO.out.tab).mono ?_
      rintro e w4 ⟨g4, c4, rfl, hb4, hO4⟩
      go_wp2
      go_ret
      exact ⟨g4, c4, rfl, f3.trans (hb4.mono f3.size), hO4.mono f3.size⟩


end Go.Proofs.Ytnnacligfoonbaa
