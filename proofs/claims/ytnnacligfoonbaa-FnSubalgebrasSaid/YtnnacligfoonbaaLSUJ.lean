/-
  For at most three steps, two elements make an associative algebra. No program is in sight. No condition.
-/
import Derived.Test.YtnnacligfoonbaaQF
import Derived.Test.YtnnacligfoonbaaQDJ
import Derived.Test.YtnnacligfoonbaaLXJ
import Derived.StillTailTactics
import Derived.Test.YtnnacligfoonbaaRJ
import Derived.Test.YtnnacligfoonbaaRHJ
import Derived.Test.YtnnacligfoonbaaRCJ
import Derived.Test.YtnnacligfoonbaaLC3
import Derived.Test.YtnnacligfoonbaaLW2
import Derived.Test.YtnnacligfoonbaaDX
set_option linter.unusedVariables false
set_option linter.unusedSimpArgs false
namespace Go.Proofs.Ytnnacligfoonbaa

/-- the unit and two elements -/
def G3 (X Y u : Nat → Int) : Prop := u = dltC 1 0 ∨ u = X ∨ u = Y
/-- and their product -/
def G4 (p : Int) (s : Nat → Int) (n : Nat) (X Y u : Nat → Int) : Prop := u = dltC 1 0 ∨ u = X ∨ u = Y ∨ u = mulF p s n X Y

theorem sq_spn {p : Int} {s : Nat → Int} {n : Nat} {S : (Nat → Int) → Prop} (h1 : Spn p (2 ^ n) S (dltC 1 0)) {Z : Nat → Int} (hZ : Spn p (2 ^ n) S Z) : Spn p (2 ^ n) S (mulF p s n Z Z) :=
  ((hZ.scale (2 * Z 0) (w := fun j => 2 * Z 0 * Z j) fun j _ => Cg.rfl' _ _).comb (-(normF p s n Z)) h1 fun j hj => (sq_cg n Z j hj).trans (Cg.of_eq (by
    show 2 * Z 0 * Z j + -1 * dltC (normF p s n Z) 0 j = 2 * Z 0 * Z j + -(normF p s n Z) * dltC 1 0 j
    unfold dltC
    split
    · rw [Int.mul_one, Int.neg_mul, Int.one_mul]
    · rw [Int.mul_zero, Int.mul_zero])))
theorem xy_yx (p : Int) (s : Nat → Int) (n : Nat) (X Y : Nat → Int) : Spn p (2 ^ n) (G3 X Y) (lin (mulF p s n X Y) 1 (mulF p s n Y X)) := by
  have h1 : Spn p (2 ^ n) (G3 X Y) (dltC 1 0) := .gen (Or.inl rfl)
  have hx : Spn p (2 ^ n) (G3 X Y) X := .gen (Or.inr (Or.inl rfl))
  have hy : Spn p (2 ^ n) (G3 X Y) Y := .gen (Or.inr (Or.inr rfl))
  have hz : Spn p (2 ^ n) (G3 X Y) (lin X 1 Y) := hx.plus 1 hy
  have e1 := (mul_lin (p := p) (s := s) n 1 X Y (lin X 1 Y)).1
  have e2 := (mul_lin (p := p) (s := s) n 1 X Y X).2
  have e3 := (mul_lin (p := p) (s := s) n 1 X Y Y).2
  refine (((sq_spn (s := s) h1 hz).plus (-1) (sq_spn (s := s) h1 hx)).plus (-1) (sq_spn (s := s) h1 hy)).congr fun j hj => ?_
  have k4 := (e1 j hj).trans ((e2 j hj).add ((Cg.rfl' p 1).mul (e3 j hj)))
  refine Cg.symm (((k4.add (Cg.rfl' p (-1 * mulF p s n X X j))).add (Cg.rfl' p (-1 * mulF p s n Y Y j))).trans (Cg.of_eq ?_))
  show mulF p s n X X j + 1 * mulF p s n X Y j + 1 * (mulF p s n Y X j + 1 * mulF p s n Y Y j) + -1 * mulF p s n X X j + -1 * mulF p s n Y Y j = mulF p s n X Y j + 1 * mulF p s n Y X j
  omega

theorem g4_mul {p : Int} (hp : primeB p = true) {s : Nat → Int} {n : Nat} (hn : n ≤ 3) (X Y u v : Nat → Int) (hu : G4 p s n X Y u) (hv : G4 p s n X Y v) : Spn p (2 ^ n) (G4 p s n X Y) (mulF p s n u v) := by
  have s1 : Spn p (2 ^ n) (G4 p s n X Y) (dltC 1 0) := .gen (Or.inl rfl)
  have sx : Spn p (2 ^ n) (G4 p s n X Y) X := .gen (Or.inr (Or.inl rfl))
  have sy : Spn p (2 ^ n) (G4 p s n X Y) Y := .gen (Or.inr (Or.inr (Or.inl rfl)))
  have sxy : Spn p (2 ^ n) (G4 p s n X Y) (mulF p s n X Y) := .gen (Or.inr (Or.inr (Or.inr rfl)))
  have h34 : ∀ {z}, Spn p (2 ^ n) (G3 X Y) z → Spn p (2 ^ n) (G4 p s n X Y) z := fun h => h.mono fun z hz => by
    rcases hz with rfl | rfl | rfl
    · exact s1
    · exact sx
    · exact sy
  have t1 : Spn p (2 ^ n) (G3 X Y) (dltC 1 0) := .gen (Or.inl rfl)
  have tx : Spn p (2 ^ n) (G3 X Y) X := .gen (Or.inr (Or.inl rfl))
  have ty : Spn p (2 ^ n) (G3 X Y) Y := .gen (Or.inr (Or.inr rfl))
  have yx : Spn p (2 ^ n) (G4 p s n X Y) (mulF p s n Y X) := (h34 (xy_yx p s n X Y)).comb (-1) sxy fun j hj => Cg.of_eq (by
    show mulF p s n Y X j = mulF p s n X Y j + 1 * mulF p s n Y X j + -1 * mulF p s n X Y j
    omega)
  have mE : ∀ {z}, Spn p (2 ^ n) (G4 p s n X Y) z → Spn p (2 ^ n) (G4 p s n X Y) (mulF p s n (dltC 1 0) z) := fun h => h.congr (mul_oneL n _)
  have mR : ∀ {z}, Spn p (2 ^ n) (G4 p s n X Y) z → Spn p (2 ^ n) (G4 p s n X Y) (mulF p s n z (dltC 1 0)) := fun h => h.congr (mul_oneR n _)
  have x3 : ∀ {z}, Spn p (2 ^ n) (G3 X Y) z → Spn p (2 ^ n) (G4 p s n X Y) (mulF p s n X z) := fun h => (Lin.mulR p s n X).maps (A := fun z => mulF p s n X z) (fun z hz => by
    rcases hz with rfl | rfl | rfl
    · exact mR sx
    · exact sq_spn s1 sx
    · exact sxy) h
  have y3 : ∀ {z}, Spn p (2 ^ n) (G3 X Y) z → Spn p (2 ^ n) (G4 p s n X Y) (mulF p s n z Y) := fun h => (Lin.mulL p s n Y).maps (A := fun z => mulF p s n z Y) (fun z hz => by
    rcases hz with rfl | rfl | rfl
    · exact mE sy
    · exact sxy
    · exact sq_spn s1 sy) h
  have xxy : Spn p (2 ^ n) (G4 p s n X Y) (mulF p s n X (mulF p s n X Y)) := (y3 (sq_spn (s := s) t1 tx)).congr ((as_eq (as_xxy hp hn X Y)).symm)
  have xyy : Spn p (2 ^ n) (G4 p s n X Y) (mulF p s n (mulF p s n X Y) Y) := (x3 (sq_spn (s := s) t1 ty)).congr (as_eq (as_yxx hp hn Y X))
  have x4 : ∀ {z}, Spn p (2 ^ n) (G4 p s n X Y) z → Spn p (2 ^ n) (G4 p s n X Y) (mulF p s n X z) := fun h => (Lin.mulR p s n X).maps (A := fun z => mulF p s n X z) (fun z hz => by
    rcases hz with rfl | rfl | rfl | rfl
    · exact mR sx
    · exact sq_spn s1 sx
    · exact sxy
    · exact xxy) h
  have y4 : ∀ {z}, Spn p (2 ^ n) (G4 p s n X Y) z → Spn p (2 ^ n) (G4 p s n X Y) (mulF p s n z Y) := fun h => (Lin.mulL p s n Y).maps (A := fun z => mulF p s n z Y) (fun z hz => by
    rcases hz with rfl | rfl | rfl | rfl
    · exact mE sy
    · exact sxy
    · exact sq_spn s1 sy
    · exact xyy) h
  have xyx : Spn p (2 ^ n) (G4 p s n X Y) (mulF p s n (mulF p s n X Y) X) := (x4 yx).congr (as_eq (as_xyx hp hn X Y))
  have yxy : Spn p (2 ^ n) (G4 p s n X Y) (mulF p s n Y (mulF p s n X Y)) := (y4 yx).congr ((as_eq (as_xyx hp hn Y X)).symm)
  rcases hu with rfl | rfl | rfl | rfl
  · exact mE (.gen hv)
  · exact x4 (.gen hv)
  · rcases hv with rfl | rfl | rfl | rfl
    · exact mR sy
    · exact yx
    · exact sq_spn s1 sy
    · exact yxy
  · rcases hv with rfl | rfl | rfl | rfl
    · exact mR sxy
    · exact xyx
    · exact xyy
    · exact sq_spn s1 sxy

theorem as_of_eq {p : Int} {s : Nat → Int} {n : Nat} {X Y Z : Nat → Int} (h : CgV p (2 ^ n) (mulF p s n (mulF p s n X Y) Z) (mulF p s n X (mulF p s n Y Z))) : CgV p (2 ^ n) (asF p s n X Y Z) fun _ => 0 := fun j hj => by
  refine (Cg.mod p _).trans (((h j hj).add (Cg.rfl' p (-1 * mulF p s n X (mulF p s n Y Z) j))).trans (Cg.of_eq ?_))
  show mulF p s n X (mulF p s n Y Z) j + -1 * mulF p s n X (mulF p s n Y Z) j = 0
  omega
theorem as_e1 {p : Int} {s : Nat → Int} {n : Nat} (Y Z : Nat → Int) : CgV p (2 ^ n) (asF p s n (dltC 1 0) Y Z) fun _ => 0 :=
  as_of_eq ((mul_cg n (mul_oneL n Y) (CgV.rfl' _ _ Z)).trans (mul_oneL n _).symm)
theorem as_e2 {p : Int} {s : Nat → Int} {n : Nat} (X Z : Nat → Int) : CgV p (2 ^ n) (asF p s n X (dltC 1 0) Z) fun _ => 0 :=
  as_of_eq ((mul_cg n (mul_oneR n X) (CgV.rfl' _ _ Z)).trans (mul_cg n (CgV.rfl' _ _ X) (mul_oneL n Z)).symm)
theorem as_e3 {p : Int} {s : Nat → Int} {n : Nat} (X Y : Nat → Int) : CgV p (2 ^ n) (asF p s n X Y (dltC 1 0)) fun _ => 0 :=
  as_of_eq ((mul_oneR n _).trans (mul_cg n (CgV.rfl' _ _ X) (mul_oneR n Y)).symm)
theorem as_core {p : Int} (hp : primeB p = true) {s : Nat → Int} {n : Nat} (hn : n ≤ 3) (X Y : Nat → Int) : CgV p (2 ^ n) (asF p s n X Y (mulF p s n X Y)) fun _ => 0 := by
  have h1 : CgV p (2 ^ n) (asF p s n X Y (mulF p s n Y X)) fun _ => 0 := as_of_eq ((moufang hp hn X Y Y).symm.trans ((as_eq (as_xyx hp hn X (mulF p s n Y Y))).trans (mul_cg n (CgV.rfl' _ _ X) (as_eq (as_xxy hp hn Y X)))))
  have h2 : CgV p (2 ^ n) (asF p s n X Y (lin (mulF p s n X Y) 1 (mulF p s n Y X))) fun _ => 0 := (as_lin3 p s n X Y).span (A := fun Z => asF p s n X Y Z) (fun u hu => by
    rcases hu with rfl | rfl | rfl
    · exact as_e3 _ _
    · exact as_xyx hp hn _ _
    · exact as_yxx hp hn _ _) (xy_yx p s n X Y)
  intro j hj
  have h3 := (((as_lin3 p s n X Y).add (mulF p s n X Y) 1 (mulF p s n Y X)) j hj).symm.trans (h2 j hj)
  have h4 : Cg p (asF p s n X Y (mulF p s n X Y) j + 1 * asF p s n X Y (mulF p s n Y X) j) 0 := h3
  refine Cg.trans (Cg.symm ?_) h4
  exact ((Cg.rfl' p _).add ((Cg.rfl' p 1).mul (h1 j hj))).trans (Cg.of_eq (by
    show asF p s n X Y (mulF p s n X Y) j + 1 * 0 = asF p s n X Y (mulF p s n X Y) j
    omega))
theorem as_sw {p : Int} {s : Nat → Int} {n : Nat} (hn : n ≤ 3) {X Y Z : Nat → Int} (h : CgV p (2 ^ n) (asF p s n X Y Z) fun _ => 0) : CgV p (2 ^ n) (asF p s n Y X Z) fun _ => 0 := fun j hj => by
  have h1 : Cg p (asF p s n X Y Z j + 1 * asF p s n Y X Z j) 0 := as_alt hn X Y Z j hj
  have h2 := Cg.symm ((h j hj).add (Cg.rfl' p (1 * asF p s n Y X Z j)))
  refine Cg.trans (Cg.of_eq ?_) (h2.trans h1)
  show asF p s n Y X Z j = 0 + 1 * asF p s n Y X Z j
  omega
theorem as_tn {p : Int} {s : Nat → Int} {n : Nat} (hn : n ≤ 3) {X Y Z : Nat → Int} (h : CgV p (2 ^ n) (asF p s n X Y Z) fun _ => 0) : CgV p (2 ^ n) (asF p s n Y Z X) fun _ => 0 := (as_turn hn X Y Z).symm.trans h

theorem g4_as {p : Int} (hp : primeB p = true) {s : Nat → Int} {n : Nat} (hn : n ≤ 3) (X Y u v w : Nat → Int) (hu : G4 p s n X Y u) (hv : G4 p s n X Y v) (hw : G4 p s n X Y w) : CgV p (2 ^ n) (asF p s n u v w) fun _ => 0 := by
  have c1 := as_core hp (s := s) hn X Y
  have c2 := as_tn hn c1
  have c3 := as_tn hn c2
  have d1 := as_sw hn c1
  have d2 := as_tn hn d1
  have d3 := as_tn hn d2
  rcases hu with rfl | rfl | rfl | rfl
  · exact as_e1 _ _
  all_goals
    rcases hv with rfl | rfl | rfl | rfl
    · exact as_e2 _ _
    all_goals
      rcases hw with rfl | rfl | rfl | rfl
      · exact as_e3 _ _
      all_goals
        first
          | exact as_xxy hp hn _ _
          | exact as_xyx hp hn _ _
          | exact as_yxx hp hn _ _
          | assumption

theorem artin {p : Int} (hp : primeB p = true) {s : Nat → Int} {n : Nat} (hn : n ≤ 3) {m : Nat} (hm : m ≤ 2) {T : Nat → Nat → Int} {u v w : Nat → Int} (hu : Cls p s n (Gn m T) u) (hv : Cls p s n (Gn m T) v) (hw : Cls p s n (Gn m T) w) : CgV p (2 ^ n) (asF p s n u v w) fun _ => 0 := by
  have key : ∀ {z}, Cls p s n (Gn m T) z → Spn p (2 ^ n) (G4 p s n (T 0) (T 1)) z := fun h => h.span (fun z hz => by
    rcases hz with ⟨r, hr, rfl⟩ | rfl
    · rcases (show r = 0 ∨ r = 1 by omega) with rfl | rfl
      · exact .gen (Or.inr (Or.inl rfl))
      · exact .gen (Or.inr (Or.inr (Or.inl rfl)))
    · exact .gen (Or.inl (dltU_C 0))) (fun a b ha hb => g4_mul hp hn _ _ a b ha hb)
  exact as_span (fun a b c ha hb hc => g4_as hp hn _ _ a b c ha hb hc) (key hu) (key hv) (key hw)

end Go.Proofs.Ytnnacligfoonbaa

/-
  A drawn doubling and at most three elements. No condition beside sizes.
-/
set_option linter.unusedVariables false
set_option linter.unusedSimpArgs false
namespace Go.Proofs.Ytnnacligfoonbaa
open Go.RowKit

theorem tab_rows {w : World} {g o cap G : Nat} {V : Nat → Value} {L : Nat → Nat} {T : Nat → Nat → Int} (hG : G ≤ cap) (hc : cap ≤ 9223372036854775807) (h : ∀ i, i < G → w.cell? ⟨g, o + i, none⟩ = some (V i)) (hr : ∀ i, i < G → Ints w (V i) (L i) (T i)) : Tab w (.slice (some ⟨g, o, none⟩) G cap) G L T := by
  have h1 : ∀ i, ∃ q : Option Addr × Nat × Nat × Nat, i < G → V i = .slice q.1 (L i) q.2.1 ∧ L i ≤ q.2.1 ∧ q.2.1 ≤ 9223372036854775807 ∧ (0 < L i → q.1 = some ⟨q.2.2.1, q.2.2.2, none⟩) ∧ ∀ j, j < L i → w.cell? ⟨q.2.2.1, q.2.2.2 + j, none⟩ = some (.int .i64 (T i j)) := fun i => by
    by_cases hi : i < G
    · obtain ⟨ao, c, b, o, k1, k2, k3, k4, k5⟩ := (hr i hi).out
      exact ⟨(ao, c, b, o), fun _ => ⟨k1, k2, k3, k4, k5⟩⟩
    · exact ⟨(none, 0, 0, 0), fun e => absurd e hi⟩
  obtain ⟨f, hf⟩ := Classical.axiomOfChoice h1
  exact ⟨_, cap, g, o, fun i => (f i).1, fun i => (f i).2.1, fun i => (f i).2.2.1, fun i => (f i).2.2.2, rfl, hG, hc, fun _ => rfl, fun i hi => by rw [h i hi, (hf i hi).1], fun i hi => ⟨(hf i hi).2.1, (hf i hi).2.2.1⟩, fun i hi => (hf i hi).2.2.2.1, fun i j hi hj => (hf i hi).2.2.2.2 j hj⟩

/-- what the draw of a doubling and some elements hands back -/
structure DrawnS (w w' : World) (e : Ending) : Prop where
  out : ∃ (P : Int) (a : Option Addr) (c m : Nat) (s : Nat → Int) (gt ct G : Nat) (L : Nat → Nat) (T : Nat → Nat → Int), e = .returned (.tuple #[dbl P (.slice a m c), .slice (some ⟨gt, 0, none⟩) G ct]) ∧ Below w.heap.size w w' ∧ Ints w' (.slice a m c) m s ∧ G ≤ 3 ∧ (∀ i, i < G → L i ≤ 16) ∧ Tab w' (.slice (some ⟨gt, 0, none⟩) G ct) G L T

set_option maxRecDepth 100000 in
set_option maxHeartbeats 4000000 in
theorem sDrawSubalgebraFrom_c (cv : Value) (n : Nat) (B : Nat → Int) (w : World) (hB : Byt w cv n B) :
    Calls Try.prog 59 #[cv] w fun e w' => DrawnS w w' e := by
  have HB : Hid (∀ W, Below w.heap.size w W → Byt W cv n B) := fun W hb => hB.below hb
  obtain ⟨wa, hwa⟩ : ∃ wa, wa = w.alloc (.cells #[.int .i64 0, .slice none 0 0] 26) := ⟨_, rfl⟩
  have hba : Below w.heap.size w wa := by rw [hwa]; exact (Below.refl _ _).alloc (Nat.le_refl _) _
  have hsa : wa.heap.size = w.heap.size + 1 := by rw [hwa]; simp
  have hra : Own wa 26 w.heap.size 2 2 (fun i => if i = 0 then .int .i64 0 else .slice none 0 0) := by rw [hwa]; exact own2 w _ _ _
  have hp1 := s12Draw_c cv n B wa (hB.below hba)
  rw [hwa] at hp1
  have HP1 := Lib.hid hp1
  have HWA := Lib.hid hwa
  have HRA := Lib.hid hra
  have HBA := Lib.hid hba
  have HSZ := Lib.hid hsa
  obtain ⟨ao, c0, _, _, rfl, qq⟩ := hB.out
  clear hwa hra hba hp1 hB hsa qq
  go_enter Try.func59, Try.ntmps59
  go_wp2_with fail
  refine HP1.out.mono ?_
  rintro e w1 ⟨P, a, c, m, s, gt, ct, V, L, T, rfl, hb1, hL1, hO1, hgt, hR⟩
  rw [← HWA.out] at hb1 hL1 hgt hR
  have hsz := HSZ.out
  have hl1 := hb1.size
  have hbb : Below w1.heap.size w1 (w1.alloc (.cells #[.int .i64 P, .slice a m c] 26)) := (Below.refl _ _).alloc (Nat.le_refl _) _
  obtain ⟨W2, hW2⟩ : ∃ W2, W2 = (w1.alloc (.cells #[.int .i64 P, .slice a m c] 26)).drew := ⟨_, rfl⟩
  have hb12 : Below w1.heap.size w1 W2 := by rw [hW2]; exact hbb.trans ((drewB _).mono hbb.size)
  have hbw2 : Below w.heap.size w W2 := (HBA.out.trans (hb1.mono HBA.out.size)).trans (hb12.mono (by have := HBA.out.size; omega))
  have HBX : Hid (Own W2 26 w1.heap.size 2 2 (fun i => if i = 0 then .int .i64 P else .slice a m c)) := by
    show Own W2 26 w1.heap.size 2 2 (fun i => if i = 0 then .int .i64 P else .slice a m c)
    rw [hW2]; exact (own2 w1 _ _ _).kept (drewB _)
  have HRS : Hid (Own W2 26 w.heap.size 2 2 (fun i => if i = 0 then .int .i64 0 else .slice none 0 0)) := (HRA.out.kept hb1).kept hb12
  have hct : 3 ≤ ct := hO1.le
  have hcm : ct ≤ 9223372036854775807 := hO1.max
  have hs12 := hb12.size
  have HFIN : Hid (∀ (W6 : World) (k : Nat), Below W2.heap.size W2 W6 → k ≤ 3 → DrawnS w ((W6.setCell ⟨w.heap.size, 0, none⟩ (.int .i64 P)).setCell ⟨w.heap.size, 1, none⟩ (.slice a m c)) (.returned (.tuple #[dbl P (.slice a m c), .slice (some ⟨gt, 0, none⟩) k ct]))) := by
    intro W6 k hb6 hk
    have hcs : Chg W6 ((W6.setCell ⟨w.heap.size, 0, none⟩ (.int .i64 P)).setCell ⟨w.heap.size, 1, none⟩ (.slice a m c)) (· = w.heap.size) := ((Chg.refl W6 (· = w.heap.size)).setCell (a := ⟨w.heap.size, 0, none⟩) rfl (.int .i64 P)).setCell (a := ⟨w.heap.size, 1, none⟩) rfl (.slice a m c)
    have hb16 : Below w1.heap.size w1 W6 := hb12.trans (hb6.mono hs12)
    have hbw6 : Below w.heap.size w W6 := hbw2.trans (hb6.mono hbw2.size)
    refine ⟨P, a, c, m, s, gt, ct, k, L, T, rfl, hbw6.trans (hcs.below hbw6.size (fun k e => Nat.le_of_eq e.symm)), (((hL1.kept hb12).kept hb6).by hcs fun k e => by have e : k = w.heap.size := e; omega).ints, hk, fun i hi => ?_, tab_rows (V := V) (by omega) hcm (fun i hi => ?_) fun i hi => ?_⟩
    · obtain ⟨_, _, lo, _, h2, _⟩ := hR i (by omega)
      exact h2
    · rw [Nat.zero_add]
      exact hcs.cellC (cellKp hb16 (hO1.cell (by omega))) (by show ¬ gt = w.heap.size; omega)
    · obtain ⟨_, _, lo, _, _, h4, h3⟩ := hR i (by omega)
      exact h3 _ ((Chg.of_below hb16 _).trans (hcs.mono fun b e => Or.inl (by have e : b = w.heap.size := e; omega)))
  have HBW := Lib.hid hbw2
  have HF := Lib.hid (sFrom_c _ n B W2 (HB.out _ hbw2))
  have b0 := HBX.out.cell (show 0 < 2 by omega)
  have b1 := HBX.out.cell (show 1 < 2 by omega)
  have r0 := HRS.out.cell (show 0 < 2 by omega)
  have r1 := HRS.out.cell (show 1 < 2 by omega)
  have q0 := HRS.out.frozen 0
  have q1 := HRS.out.frozen 1
  simp only [if_pos, if_neg (show ¬ (1 : Nat) = 0 by omega)] at b0 b1 r0 r1
  have hlb := HBX.out.lt
  have hlr := HRS.out.lt
  rw [hW2] at b0 b1 r0 r1 q0 q1
  have HW2 := Lib.hid hW2
  have hne : Hid (w1.heap.size ≠ w.heap.size) := by show w1.heap.size ≠ w.heap.size; omega
  clear hb12 hbw2 hbb hR hO1 hb1 hL1 HP1 HWA HRA HBA HSZ hW2
  go_wp2
  go_region_law (first
    | (go_simp; go_at_call 72; refine (HN.out).mono ?_; rintro e w6 ⟨x, rfl, hx, _, hd6⟩; obtain ⟨x0, x4⟩ := hx (by omega); have hb6 := hb5.trans (hd6.chg.below hb5.size (fun k e => by have e : k = g := e; omega)); have r0 := (HRS.out.kept hb6).cell (show 0 < 2 by omega); have r1 := (HRS.out.kept hb6).cell (show 1 < 2 by omega); have b0 := (HBX.out.kept hb6).cell (show 0 < 2 by omega); have b1 := (HBX.out.kept hb6).cell (show 1 < 2 by omega); have q0 := (HRS.out.kept hb6).frozen 0; have q1 := (HRS.out.kept hb6).frozen 1; simp only [if_pos, if_neg (show ¬ (1 : Nat) = 0 by omega)] at b0 b1 r0 r1; obtain ⟨k, rfl⟩ := Int.eq_ofNat_of_zero_le x0; have HB6 := Lib.hid hb6; have hk3 : k ≤ 3 := (by omega); have hk3i : (k : Int) ≤ 3 := (by omega); have hkc : (k : Int) ≤ (ct : Int) := (by omega); clear hx hd6 HN hb6 x4)
    | (go_simp; go_at_call 70; try rw [← HW2.out]; refine HF.out.mono ?_; rintro e w5 ⟨g, rfl, hg, hb5, hs5⟩; have HN := Lib.hid (sNext_c g n _ B 4 w5 hs5 (HB.out _ (HBW.out.trans (hb5.mono HBW.out.size))) (by omega)); have r0 := (HRS.out.kept hb5).cell (show 0 < 2 by omega); have r1 := (HRS.out.kept hb5).cell (show 1 < 2 by omega); have b0 := (HBX.out.kept hb5).cell (show 0 < 2 by omega); have b1 := (HBX.out.kept hb5).cell (show 1 < 2 by omega); have q0 := (HRS.out.kept hb5).frozen 0; have q1 := (HRS.out.kept hb5).frozen 1; simp only [if_pos, if_neg (show ¬ (1 : Nat) = 0 by omega)] at b0 b1 r0 r1; clear HF hs5))
  all_goals
    have hres := ((HRS.out.kept HB6.out).set 0 (.int .i64 P)).set 1 (.slice a m c)
    have c0' := hres.cell (show 0 < 2 by omega)
    have c1' := hres.cell (show 1 < 2 by omega)
    simp at c0' c1'
    have HFF := Lib.hid (HFIN.out _ k HB6.out hk3)
    clear hres
    go_wp2
    refine bodyPost_ret (v := .tuple #[.agg #[.int .i64 P, .slice a m c], .slice (some ⟨gt, 0, none⟩) k ct]) (by simp [results, Try.results59, go_sem, c0', c1']; try rfl) rfl ?_
    exact HFF.out

end Go.Proofs.Ytnnacligfoonbaa

/-
  InSpan at a list and an element that the list makes. No condition beside sizes.
-/
set_option linter.unusedVariables false
set_option linter.unusedSimpArgs false
namespace Go.Proofs.Ytnnacligfoonbaa
open Go.RowKit

/-- rows and one more -/
def moreT (G : Nat) (T : Nat → Nat → Int) (X : Nat → Int) (i : Nat) : Nat → Int := if i = G then X else T i
theorem more_in {p : Int} {G n : Nat} {T : Nat → Nat → Int} {X : Nat → Int} (hT : RowsIn p G n T) (hX : InP p n X) : RowsIn p (G + 1) n (moreT G T X) := fun i hi j hj => by
  unfold moreT
  split
  · exact hX j hj
  · exact hT i (by omega) j hj
theorem more_count {p : Int} (hp : primeB p = true) {G n : Nat} {T : Nat → Nat → Int} {X : Nat → Int} (hT : RowsIn p G n T) (hX : InP p n X) (h : Spn p n (RowS G T) X) : (bSt p (G + 1) (moreT G T X) n).2 = (bSt p G T n).2 := by
  have hb := primeB_bd hp
  refine (((bSt_of hp (more_in hT hX)).turn (S' := RowS G T) (fun u hu => ?_) fun u hu => ?_).same (by omega) (bSt_of hp hT)).1
  · obtain ⟨r, hr, rfl⟩ := hu
    unfold moreT
    split
    · exact h
    · exact Spn.row (by omega)
  · obtain ⟨r, hr, rfl⟩ := hu
    have := Spn.row (p := p) (n := n) (G := G + 1) (T := moreT G T X) (r := r) (by omega)
    unfold moreT at this
    rw [if_neg (by omega)] at this
    exact this

theorem pushRow {w wr : World} {g cap G : Nat} {L : Nat → Nat} {T : Nat → Nat → Int} (h : OTab wr w.heap.size g cap G L T) (hb : Below w.heap.size w wr) {v : Value} {N : Nat} {X : Nat → Int} (hv : Ints w v N X) : ∃ V, Own wr 24 g cap G V ∧
    ∀ (w' : World) (g' cap' : Nat), Own w' 24 g' cap' (G + 1) (fun j => if j = G then v else V j) → (g' = g ∨ wr.heap.size ≤ g') → wr.grownBy w' (some g) →
      Below w.heap.size w w' ∧ Tab w' (.slice (some ⟨g', 0, none⟩) (G + 1) cap') (G + 1) (fun i => if i = G then N else L i) (fun i => if i = G then X else T i) := by
  obtain ⟨R, C, h1, h2, h3, h4⟩ := h.out
  refine ⟨_, h1, fun w' g' cap' hO hg hgr => ?_⟩
  have hbw : Below w.heap.size w w' := hb.grown hgr hb.size (fun k e => by injection e with e; omega)
  refine ⟨hbw, tab_rows hO.le hO.max (fun i hi => by rw [Nat.zero_add]; exact hO.cell hi) fun i hi => ?_⟩
  by_cases e : i = G
  · simp only [if_pos e]; exact hv.below hbw
  · simp only [if_neg e]
    exact ((h3 i (by omega)).1.grown hgr (by intro e; injection e with e; exact (h3 i (by omega)).2.2 e.symm)).ints

set_option maxRecDepth 100000 in
set_option maxHeartbeats 2000000 in
theorem vIsTable_c (p : Int) (v : Value) (G n : Nat) (T : Nat → Nat → Int) (w : World) (hp : 3 ≤ p ∧ p ≤ 13) (hl : Tab w v G (fun _ => n) T) (hT : RowsIn p G n T) (hn : 1 ≤ n ∧ n ≤ 16) (hG : G ≤ 16) :
    Calls Try.prog 120 #[.int .i64 p, v] w fun e w' => Makes w w' e (.bool true) := by
  obtain ⟨ao, c, b, o, A, C, RB, RO, rfl, q2, q3, q4, q5, q6, q7, q8⟩ := hl.out
  have HR : Hid (∀ i W, i < G → Below w.heap.size w W → Calls Try.prog 95 #[.int .i64 p, .slice (A i) n (C i)] W fun e w' => e = .returned (.bool true) ∧ W = w') := fun i W hi hb => by
    have h1 := iIs_c p (.slice (A i) n (C i)) n (T i) W ((Tab.rowAt (L := fun _ => n) q6 q7 q8 hi).below hb) (by omega) (by omega)
    rw [show inPB 0 p n (T i) = true from inPB_true fun j hj => decide_eq_true (by have := hT i hi j hj; omega)] at h1
    exact h1
  have HC : Hid (∀ i W, i < G → Below w.heap.size w W → W.cell? ⟨b, o + i, none⟩ = some (.slice (A i) n (C i))) := fun i W hi hb => by rw [hb.cell (p := ⟨b, o + i, none⟩) (lt_of_cell (q5 i hi))]; exact q5 i hi
  have hG2 : ¬ (16 : Int) < (G : Int) := by omega
  have hn1 : ¬ (n : Int) < 1 := by omega
  have hn2 : ¬ (16 : Int) < (n : Int) := by omega
  clear hl hT q5 q6 q7 q8
  go_enter Try.func120, Try.ntmps120
  go_wp2
  go_loopg [12] G (fun gg i wr => ∃ k : Nat, k ≤ G ∧ gg = G - k ∧ i = .int .i64 k ∧ Hid (Below w.heap.size w wr))
  case atStart => exact ⟨0, Nat.zero_le _, rfl, rfl, Below.refl _ _⟩
  case round =>
    obtain ⟨k, hk, rfl, rfl, hb⟩ := hrel
    by_cases hlt : k < G
    · obtain rfl := q4 (by omega)
      have z1 := HC.out k _ hlt hb.out
      have z0 := HC.out 0 _ (by omega) hb.out
      rw [Nat.add_zero] at z0
      have HRk := Lib.hid (fun W (hb2 : Below wr.heap.size wr W) => HR.out k W hlt (hb.out.trans (hb2.mono hb.out.size)))
      have i0 : (0 : Int) ≤ (k : Int) := by omega
      have i1 : (k : Int) < (G : Int) := by omega
      have i2 : (0 : Int) < (G : Int) := by omega
      go_wp2_with (go_at_call 95; refine (HRk.out _ (by first | exact Below.refl _ _ | exact below_drewN _ _)).mono ?_; rintro e w' ⟨rfl, rfl⟩)
      go_roundg (G - (k + 1))
      case measure => omega
      case rel => exact ⟨k + 1, by omega, rfl, by go_num, by first | exact hb.out | exact hb.out.trans ((below_drewN _ _).mono hb.out.size)⟩
    · obtain rfl : k = G := by omega
      go_wp2
      go_ret
      exact ⟨rfl, hb.out⟩

set_option maxRecDepth 100000 in
set_option maxHeartbeats 2000000 in
theorem vSpans_c (p : Int) (lv v : Value) (G n : Nat) (T : Nat → Nat → Int) (X : Nat → Int) (w : World) (hp : primeB p = true) (hl : Tab w lv G (fun _ => n) T) (hT : RowsIn p G n T) (hv : Ints w v n X) (hX : InP p n X) (hn : 1 ≤ n ∧ n ≤ 16) (hG : G ≤ 16) (hs : Spn p n (RowS G T) X) :
    Calls Try.prog 121 #[.int .i64 p, lv, v] w fun e w' => Makes w w' e (.bool true) := by
  have hpb := primeB_bd hp
  have hcl := iCloneRows_c lv G n T w hl hn.1 (by omega) (by omega)
  have HCL := Lib.hid hcl
  have HVV := Lib.hid hv
  have HB1 : Hid (∀ W u, Tab W u (G + 1) (fun _ => n) (moreT G T X) → Calls Try.prog 115 #[.int .i64 p, u] W fun e w' => CopyT W w' e (bSt p (G + 1) (moreT G T X) n).2 (fun _ => n) (bSt p (G + 1) (moreT G T X) n).1) := fun W u h => iBasis_c p u (G + 1) n _ W h ⟨hn.1, by omega⟩ (by omega) hpb (more_in hT hX)
  have HB2 : Hid (∀ W, Below w.heap.size w W → Calls Try.prog 115 #[.int .i64 p, lv] W fun e w' => CopyT W w' e (bSt p G T n).2 (fun _ => n) (bSt p G T n).1) := fun W hb => iBasis_c p lv G n T W (hl.below hb) ⟨hn.1, by omega⟩ (by omega) hpb hT
  obtain ⟨d1, hd1⟩ : ∃ d, (bSt p (G + 1) (moreT G T X) n).2 = d := ⟨_, rfl⟩
  obtain ⟨d2, hd2⟩ : ∃ d, (bSt p G T n).2 = d := ⟨_, rfl⟩
  obtain rfl : d1 = d2 := by rw [← hd1, ← hd2]; exact more_count hp hT hX hs
  rw [hd1] at HB1
  rw [hd2] at HB2
  have HTT : Hid (∀ W u, Tab W u (G + 1) (fun i => if i = G then n else n) (fun i => if i = G then X else T i) → Tab W u (G + 1) (fun _ => n) (moreT G T X)) := fun W u h => by
    have e1 : (fun i => if i = G then n else n) = fun _ : Nat => n := by funext i; split <;> rfl
    rw [e1] at h
    exact h
  obtain ⟨va, vc, vb, vo, rfl, q2, q3, qx⟩ := hv.out
  obtain ⟨la, lc, _, _, _, _, _, _, rfl, r2, r3, _⟩ := hl.out
  clear hcl hp hl hT hv hX hs hd1 hd2 qx
  go_enter Try.func121, Try.ntmps121
  go_wp2_with fail
  go_at_call 116
  refine HCL.out.mono ?_
  rintro e w5 ⟨g5, c5, rfl, hb5, hT5⟩
  obtain ⟨V5, hV5, hpush⟩ := pushRow hT5 hb5 HVV.out
  have HPU := Lib.hid hpush
  have hs5 := hb5.size
  clear hpush hT5
  go_wp2_with (first
    | (at_builtin; refine wpList_push _ rfl _ _ _ _ elR rfl hV5 (.slice va n vc) rfl rfl rfl (by omega) (by omega) ?_; intro g6 c6 w6 hO6 hg6 hgr6; obtain ⟨hb6, hT6⟩ := HPU.out _ _ _ hO6 hg6 hgr6; have hT6 := HTT.out _ _ hT6)
    | (go_at_call 115; have hx := hb7; refine (HB2.out _ hb7).mono ?_; rintro e w8 ⟨g8, c8, rfl, hb8, hO8⟩; have hb9 := hb7.trans (hb8.mono hb7.size))
    | (go_at_call 115; refine (HB1.out _ _ hT6).mono ?_; rintro e w7 ⟨g7, c7, rfl, hb7', hO7⟩; have hb7 := hb6.trans (hb7'.mono hb6.size)))
  go_ret
  exact ⟨rfl, hb9⟩

set_option maxRecDepth 100000 in
set_option maxHeartbeats 2000000 in
theorem vInSpan_c (p : Int) (lv v : Value) (G n : Nat) (T : Nat → Nat → Int) (X : Nat → Int) (w : World) (hp : primeB p = true) (hl : Tab w lv G (fun _ => n) T) (hT : RowsIn p G n T) (hv : Ints w v n X) (hX : InP p n X) (hn : 1 ≤ n ∧ n ≤ 16) (hG : 1 ≤ G ∧ G ≤ 16) (hs : Spn p n (RowS G T) X) :
    Calls Try.prog 62 #[.int .i64 p, lv, v] w fun e w' => Makes w w' e (.tuple #[.bool true, .int .i64 0]) := by
  have hpb := primeB_bd hp
  have HP := Lib.hid (hp ▸ iPrime_c p w)
  have HT := Lib.hid (vIsTable_c p lv G n T w hpb hl hT hn hG.2)
  have HS : Hid (∀ W, Below w.heap.size w W → Calls Try.prog 121 #[.int .i64 p, lv, v] W fun e w' => Makes W w' e (.bool true)) := fun W hb => vSpans_c p lv v G n T X W hp (hl.below hb) hT (hv.below hb) hX hn hG.2 hs
  have HI : Hid (∀ W, Below w.heap.size w W → Calls Try.prog 95 #[.int .i64 p, v] W fun e w' => e = .returned (.bool true) ∧ W = w') := fun W hb => by
    have h1 := iIs_c p v n X W (hv.below hb) (by omega) (by omega)
    rw [show inPB 0 p n X = true from inPB_true fun j hj => decide_eq_true (by have := hX j hj; omega)] at h1
    exact h1
  obtain ⟨va, vc, vb, vo, rfl, q2, q3, qx⟩ := hv.out
  obtain ⟨la, lc, lb, lo, A, C, RB, RO, rfl, r2, r3, r4, r5, rr⟩ := hl.out
  obtain rfl := r4 (by omega)
  have z0 : Hid (∀ W, Below w.heap.size w W → W.cell? ⟨lb, lo, none⟩ = some (.slice (A 0) n (C 0))) := fun W hb => by
    have h := r5 0 (by omega)
    rw [Nat.add_zero] at h
    rw [hb.cell (p := ⟨lb, lo, none⟩) (lt_of_cell h)]; exact h
  have i2 : (0 : Int) < (G : Int) := by omega
  have i3 : ((G : Int) == 0) = false := by simp; omega
  have i4 : ((n : Int) != (n : Int)) = false := by simp
  clear hp hl hT hv hX hs qx r4 r5 rr
  go_enter Try.func62, Try.ntmps62
  go_wp2_with fail
  go_at_call 94
  refine HP.out.mono ?_
  rintro e w1 ⟨rfl, rfl⟩
  go_wp2_with fail
  go_at_call 120
  refine Calls.makes' HT.out _ fun w2 hb2 => ?_
  have y0 := z0.out _ hb2
  go_wp2_with (go_at_call 95; refine (HI.out _ (by first | exact hb2 | exact hb2.trans ((below_drewN _ _).mono hb2.size))).mono ?_; rintro e w' ⟨rfl, rfl⟩)
  go_at_call 121
  refine Calls.makes' (HS.out _ (by first | exact hb2 | exact hb2.trans ((below_drewN _ _).mono hb2.size))) _ fun w4 hb4 => ?_
  have hf : Below w.heap.size w w4 := by first | exact hb2.trans (hb4.mono hb2.size) | exact (hb2.trans ((below_drewN _ _).mono hb2.size)).trans (hb4.mono hb2.size)
  go_wp2
  go_ret2
  exact ⟨rfl, hf⟩

end Go.Proofs.Ytnnacligfoonbaa

/-
  The law on subalgebras returns true. No condition.
-/
set_option linter.unusedVariables false
set_option linter.unusedSimpArgs false
namespace Go.Proofs.Ytnnacligfoonbaa
open Go.RowKit

/-- what is known of a subalgebra -/
structure SubF (P : Int) (m : Nat) (s : Nat → Int) (G : Nat) (L : Nat → Nat) (T : Nat → Nat → Int) (M : Nat) (R : Nat → Nat → Int) : Prop where
  ok : dblB P m s = true
  len : ∀ i, i < G → L i = 2 ^ m
  rows : RowsIn P M (2 ^ m) R
  inT : RowsIn P G (2 ^ m) T
  m1 : 1 ≤ M ∧ M ≤ 16
  unit : Spn P (2 ^ m) (RowS M R) (dlt 0)
  prod : ∀ i k, i < M → k < M → Spn P (2 ^ m) (RowS M R) (mulF P s m (R i) (R k))
  list : ∀ i, i < G → Spn P (2 ^ m) (RowS M R) (T i)
  assoc : m ≤ 3 → G ≤ 2 → asB P s m M R = true

theorem spn_none {P : Int} {n : Nat} {R : Nat → Nat → Int} {v : Nat → Int} (h : Spn P n (RowS 0 R) v) : ∀ j, j < n → Cg P (v j) 0 := by
  induction h with
  | nil v h => exact h
  | add u v w k hu _ _ _ => obtain ⟨r, hr, _⟩ := hu; exact absurd hr (Nat.not_lt_zero _)
theorem sumL_b {L : Nat → Nat} {b : Nat} : ∀ {G : Nat}, (∀ i, i < G → L i ≤ b) → sumL L G ≤ G * b
  | 0, _ => Nat.zero_le _
  | G + 1, h => by
    have := sumL_b (G := G) fun i hi => h i (by omega)
    have := h G (by omega)
    rw [sumL, Nat.succ_mul]; omega

theorem sub_o (P : Int) (m : Nat) (s : Nat → Int) (G : Nat) (L : Nat → Nat) (T : Nat → Nat → Int) (hG : G ≤ 3) (hL : ∀ i, i < G → L i ≤ 16) :
    ∃ (cc : Int) (M : Nat) (R : Nat → Nat → Int), ((cc ≠ 0 ∧ M = 0) ∨ (cc = 0 ∧ SubF P m s G L T M R)) ∧
    (∀ (W : World) (dv lv : Value), Ints W dv m s → Tab W lv G L T → Calls Try.prog 61 #[dbl P dv, lv] W fun e w' => ResT W w' e cc M (fun _ => 2 ^ m) R) ∧
    (∀ (W : World) (dv lv : Value), Ints W dv m s → Tab W lv G L T → Calls Try.prog 60 #[dbl P dv, lv] W fun e w' => ResT W w' e cc M (fun _ => 2 ^ m) R) := by
  have hsz : G + sumL L G ≤ 1048576 := by
    have := sumL_b hL
    have := Nat.mul_le_mul_right 16 hG
    omega
  refine ⟨codeE (dblB P m s) P m G L T, if codeE (dblB P m s) P m G L T = 0 then (subQ P s m G T).2 else 0, (subQ P s m G T).1, ?_,
    fun W dv lv h1 h2 => (sSub_c P dv lv m G s L T W h1 h2 hsz).mono fun _ _ h => h.toT,
    fun W dv lv h1 h2 => (iSub_c P dv lv m G s L T W h1 h2 hsz).mono fun _ _ h => h.toT⟩
  by_cases h0 : codeE (dblB P m s) P m G L T = 0
  · refine Or.inr ⟨h0, ?_⟩
    rw [if_pos h0]
    obtain ⟨hok, he⟩ := codeE_zero h0
    have hp := (dblB_ok hok).prime
    have hb := primeB_bd hp
    have he2 : ∀ i, i < G → L i = 2 ^ m ∧ InP P (2 ^ m) (T i) := fun i hi => by
      have h1 := he i hi
      unfold elemB at h1
      simp only [Bool.and_eq_true, decide_eq_true_eq] at h1
      obtain ⟨h2, h3⟩ := h1
      refine ⟨h2, ?_⟩
      rw [h2] at h3
      exact inPB_ok h3
    have hQ := subQ_of hp s m G T
    have h16 := pow_le (dblB_ok hok).le
    have hcl : ∀ r, r < (subQ P s m G T).2 → Cls P s m (Gn G T) ((subQ P s m G T).1 r) := fun r hr => Cls.of_span (hQ.to r hr)
    have hun : Spn P (2 ^ m) (RowS (subQ P s m G T).2 (subQ P s m G T).1) (dlt 0) := hQ.of (dltU 0) (.gen _ (Or.inr rfl))
    refine ⟨hok, fun i hi => (he2 i hi).1, hQ.inp, fun i hi => (he2 i hi).2, ⟨?_, Nat.le_trans hQ.le h16⟩, hun, fun i k hi hk => hQ.of _ (.mul _ _ (hcl i hi) (hcl k hk)), fun i hi => hQ.of _ (.gen _ (Or.inl ⟨i, hi, rfl⟩)), fun h3 h2 => ?_⟩
    · rcases Nat.eq_zero_or_pos (subQ P s m G T).2 with h | h
      · rw [h] at hun
        have h1 := spn_none hun 0 (Nat.pos_of_ne_zero (by simp))
        have h2 : (1 : Int) % P = 0 % P := h1
        rw [Int.emod_eq_of_lt (by omega) (by omega), Int.zero_emod] at h2
        exact absurd h2 (by decide)
      · exact h
    · refine (asB_iff (by omega)).2 fun u v w hu hv hw => ?_
      obtain ⟨a, ha, rfl⟩ := hu
      obtain ⟨b, hb, rfl⟩ := hv
      obtain ⟨c, hc, rfl⟩ := hw
      exact artin hp h3 h2 (hcl a ha) (hcl b hb) (hcl c hc)
  · exact Or.inl ⟨h0, by rw [if_neg h0]⟩

/-- the rows of a table, while memory is made -/
theorem Tab.openS {w : World} {v : Value} {G : Nat} {L : Nat → Nat} {T : Nat → Nat → Int} {ao : Option Addr} {c : Nat} (h : Tab w (.slice ao G c) G L T) :
    ∃ (b o : Nat) (A : Nat → Option Addr) (C : Nat → Nat), (0 < G → ao = some ⟨b, o, none⟩) ∧ (G ≤ c ∧ c ≤ 9223372036854775807) ∧ ∀ W, Below w.heap.size w W → ∀ i, i < G → W.cell? ⟨b, o + i, none⟩ = some (.slice (A i) (L i) (C i)) ∧ b < w.heap.size ∧ Ints W (.slice (A i) (L i) (C i)) (L i) (T i) := by
  obtain ⟨ao', c', b, o, A, C, RB, RO, h1, h2, h3, h4, h5, h6, h7, h8⟩ := h.out
  injection h1 with e1 e2 e3
  subst e1
  subst e3
  refine ⟨b, o, A, C, h4, ⟨h2, h3⟩, fun W hb i hi => ⟨?_, lt_of_cell (h5 i hi), ?_⟩⟩
  · rw [hb.cell (p := ⟨b, o + i, none⟩) (lt_of_cell (h5 i hi))]; exact h5 i hi
  · exact (Tab.rowAt h6 h7 h8 hi).below hb

/-- two cells -/
theorem two2Keep {w W W' : World} {a1 a2 o1 o2 : Nat} {v1 v2 : Value} (hb : Below W.heap.size W W') (h : W.cell? ⟨a1, o1, none⟩ = some v1 ∧ W.cell? ⟨a2, o2, none⟩ = some v2 ∧ Below w.heap.size w W) : W'.cell? ⟨a1, o1, none⟩ = some v1 ∧ W'.cell? ⟨a2, o2, none⟩ = some v2 ∧ Below w.heap.size w W' := ⟨cellKp hb h.1, cellKp hb h.2.1, h.2.2.trans (hb.mono h.2.2.size)⟩
theorem two2Below {w W : World} {a1 a2 o1 o2 : Nat} {v1 v2 : Value} (h : W.cell? ⟨a1, o1, none⟩ = some v1 ∧ W.cell? ⟨a2, o2, none⟩ = some v2 ∧ Below w.heap.size w W) : Below w.heap.size w W := h.2.2

set_option maxRecDepth 100000 in
set_option maxHeartbeats 8000000 in
theorem lawSubalgebras_c (cv : Value) (n : Nat) (B : Nat → Int) (w : World) (hB : Byt w cv n B) :
    Calls Try.prog 8 #[cv] w fun e w' => Law w w' e := by
  by_cases hbig : 4096 < n
  · have hb := Lib.hid (big_c cv n B w hB)
    obtain ⟨ao, c0, _, _, rfl, qq⟩ := hB.out
    clear hB qq
    go_enter Try.func8, Try.ntmps8
    go_wp2_with fail
    refine hb.out.mono ?_
    rintro e w1 ⟨rfl, rfl⟩
    rw [show decide (4096 < n) = true from decide_eq_true hbig]
    go_wp2
    go_ret
    exact ⟨rfl, Below.refl _ _⟩
  · have hb := Lib.hid (big_c cv n B w hB)
    have hD := Lib.hid (sDrawSubalgebraFrom_c cv n B w hB)
    have HB : Hid (∀ W, Below w.heap.size w W → Byt W cv n B) := fun W hb => hB.below hb
    obtain ⟨ao, c0, _, _, rfl, qq⟩ := hB.out
    clear hB qq
    go_enter Try.func8, Try.ntmps8
    go_wp2_with fail
    refine hb.out.mono ?_
    rintro e w1 ⟨rfl, rfl⟩
    rw [show decide (4096 < n) = false from decide_eq_false hbig]
    go_wp2_with fail
    refine hD.out.mono ?_
    rintro e w2 ⟨P, a, c, m, s, gt, ct, G, L, T, rfl, hb2, hs2, hG3, hL16, hT2⟩
    have hp2 := Lib.hid hb2
    obtain ⟨cc, M, R, hcs0, k1, k2⟩ := sub_o P m s G L T hG3 hL16
    have hcs := Lib.hid hcs0
    have K1 := Lib.hid k1
    have K2 := Lib.hid k2
    have id : Hid (∀ W, Below w2.heap.size w2 W → Ints W (.slice a m c) m s) := fun W hb => hs2.below hb
    have il : Hid (∀ W, Below w2.heap.size w2 W → Tab W (.slice (some ⟨gt, 0, none⟩) G ct) G L T) := fun W hb => hT2.below hb
    have hct : G ≤ ct ∧ ct ≤ 9223372036854775807 := by
      obtain ⟨_, _, _, _, _, _, _, _, h1, h2, h3, _⟩ := hT2.out
      injection h1 with _ _ h4
      subst h4
      exact ⟨h2, h3⟩
    obtain ⟨f0, f1, _, bb⟩ := box0 w2 P a m c 26
    have hl := hp2.out.size
    clear k1 k2 hs2 hb hD hb2 hT2 hcs0 hL16
    go_wp2_with fail
    go_at_call 60
    refine (K2.out _ _ _ (id.out _ bb) (il.out _ bb)).mono ?_
    rintro e w3 ⟨a3, c3, rfl, hb3, o3⟩
    replace f0 := cellKp hb3 f0
    replace f1 := cellKp hb3 f1
    have bb := bb.trans (hb3.mono bb.size)
    have hX := Lib.hid o3.tab
    clear o3 hb3
    go_wp2_with fail
    go_at_call 61
    refine (K1.out _ _ _ (id.out _ bb) (il.out _ bb)).mono ?_
    rintro e w4 ⟨a4, c4, rfl, hb4, o4⟩
    replace f0 := cellKp hb4 f0
    replace f1 := cellKp hb4 f1
    have bb := bb.trans (hb4.mono bb.size)
    replace hX := Lib.hid (hX.out.below hb4)
    have hY := Lib.hid o4.tab
    clear o4 hb4
    go_wp2_with fail
    go_at_call 21
    refine Calls.reads' (wr := w) (same9_c _ _ _ _ _ _ _ _ _ hX.out hY.out) _ fun q5 => ?_
    rw [eqTB_refl]
    clear hY
    replace f0 := cellKp (below_drewN _ q5) f0
    replace f1 := cellKp (below_drewN _ q5) f1
    have bb := bb.trans ((below_drewN _ q5).mono bb.size)
    replace hX := Lib.hid (hX.out.below (below_drewN _ q5))
    clear K1 K2
    have hcs2 := hcs.out
    clear hcs
    rcases hcs2 with ⟨hcc, rfl⟩ | ⟨rfl, hF⟩
    · have hfin := Lib.hid (hp2.out.trans (bb.mono hp2.out.size))
      have hcc' : (cc != 0) = true := by simpa using hcc
      clear hcc id hp2 bb il hX f0 f1
      go_wp2
      go_ret
      exact ⟨rfl, hfin.out⟩
    have HF := Lib.hid hF
    have hm1 := hF.m1
    have h16 := pow_le (dblB_ok hF.ok).le
    have h2p : 1 ≤ 2 ^ m := Nat.pos_of_ne_zero (by simp)
    have hpr := (dblB_ok hF.ok).prime
    have hpb := primeB_bd hpr
    have HPR := Lib.hid hpr
    clear hpr
    obtain ⟨tb, tf, TA, TC, ha5, hMc, hTO⟩ := Tab.openS (v := .int .i64 0) hX.out
    have ha5 := ha5 (by omega)
    subst ha5
    have HTO := Lib.hid hTO
    have HXT := Lib.hid hX.out
    have HUN := Lib.hid (vUnit_c P _ m s _ hF.ok (id.out _ bb))
    clear hTO hF hX
    go_wp2_with fail
    go_at_call 39
    refine HUN.out.mono ?_
    rintro e w6 ⟨gu, cu, rfl, hb6, hU⟩
    replace f0 := cellKp hb6 f0
    replace f1 := cellKp hb6 f1
    have BB := Lib.hid (bb.trans (hb6.mono bb.size))
    have hl6 := lt_of_cell f0
    have HB6 := Lib.hid hb6
    have HU := Lib.hid hU
    clear hb6 hU HUN bb
    have HBr := Lib.hid (roll_c _ n B 3011 _ (by omega) (HB.out _ (hp2.out.trans (BB.out.mono hp2.out.size))))
    go_wp2_with fail
    refine HBr.out.mono ?_
    rintro e w7 ⟨gd, rfl, hgd, hb7, hD7⟩
    replace f0 := cellKp hb7 f0
    replace f1 := cellKp hb7 f1
    have t6 : ∀ i, i < M → w6.cell? ⟨tb, tf + i, none⟩ = some (.slice (TA i) (2 ^ m) (TC i)) := fun i hi => (HTO.out w6 HB6.out i hi).1
    have htb : tb < w6.heap.size := lt_of_cell (t6 0 (by omega))
    have hBy : Hid (∀ W, Chg w7 W (· = gd) → Byt W (.slice ao n c0) n B) := fun W hc => HB.out W (((hp2.out.trans (BB.out.mono hp2.out.size)).trans (hb7.mono (hp2.out.trans (BB.out.mono hp2.out.size)).size)).trans (hc.below (by have := hp2.out.size; have := BB.out.size; have := hb7.size; omega) (fun k e => by have e : k = gd := e; have := hp2.out.size; have := BB.out.size; omega)))
    have HBL : Hid (∀ W, ((∀ i, i < M → W.cell? ⟨tb, tf + i, none⟩ = some (.slice (TA i) (2 ^ m) (TC i))) ∧ Hid (Chg w7 W (· = gd) ∧ Dce W gd (.slice ao n c0) n)) → Calls Try.prog 29 #[.pointer (some ⟨gd, 0, none⟩), .int .i64 M] W fun e w' => ∃ i : Nat, i < M ∧ (i : Int) < (M : Int) ∧ e = .returned (.int .i64 (i : Int)) ∧ ((∀ i, i < M → w'.cell? ⟨tb, tf + i, none⟩ = some (.slice (TA i) (2 ^ m) (TC i))) ∧ Hid (Chg w7 w' (· = gd) ∧ Dce w' gd (.slice ao n c0) n))) := fun W hS => (below9_c gd n _ B M W hS.2.out.2 (hBy.out W hS.2.out.1) (by omega)).mono fun e w' h => by
      obtain ⟨x, rfl, hx, _, hr⟩ := h
      obtain ⟨x0, x1⟩ := hx (by omega)
      obtain ⟨i, rfl⟩ := Int.eq_ofNat_of_zero_le x0
      exact ⟨i, by omega, x1, rfl, fun j hj => hr.chg.cellC (hS.1 j hj) (by show ¬ tb = gd; omega), hS.2.out.1.trans hr.chg, hr.src⟩
    have hSS : (fun W : World => (∀ i, i < M → W.cell? ⟨tb, tf + i, none⟩ = some (.slice (TA i) (2 ^ m) (TC i))) ∧ Hid (Chg w7 W (· = gd) ∧ Dce W gd (.slice ao n c0) n)) w7.drew := ⟨fun i hi => cellKp (drewB _) (cellKp hb7 (t6 i hi)), Chg.of_below (drewB _) _, hD7.kept (drewB _)⟩
    have hSS2 : (fun W : World => (∀ i, i < M → W.cell? ⟨tb, tf + i, none⟩ = some (.slice (TA i) (2 ^ m) (TC i))) ∧ Hid (Chg w7 W (· = gd) ∧ Dce W gd (.slice ao n c0) n)) w7 := ⟨fun i hi => cellKp hb7 (t6 i hi), Chg.refl _ _, hD7⟩
    have H7 := Lib.hid hb7
    clear hb7 hD7 t6 HBr
    have M0 : (0 : Int) < (M : Int) := by omega
    go_wp2
    go_region_held3 (fun W => (∀ i, i < M → W.cell? ⟨tb, tf + i, none⟩ = some (.slice (TA i) (2 ^ m) (TC i))) ∧ Hid (Chg w7 W (· = gd) ∧ Dce W gd (.slice ao n c0) n))
      ((first | assumption | exact hSS | exact hSS2))
      ((first
        | (have hz := hi1; go_at_call 29; refine (HBL.out _ (by assumption)).mono ?_; rintro e v2 ⟨k, hk, hk1, rfl, hS2⟩)
        | (go_at_call 29; refine (HBL.out _ (by assumption)).mono ?_; rintro e v1 ⟨i, hi, hi1, rfl, hS1⟩; have hi0 : (0 : Int) ≤ (i : Int) := (by omega))))
    rename_i hHeld
    have hc12 := hHeld.2.out.1
    have hV := H7.out.trans (hc12.below H7.out.size (fun k e => by have e : k = gd := e; omega))
    replace f0 := hc12.cellC f0 (by show ¬ w2.heap.size = gd; omega)
    replace f1 := hc12.cellC f1 (by show ¬ w2.heap.size = gd; omega)
    have HT9 := Lib.hid (times9_c P _ m s (.slice (TA i) (2 ^ m) (TC i)) (.slice (TA k) (2 ^ m) (TC k)) (R i) (R k) _ HF.out.ok (id.out _ (BB.out.trans (hV.mono BB.out.size))) ⟨(HTO.out _ (HB6.out.trans (hV.mono HB6.out.size)) i hi).2.2, HF.out.rows i hi⟩ ⟨(HTO.out _ (HB6.out.trans (hV.mono HB6.out.size)) k hk).2.2, HF.out.rows k hk⟩)
    have HV := Lib.hid hV
    obtain ⟨lb, lo', LA, LC, la5, _, hLO⟩ := Tab.openS (v := .int .i64 0) (il.out w2 (Below.refl _ _))
    have HN : Hid (∀ W, Below w2.heap.size w2 W → ∀ j, j < G → W.cell? ⟨gt, 0 + j, none⟩ = some (.slice (LA j) (L j) (LC j))) := fun W hb j hj => by
      have h1 := la5 (by omega)
      injection h1 with h1
      injection h1 with h2 h3 h4
      rw [h2, h3]
      exact (hLO W hb j hj).1
    have HLR : Hid (∀ W, Below w2.heap.size w2 W → ∀ j, j < G → Ints W (.slice (LA j) (L j) (LC j)) (2 ^ m) (T j)) := fun W hb j hj => by
      have h1 := (hLO W hb j hj).2.2
      have h2 := HF.out.len j hj
      rw [h2] at h1 ⊢
      exact h1
    obtain ⟨NV, hNV⟩ : ∃ NV : Nat → Value, NV = fun j => .slice (LA j) (L j) (LC j) := ⟨_, rfl⟩
    have HNC : Hid (∀ W, Below w2.heap.size w2 W → ∀ j, j < G → W.cell? ⟨gt, 0 + j, none⟩ = some (NV j)) := fun W hb j hj => by rw [hNV]; exact HN.out W hb j hj
    have HNR : Hid (∀ W, Below w2.heap.size w2 W → ∀ j, j < G → Ints W (NV j) (2 ^ m) (T j)) := fun W hb j hj => by rw [hNV]; exact HLR.out W hb j hj
    have HN1 : ∀ j, j < G → (NV j).oneCell' = true := fun j _ => by rw [hNV]; rfl
    have HN1 := Lib.hid HN1
    clear hHeld hc12 hV hSS hSS2 HBL hBy la5 hLO HN HLR hNV hS1 hS2
    have ct2 := hct.2
    go_wp2_with (first
      | (at_builtin; refine wpList_app _ rfl _ _ _ _ elR rfl (own2 w8 _ _ _) rfl gt 0 G ct NV rfl (fun j hj => HNC.out _ HA8.out j hj) (fun j hj => HN1.out j hj) (by omega) (by omega) ?_; intro g9 c9 w9 hO9 hg9 hgr9)
      | (go_at_call 30; refine HT9.out.mono ?_; rintro e w8 ⟨g8, c8, rfl, hb8, hE8⟩; have h68 := Lib.hid (HV.out.trans (hb8.mono HV.out.size)); have h28 := Lib.hid (BB.out.trans (h68.out.mono BB.out.size)); have HA8 := Lib.hid (h28.out.trans (((Below.refl _ _).alloc (Nat.le_refl _) (.cells #[.slice (some ⟨gu, 0, none⟩) (2 ^ m) cu, .slice (some ⟨g8, 0, none⟩) (2 ^ m) c8] 24)).mono h28.out.size)); have HE8 := Lib.hid hE8; have HB8 := Lib.hid hb8; clear hE8 hb8))
    have h89 : Below w8.heap.size w8 w9 := ((Below.refl w8.heap.size w8).alloc (Nat.le_refl _) _).grown hgr9 (by rw [alloc_size]; omega) (fun k e => by injection e with e; omega)
    have h69 := Lib.hid (h68.out.trans (h89.mono h68.out.size))
    have h29 := Lib.hid (BB.out.trans (h69.out.mono BB.out.size))
    replace f0 := cellKp h89 (cellKp HB8.out f0)
    replace f1 := cellKp h89 (cellKp HB8.out f1)
    obtain ⟨AT, hAT⟩ : ∃ AT : Nat → Nat → Int, AT = fun j => if j = 0 then dlt 0 else if j = 1 then mulF P s m (R i) (R k) else T (j - 2) := ⟨_, rfl⟩
    have hALL : Tab w9 (.slice (some ⟨g9, 0, none⟩) (2 + G) c9) (2 + G) (fun _ => 2 ^ m) AT := tab_rows hO9.le hO9.max (fun j hj => by rw [Nat.zero_add]; exact hO9.cell hj) (fun j hj => by
      rw [hAT]
      by_cases e0 : j = 0
      · subst e0; exact HU.out.ints.below h69.out
      · by_cases e1 : j = 1
        · subst e1; exact HE8.out.ints.below h89
        · simp only [if_neg e0, if_neg e1, if_neg (show ¬ j < 2 by omega)]
          exact HNR.out w9 h29.out (j - 2) (by omega))
    have hATi : ∀ j, j < 2 + G → InP P (2 ^ m) (AT j) := fun j hj => by
      rw [hAT]
      by_cases e0 : j = 0
      · subst e0; exact HU.out.inp
      · by_cases e1 : j = 1
        · subst e1; exact HE8.out.inp
        · simp only [if_neg e0, if_neg e1]
          exact HF.out.inT (j - 2) (by omega)
    have hATs : ∀ j, j < 2 + G → Spn P (2 ^ m) (RowS M R) (AT j) := fun j hj => by
      rw [hAT]
      by_cases e0 : j = 0
      · subst e0; exact HF.out.unit
      · by_cases e1 : j = 1
        · subst e1; exact HF.out.prod i k hi hk
        · simp only [if_neg e0, if_neg e1]
          exact HF.out.list (j - 2) (by omega)
    obtain ⟨ab, ao9, A9, C9, ha9, _, hAO⟩ := Tab.openS (v := .int .i64 0) hALL
    have ha9 := ha9 (by omega)
    injection ha9 with ha9
    injection ha9 with hab hao hnn
    subst hab
    subst hao
    have HAO := Lib.hid hAO
    have HX9 := Lib.hid (HXT.out.below (HB6.out.trans (h69.out.mono HB6.out.size)))
    have HIS : Hid (∀ W j, j < 2 + G → Below w9.heap.size w9 W → Calls Try.prog 62 #[.int .i64 P, .slice (some ⟨tb, tf, none⟩) M c3, .slice (A9 j) (2 ^ m) (C9 j)] W fun e w' => Makes W w' e (.tuple #[.bool true, .int .i64 0])) := fun W j hj hb => vInSpan_c P _ _ M (2 ^ m) R (AT j) W HPR.out (HX9.out.below hb) HF.out.rows (hAO W hb j hj).2.2 (hATi j hj) ⟨h2p, h16⟩ ⟨hm1.1, hm1.2⟩ (hATs j hj)
    have HLA : Hid (∀ W, Below w9.heap.size w9 W → m ≤ 3 → G ≤ 2 → Calls Try.prog 63 #[dbl P (.slice a m c), .slice (some ⟨tb, tf, none⟩) M c3] W fun e w' => Makes W w' e (.tuple #[.bool true, .int .i64 0])) := fun W hb h3 h2 => by
      have h := iAssocOn_c P (.slice a m c) (.slice (some ⟨tb, tf, none⟩) M c3) m M s (fun _ => 2 ^ m) R W (id.out W (h29.out.trans (hb.mono h29.out.size))) (HX9.out.below hb) (by omega)
      rw [codeE_ok HF.out.ok (fun i hi => HF.out.rows i hi)] at h
      have e1 : aonB 0 P s m M R = true := by unfold aonB; rw [if_pos rfl]; exact HF.out.assoc h3 h2
      rw [e1] at h
      exact h
    have HFIN := Lib.hid (hp2.out.trans (h29.out.mono hp2.out.size))
    have h9l := h29.out.size
    obtain ⟨N9, hN9⟩ : ∃ N, 2 + G = N := ⟨_, rfl⟩
    rw [hN9] at HAO HIS
    clear hALL hAT hATi hATs hAO HX9 HXT HNR HNC HN1 HE8 HB8 HA8 h68 h28 h69 HT9 HV HU HTO HF HPR H7 HB hO9 hgr9 hg9 h89 h29 id il hp2 BB HB6
    go_wp2
    try rw [hN9]
    have F0 := Lib.hid f0
    have F1 := Lib.hid f1
    clear f0 f1
    go_loopg [15] N9 (fun gg iv wr => ∃ j : Nat, j ≤ N9 ∧ gg = N9 - j ∧ iv = .int .i64 j ∧ Hid (Below w9.heap.size w9 wr))
    case atStart => exact ⟨0, by omega, rfl, rfl, Below.refl _ _⟩
    case round =>
      obtain ⟨j, hj, rfl, rfl, hbr⟩ := hrel
      have f0 := cellKp hbr.out F0.out
      have f1 := cellKp hbr.out F1.out
      by_cases hlt : j < N9
      · have t0 := (HAO.out wr hbr.out j hlt).1
        rw [Nat.zero_add] at t0
        have ISj := Lib.hid (fun W (hb : Below wr.heap.size wr W) => HIS.out W j hlt (hbr.out.trans (hb.mono hbr.out.size)))
        have i0 : (0 : Int) ≤ (j : Int) := by omega
        have i1 : (j : Int) < (N9 : Int) := by omega
        have hS0 : wr.drew.cell? ⟨w2.heap.size, 0, none⟩ = some (.int .i64 P) ∧ wr.drew.cell? ⟨g9, j, none⟩ = some (.slice (A9 j) (2 ^ m) (C9 j)) ∧ Below wr.heap.size wr wr.drew := ⟨cellKp (drewB _) f0, cellKp (drewB _) t0, drewB _⟩
        go_wp2
        go_region_held3 (fun W => W.cell? ⟨w2.heap.size, 0, none⟩ = some (.int .i64 P) ∧ W.cell? ⟨g9, j, none⟩ = some (.slice (A9 j) (2 ^ m) (C9 j)) ∧ Below wr.heap.size wr W)
          ((first | assumption | exact hS0 | exact two2Keep (by assumption) (by assumption)))
          ((first
            | (go_at_call 62; refine Calls.makes' (ISj.out _ (two2Below (by assumption))) _ fun v5 hv5 => ?_)))
        rename_i hHeld
        have hbn := Lib.hid (hbr.out.trans (hHeld.2.2.mono hbr.out.size))
        clear hHeld hS0 t0 f0 f1 ISj
        go_wp2
        go_roundg (N9 - (j + 1))
        case measure => omega
        case rel => exact ⟨j + 1, by omega, rfl, by go_num, hbn.out⟩
      · have hfin := Lib.hid (HFIN.out.trans (hbr.out.mono HFIN.out.size))
        by_cases hg2 : 2 < G
        · have hg2i : (2 : Int) < (G : Int) := by omega
          clear HIS HLA HAO
          go_wp2
          go_ret
          exact ⟨rfl, hfin.out⟩
        · have hg2i : ¬ (2 : Int) < (G : Int) := by omega
          by_cases hm3 : 3 < m
          · have hm3i : (3 : Int) < (m : Int) := by omega
            clear HIS HLA HAO
            go_wp2
            go_ret
            exact ⟨rfl, hfin.out⟩
          · have hm3i : ¬ (3 : Int) < (m : Int) := by omega
            have IA := Lib.hid (fun W (hb : Below wr.heap.size wr W) => HLA.out W (hbr.out.trans (hb.mono hbr.out.size)) (by omega) (by omega))
            clear HIS HLA HAO
            go_wp2_with fail
            go_at_call 63
            refine Calls.makes' (IA.out _ (Below.refl _ _)) _ fun w11 hb11 => ?_
            have hf2 := hfin.out.trans (hb11.mono hfin.out.size)
            go_wp2
            go_ret
            exact ⟨rfl, hf2⟩


end Go.Proofs.Ytnnacligfoonbaa
