/-
  The law on compositions (Moufang gaps, norms, associators, cross products) returns true. No condition.
-/
import Derived.Test.YtnnacligfoonbaaLXJ
import Derived.Test.YtnnacligfoonbaaLWJ
import Derived.Test.YtnnacligfoonbaaD25
import Derived.Test.YtnnacligfoonbaaD23
import Derived.Test.YtnnacligfoonbaaDJB
import Derived.Test.YtnnacligfoonbaaF11b
import Derived.Test.YtnnacligfoonbaaDX
import Derived.Test.YtnnacligfoonbaaLX2
import Derived.Test.YtnnacligfoonbaaLC3
import Derived.Test.YtnnacligfoonbaaLW2
set_option linter.unusedVariables false
set_option linter.unusedSimpArgs false
namespace Go.Proofs.Ytnnacligfoonbaa
open Go.RowKit

/-- the doubling's box, at worlds that come after W0 -/
def SB (W0 : World) (bd : Nat) (P : Int) (a : Option Addr) (m c : Nat) (W : World) : Prop :=
  W.cell? ⟨bd, 0, none⟩ = some (.int .i64 P) ∧ W.cell? ⟨bd, 1, none⟩ = some (.slice a m c) ∧ bd < W.heap.size ∧ Below W0.heap.size W0 W
theorem sbKeep {W0 W W' : World} {bd : Nat} {P : Int} {a : Option Addr} {m c : Nat} (hb : Below W.heap.size W W') (h : SB W0 bd P a m c W) : SB W0 bd P a m c W' :=
  ⟨cellKp hb h.1, cellKp hb h.2.1, by have := hb.size; have := h.2.2.1; omega, h.2.2.2.trans (hb.mono h.2.2.2.size)⟩
theorem sb0 {W0 : World} {bd : Nat} {P : Int} {a : Option Addr} {m c : Nat} (h0 : W0.cell? ⟨bd, 0, none⟩ = some (.int .i64 P)) (h1 : W0.cell? ⟨bd, 1, none⟩ = some (.slice a m c)) (hl : bd < W0.heap.size) : SB W0 bd P a m c W0 := ⟨h0, h1, hl, Below.refl _ _⟩
theorem sbRe {W0 W : World} {q r bd : Nat} {P : Int} {a : Option Addr} {m c : Nat} (h : SB W0 bd P a m c (W.drewN q)) : SB W0 bd P a m c (W.drewN r) :=
  ⟨by simpa using h.1, by simpa using h.2.1, h.2.2.1, h.2.2.2.trans ⟨rfl, rfl, rfl, Nat.le_refl _, fun _ _ => rfl⟩⟩
theorem sbDrew {W0 : World} {bd : Nat} {P : Int} {a : Option Addr} {m c : Nat} (h0 : W0.cell? ⟨bd, 0, none⟩ = some (.int .i64 P)) (h1 : W0.cell? ⟨bd, 1, none⟩ = some (.slice a m c)) (hl : bd < W0.heap.size) : SB W0 bd P a m c W0.drew :=
  sbKeep (drewB W0) ⟨h0, h1, hl, Below.refl _ _⟩
theorem sbBelow {W0 W : World} {bd : Nat} {P : Int} {a : Option Addr} {m c : Nat} (h : SB W0 bd P a m c W) : Below W0.heap.size W0 W := h.2.2.2

theorem cg_o (pd : Int) (nd : Nat) (sd : Nat → Int) (nx : Nat) (X : Nat → Int) (ny : Nat) (Y : Nat → Int) :
    ∃ r1 r2 : Int, (codeE (dblB pd nd sd) pd nd 2 (pick3 nx ny ny) (pick3 X Y Y) = 0 → r1 = gapV pd nd sd X Y) ∧
    (∀ (W : World) (dv xv yv : Value), Ints W dv nd sd → Ints W xv nx X → Ints W yv ny Y → Calls Try.prog 54 #[dbl pd dv, xv, yv] W fun e w' => Makes W w' e (.tuple #[.int .i64 r1, .int .i64 r2])) ∧
    (∀ (W : World) (dv xv yv : Value), Ints W dv nd sd → Ints W xv nx X → Ints W yv ny Y → Calls Try.prog 53 #[dbl pd dv, xv, yv] W fun e w' => Makes W w' e (.tuple #[.int .i64 r1, .int .i64 r2])) := by
  obtain ⟨r1, r2, er⟩ := shapeC (codeE (dblB pd nd sd) pd nd 2 (pick3 nx ny ny) (pick3 X Y Y)) (gapV pd nd sd X Y)
  refine ⟨r1, r2, fun h0 => ?_, fun W dv xv yv h1 h2 h3 => er ▸ sCompositionGap_c pd dv nd sd xv nx X yv ny Y W h1 h2 h3, fun W dv xv yv h1 h2 h3 => er ▸ iCompositionGap_c pd dv nd sd xv nx X yv ny Y W h1 h2 h3⟩
  rw [h0] at er
  unfold rC at er
  rw [if_pos rfl] at er
  injection er with er
  have er := congrArg (fun a => a[0]?) er
  simp at er
  exact er.symm

theorem vCyc_c (p : Int) (sv : Value) (n : Nat) (s : Nat → Int) (xv yv zv : Value) (X Y Z : Nat → Int) (w : World) (hok : dblB p n s = true) (h : Ints w sv n s) (hx : El w xv p n X) (hy : El w yv p n Y) (hz : El w zv p n Z) :
    Calls Try.prog 56 #[dbl p sv, xv, yv, zv] w fun e w' => Makes w w' e (.tuple #[.int .i64 (cycV p n s X Y Z), .int .i64 0]) := by
  have h1 := iCyclic_c p sv n s xv (2 ^ n) X yv (2 ^ n) Y zv (2 ^ n) Z w h hx.ints hy.ints hz.ints
  rw [code3_ok 3 hok hx.inp hy.inp hz.inp] at h1
  exact h1

/-- the Moufang gap, in plain form -/
def mgF (P : Int) (s : Nat → Int) (n : Nat) (X Y Z : Nat → Int) (i : Nat) : Int := (mulF P s n (mulF P s n X (mulF P s n Y Z)) X i + -1 * mulF P s n (mulF P s n X Y) (mulF P s n Z X) i) % P
theorem own0 (w : World) : Own (w.alloc (.cells #[.int .i64 0] 2)) 2 w.heap.size 1 1 (fun _ => .int .i64 0) :=
  Own.new w 2 #[.int .i64 0] _ (by simp) fun i hi => by
    obtain rfl : i = 0 := by simp at hi; omega
    rfl
theorem cut1_off (b o c n : Nat) (hn : 1 ≤ n) (hc : n ≤ c) : ∃ off, (if c = 1 then some (⟨b, o, none⟩ : Addr) else some ⟨b, o + 1, none⟩) = some ⟨b, off, none⟩ ∧ ∀ j, j < n - 1 → off + j = o + (j + 1) := by
  by_cases e : c = 1
  · exact ⟨o, if_pos e, fun j hj => by omega⟩
  · exact ⟨o + 1, if_neg e, fun j hj => by omega⟩
theorem own0D (w : World) (q : Nat) : Own ((w.drewN q).alloc (.cells #[.int .i64 0] 2)) 2 w.heap.size 1 1 (fun _ => .int .i64 0) := by
  simpa using own0 (w.drewN q)
theorem pur_el {w : World} {g c : Nat} {P : Int} {m : Nat} {X : Nat → Int} (hO : Own w 2 g c (2 ^ m) (fun j => if j < 1 then .int .i64 0 else .int .i64 (X (j - 1 + 1)))) (hX : InP P (2 ^ m) X) (hP : 0 < P) : El w (.slice (some ⟨g, 0, none⟩) (2 ^ m) c) P m (purF X) :=
  ⟨(hO.congr fun j hj => show _ = Value.int .i64 (purF X j) by
    unfold purF
    by_cases e2 : j = 0
    · subst e2; rw [if_pos (by omega), if_pos rfl]
    · rw [if_neg (by omega), if_neg e2, show j - 1 + 1 = j by omega]).ints, purF_in hP hX⟩
theorem ml_bd {a b : Int} (h1 : 0 ≤ a ∧ a ≤ 12) (h2 : 0 ≤ b ∧ b ≤ 12) (_ : True := trivial) : 0 ≤ a * b ∧ a * b ≤ 144 :=
  ⟨Int.mul_nonneg h1.1 h2.1, by have := Int.mul_le_mul h1.2 h2.2 h2.1 (by omega : (0:Int) ≤ 12); omega⟩
theorem sq_bd {a : Int} (h1 : 0 ≤ a) (h2 : a ≤ 12) : 0 ≤ a * a ∧ a * a ≤ 144 := ml_bd ⟨h1, h2⟩ ⟨h1, h2⟩
theorem mg_o (P : Int) (n : Nat) (s : Nat → Int) (nx : Nat) (X : Nat → Int) (ny : Nat) (Y : Nat → Int) (nz : Nat) (Z : Nat → Int) :
    ∃ (cc : Int) (M : Nat), ((cc = 0 ∧ M = 2 ^ n ∧ dblB P n s = true ∧ elemB P n nx X = true ∧ elemB P n ny Y = true ∧ elemB P n nz Z = true) ∨ (cc ≠ 0 ∧ M = 0)) ∧
    (∀ (W : World) (v xv yv zv : Value), Ints W v n s → Ints W xv nx X → Ints W yv ny Y → Ints W zv nz Z → Calls Try.prog 52 #[dbl P v, xv, yv, zv] W fun e w' => ResO W w' e cc M (mgF P s n X Y Z)) ∧
    (∀ (W : World) (v xv yv zv : Value), Ints W v n s → Ints W xv nx X → Ints W yv ny Y → Ints W zv nz Z → Calls Try.prog 51 #[dbl P v, xv, yv, zv] W fun e w' => ResO W w' e cc M (mgF P s n X Y Z)) := by
  refine ⟨codeE (dblB P n s) P n 3 (pick3 nx ny nz) (pick3 X Y Z), lenC (codeE (dblB P n s) P n 3 (pick3 nx ny nz) (pick3 X Y Z)) n, ?_,
    fun W v xv yv zv h hx hy hz => (sMoufangGap_c P v n s xv nx X yv ny Y zv nz Z W h hx hy hz).mono fun _ _ h => h.toO, fun W v xv yv zv h hx hy hz => (iMoufangGap_c P v n s xv nx X yv ny Y zv nz Z W h hx hy hz).mono fun _ _ h => h.toO⟩
  by_cases h0 : codeE (dblB P n s) P n 3 (pick3 nx ny nz) (pick3 X Y Z) = 0
  · obtain ⟨hok, hel⟩ := codeE_zero h0
    exact Or.inl ⟨h0, if_pos h0, hok, hel 0 (by omega), hel 1 (by omega), hel 2 (by omega)⟩
  · exact Or.inr ⟨h0, if_neg h0⟩

set_option maxRecDepth 100000 in
set_option maxHeartbeats 8000000 in
theorem lawComposition_c (cv : Value) (n : Nat) (B : Nat → Int) (w : World) (hB : Byt w cv n B) :
    Calls Try.prog 7 #[cv] w fun e w' => Law w w' e := by
  by_cases hbig : 4096 < n
  · have hb := Lib.hid (big_c cv n B w hB)
    obtain ⟨ao, c0, _, _, rfl, qq⟩ := hB.out
    clear hB qq
    go_enter Try.func7, Try.ntmps7
    go_wp2_with fail
    refine hb.out.mono ?_
    rintro e w1 ⟨rfl, rfl⟩
    rw [show decide (4096 < n) = true from decide_eq_true hbig]
    go_wp2
    go_ret
    exact ⟨rfl, Below.refl _ _⟩
  · have hb := Lib.hid (big_c cv n B w hB)
    have hD := Lib.hid (sDrawMoufangGap_c cv n B w hB)
    have HB : Hid (∀ W, Below w.heap.size w W → Byt W cv n B) := fun W hb => hB.below hb
    obtain ⟨ao, c0, _, _, rfl, qq⟩ := hB.out
    clear hB qq
    go_enter Try.func7, Try.ntmps7
    go_wp2_with fail
    refine hb.out.mono ?_
    rintro e w1 ⟨rfl, rfl⟩
    rw [show decide (4096 < n) = false from decide_eq_false hbig]
    go_wp2_with fail
    refine hD.out.mono ?_
    rintro e w2 ⟨P, a, c, m, s, V, L, T, rfl, hb2, hs2, hV⟩
    obtain ⟨⟨xa, xc, ex⟩, hnx, _, _, hx2⟩ := hV 0 (by omega)
    obtain ⟨⟨ya, yc, ey⟩, hny, _, _, hy2⟩ := hV 1 (by omega)
    obtain ⟨⟨za, zc, ez⟩, hnz, _, _, hz2⟩ := hV 2 (by omega)
    rw [ex] at hx2
    rw [ey] at hy2
    rw [ez] at hz2
    rw [ex, ey, ez]
    obtain ⟨X, hX0⟩ : ∃ X, T 0 = X := ⟨_, rfl⟩
    obtain ⟨Y, hY0⟩ : ∃ Y, T 1 = Y := ⟨_, rfl⟩
    obtain ⟨Z, hZ0⟩ : ∃ Z, T 2 = Z := ⟨_, rfl⟩
    obtain ⟨nx, hx0⟩ : ∃ nx, L 0 = nx := ⟨_, rfl⟩
    obtain ⟨ny, hy0⟩ : ∃ ny, L 1 = ny := ⟨_, rfl⟩
    obtain ⟨nz, hz0⟩ : ∃ nz, L 2 = nz := ⟨_, rfl⟩
    rw [hX0, hx0] at hx2
    rw [hY0, hy0] at hy2
    rw [hZ0, hz0] at hz2
    rw [hx0] at hnx ⊢
    rw [hy0] at hny ⊢
    rw [hz0] at hnz ⊢
    replace hx2 := hx2 w2 (Chg.refl _ _)
    replace hy2 := hy2 w2 (Chg.refl _ _)
    replace hz2 := hz2 w2 (Chg.refl _ _)
    clear hV ex ey ez hX0 hY0 hZ0 hx0 hy0 hz0
    have hs2 := hs2.ints
    have hp2 := Lib.hid hb2
    obtain ⟨cc, M, hcs, k1, k2⟩ := mg_o P m s nx X ny Y nz Z
    obtain ⟨r1, r2, hr1, k3, k4⟩ := cg_o P m s nx X ny Y
    have HR1 := Lib.hid hr1
    have hcs := Lib.hid hcs
    have K1 := Lib.hid k1
    have K2 := Lib.hid k2
    have K3 := Lib.hid k3
    have K4 := Lib.hid k4
    have id : Hid (∀ W, Below w2.heap.size w2 W → Ints W (.slice a m c) m s) := fun W hb => hs2.below hb
    have ix : Hid (∀ W, Below w2.heap.size w2 W → Ints W (.slice xa nx xc) nx X) := fun W hb => hx2.below hb
    have iy : Hid (∀ W, Below w2.heap.size w2 W → Ints W (.slice ya ny yc) ny Y) := fun W hb => hy2.below hb
    have iz : Hid (∀ W, Below w2.heap.size w2 W → Ints W (.slice za nz zc) nz Z) := fun W hb => hz2.below hb
    obtain ⟨f0, f1, _, bb⟩ := box0 w2 P a m c 26
    have hl := hp2.out.size
    clear k1 k2 k3 k4 hr1 hs2 hb hD hb2 hx2 hy2 hz2
    go_wp2_with fail
    go_at_call 51
    refine (K2.out _ _ _ _ _ (id.out _ bb) (ix.out _ bb) (iy.out _ bb) (iz.out _ bb)).mono ?_
    rintro e w3 ⟨a3, c3, rfl, hb3, o3⟩
    replace f0 := cellKp hb3 f0
    replace f1 := cellKp hb3 f1
    have bb := bb.trans (hb3.mono bb.size)
    have hG := Lib.hid o3.ints
    clear o3 hb3
    go_wp2_with fail
    go_at_call 52
    refine (K1.out _ _ _ _ _ (id.out _ bb) (ix.out _ bb) (iy.out _ bb) (iz.out _ bb)).mono ?_
    rintro e w4 ⟨a4, c4, rfl, hb4, o4⟩
    replace f0 := cellKp hb4 f0
    replace f1 := cellKp hb4 f1
    have bb := bb.trans (hb4.mono bb.size)
    replace hG := Lib.hid (hG.out.below hb4)
    have hH := Lib.hid o4.ints
    clear o4 hb4
    go_wp2_with fail
    go_at_call 16
    refine Calls.reads' (wr := w) (likeInts_c _ _ _ _ _ _ _ hG.out hH.out) _ fun q5 => ?_
    rw [eqB_refl]
    clear hH
    replace f0 := cellKp (below_drewN _ q5) f0
    replace f1 := cellKp (below_drewN _ q5) f1
    have bb := bb.trans ((below_drewN _ q5).mono bb.size)
    replace hG := Lib.hid (hG.out.below (below_drewN _ q5))
    go_wp2_with fail
    go_at_call 53
    refine Calls.makes' (K4.out _ _ _ _ (id.out _ bb) (ix.out _ bb) (iy.out _ bb)) _ fun w6 hb6 => ?_
    replace f0 := cellKp hb6 f0
    replace f1 := cellKp hb6 f1
    have bb := bb.trans (hb6.mono bb.size)
    replace hG := Lib.hid (hG.out.below hb6)
    clear hb6
    go_wp2_with fail
    go_at_call 54
    refine Calls.makes' (K3.out _ _ _ _ (id.out _ bb) (ix.out _ bb) (iy.out _ bb)) _ fun w7 hb7 => ?_
    replace f0 := cellKp hb7 f0
    replace f1 := cellKp hb7 f1
    have bb := bb.trans (hb7.mono bb.size)
    replace hG := Lib.hid (hG.out.below hb7)
    clear hb7
    clear K1 K2 K3 K4
    rcases hcs.out with ⟨rfl, rfl, hok, hex, hey, hez⟩ | ⟨hcc, rfl⟩
    rotate_left
    · have hfin := Lib.hid (hp2.out.trans (bb.mono hp2.out.size))
      clear hcs hG id hp2 bb ix iy iz HR1
      have hcc' : (cc != 0) = true := by simpa using hcc
      clear hcc
      go_wp2
      go_ret
      exact ⟨rfl, hfin.out⟩
    clear hcs
    obtain ⟨rfl, hxe⟩ := elemB_el (ix.out _ bb) hex
    obtain ⟨rfl, hye⟩ := elemB_el (iy.out _ bb) hey
    obtain ⟨rfl, hze⟩ := elemB_el (iz.out _ bb) hez
    have hr1 := HR1.out (code3_ok 2 hok hxe.inp hye.inp hye.inp)
    have hpb := primeB_bd (dblB_ok hok).prime
    have hn4 := (dblB_ok hok).le
    have HC4 := Lib.hid (cl4_of (dblB_ok hok).prime hn4 s X Y Z)
    have HC3 : Hid (m ≤ 3 → CL3 P m s X Y Z) := fun h => cl3_of (dblB_ok hok).prime h s X Y Z
    have HR := Lib.hid hr1
    have HOK := Lib.hid hok
    have hx := Lib.hid hxe
    have hy := Lib.hid hye
    have hz := Lib.hid hze
    have hM16 := pow_le hn4
    obtain ⟨cy, hcy⟩ : ∃ cy, cycV P m s X Y Z = cy := ⟨_, rfl⟩
    have VC1 : Hid (∀ W, Below w2.heap.size w2 W → El W (.slice xa (2 ^ m) xc) P m X → El W (.slice ya (2 ^ m) yc) P m Y → El W (.slice za (2 ^ m) zc) P m Z → Calls Try.prog 56 #[dbl P (.slice a m c), .slice xa (2 ^ m) xc, .slice ya (2 ^ m) yc, .slice za (2 ^ m) zc] W fun e w' => Makes W w' e (.tuple #[.int .i64 cy, .int .i64 0])) := fun W hb h1 h2 h3 => hcy ▸ vCyc_c P _ m s _ _ _ X Y Z W HOK.out (id.out W hb) h1 h2 h3
    have VC2 : Hid (∀ W, Below w2.heap.size w2 W → El W (.slice xa (2 ^ m) xc) P m X → El W (.slice ya (2 ^ m) yc) P m Y → El W (.slice za (2 ^ m) zc) P m Z → Calls Try.prog 56 #[dbl P (.slice a m c), .slice ya (2 ^ m) yc, .slice za (2 ^ m) zc, .slice xa (2 ^ m) xc] W fun e w' => Makes W w' e (.tuple #[.int .i64 cy, .int .i64 0])) := fun W hb h1 h2 h3 => (HC4.out.cyc.symm.trans hcy) ▸ vCyc_c P _ m s _ _ _ Y Z X W HOK.out (id.out W hb) h2 h3 h1
    clear hok hex hey hez hxe hye hze hr1 HR1 hcy hnx hny hnz ix iy iz
    go_wp2_with fail
    go_at_call 55
    refine (vAsc_c P _ m s _ _ _ X Y Z _ HOK.out (id.out _ bb) hx.out hy.out hz.out).mono ?_
    rintro e w8 ⟨g8, c8, rfl, hb8, o8⟩
    replace f0 := cellKp hb8 f0
    replace f1 := cellKp hb8 f1
    have bb := bb.trans (hb8.mono bb.size)
    replace hG := Lib.hid (hG.out.below hb8)
    replace hx := Lib.hid (hx.out.below hb8)
    replace hy := Lib.hid (hy.out.below hb8)
    replace hz := Lib.hid (hz.out.below hb8)
    have hA := Lib.hid o8
    clear o8 hb8
    go_wp2_with fail
    go_at_call 55
    refine (vAsc_c P _ m s _ _ _ Y X Z _ HOK.out (id.out _ bb) hy.out hx.out hz.out).mono ?_
    rintro e w9 ⟨g9, c9, rfl, hb9, o9⟩
    replace f0 := cellKp hb9 f0
    replace f1 := cellKp hb9 f1
    have bb := bb.trans (hb9.mono bb.size)
    replace hG := Lib.hid (hG.out.below hb9)
    replace hx := Lib.hid (hx.out.below hb9)
    replace hy := Lib.hid (hy.out.below hb9)
    replace hz := Lib.hid (hz.out.below hb9)
    replace hA := Lib.hid (hA.out.below hb9)
    have hB := Lib.hid o9
    clear o9 hb9
    go_wp2_with fail
    go_at_call 55
    refine (vAsc_c P _ m s _ _ _ Y Z X _ HOK.out (id.out _ bb) hy.out hz.out hx.out).mono ?_
    rintro e w10 ⟨g10, c10, rfl, hb10, o10⟩
    replace f0 := cellKp hb10 f0
    replace f1 := cellKp hb10 f1
    have bb := bb.trans (hb10.mono bb.size)
    replace hG := Lib.hid (hG.out.below hb10)
    replace hx := Lib.hid (hx.out.below hb10)
    replace hy := Lib.hid (hy.out.below hb10)
    replace hz := Lib.hid (hz.out.below hb10)
    replace hA := Lib.hid (hA.out.below hb10)
    replace hB := Lib.hid (hB.out.below hb10)
    have hF := Lib.hid o10
    clear o10 hb10
    go_wp2_with fail
    go_at_call 56
    refine Calls.makes' (VC1.out _ bb hx.out hy.out hz.out) _ fun w11 hb11 => ?_
    replace f0 := cellKp hb11 f0
    replace f1 := cellKp hb11 f1
    have bb := bb.trans (hb11.mono bb.size)
    replace hG := Lib.hid (hG.out.below hb11)
    replace hx := Lib.hid (hx.out.below hb11)
    replace hy := Lib.hid (hy.out.below hb11)
    replace hz := Lib.hid (hz.out.below hb11)
    replace hA := Lib.hid (hA.out.below hb11)
    replace hB := Lib.hid (hB.out.below hb11)
    replace hF := Lib.hid (hF.out.below hb11)
    clear hb11
    go_wp2_with fail
    go_at_call 56
    refine Calls.makes' (VC2.out _ bb hx.out hy.out hz.out) _ fun w12 hb12 => ?_
    replace f0 := cellKp hb12 f0
    replace f1 := cellKp hb12 f1
    have bb := bb.trans (hb12.mono bb.size)
    replace hG := Lib.hid (hG.out.below hb12)
    replace hx := Lib.hid (hx.out.below hb12)
    replace hy := Lib.hid (hy.out.below hb12)
    replace hz := Lib.hid (hz.out.below hb12)
    replace hA := Lib.hid (hA.out.below hb12)
    replace hB := Lib.hid (hB.out.below hb12)
    replace hF := Lib.hid (hF.out.below hb12)
    clear hb12
    clear VC1 VC2
    go_wp2_with fail
    go_at_call 57
    refine (vCom_c P _ m s _ _ X Y _ HOK.out (id.out _ bb) hx.out hy.out).mono ?_
    rintro e w13 ⟨g13, c13, rfl, hb13, o13⟩
    replace f0 := cellKp hb13 f0
    replace f1 := cellKp hb13 f1
    have bb := bb.trans (hb13.mono bb.size)
    replace hG := Lib.hid (hG.out.below hb13)
    replace hx := Lib.hid (hx.out.below hb13)
    replace hy := Lib.hid (hy.out.below hb13)
    replace hz := Lib.hid (hz.out.below hb13)
    replace hA := Lib.hid (hA.out.below hb13)
    replace hB := Lib.hid (hB.out.below hb13)
    replace hF := Lib.hid (hF.out.below hb13)
    have hC := Lib.hid o13
    clear o13 hb13
    clear hz
    have IW : Hid (∀ W, Below (w13).heap.size (w13) W → Ints W (.slice a m c) m s) := fun W hb => id.out W (bb.trans (hb.mono bb.size))
    have hin1 : Hid (InP P (2 ^ m) (fun i => (-1 * mulF P s m Y X i) % P)) := in_mod (by omega) _ _
    have hlw := lt_of_cell f0
    go_wp2
    go_region_held3 (fun W => W.cell? ⟨w2.heap.size, 0, none⟩ = some (.int .i64 P) ∧ W.cell? ⟨w2.heap.size, 1, none⟩ = some (.slice a m c) ∧ w2.heap.size < W.heap.size ∧ Below (w13).heap.size (w13) W)
      ((first | assumption | exact sbDrew f0 f1 hlw | exact sbKeep (by assumption) (by assumption) | exact sbKeep (below_drewN _ _) (sb0 f0 f1 hlw) | exact sbRe (sb0 f0 f1 hlw) | exact sbKeep (below_drewN _ _) (by assumption)))
      ((first
        | (have hz := hO4; go_at_call 16; refine Calls.reads' (wr := w) (likeInts_c _ _ (2 ^ m) (2 ^ m) (coF P s m X Y) (fun i => (mulF P s m X Y i + (-1 * mulF P s m Y X i) % P) % P) _ (hC.out.below (sbBelow (by assumption))).ints hO4.ints) _ fun q5 => ?_; rw [HC4.out.com]; clear hz)
        | (have hz := hO3; go_at_call 43; refine (add9_c P _ _ (2 ^ m) (mulF P s m X Y) (fun i => (-1 * mulF P s m Y X i) % P) _ ((hT1.below hb2).below hb3).ints hO3.ints (by omega) (by omega) (by omega) hT1.inp hin1.out).mono ?_; rintro e v4 ⟨y4, d4, rfl, hg4, hb4, hO4⟩; clear hz)
        | (have hz := hT2; go_at_call 44; refine (scale9_c P (-1) _ (2 ^ m) (mulF P s m Y X) _ hT2.ints (by omega) (by omega) (by omega) (by omega) hT2.inp).mono ?_; rintro e v3 ⟨y3, d3, rfl, hg3, hb3, hO3⟩; clear hz)
        | (have hz := hT1; go_at_call 30; refine (times9_c P _ m s _ _ _ _ _ HOK.out (IW.out _ (sbBelow (by assumption))) (hy.out.below (sbBelow (by assumption))) (hx.out.below (sbBelow (by assumption)))).mono ?_; rintro e v2 ⟨y2, d2, rfl, hb2, hT2⟩; clear hz)
        | (go_at_call 30; refine (times9_c P _ m s _ _ _ _ _ HOK.out (IW.out _ (sbBelow (by assumption))) (hx.out.below (sbBelow (by assumption))) (hy.out.below (sbBelow (by assumption)))).mono ?_; rintro e v1 ⟨y1, d1, rfl, hb1, hT1⟩)))
    have hbr : Below (w13).heap.size (w13) (v4.drewN _) := sbBelow (by assumption)
    replace f0 := cellKp hbr f0
    replace f1 := cellKp hbr f1
    have bb := bb.trans (hbr.mono bb.size)
    replace hG := Lib.hid (hG.out.below hbr)
    replace hx := Lib.hid (hx.out.below hbr)
    replace hy := Lib.hid (hy.out.below hbr)
    replace hA := Lib.hid (hA.out.below hbr)
    replace hB := Lib.hid (hB.out.below hbr)
    replace hF := Lib.hid (hF.out.below hbr)
    replace hC := Lib.hid (hC.out.below hbr)
    clear hbr
    clear hT1 hT2 hO3 hO4 hb1 hb2 hb3 hb4 hg3 hg4 hin1 IW HC4
    clear hC
    by_cases h3 : m ≤ 3
    rotate_left
    · have h3b : decide ((m : Int) > 3) = true := decide_eq_true (by omega)
      have hfin := Lib.hid (hp2.out.trans (bb.mono hp2.out.size))
      clear hp2 bb id hA hB hF hG hx hy HC3 HR HOK
      go_wp2
      go_ret
      exact ⟨rfl, hfin.out⟩
    have h3b : decide ((m : Int) > 3) = false := decide_eq_false (by omega)
    have HD := Lib.hid (HC3.out h3)
    have hr0 : r1 = 0 := HR.out.trans HD.out.comp
    subst hr0
    clear HC3 HR h3
    go_wp2_with fail
    go_at_call 42
    refine (zero9_c _ (2 ^ m) (mgF P s m X Y Z) _ hG.out).mono ?_
    rintro e wz ⟨rfl, rfl⟩
    rw [show zeroB (2 ^ m) (mgF P s m X Y Z) = true from HD.out.mou]
    clear hG
    go_wp2_with fail
    go_at_call 43
    refine (add9_c P _ _ (2 ^ m) (asF P s m X Y Z) (asF P s m Y X Z) _ hA.out.ints hB.out.ints (by omega) (by omega) (by omega) hA.out.inp hB.out.inp).mono ?_
    rintro e w30 ⟨y7, d7, rfl, hg7, hb7, hO7⟩
    replace f0 := cellKp hb7 f0
    replace f1 := cellKp hb7 f1
    have bb := bb.trans (hb7.mono bb.size)
    replace hx := Lib.hid (hx.out.below hb7)
    replace hy := Lib.hid (hy.out.below hb7)
    replace hA := Lib.hid (hA.out.below hb7)
    replace hB := Lib.hid (hB.out.below hb7)
    replace hF := Lib.hid (hF.out.below hb7)
    go_wp2_with fail
    go_at_call 42
    refine (zero9_c _ (2 ^ m) (fun i => (asF P s m X Y Z i + asF P s m Y X Z i) % P) _ hO7.ints).mono ?_
    rintro e wz ⟨rfl, rfl⟩
    rw [HD.out.alt]
    clear hO7 hb7 hg7
    go_wp2_with fail
    go_at_call 16
    refine Calls.reads' (wr := w) (likeInts_c _ _ _ _ _ _ _ hA.out.ints hF.out.ints) _ fun q14 => ?_
    rw [HD.out.turn]
    clear hA
    clear hB
    clear hF
    replace f0 := cellKp (below_drewN _ q14) f0
    replace f1 := cellKp (below_drewN _ q14) f1
    have bb := bb.trans ((below_drewN _ q14).mono bb.size)
    replace hx := Lib.hid (hx.out.below (below_drewN _ q14))
    replace hy := Lib.hid (hy.out.below (below_drewN _ q14))
    obtain ⟨_, _, xb, xo, exx, xq2, xq3, xq4, xq5⟩ := hx.out.ints.out
    cases exx
    obtain rfl := xq4 hx.out.pos
    obtain ⟨_, _, yb, yo, eyy, yq2, yq3, yq4, yq5⟩ := hy.out.ints.out
    cases eyy
    obtain rfl := yq4 hy.out.pos
    have hpos : 1 ≤ 2 ^ m := hx.out.pos
    clear yq5 yq2 yq3 yq4 xq4 hcs
    have hxi : InP P (2 ^ m) X := hx.out.inp
    have hyi : InP P (2 ^ m) Y := hy.out.inp
    obtain ⟨_, _, yb', yo', eyy, yq2, yq3, yq4, yq5⟩ := hy.out.ints.out
    cases eyy
    have e4 := yq4 hy.out.pos
    cases e4
    clear yq4
    obtain ⟨ofx, hofx, hojx⟩ := cut1_off xb xo xc (2 ^ m) hpos xq2
    obtain ⟨ofy, hofy, hojy⟩ := cut1_off yb yo yc (2 ^ m) hpos yq2
    have XQ := Lib.hid xq5
    have YQ := Lib.hid yq5
    have HJX := Lib.hid hojx
    have HJY := Lib.hid hojy
    clear xq5 yq5 hojx hojy
    go_wp2_with (at_builtin; (first
      | ((first | rw [hofx] | skip); refine wpList_app _ rfl _ _ _ _ elI rfl (own0D _ _) rfl xb ofx (2 ^ m - 1) _ (fun j => .int .i64 (X (j + 1))) rfl (fun j hj => by have := cellKp ((Below.refl _ _).alloc (Nat.le_refl _) (.cells #[.int .i64 0] 2)) (XQ.out (j + 1) (by omega)); rw [HJX.out j hj]; exact this) (fun _ _ => rfl) (by omega) (by omega) ?_; intro g15 c15 w15 hO15 hg15 hgr15; rw [show 1 + (2 ^ m - 1) = 2 ^ m by omega] at hO15 ⊢; have HB15 := Lib.hid (((Below.refl _ _).alloc (Nat.le_refl _) (.cells #[.int .i64 0] 2)).grown hgr15 (by simp) (fun k e => by injection e with e; simp at hg15; first | omega | (simp; omega))); have HO15 := Lib.hid hO15; have hl15 := hO15.lt; clear hO15 hg15 hgr15)
      | ((first | rw [hofy] | skip); refine wpList_app _ rfl _ _ _ _ elI rfl (own0 _) rfl yb ofy (2 ^ m - 1) _ (fun j => .int .i64 (Y (j + 1))) rfl (fun j hj => by have := cellKp ((Below.refl _ _).alloc (Nat.le_refl _) (.cells #[.int .i64 0] 2)) (cellKp HB15.out (YQ.out (j + 1) (by omega))); rw [HJY.out j hj]; exact this) (fun _ _ => rfl) (by omega) (by omega) ?_; intro g16 c16 w16 hO16 hg16 hgr16; rw [show 1 + (2 ^ m - 1) = 2 ^ m by omega] at hO16 ⊢; have HB16 := Lib.hid (((Below.refl _ _).alloc (Nat.le_refl _) (.cells #[.int .i64 0] 2)).grown hgr16 (by simp) (fun k e => by injection e with e; simp at hg16; first | omega | (simp; omega))); have HO16 := Lib.hid hO16; replace f0 := cellKp HB16.out (cellKp HB15.out f0); replace f1 := cellKp HB16.out (cellKp HB15.out f1); clear hO16 hg16 hgr16)))
    have hb16 := HB15.out.trans (HB16.out.mono HB15.out.size)
    have hM : Hid (El w16 (.slice (some ⟨g15, 0, none⟩) (2 ^ m) c15) P m (purF X)) := El.below (pur_el HO15.out hxi (by omega)) HB16.out
    have hN : Hid (El w16 (.slice (some ⟨g16, 0, none⟩) (2 ^ m) c16) P m (purF Y)) := pur_el HO16.out hyi (by omega)
    clear hx
    clear hy
    have bb := bb.trans (hb16.mono bb.size)
    clear hb16 HB15 HB16 HO15 HO16 XQ YQ HJX HJY hofx hofy xq2 xq3 yq2 yq3 hxi hyi
    obtain ⟨gg, hgg⟩ : ∃ x, normF P s m (purF X) = x := ⟨_, rfl⟩
    obtain ⟨hh, hhh⟩ : ∃ x, normF P s m (purF Y) = x := ⟨_, rfl⟩
    obtain ⟨kk, hkk⟩ : ∃ x, normF P s m (crF P s m (purF X) (purF Y)) = x := ⟨_, rfl⟩
    obtain ⟨mm, hmm⟩ : ∃ x, mulF P s m (purF X) (purF Y) 0 = x := ⟨_, rfl⟩
    have VN1 : Hid (∀ W v, Below w2.heap.size w2 W → El W v P m (purF X) → Calls Try.prog 17 #[dbl P (.slice a m c), v] W fun e w' => Makes W w' e (.tuple #[.int .i64 gg, .int .i64 0])) := fun W v hb h1 => hgg ▸ vNorm_c P _ m s _ (purF X) W HOK.out (id.out W hb) h1
    have VN2 : Hid (∀ W v, Below w2.heap.size w2 W → El W v P m (purF Y) → Calls Try.prog 17 #[dbl P (.slice a m c), v] W fun e w' => Makes W w' e (.tuple #[.int .i64 hh, .int .i64 0])) := fun W v hb h1 => hhh ▸ vNorm_c P _ m s _ (purF Y) W HOK.out (id.out W hb) h1
    have VN3 : Hid (∀ W v, Below w2.heap.size w2 W → El W v P m (crF P s m (purF X) (purF Y)) → Calls Try.prog 17 #[dbl P (.slice a m c), v] W fun e w' => Makes W w' e (.tuple #[.int .i64 kk, .int .i64 0])) := fun W v hb h1 => hkk ▸ vNorm_c P _ m s _ (crF P s m (purF X) (purF Y)) W HOK.out (id.out W hb) h1
    have b1 := normF_in (by omega : 0 < P) s m (purF X)
    have b2 := normF_in (by omega : 0 < P) s m (purF Y)
    have b3 := normF_in (by omega : 0 < P) s m (crF P s m (purF X) (purF Y))
    have b4 := mulF_in (by omega : 0 < P) s m (purF X) (purF Y) 1 0 (by omega)
    have hcx := HD.out.cross
    rw [hgg, hhh, hkk, hmm] at hcx
    rw [hgg] at b1
    rw [hhh] at b2
    rw [hkk] at b3
    rw [hmm] at b4
    have m1 : 0 ≤ mm * mm ∧ mm * mm ≤ 144 := sq_bd (by omega) (by omega)
    have m2 : 0 ≤ gg * hh ∧ gg * hh ≤ 144 := ml_bd (by omega) (by omega)
    obtain ⟨mm2, hmm2⟩ : ∃ x, mm * mm = x := ⟨_, rfl⟩
    obtain ⟨gh, hgh⟩ : ∃ x, gg * hh = x := ⟨_, rfl⟩
    rw [hmm2] at hcx m1
    rw [hgh] at hcx m2
    obtain ⟨rr, hrr⟩ : ∃ x, (kk + mm2).tmod P = x := ⟨_, rfl⟩
    have hr2 : gh.tmod P = rr := by
      rw [← hrr, Int.tmod_eq_emod_of_nonneg (by omega), Int.tmod_eq_emod_of_nonneg (by omega)]; exact hcx.symm
    have q1 : IntKind.i64.wrap (mm * mm) = mm2 := by rw [hmm2]; exact wrap_in' _ (by omega)
    have q2 : IntKind.i64.wrap (gg * hh) = gh := by rw [hgh]; exact wrap_in' _ (by omega)
    obtain ⟨sm, hsm⟩ : ∃ x, kk + mm2 = x := ⟨_, rfl⟩
    have q3 : IntKind.i64.wrap (kk + mm2) = sm := by rw [hsm]; exact wrap_in' _ (by omega)
    rw [hsm] at hrr
    have HMM := Lib.hid hmm
    have Q1 := Lib.hid q1
    have Q2 := Lib.hid q2
    have Q3 := Lib.hid q3
    have R1 := Lib.hid hrr
    have R2 := Lib.hid hr2
    have HP0 : Hid (P ≠ 0) := (by omega : P ≠ 0)
    clear hgg hhh hkk hmm hcx m1 m2 hmm2 hgh hrr hr2 q1 q2 q3 hsm b1 b2 b3 b4
    go_at_call 58
    refine (vCross_c P _ m s _ _ (purF X) (purF Y) _ HOK.out (id.out _ bb) hM.out hN.out rfl rfl).mono ?_
    rintro e w17 ⟨g17, c17, rfl, hb17, o17⟩
    replace f0 := cellKp hb17 f0
    replace f1 := cellKp hb17 f1
    have bb := bb.trans (hb17.mono bb.size)
    replace hM := Lib.hid (hM.out.below hb17)
    replace hN := Lib.hid (hN.out.below hb17)
    have hK := Lib.hid o17
    clear o17 hb17
    go_wp2_with fail
    go_at_call 17
    refine Calls.makes' (VN1.out _ _ bb hM.out) _ fun w18 hb18 => ?_
    replace f0 := cellKp hb18 f0
    replace f1 := cellKp hb18 f1
    have bb := bb.trans (hb18.mono bb.size)
    replace hM := Lib.hid (hM.out.below hb18)
    replace hN := Lib.hid (hN.out.below hb18)
    replace hK := Lib.hid (hK.out.below hb18)
    clear hb18
    go_wp2_with fail
    go_at_call 17
    refine Calls.makes' (VN2.out _ _ bb hN.out) _ fun w19 hb19 => ?_
    replace f0 := cellKp hb19 f0
    replace f1 := cellKp hb19 f1
    have bb := bb.trans (hb19.mono bb.size)
    replace hM := Lib.hid (hM.out.below hb19)
    replace hN := Lib.hid (hN.out.below hb19)
    replace hK := Lib.hid (hK.out.below hb19)
    clear hb19
    go_wp2_with fail
    go_at_call 17
    refine Calls.makes' (VN3.out _ _ bb hK.out) _ fun w20 hb20 => ?_
    replace f0 := cellKp hb20 f0
    replace f1 := cellKp hb20 f1
    have bb := bb.trans (hb20.mono bb.size)
    replace hM := Lib.hid (hM.out.below hb20)
    replace hN := Lib.hid (hN.out.below hb20)
    replace hK := Lib.hid (hK.out.below hb20)
    clear hb20
    clear hK
    go_wp2_with fail
    go_at_call 30
    refine (times9_c P _ m s _ _ _ _ _ HOK.out (id.out _ bb) hM.out hN.out).mono ?_
    rintro e w21 ⟨g21, c21, rfl, hb21, o21⟩
    replace f0 := cellKp hb21 f0
    replace f1 := cellKp hb21 f1
    have bb := bb.trans (hb21.mono bb.size)
    replace hM := Lib.hid (hM.out.below hb21)
    replace hN := Lib.hid (hN.out.below hb21)
    have hR := Lib.hid o21
    clear o21 hb21
    have hfin := Lib.hid (hp2.out.trans (bb.mono hp2.out.size))
    obtain ⟨_, _, rb, ro, err, rq2, rq3, rq4, rq5⟩ := hR.out.ints.out
    cases err
    have erq := rq4 hR.out.pos
    cases erq
    have z0 := rq5 0 hR.out.pos
    rw [HMM.out] at z0
    simp only [Nat.add_zero, Nat.zero_add] at z0
    have hpos : 0 < 2 ^ m := hR.out.pos
    have q1 := Q1.out
    have q2 := Q2.out
    have q3 := Q3.out
    have r1 := R1.out
    have r2 := R2.out
    have hP0 := HP0.out
    clear rq5 rq4 rq2 rq3 hp2 bb id hM hN hR VN1 VN2 VN3 HMM Q1 Q2 Q3 R1 R2 HP0 HOK HD
    go_wp2_with fail
    obtain ⟨M, hM⟩ : ∃ M, 2 ^ m = M := ⟨_, rfl⟩
    rw [hM] at hpos
    rw [hM]
    have i1 : (0 : Int) < (M : Int) := by omega
    have i2 : decide ((M : Int) > 0) = true := decide_eq_true i1
    clear hM
    go_quiet (fail)
    go_wp2
    go_ret
    exact ⟨rfl, hfin.out.trans ((below_drewN _ _).mono hfin.out.size)⟩

end Go.Proofs.Ytnnacligfoonbaa
