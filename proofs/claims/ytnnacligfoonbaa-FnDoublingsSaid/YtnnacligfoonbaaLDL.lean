/-
  The law on doublings (squares, conjugates, inverses, powers) returns true. No condition.
-/
import Derived.Test.YtnnacligfoonbaaLX2
import Derived.Test.YtnnacligfoonbaaLW2
import Derived.Test.YtnnacligfoonbaaLC3
import Derived.Test.YtnnacligfoonbaaQDb
import Derived.Test.YtnnacligfoonbaaF11b
import Derived.Test.YtnnacligfoonbaaDX
set_option linter.unusedVariables false
set_option linter.unusedSimpArgs false
namespace Go.Proofs.Ytnnacligfoonbaa
open Go.RowKit

theorem dlt_C (i : Nat) : dlt i = dltC 1 i := rfl
theorem powE_pw (p : Int) (s : Nat → Int) (n : Nat) (X : Nat → Int) : ∀ k, powE p s n X k = pwF p s n X k
  | 0 => rfl
  | k + 1 => by rw [powE, pwF, powE_pw p s n X k]
theorem cg_eqB {p : Int} {n : Nat} {F G : Nat → Int} (h : CgV p n F G) (hF : InP p n F) (hG : InP p n G) : eqB n n F G = true :=
  eqB_all fun i hi => (h i hi).eq (hF i hi) (hG i hi)
/-- what the law compares, in plain form -/
structure DL (p : Int) (n : Nat) (s X Y : Nat → Int) : Prop where
  conj : eqB (2 ^ n) (2 ^ n) (conjF p (mulF p s n X Y)) (mulF p s n (conjF p Y) (conjF p X)) = true
  sq : eqB (2 ^ n) (2 ^ n) (powE p s n X 2) (mulF p s n X X) = true
  zero : zeroB (2 ^ n) (fun i => ((powE p s n X 2 i + (-((2 * X 0) % p) * X i) % p) % p + (normF p s n X * dlt 0 i) % p) % p) = true
  norm : eqB (2 ^ n) (2 ^ n) (mulF p s n X (conjF p X)) (fun i => (normF p s n X * dlt 0 i) % p) = true
  inv : normF p s n X ≠ 0 → eqB (2 ^ n) (2 ^ n) (mulF p s n X (fun i => (conjF p X i * invM p (normF p s n X)) % p)) (dlt 0) = true ∧ eqB (2 ^ n) (2 ^ n) (mulF p s n (fun i => (conjF p X i * invM p (normF p s n X)) % p) X) (dlt 0) = true
  pow : ∀ i k : Nat, eqB (2 ^ n) (2 ^ n) (powE p s n X (i + k)) (mulF p s n (powE p s n X i) (powE p s n X k)) = true
theorem dl_of {p : Int} (hp : primeB p = true) (n : Nat) (s : Nat → Int) {X Y : Nat → Int} (hX : InP p (2 ^ n) X) (hY : InP p (2 ^ n) Y) : DL p n s X Y := by
  have hb := primeB_bd hp
  have hM : ∀ F G : Nat → Int, InP p (2 ^ n) (mulF p s n F G) := fun F G => mulF_in (by omega) s n F G _
  have h2 : CgV p (2 ^ n) (powE p s n X 2) (mulF p s n X X) := mul_cg n (mul_oneL n X) (CgV.rfl' _ _ _)
  have hN := normF_in (by omega : 0 < p) s n X
  refine ⟨?_, ?_, ?_, ?_, ?_, ?_⟩
  · exact cg_eqB (conj_mul n X Y) (conjF_in (by omega) (hM _ _)) (hM _ _)
  · exact cg_eqB h2 (powE_in (by omega) s n X 2) (hM _ _)
  · refine decide_eq_true fun i hi => Cg.zero ?_
    have h3 := (h2.trans (sq_cg n X)) i hi
    refine (((Cg.mod p _).trans (h3.add ((Cg.mod p _).trans ((Cg.mod p (2 * X 0)).neg.mul (Cg.rfl' p (X i)))))).add (Cg.mod p _)).trans (Cg.of_eq ?_)
    show (2 * X 0 * X i + -1 * (if i = 0 then normF p s n X else 0) + -(2 * X 0) * X i) + normF p s n X * (if i = 0 then 1 else 0) = 0
    split <;> grind
  · refine cg_eqB ((mul_conj n X).1.trans fun i hi => (Cg.of_eq ?_).trans (Cg.mod' p _)) (hM _ _) (in_mod (by omega) _ _)
    show (if i = 0 then normF p s n X else 0) = normF p s n X * (if i = 0 then 1 else 0)
    split <;> omega
  · intro h0
    obtain ⟨v1, v2, v3⟩ := invM_spec hp (a := normF p s n X) (by omega) hN.2
    obtain ⟨V, hV⟩ : ∃ V, invM p (normF p s n X) = V := ⟨_, rfl⟩
    rw [hV] at v1 v2 v3 ⊢
    have c1 : CgV p (2 ^ n) (fun i => (conjF p X i * V) % p) fun i => V * conjF p X i := fun i hi => (Cg.mod p _).trans (Cg.of_eq (Int.mul_comm _ _))
    have c2 : CgV p (2 ^ n) X fun i => 1 * X i := fun i hi => Cg.of_eq (Int.one_mul _).symm
    have c3 : CgV p (2 ^ n) (dltC (V * normF p s n X) 0) (dlt 0) := fun i hi => by
      show Cg p (if i = 0 then V * normF p s n X else 0) (if i = 0 then 1 else 0)
      split
      · rw [Int.mul_comm]; show _ % p = 1 % p; rw [v3, Int.emod_eq_of_lt (by omega) (by omega)]
      · exact Cg.rfl' _ _
    have c4 : CgV p (2 ^ n) (fun i => V * mulF p s n X (conjF p X) i) (dltC (V * normF p s n X) 0) := fun i hi => by
      refine ((Cg.rfl' p V).mul ((mul_conj n X).1 i hi)).trans (Cg.of_eq ?_)
      show V * (if i = 0 then normF p s n X else 0) = if i = 0 then V * normF p s n X else 0
      split <;> omega
    constructor
    · refine cg_eqB ((mul_cg n c2 c1).trans ((mulF_scale n 1 V _ _).trans (CgV.trans (fun i hi => Cg.of_eq ?_) (c4.trans c3)))) (hM _ _) (dlt_in (by omega) _ _)
      rw [Int.one_mul]
    · refine cg_eqB ((mul_cg n c1 c2).trans ((mulF_scale n V 1 _ _).trans (CgV.trans (fun i hi => ?_) (c4.trans c3)))) (hM _ _) (dlt_in (by omega) _ _)
      exact ((Cg.of_eq (Int.mul_one _)).mul ((mul_conj n X).2 i hi))
  · intro i k
    rw [powE_pw, powE_pw, powE_pw]
    exact cg_eqB (pow_add n X i k).symm (by rw [← powE_pw]; exact powE_in (by omega) s n X _) (hM _ _)

theorem dbl2_o (P : Int) (n : Nat) (s : Nat → Int) (nx : Nat) (X : Nat → Int) (ny : Nat) (Y : Nat → Int) :
    ∃ (cc : Int) (M : Nat), ((cc = 0 ∧ M = 2 ^ n ∧ dblB P n s = true ∧ elemB P n nx X = true ∧ elemB P n ny Y = true) ∨ (cc ≠ 0 ∧ M = 0)) ∧
    (∀ (W : World) (v xv yv : Value), Ints W v n s → Ints W xv nx X → Ints W yv ny Y → Calls Try.prog 34 #[dbl P v, xv, yv] W fun e w' => ResO W w' e cc M (mulF P s n X Y)) ∧
    (∀ (W : World) (v xv yv : Value), Ints W v n s → Ints W xv nx X → Ints W yv ny Y → Calls Try.prog 33 #[dbl P v, xv, yv] W fun e w' => ResO W w' e cc M (mulF P s n X Y)) := by
  refine ⟨codeE (dblB P n s) P n 2 (pick3 nx ny ny) (pick3 X Y Y), lenC (codeE (dblB P n s) P n 2 (pick3 nx ny ny) (pick3 X Y Y)) n, ?_,
    fun W v xv yv h hx hy => (sDoubleTimes_c P v n s xv nx X yv ny Y W h hx hy).mono fun _ _ h => h.toO, fun W v xv yv h hx hy => (iDoubleTimes_c P v n s xv nx X yv ny Y W h hx hy).mono fun _ _ h => h.toO⟩
  by_cases h0 : codeE (dblB P n s) P n 2 (pick3 nx ny ny) (pick3 X Y Y) = 0
  · obtain ⟨hok, hel⟩ := codeE_zero h0
    exact Or.inl ⟨h0, if_pos h0, hok, hel 0 (by omega), hel 1 (by omega)⟩
  · exact Or.inr ⟨h0, if_neg h0⟩

/-- the doubling's box, at worlds that come after W0 -/
def SB (W0 : World) (bd : Nat) (P : Int) (a : Option Addr) (m c : Nat) (W : World) : Prop :=
  W.cell? ⟨bd, 0, none⟩ = some (.int .i64 P) ∧ W.cell? ⟨bd, 1, none⟩ = some (.slice a m c) ∧ bd < W.heap.size ∧ Below W0.heap.size W0 W
theorem sbKeep {W0 W W' : World} {bd : Nat} {P : Int} {a : Option Addr} {m c : Nat} (hb : Below W.heap.size W W') (h : SB W0 bd P a m c W) : SB W0 bd P a m c W' :=
  ⟨cellKp hb h.1, cellKp hb h.2.1, by have := hb.size; have := h.2.2.1; omega, h.2.2.2.trans (hb.mono h.2.2.2.size)⟩
theorem sb0 {W0 : World} {bd : Nat} {P : Int} {a : Option Addr} {m c : Nat} (h0 : W0.cell? ⟨bd, 0, none⟩ = some (.int .i64 P)) (h1 : W0.cell? ⟨bd, 1, none⟩ = some (.slice a m c)) (hl : bd < W0.heap.size) : SB W0 bd P a m c W0 := ⟨h0, h1, hl, Below.refl _ _⟩
theorem sbRe {W0 W : World} {q r bd : Nat} {P : Int} {a : Option Addr} {m c : Nat} (h : SB W0 bd P a m c (W.drewN q)) : SB W0 bd P a m c (W.drewN r) :=
  ⟨by simpa using h.1, by simpa using h.2.1, h.2.2.1, h.2.2.2.trans ⟨rfl, rfl, rfl, Nat.le_refl _, fun _ _ => rfl⟩⟩
theorem sbDrew {W0 : World} {bd : Nat} {P : Int} {a : Option Addr} {m c : Nat} (h0 : W0.cell? ⟨bd, 0, none⟩ = some (.int .i64 P)) (h1 : W0.cell? ⟨bd, 1, none⟩ = some (.slice a m c)) (hl : bd < W0.heap.size) : SB W0 bd P a m c W0.drew :=
  sbKeep (drewB W0) ⟨h0, h1, hl, Below.refl _ _⟩
theorem sbBelow {W0 W : World} {bd : Nat} {P : Int} {a : Option Addr} {m c : Nat} (h : SB W0 bd P a m c W) : Below W0.heap.size W0 W := h.2.2.2

set_option maxRecDepth 100000 in
set_option maxHeartbeats 8000000 in
theorem lawDoublings_c (cv : Value) (n : Nat) (B : Nat → Int) (w : World) (hB : Byt w cv n B) :
    Calls Try.prog 5 #[cv] w fun e w' => Law w w' e := by
  by_cases hbig : 4096 < n
  · have hb := Lib.hid (big_c cv n B w hB)
    obtain ⟨ao, c0, _, _, rfl, qq⟩ := hB.out
    clear hB qq
    go_enter Try.func5, Try.ntmps5
    go_wp2_with fail
    refine hb.out.mono ?_
    rintro e w1 ⟨rfl, rfl⟩
    rw [show decide (4096 < n) = true from decide_eq_true hbig]
    go_wp2
    go_ret
    exact ⟨rfl, Below.refl _ _⟩
  · have hb := Lib.hid (big_c cv n B w hB)
    have hD := Lib.hid (sDrawDoubleTimes_c cv n B w hB)
    have HB : Hid (∀ W, Below w.heap.size w W → Byt W cv n B) := fun W hb => hB.below hb
    obtain ⟨ao, c0, _, _, rfl, qq⟩ := hB.out
    clear hB qq
    go_enter Try.func5, Try.ntmps5
    go_wp2_with fail
    refine hb.out.mono ?_
    rintro e w1 ⟨rfl, rfl⟩
    rw [show decide (4096 < n) = false from decide_eq_false hbig]
    go_wp2_with fail
    refine hD.out.mono ?_
    rintro e w2 ⟨P, a, c, m, s, xv, nx, X, yv, ny, Y, rfl, hb2, hs2, hx2, hy2, hnx, hny⟩
    have hs2 := hs2.ints
    have hp2 := Lib.hid hb2
    obtain ⟨cc, M, hcs, k1, k2⟩ := dbl2_o P m s nx X ny Y
    have hcs := Lib.hid hcs
    have K1 := Lib.hid k1
    have K2 := Lib.hid k2
    have id : Hid (∀ W, Below w2.heap.size w2 W → Ints W (.slice a m c) m s) := fun W hb => hs2.below hb
    have ix : Hid (∀ W, Below w2.heap.size w2 W → Ints W xv nx X) := fun W hb => hx2.below hb
    have iy : Hid (∀ W, Below w2.heap.size w2 W → Ints W yv ny Y) := fun W hb => hy2.below hb
    obtain ⟨xa, xc, _, _, rfl, qx⟩ := hx2.out
    obtain ⟨ya, yc, _, _, rfl, qy⟩ := hy2.out
    clear qx qy
    obtain ⟨f0, f1, _, bb⟩ := box0 w2 P a m c 26
    have hl := hp2.out.size
    clear k1 k2 hs2 hb hD hb2 hx2 hy2
    go_wp2_with fail
    go_at_call 33
    refine (K2.out _ _ _ _ (id.out _ bb) (ix.out _ bb) (iy.out _ bb)).mono ?_
    rintro e w3 ⟨a3, c3, rfl, hb3, o3⟩
    replace f0 := cellKp hb3 f0
    replace f1 := cellKp hb3 f1
    have bb := bb.trans (hb3.mono bb.size)
    have hX := Lib.hid o3.ints
    clear o3 hb3
    go_wp2_with fail
    go_at_call 34
    refine (K1.out _ _ _ _ (id.out _ bb) (ix.out _ bb) (iy.out _ bb)).mono ?_
    rintro e w4 ⟨a4, c4, rfl, hb4, o4⟩
    replace f0 := cellKp hb4 f0
    replace f1 := cellKp hb4 f1
    have bb := bb.trans (hb4.mono bb.size)
    replace hX := Lib.hid (hX.out.below hb4)
    have hY := Lib.hid o4.ints
    clear o4 hb4
    clear K1 K2
    have SD := Lib.hid (fun W hb => sIsDoubling_c P _ m s W (id.out W hb))
    have ID := Lib.hid (fun W hb => iIsDbl_c P _ m s W (id.out W hb))
    have BB4 := Lib.hid bb
    have hlw := lt_of_cell f0
    go_wp2
    go_region_held3 (fun W => W.cell? ⟨w2.heap.size, 0, none⟩ = some (.int .i64 P) ∧ W.cell? ⟨w2.heap.size, 1, none⟩ = some (.slice a m c) ∧ w2.heap.size < W.heap.size ∧ Below (w4).heap.size (w4) W)
      ((first | assumption | exact sbDrew f0 f1 hlw | exact sbKeep (by assumption) (by assumption) | exact sbKeep (below_drewN _ _) (sb0 f0 f1 hlw) | exact sbRe (sb0 f0 f1 hlw) | exact sbKeep (below_drewN _ _) (by assumption)))
      ((first
        | (have hz := hb6; go_at_call 36; refine Calls.makes' (SD.out _ (BB4.out.trans ((sbBelow (by assumption)).mono BB4.out.size))) _ fun v7 hb7 => ?_; clear hz)
        | (go_at_call 35; refine Calls.makes' (ID.out _ (BB4.out.trans ((sbBelow (by assumption)).mono BB4.out.size))) _ fun v6 hb6 => ?_)
        | (go_at_call 16; refine Calls.reads' (wr := w) (likeInts_c _ _ _ _ _ _ _ (hX.out.below (drewB _)) (hY.out.below (drewB _))) _ fun q5 => ?_; rw [eqB_refl])))
    have hbr : Below (w4).heap.size (w4) v7 := sbBelow (by assumption)
    replace f0 := cellKp hbr f0
    replace f1 := cellKp hbr f1
    have bb := bb.trans (hbr.mono bb.size)
    replace hX := Lib.hid (hX.out.below hbr)
    replace hY := Lib.hid (hY.out.below hbr)
    clear hbr
    clear hY
    clear BB4 SD ID hb6 hb7
    rcases hcs.out with ⟨rfl, rfl, hok, hex, hey⟩ | ⟨hcc, rfl⟩
    rotate_left
    · have hfin := Lib.hid (hp2.out.trans (bb.mono hp2.out.size))
      clear hcs hX id hp2 bb ix iy
      have hcc' : (cc != 0) = true := by simpa using hcc
      clear hcc
      go_wp2
      go_ret
      exact ⟨rfl, hfin.out⟩
    clear hcs
    obtain ⟨rfl, hxe⟩ := elemB_el (ix.out _ bb) hex
    obtain ⟨rfl, hye⟩ := elemB_el (iy.out _ bb) hey
    have hXin := Lib.hid hxe.inp
    have hYin := Lib.hid hye.inp
    have hpb := primeB_bd (dblB_ok hok).prime
    have hn4 := (dblB_ok hok).le
    have HDL := Lib.hid (dl_of (dblB_ok hok).prime m s hxe.inp hye.inp)
    have HOK := Lib.hid hok
    have hXE : Hid (El v7 (.slice a3 (2 ^ m) c3) P m (mulF P s m X Y)) := ⟨hX.out, mulF_in (by omega) s m _ _ _⟩
    have hx := Lib.hid hxe
    have hy := Lib.hid hye
    clear hok hex hey hxe hye hX
    obtain ⟨nv, hnv⟩ : ∃ nv, normF P s m X = nv := ⟨_, rfl⟩
    obtain ⟨tr, htr⟩ : ∃ tr, (2 * X 0) % P = tr := ⟨_, rfl⟩
    have hnb : 0 ≤ nv ∧ nv < P := hnv ▸ normF_in (by omega) s m X
    have htb : 0 ≤ tr ∧ tr < P := htr ▸ mod_bd _ _ (by omega)
    have VN : Hid (∀ W, Below w2.heap.size w2 W → Calls Try.prog 17 #[dbl P (.slice a m c), .slice xa (2 ^ m) xc] W fun e w' => Makes W w' e (.tuple #[.int .i64 nv, .int .i64 0])) := fun W hb => hnv ▸ vNorm_c P _ m s _ X W HOK.out (id.out W hb) ⟨ix.out W hb, hXin.out⟩
    have VT : Hid (∀ W, Below w2.heap.size w2 W → Calls Try.prog 38 #[dbl P (.slice a m c), .slice xa (2 ^ m) xc] W fun e w' => Makes W w' e (.tuple #[.int .i64 tr, .int .i64 0])) := fun W hb => htr ▸ vTrace_c P _ m s _ X W HOK.out (id.out W hb) ⟨ix.out W hb, hXin.out⟩
    have dz := HDL.out.zero
    have dn := HDL.out.norm
    have di := HDL.out.inv
    rw [hnv, htr] at dz
    rw [hnv] at dn di
    have DZ := Lib.hid dz
    have DN := Lib.hid dn
    have DI := Lib.hid di
    have VI0 : Hid (nv = 0 → ∀ W, Below w2.heap.size w2 W → Calls Try.prog 41 #[dbl P (.slice a m c), .slice xa (2 ^ m) xc] W fun e w' => ResO W w' e 5 0 (fun i => (conjF P X i * invM P nv) % P)) := fun h0 W hb => by
      have := vInverse_c P _ m s _ X W HOK.out (id.out W hb) ⟨ix.out W hb, hXin.out⟩
      rw [hnv, if_pos h0, if_pos h0] at this
      exact this
    have VI1 : Hid (nv ≠ 0 → ∀ W, Below w2.heap.size w2 W → Calls Try.prog 41 #[dbl P (.slice a m c), .slice xa (2 ^ m) xc] W fun e w' => ResO W w' e 0 (2 ^ m) (fun i => (conjF P X i * invM P nv) % P)) := fun h0 W hb => by
      have := vInverse_c P _ m s _ X W HOK.out (id.out W hb) ⟨ix.out W hb, hXin.out⟩
      rw [hnv, if_neg h0, if_neg h0] at this
      exact this
    have hM16 := pow_le hn4
    have hwn : IntKind.i64.wrap (-tr) = -tr := wrap_in' _ (by omega)
    clear dz dn di hnv htr
    go_wp2_with fail
    go_at_call 37
    refine (vConj_c P _ m s _ X _ HOK.out (id.out _ bb) hx.out).mono ?_
    rintro e w5 ⟨g5, c5, rfl, hb5, o5⟩
    replace f0 := cellKp hb5 f0
    replace f1 := cellKp hb5 f1
    have bb := bb.trans (hb5.mono bb.size)
    replace hXE := Lib.hid (hXE.out.below hb5)
    replace hx := Lib.hid (hx.out.below hb5)
    replace hy := Lib.hid (hy.out.below hb5)
    have hA := Lib.hid o5
    clear o5 hb5
    go_wp2_with fail
    go_at_call 37
    refine (vConj_c P _ m s _ Y _ HOK.out (id.out _ bb) hy.out).mono ?_
    rintro e w6 ⟨g6, c6, rfl, hb6, o6⟩
    replace f0 := cellKp hb6 f0
    replace f1 := cellKp hb6 f1
    have bb := bb.trans (hb6.mono bb.size)
    replace hXE := Lib.hid (hXE.out.below hb6)
    replace hx := Lib.hid (hx.out.below hb6)
    replace hy := Lib.hid (hy.out.below hb6)
    replace hA := Lib.hid (hA.out.below hb6)
    have hB := Lib.hid o6
    clear o6 hb6
    go_wp2_with fail
    go_at_call 37
    refine (vConj_c P _ m s _ _ _ HOK.out (id.out _ bb) hXE.out).mono ?_
    rintro e w7 ⟨g7, c7, rfl, hb7, o7⟩
    replace f0 := cellKp hb7 f0
    replace f1 := cellKp hb7 f1
    have bb := bb.trans (hb7.mono bb.size)
    replace hXE := Lib.hid (hXE.out.below hb7)
    replace hx := Lib.hid (hx.out.below hb7)
    replace hy := Lib.hid (hy.out.below hb7)
    replace hA := Lib.hid (hA.out.below hb7)
    replace hB := Lib.hid (hB.out.below hb7)
    have hE := Lib.hid o7
    clear o7 hb7
    go_wp2_with fail
    go_at_call 17
    refine Calls.makes' (VN.out _ bb) _ fun w8 hb8 => ?_
    replace f0 := cellKp hb8 f0
    replace f1 := cellKp hb8 f1
    have bb := bb.trans (hb8.mono bb.size)
    replace hXE := Lib.hid (hXE.out.below hb8)
    replace hx := Lib.hid (hx.out.below hb8)
    replace hy := Lib.hid (hy.out.below hb8)
    replace hA := Lib.hid (hA.out.below hb8)
    replace hB := Lib.hid (hB.out.below hb8)
    replace hE := Lib.hid (hE.out.below hb8)
    clear hb8
    go_wp2_with fail
    go_at_call 38
    refine Calls.makes' (VT.out _ bb) _ fun w9 hb9 => ?_
    replace f0 := cellKp hb9 f0
    replace f1 := cellKp hb9 f1
    have bb := bb.trans (hb9.mono bb.size)
    replace hXE := Lib.hid (hXE.out.below hb9)
    replace hx := Lib.hid (hx.out.below hb9)
    replace hy := Lib.hid (hy.out.below hb9)
    replace hA := Lib.hid (hA.out.below hb9)
    replace hB := Lib.hid (hB.out.below hb9)
    replace hE := Lib.hid (hE.out.below hb9)
    clear hb9
    go_wp2_with fail
    go_at_call 39
    refine (vUnit_c P _ m s _ HOK.out (id.out _ bb)).mono ?_
    rintro e w10 ⟨g10, c10, rfl, hb10, o10⟩
    replace f0 := cellKp hb10 f0
    replace f1 := cellKp hb10 f1
    have bb := bb.trans (hb10.mono bb.size)
    replace hXE := Lib.hid (hXE.out.below hb10)
    replace hx := Lib.hid (hx.out.below hb10)
    replace hy := Lib.hid (hy.out.below hb10)
    replace hA := Lib.hid (hA.out.below hb10)
    replace hB := Lib.hid (hB.out.below hb10)
    replace hE := Lib.hid (hE.out.below hb10)
    have hU := Lib.hid o10
    clear o10 hb10
    go_wp2_with fail
    go_at_call 40
    refine (vPower_c P _ m s _ X 2 _ HOK.out (id.out _ bb) hx.out (by omega)).mono ?_
    rintro e w11 ⟨g11, c11, rfl, hb11, o11⟩
    replace f0 := cellKp hb11 f0
    replace f1 := cellKp hb11 f1
    have bb := bb.trans (hb11.mono bb.size)
    replace hXE := Lib.hid (hXE.out.below hb11)
    replace hx := Lib.hid (hx.out.below hb11)
    replace hy := Lib.hid (hy.out.below hb11)
    replace hA := Lib.hid (hA.out.below hb11)
    replace hB := Lib.hid (hB.out.below hb11)
    replace hE := Lib.hid (hE.out.below hb11)
    replace hU := Lib.hid (hU.out.below hb11)
    have hS := Lib.hid o11
    clear o11 hb11
    clear VN VT
    by_cases h0 : nv = 0
    · have h0b : (nv != 0) = false := by simpa using h0
      have H0 := Lib.hid h0
      clear h0
      go_wp2_with fail
      go_at_call 41
      refine (VI0.out H0.out _ bb).mono ?_
      rintro e w12 ⟨a12, c12, rfl, hb12, o12⟩
      replace f0 := cellKp hb12 f0
      replace f1 := cellKp hb12 f1
      have bb := bb.trans (hb12.mono bb.size)
      replace hXE := Lib.hid (hXE.out.below hb12)
      replace hx := Lib.hid (hx.out.below hb12)
      replace hy := Lib.hid (hy.out.below hb12)
      replace hA := Lib.hid (hA.out.below hb12)
      replace hB := Lib.hid (hB.out.below hb12)
      replace hE := Lib.hid (hE.out.below hb12)
      replace hU := Lib.hid (hU.out.below hb12)
      replace hS := Lib.hid (hS.out.below hb12)
      have hI := Lib.hid o12.ints
      clear o12 hb12
      clear hI
      clear VI0 VI1
      go_wp2_with fail
      go_at_call 30
      refine (times9_c P _ m s _ _ _ _ _ HOK.out (id.out _ bb) hB.out hA.out).mono ?_
      rintro e w13 ⟨g13, c13, rfl, hb13, o13⟩
      replace f0 := cellKp hb13 f0
      replace f1 := cellKp hb13 f1
      have bb := bb.trans (hb13.mono bb.size)
      replace hXE := Lib.hid (hXE.out.below hb13)
      replace hx := Lib.hid (hx.out.below hb13)
      replace hy := Lib.hid (hy.out.below hb13)
      replace hA := Lib.hid (hA.out.below hb13)
      replace hB := Lib.hid (hB.out.below hb13)
      replace hE := Lib.hid (hE.out.below hb13)
      replace hU := Lib.hid (hU.out.below hb13)
      replace hS := Lib.hid (hS.out.below hb13)
      have hT := Lib.hid o13
      clear o13 hb13
      go_wp2_with fail
      go_at_call 16
      refine Calls.reads' (wr := w) (likeInts_c _ _ _ _ _ _ _ hE.out.ints hT.out.ints) _ fun q14 => ?_
      rw [HDL.out.conj]
      clear hT
      replace f0 := cellKp (below_drewN _ q14) f0
      replace f1 := cellKp (below_drewN _ q14) f1
      have bb := bb.trans ((below_drewN _ q14).mono bb.size)
      replace hXE := Lib.hid (hXE.out.below (below_drewN _ q14))
      replace hx := Lib.hid (hx.out.below (below_drewN _ q14))
      replace hy := Lib.hid (hy.out.below (below_drewN _ q14))
      replace hA := Lib.hid (hA.out.below (below_drewN _ q14))
      replace hB := Lib.hid (hB.out.below (below_drewN _ q14))
      replace hE := Lib.hid (hE.out.below (below_drewN _ q14))
      replace hU := Lib.hid (hU.out.below (below_drewN _ q14))
      replace hS := Lib.hid (hS.out.below (below_drewN _ q14))
      go_wp2_with fail
      go_at_call 30
      refine (times9_c P _ m s _ _ _ _ _ HOK.out (id.out _ bb) hx.out hx.out).mono ?_
      rintro e w15 ⟨g15, c15, rfl, hb15, o15⟩
      replace f0 := cellKp hb15 f0
      replace f1 := cellKp hb15 f1
      have bb := bb.trans (hb15.mono bb.size)
      replace hXE := Lib.hid (hXE.out.below hb15)
      replace hx := Lib.hid (hx.out.below hb15)
      replace hy := Lib.hid (hy.out.below hb15)
      replace hA := Lib.hid (hA.out.below hb15)
      replace hB := Lib.hid (hB.out.below hb15)
      replace hE := Lib.hid (hE.out.below hb15)
      replace hU := Lib.hid (hU.out.below hb15)
      replace hS := Lib.hid (hS.out.below hb15)
      have hT := Lib.hid o15
      clear o15 hb15
      go_wp2_with fail
      go_at_call 16
      refine Calls.reads' (wr := w) (likeInts_c _ _ _ _ _ _ _ hS.out.ints hT.out.ints) _ fun q16 => ?_
      rw [show eqB (2 ^ m) (2 ^ m) (powE P s m X (2 : Int).toNat) (mulF P s m X X) = true from HDL.out.sq]
      clear hT
      replace f0 := cellKp (below_drewN _ q16) f0
      replace f1 := cellKp (below_drewN _ q16) f1
      have bb := bb.trans ((below_drewN _ q16).mono bb.size)
      replace hXE := Lib.hid (hXE.out.below (below_drewN _ q16))
      replace hx := Lib.hid (hx.out.below (below_drewN _ q16))
      replace hy := Lib.hid (hy.out.below (below_drewN _ q16))
      replace hA := Lib.hid (hA.out.below (below_drewN _ q16))
      replace hB := Lib.hid (hB.out.below (below_drewN _ q16))
      replace hE := Lib.hid (hE.out.below (below_drewN _ q16))
      replace hU := Lib.hid (hU.out.below (below_drewN _ q16))
      replace hS := Lib.hid (hS.out.below (below_drewN _ q16))
      have IW : Hid (∀ W, Below (w15.drewN q16).heap.size (w15.drewN q16) W → Ints W (.slice a m c) m s) := fun W hb => id.out W (bb.trans (hb.mono bb.size))
      have hS2 : Hid (El (w15.drewN q16) (.slice (some ⟨g11, 0, none⟩) (2 ^ m) c11) P m (powE P s m X 2)) := hS
      have hin1 : Hid (InP P (2 ^ m) (fun i => (-tr * X i) % P)) := in_mod (by omega) _ _
      have hin2 : Hid (InP P (2 ^ m) (fun i => (powE P s m X 2 i + (-tr * X i) % P) % P)) := in_mod (by omega) _ _
      have hin3 : Hid (InP P (2 ^ m) (fun i => (nv * dlt 0 i) % P)) := in_mod (by omega) _ _
      clear hS
      have hlw := lt_of_cell f0
      go_wp2
      go_region_held3 (fun W => W.cell? ⟨w2.heap.size, 0, none⟩ = some (.int .i64 P) ∧ W.cell? ⟨w2.heap.size, 1, none⟩ = some (.slice a m c) ∧ w2.heap.size < W.heap.size ∧ Below (w15.drewN q16).heap.size (w15.drewN q16) W)
        ((first | assumption | exact sbDrew f0 f1 hlw | exact sbKeep (by assumption) (by assumption) | exact sbKeep (below_drewN _ _) (sb0 f0 f1 hlw) | exact sbRe (sb0 f0 f1 hlw) | exact sbKeep (below_drewN _ _) (by assumption)))
        ((first
          | (have hz := hO7; go_at_call 16; refine Calls.reads' (wr := w) (likeInts_c _ _ (2 ^ m) (2 ^ m) (mulF P s m X (conjF P X)) (fun i => (nv * dlt 0 i) % P) _ (hT6.below hb7).ints hO7.ints) _ fun q8 => ?_; rw [DN.out]; clear hz)
          | (have hz := hT6; go_at_call 44; refine (scale9_c P nv _ (2 ^ m) (dlt 0) _ (hU.out.below (sbBelow (by assumption))).ints (by omega) (by omega) (by omega) (by omega) hU.out.inp).mono ?_; rintro e v7 ⟨y7, d7, rfl, hg7, hb7, hO7⟩; clear hz)
          | (have hz := hb4; go_at_call 30; refine (times9_c P _ m s _ _ _ _ _ HOK.out (IW.out _ (sbBelow (by assumption))) (hx.out.below (sbBelow (by assumption))) (hA.out.below (sbBelow (by assumption)))).mono ?_; rintro e v6 ⟨y6, d6, rfl, hb6, hT6⟩; clear hz)
          | (have hz := hO4; go_at_call 42; refine (zero9_c _ (2 ^ m) (fun i => ((powE P s m X 2 i + (-tr * X i) % P) % P + (nv * dlt 0 i) % P) % P) _ hO4.ints).mono ?_; rintro e v5 ⟨rfl, rfl⟩; rw [DZ.out]; clear hz)
          | (have hz := hO3; go_at_call 43; refine (add9_c P _ _ (2 ^ m) (fun i => (powE P s m X 2 i + (-tr * X i) % P) % P) (fun i => (nv * dlt 0 i) % P) _ (hO2.ints.below hb3) hO3.ints (by omega) (by omega) (by omega) hin2.out hin3.out).mono ?_; rintro e v4 ⟨y4, d4, rfl, hg4, hb4, hO4⟩; clear hz)
          | (have hz := hO2; go_at_call 44; refine (scale9_c P nv _ (2 ^ m) (dlt 0) _ (hU.out.below (sbBelow (by assumption))).ints (by omega) (by omega) (by omega) (by omega) hU.out.inp).mono ?_; rintro e v3 ⟨y3, d3, rfl, hg3, hb3, hO3⟩; clear hz)
          | (have hz := hO1; go_at_call 43; refine (add9_c P _ _ (2 ^ m) (powE P s m X 2) (fun i => (-tr * X i) % P) _ (hS2.out.below (sbBelow (by assumption))).ints hO1.ints (by omega) (by omega) (by omega) hS2.out.inp hin1.out).mono ?_; rintro e v2 ⟨y2, d2, rfl, hg2, hb2, hO2⟩; clear hz)
          | (go_at_call 44; refine (scale9_c P (-tr) _ (2 ^ m) X _ (hx.out.below (sbBelow (by assumption))).ints (by omega) (by omega) (by omega) (by omega) hx.out.inp).mono ?_; rintro e v1 ⟨y1, d1, rfl, hg1, hb1, hO1⟩)))
      have hbr : Below (w15.drewN q16).heap.size (w15.drewN q16) (v7.drewN _) := sbBelow (by assumption)
      replace f0 := cellKp hbr f0
      replace f1 := cellKp hbr f1
      have bb := bb.trans (hbr.mono bb.size)
      replace hXE := Lib.hid (hXE.out.below hbr)
      replace hx := Lib.hid (hx.out.below hbr)
      replace hy := Lib.hid (hy.out.below hbr)
      replace hA := Lib.hid (hA.out.below hbr)
      replace hB := Lib.hid (hB.out.below hbr)
      replace hE := Lib.hid (hE.out.below hbr)
      replace hU := Lib.hid (hU.out.below hbr)
      replace hS2 := Lib.hid (hS2.out.below hbr)
      clear hbr
      clear DZ DN hin1 hin2 hin3 hO1 hO2 hO3 hO4 hb1 hb2 hb3 hb4 hT6 hO7 hb6 hb7 hg1 hg2 hg3 hg4 hg7 IW
      clear hXE
      clear hA
      clear hB
      clear hE
      clear hS2
      clear hU
      have HBr := Lib.hid (roll_c _ n B 3001 _ (by omega) (HB.out _ (hp2.out.trans (bb.mono hp2.out.size))))
      have hlb := bb.size
      have hl0 := hp2.out.size
      go_wp2_with fail
      refine HBr.out.mono ?_
      rintro e w17 ⟨gd17, rfl, hg17, hb17, hD17⟩
      have HFb := Lib.hid (hp2.out.trans (bb.mono hp2.out.size))
      have hBy : Hid (∀ W, Chg w17 W (· = gd17) → Byt W _ n B) := fun W hc => HB.out W ((HFb.out.trans (hb17.mono HFb.out.size)).trans (hc.below (Nat.le_trans HFb.out.size hb17.size) (fun k e => by have e : k = gd17 := e; have := HFb.out.size; omega)))
      have hbD := Lib.hid hb17
      have hcD : Hid (Chg w17 w17 (· = gd17)) := Chg.refl _ _
      have hDD := Lib.hid hD17
      clear hb17 hD17 HBr
      have N1 := Lib.hid (below9_c gd17 n _ B 6 _ hDD.out (hBy.out _ hcD.out) (by omega))
      go_wp2_with fail
      refine N1.out.mono ?_
      rintro e w18 ⟨ix, rfl, hi, _, hr18⟩
      replace hi := hi (by omega)
      replace hcD := Lib.hid (hcD.out.trans hr18.chg)
      replace hDD := Lib.hid hr18.src
      clear hr18 N1
      obtain ⟨i, rfl⟩ : ∃ i : Nat, ix = i := ⟨ix.toNat, by omega⟩
      have N1 := Lib.hid (below9_c gd17 n _ B 6 _ hDD.out (hBy.out _ hcD.out) (by omega))
      go_wp2_with fail
      refine N1.out.mono ?_
      rintro e w19 ⟨kx, rfl, hk, _, hr19⟩
      replace hk := hk (by omega)
      replace hcD := Lib.hid (hcD.out.trans hr19.chg)
      replace hDD := Lib.hid hr19.src
      clear hr19 N1
      obtain ⟨k, rfl⟩ : ∃ k : Nat, kx = k := ⟨kx.toNat, by omega⟩
      have hb19 := hbD.out.trans (hcD.out.below hbD.out.size (fun k e => by have e : k = gd17 := e; omega))
      replace f0 := cellKp hb19 f0
      replace f1 := cellKp hb19 f1
      have bb := bb.trans (hb19.mono bb.size)
      replace hx := Lib.hid (hx.out.below hb19)
      replace hy := Lib.hid (hy.out.below hb19)
      clear hb19 hbD hcD hDD hBy HFb
      have VP : Hid (∀ (W : World) (j : Nat), j ≤ 20 → Below w2.heap.size w2 W → El W (.slice xa (2 ^ m) xc) P m X → Calls Try.prog 40 #[dbl P (.slice a m c), .slice xa (2 ^ m) xc, .int .i64 (j : Int)] W fun e w' => ResE W w' e P m (powE P s m X j)) := fun W j hj hb hxw => by
        have this := vPower_c P _ m s _ X j W HOK.out (id.out W hb) hxw (by omega)
        rw [Int.toNat_natCast] at this
        exact this
      have VP2 : Hid (∀ (W : World), Below w2.heap.size w2 W → El W (.slice xa (2 ^ m) xc) P m X → Calls Try.prog 40 #[dbl P (.slice a m c), .slice xa (2 ^ m) xc, .int .i64 ((i : Int) + (k : Int))] W fun e w' => ResE W w' e P m (powE P s m X (i + k))) := fun W hb hxw => by
        have this := vPower_c P _ m s _ X ((i : Int) + (k : Int)) W HOK.out (id.out W hb) hxw (by omega)
        rw [show ((i : Int) + (k : Int)).toNat = i + k by omega] at this
        exact this
      go_wp2_with fail
      go_at_call 40
      refine (VP.out _ i (by omega) bb hx.out).mono ?_
      rintro e w20 ⟨g20, c20, rfl, hb20, o20⟩
      replace f0 := cellKp hb20 f0
      replace f1 := cellKp hb20 f1
      have bb := bb.trans (hb20.mono bb.size)
      replace hx := Lib.hid (hx.out.below hb20)
      replace hy := Lib.hid (hy.out.below hb20)
      have hu := Lib.hid o20
      clear o20 hb20
      go_wp2_with fail
      go_at_call 40
      refine (VP.out _ k (by omega) bb hx.out).mono ?_
      rintro e w21 ⟨g21, c21, rfl, hb21, o21⟩
      replace f0 := cellKp hb21 f0
      replace f1 := cellKp hb21 f1
      have bb := bb.trans (hb21.mono bb.size)
      replace hx := Lib.hid (hx.out.below hb21)
      replace hy := Lib.hid (hy.out.below hb21)
      replace hu := Lib.hid (hu.out.below hb21)
      have hv := Lib.hid o21
      clear o21 hb21
      go_wp2_with fail
      go_at_call 40
      refine (VP2.out _ bb hx.out).mono ?_
      rintro e w22 ⟨g22, c22, rfl, hb22, o22⟩
      replace f0 := cellKp hb22 f0
      replace f1 := cellKp hb22 f1
      have bb := bb.trans (hb22.mono bb.size)
      replace hx := Lib.hid (hx.out.below hb22)
      replace hy := Lib.hid (hy.out.below hb22)
      replace hu := Lib.hid (hu.out.below hb22)
      replace hv := Lib.hid (hv.out.below hb22)
      have hw := Lib.hid o22
      clear o22 hb22
      clear VP VP2
      go_wp2_with fail
      go_at_call 30
      refine (times9_c P _ m s _ _ _ _ _ HOK.out (id.out _ bb) hu.out hv.out).mono ?_
      rintro e w23 ⟨g23, c23, rfl, hb23, o23⟩
      replace f0 := cellKp hb23 f0
      replace f1 := cellKp hb23 f1
      have bb := bb.trans (hb23.mono bb.size)
      replace hx := Lib.hid (hx.out.below hb23)
      replace hy := Lib.hid (hy.out.below hb23)
      replace hu := Lib.hid (hu.out.below hb23)
      replace hv := Lib.hid (hv.out.below hb23)
      replace hw := Lib.hid (hw.out.below hb23)
      have hT := Lib.hid o23
      clear o23 hb23
      go_wp2_with fail
      go_at_call 16
      refine Calls.reads' (wr := w) (likeInts_c _ _ _ _ _ _ _ hw.out.ints hT.out.ints) _ fun q24 => ?_
      rw [HDL.out.pow i k]
      clear hT
      clear hu
      clear hv
      clear hw
      clear hx
      replace f0 := cellKp (below_drewN _ q24) f0
      replace f1 := cellKp (below_drewN _ q24) f1
      have bb := bb.trans ((below_drewN _ q24).mono bb.size)
      replace hy := Lib.hid (hy.out.below (below_drewN _ q24))
      have hfin := Lib.hid (hp2.out.trans (bb.mono hp2.out.size))
      clear hp2 bb id ix iy
      go_wp2
      go_ret
      exact ⟨rfl, hfin.out⟩
    · have h0b : (nv != 0) = true := by simpa using h0
      have H0 := Lib.hid h0
      clear h0
      go_wp2_with fail
      go_at_call 41
      refine (VI1.out H0.out _ bb).mono ?_
      rintro e w12 ⟨a12, c12, rfl, hb12, o12⟩
      replace f0 := cellKp hb12 f0
      replace f1 := cellKp hb12 f1
      have bb := bb.trans (hb12.mono bb.size)
      replace hXE := Lib.hid (hXE.out.below hb12)
      replace hx := Lib.hid (hx.out.below hb12)
      replace hy := Lib.hid (hy.out.below hb12)
      replace hA := Lib.hid (hA.out.below hb12)
      replace hB := Lib.hid (hB.out.below hb12)
      replace hE := Lib.hid (hE.out.below hb12)
      replace hU := Lib.hid (hU.out.below hb12)
      replace hS := Lib.hid (hS.out.below hb12)
      have hI := Lib.hid o12.ints
      clear o12 hb12
      have hI := Lib.hid (⟨hI.out, in_mod (by omega) _ _⟩ : El w12 (.slice a12 (2 ^ m) c12) P m (fun i => (conjF P X i * invM P nv) % P))
      clear VI0 VI1
      go_wp2_with fail
      go_at_call 30
      refine (times9_c P _ m s _ _ _ _ _ HOK.out (id.out _ bb) hB.out hA.out).mono ?_
      rintro e w13 ⟨g13, c13, rfl, hb13, o13⟩
      replace f0 := cellKp hb13 f0
      replace f1 := cellKp hb13 f1
      have bb := bb.trans (hb13.mono bb.size)
      replace hXE := Lib.hid (hXE.out.below hb13)
      replace hx := Lib.hid (hx.out.below hb13)
      replace hy := Lib.hid (hy.out.below hb13)
      replace hA := Lib.hid (hA.out.below hb13)
      replace hB := Lib.hid (hB.out.below hb13)
      replace hE := Lib.hid (hE.out.below hb13)
      replace hU := Lib.hid (hU.out.below hb13)
      replace hS := Lib.hid (hS.out.below hb13)
      replace hI := Lib.hid (hI.out.below hb13)
      have hT := Lib.hid o13
      clear o13 hb13
      go_wp2_with fail
      go_at_call 16
      refine Calls.reads' (wr := w) (likeInts_c _ _ _ _ _ _ _ hE.out.ints hT.out.ints) _ fun q14 => ?_
      rw [HDL.out.conj]
      clear hT
      replace f0 := cellKp (below_drewN _ q14) f0
      replace f1 := cellKp (below_drewN _ q14) f1
      have bb := bb.trans ((below_drewN _ q14).mono bb.size)
      replace hXE := Lib.hid (hXE.out.below (below_drewN _ q14))
      replace hx := Lib.hid (hx.out.below (below_drewN _ q14))
      replace hy := Lib.hid (hy.out.below (below_drewN _ q14))
      replace hA := Lib.hid (hA.out.below (below_drewN _ q14))
      replace hB := Lib.hid (hB.out.below (below_drewN _ q14))
      replace hE := Lib.hid (hE.out.below (below_drewN _ q14))
      replace hU := Lib.hid (hU.out.below (below_drewN _ q14))
      replace hS := Lib.hid (hS.out.below (below_drewN _ q14))
      replace hI := Lib.hid (hI.out.below (below_drewN _ q14))
      go_wp2_with fail
      go_at_call 30
      refine (times9_c P _ m s _ _ _ _ _ HOK.out (id.out _ bb) hx.out hx.out).mono ?_
      rintro e w15 ⟨g15, c15, rfl, hb15, o15⟩
      replace f0 := cellKp hb15 f0
      replace f1 := cellKp hb15 f1
      have bb := bb.trans (hb15.mono bb.size)
      replace hXE := Lib.hid (hXE.out.below hb15)
      replace hx := Lib.hid (hx.out.below hb15)
      replace hy := Lib.hid (hy.out.below hb15)
      replace hA := Lib.hid (hA.out.below hb15)
      replace hB := Lib.hid (hB.out.below hb15)
      replace hE := Lib.hid (hE.out.below hb15)
      replace hU := Lib.hid (hU.out.below hb15)
      replace hS := Lib.hid (hS.out.below hb15)
      replace hI := Lib.hid (hI.out.below hb15)
      have hT := Lib.hid o15
      clear o15 hb15
      go_wp2_with fail
      go_at_call 16
      refine Calls.reads' (wr := w) (likeInts_c _ _ _ _ _ _ _ hS.out.ints hT.out.ints) _ fun q16 => ?_
      rw [show eqB (2 ^ m) (2 ^ m) (powE P s m X (2 : Int).toNat) (mulF P s m X X) = true from HDL.out.sq]
      clear hT
      replace f0 := cellKp (below_drewN _ q16) f0
      replace f1 := cellKp (below_drewN _ q16) f1
      have bb := bb.trans ((below_drewN _ q16).mono bb.size)
      replace hXE := Lib.hid (hXE.out.below (below_drewN _ q16))
      replace hx := Lib.hid (hx.out.below (below_drewN _ q16))
      replace hy := Lib.hid (hy.out.below (below_drewN _ q16))
      replace hA := Lib.hid (hA.out.below (below_drewN _ q16))
      replace hB := Lib.hid (hB.out.below (below_drewN _ q16))
      replace hE := Lib.hid (hE.out.below (below_drewN _ q16))
      replace hU := Lib.hid (hU.out.below (below_drewN _ q16))
      replace hS := Lib.hid (hS.out.below (below_drewN _ q16))
      replace hI := Lib.hid (hI.out.below (below_drewN _ q16))
      have IW : Hid (∀ W, Below (w15.drewN q16).heap.size (w15.drewN q16) W → Ints W (.slice a m c) m s) := fun W hb => id.out W (bb.trans (hb.mono bb.size))
      have hS2 : Hid (El (w15.drewN q16) (.slice (some ⟨g11, 0, none⟩) (2 ^ m) c11) P m (powE P s m X 2)) := hS
      have hin1 : Hid (InP P (2 ^ m) (fun i => (-tr * X i) % P)) := in_mod (by omega) _ _
      have hin2 : Hid (InP P (2 ^ m) (fun i => (powE P s m X 2 i + (-tr * X i) % P) % P)) := in_mod (by omega) _ _
      have hin3 : Hid (InP P (2 ^ m) (fun i => (nv * dlt 0 i) % P)) := in_mod (by omega) _ _
      clear hS
      have hlw := lt_of_cell f0
      go_wp2
      go_region_held3 (fun W => W.cell? ⟨w2.heap.size, 0, none⟩ = some (.int .i64 P) ∧ W.cell? ⟨w2.heap.size, 1, none⟩ = some (.slice a m c) ∧ w2.heap.size < W.heap.size ∧ Below (w15.drewN q16).heap.size (w15.drewN q16) W)
        ((first | assumption | exact sbDrew f0 f1 hlw | exact sbKeep (by assumption) (by assumption) | exact sbKeep (below_drewN _ _) (sb0 f0 f1 hlw) | exact sbRe (sb0 f0 f1 hlw) | exact sbKeep (below_drewN _ _) (by assumption)))
        ((first
          | (have hz := hO7; go_at_call 16; refine Calls.reads' (wr := w) (likeInts_c _ _ (2 ^ m) (2 ^ m) (mulF P s m X (conjF P X)) (fun i => (nv * dlt 0 i) % P) _ (hT6.below hb7).ints hO7.ints) _ fun q8 => ?_; rw [DN.out]; clear hz)
          | (have hz := hT6; go_at_call 44; refine (scale9_c P nv _ (2 ^ m) (dlt 0) _ (hU.out.below (sbBelow (by assumption))).ints (by omega) (by omega) (by omega) (by omega) hU.out.inp).mono ?_; rintro e v7 ⟨y7, d7, rfl, hg7, hb7, hO7⟩; clear hz)
          | (have hz := hb4; go_at_call 30; refine (times9_c P _ m s _ _ _ _ _ HOK.out (IW.out _ (sbBelow (by assumption))) (hx.out.below (sbBelow (by assumption))) (hA.out.below (sbBelow (by assumption)))).mono ?_; rintro e v6 ⟨y6, d6, rfl, hb6, hT6⟩; clear hz)
          | (have hz := hO4; go_at_call 42; refine (zero9_c _ (2 ^ m) (fun i => ((powE P s m X 2 i + (-tr * X i) % P) % P + (nv * dlt 0 i) % P) % P) _ hO4.ints).mono ?_; rintro e v5 ⟨rfl, rfl⟩; rw [DZ.out]; clear hz)
          | (have hz := hO3; go_at_call 43; refine (add9_c P _ _ (2 ^ m) (fun i => (powE P s m X 2 i + (-tr * X i) % P) % P) (fun i => (nv * dlt 0 i) % P) _ (hO2.ints.below hb3) hO3.ints (by omega) (by omega) (by omega) hin2.out hin3.out).mono ?_; rintro e v4 ⟨y4, d4, rfl, hg4, hb4, hO4⟩; clear hz)
          | (have hz := hO2; go_at_call 44; refine (scale9_c P nv _ (2 ^ m) (dlt 0) _ (hU.out.below (sbBelow (by assumption))).ints (by omega) (by omega) (by omega) (by omega) hU.out.inp).mono ?_; rintro e v3 ⟨y3, d3, rfl, hg3, hb3, hO3⟩; clear hz)
          | (have hz := hO1; go_at_call 43; refine (add9_c P _ _ (2 ^ m) (powE P s m X 2) (fun i => (-tr * X i) % P) _ (hS2.out.below (sbBelow (by assumption))).ints hO1.ints (by omega) (by omega) (by omega) hS2.out.inp hin1.out).mono ?_; rintro e v2 ⟨y2, d2, rfl, hg2, hb2, hO2⟩; clear hz)
          | (go_at_call 44; refine (scale9_c P (-tr) _ (2 ^ m) X _ (hx.out.below (sbBelow (by assumption))).ints (by omega) (by omega) (by omega) (by omega) hx.out.inp).mono ?_; rintro e v1 ⟨y1, d1, rfl, hg1, hb1, hO1⟩)))
      have hbr : Below (w15.drewN q16).heap.size (w15.drewN q16) (v7.drewN _) := sbBelow (by assumption)
      replace f0 := cellKp hbr f0
      replace f1 := cellKp hbr f1
      have bb := bb.trans (hbr.mono bb.size)
      replace hXE := Lib.hid (hXE.out.below hbr)
      replace hx := Lib.hid (hx.out.below hbr)
      replace hy := Lib.hid (hy.out.below hbr)
      replace hA := Lib.hid (hA.out.below hbr)
      replace hB := Lib.hid (hB.out.below hbr)
      replace hE := Lib.hid (hE.out.below hbr)
      replace hU := Lib.hid (hU.out.below hbr)
      replace hI := Lib.hid (hI.out.below hbr)
      replace hS2 := Lib.hid (hS2.out.below hbr)
      clear hbr
      clear DZ DN hin1 hin2 hin3 hO1 hO2 hO3 hO4 hb1 hb2 hb3 hb4 hT6 hO7 hb6 hb7 hg1 hg2 hg3 hg4 hg7 IW
      clear hXE
      clear hA
      clear hB
      clear hE
      clear hS2
      go_wp2_with fail
      go_at_call 30
      refine (times9_c P _ m s _ _ _ _ _ HOK.out (id.out _ bb) hx.out hI.out).mono ?_
      rintro e w17 ⟨g17, c17, rfl, hb17, o17⟩
      replace f0 := cellKp hb17 f0
      replace f1 := cellKp hb17 f1
      have bb := bb.trans (hb17.mono bb.size)
      replace hx := Lib.hid (hx.out.below hb17)
      replace hy := Lib.hid (hy.out.below hb17)
      replace hU := Lib.hid (hU.out.below hb17)
      replace hI := Lib.hid (hI.out.below hb17)
      have hT := Lib.hid o17
      clear o17 hb17
      go_wp2_with fail
      go_at_call 16
      refine Calls.reads' (wr := w) (likeInts_c _ _ _ _ _ _ _ hT.out.ints hU.out.ints) _ fun q18 => ?_
      rw [(DI.out H0.out).1]
      clear hT
      replace f0 := cellKp (below_drewN _ q18) f0
      replace f1 := cellKp (below_drewN _ q18) f1
      have bb := bb.trans ((below_drewN _ q18).mono bb.size)
      replace hx := Lib.hid (hx.out.below (below_drewN _ q18))
      replace hy := Lib.hid (hy.out.below (below_drewN _ q18))
      replace hU := Lib.hid (hU.out.below (below_drewN _ q18))
      replace hI := Lib.hid (hI.out.below (below_drewN _ q18))
      go_wp2_with fail
      go_at_call 30
      refine (times9_c P _ m s _ _ _ _ _ HOK.out (id.out _ bb) hI.out hx.out).mono ?_
      rintro e w19 ⟨g19, c19, rfl, hb19, o19⟩
      replace f0 := cellKp hb19 f0
      replace f1 := cellKp hb19 f1
      have bb := bb.trans (hb19.mono bb.size)
      replace hx := Lib.hid (hx.out.below hb19)
      replace hy := Lib.hid (hy.out.below hb19)
      replace hU := Lib.hid (hU.out.below hb19)
      replace hI := Lib.hid (hI.out.below hb19)
      have hT := Lib.hid o19
      clear o19 hb19
      go_wp2_with fail
      go_at_call 16
      refine Calls.reads' (wr := w) (likeInts_c _ _ _ _ _ _ _ hT.out.ints hU.out.ints) _ fun q20 => ?_
      rw [(DI.out H0.out).2]
      clear hT
      clear hI
      replace f0 := cellKp (below_drewN _ q20) f0
      replace f1 := cellKp (below_drewN _ q20) f1
      have bb := bb.trans ((below_drewN _ q20).mono bb.size)
      replace hx := Lib.hid (hx.out.below (below_drewN _ q20))
      replace hy := Lib.hid (hy.out.below (below_drewN _ q20))
      replace hU := Lib.hid (hU.out.below (below_drewN _ q20))
      clear hU
      have HBr := Lib.hid (roll_c _ n B 3001 _ (by omega) (HB.out _ (hp2.out.trans (bb.mono hp2.out.size))))
      have hlb := bb.size
      have hl0 := hp2.out.size
      go_wp2_with fail
      refine HBr.out.mono ?_
      rintro e w21 ⟨gd21, rfl, hg21, hb21, hD21⟩
      have HFb := Lib.hid (hp2.out.trans (bb.mono hp2.out.size))
      have hBy : Hid (∀ W, Chg w21 W (· = gd21) → Byt W _ n B) := fun W hc => HB.out W ((HFb.out.trans (hb21.mono HFb.out.size)).trans (hc.below (Nat.le_trans HFb.out.size hb21.size) (fun k e => by have e : k = gd21 := e; have := HFb.out.size; omega)))
      have hbD := Lib.hid hb21
      have hcD : Hid (Chg w21 w21 (· = gd21)) := Chg.refl _ _
      have hDD := Lib.hid hD21
      clear hb21 hD21 HBr
      have N1 := Lib.hid (below9_c gd21 n _ B 6 _ hDD.out (hBy.out _ hcD.out) (by omega))
      go_wp2_with fail
      refine N1.out.mono ?_
      rintro e w22 ⟨ix, rfl, hi, _, hr22⟩
      replace hi := hi (by omega)
      replace hcD := Lib.hid (hcD.out.trans hr22.chg)
      replace hDD := Lib.hid hr22.src
      clear hr22 N1
      obtain ⟨i, rfl⟩ : ∃ i : Nat, ix = i := ⟨ix.toNat, by omega⟩
      have N1 := Lib.hid (below9_c gd21 n _ B 6 _ hDD.out (hBy.out _ hcD.out) (by omega))
      go_wp2_with fail
      refine N1.out.mono ?_
      rintro e w23 ⟨kx, rfl, hk, _, hr23⟩
      replace hk := hk (by omega)
      replace hcD := Lib.hid (hcD.out.trans hr23.chg)
      replace hDD := Lib.hid hr23.src
      clear hr23 N1
      obtain ⟨k, rfl⟩ : ∃ k : Nat, kx = k := ⟨kx.toNat, by omega⟩
      have hb23 := hbD.out.trans (hcD.out.below hbD.out.size (fun k e => by have e : k = gd21 := e; omega))
      replace f0 := cellKp hb23 f0
      replace f1 := cellKp hb23 f1
      have bb := bb.trans (hb23.mono bb.size)
      replace hx := Lib.hid (hx.out.below hb23)
      replace hy := Lib.hid (hy.out.below hb23)
      clear hb23 hbD hcD hDD hBy HFb
      have VP : Hid (∀ (W : World) (j : Nat), j ≤ 20 → Below w2.heap.size w2 W → El W (.slice xa (2 ^ m) xc) P m X → Calls Try.prog 40 #[dbl P (.slice a m c), .slice xa (2 ^ m) xc, .int .i64 (j : Int)] W fun e w' => ResE W w' e P m (powE P s m X j)) := fun W j hj hb hxw => by
        have this := vPower_c P _ m s _ X j W HOK.out (id.out W hb) hxw (by omega)
        rw [Int.toNat_natCast] at this
        exact this
      have VP2 : Hid (∀ (W : World), Below w2.heap.size w2 W → El W (.slice xa (2 ^ m) xc) P m X → Calls Try.prog 40 #[dbl P (.slice a m c), .slice xa (2 ^ m) xc, .int .i64 ((i : Int) + (k : Int))] W fun e w' => ResE W w' e P m (powE P s m X (i + k))) := fun W hb hxw => by
        have this := vPower_c P _ m s _ X ((i : Int) + (k : Int)) W HOK.out (id.out W hb) hxw (by omega)
        rw [show ((i : Int) + (k : Int)).toNat = i + k by omega] at this
        exact this
      go_wp2_with fail
      go_at_call 40
      refine (VP.out _ i (by omega) bb hx.out).mono ?_
      rintro e w24 ⟨g24, c24, rfl, hb24, o24⟩
      replace f0 := cellKp hb24 f0
      replace f1 := cellKp hb24 f1
      have bb := bb.trans (hb24.mono bb.size)
      replace hx := Lib.hid (hx.out.below hb24)
      replace hy := Lib.hid (hy.out.below hb24)
      have hu := Lib.hid o24
      clear o24 hb24
      go_wp2_with fail
      go_at_call 40
      refine (VP.out _ k (by omega) bb hx.out).mono ?_
      rintro e w25 ⟨g25, c25, rfl, hb25, o25⟩
      replace f0 := cellKp hb25 f0
      replace f1 := cellKp hb25 f1
      have bb := bb.trans (hb25.mono bb.size)
      replace hx := Lib.hid (hx.out.below hb25)
      replace hy := Lib.hid (hy.out.below hb25)
      replace hu := Lib.hid (hu.out.below hb25)
      have hv := Lib.hid o25
      clear o25 hb25
      go_wp2_with fail
      go_at_call 40
      refine (VP2.out _ bb hx.out).mono ?_
      rintro e w26 ⟨g26, c26, rfl, hb26, o26⟩
      replace f0 := cellKp hb26 f0
      replace f1 := cellKp hb26 f1
      have bb := bb.trans (hb26.mono bb.size)
      replace hx := Lib.hid (hx.out.below hb26)
      replace hy := Lib.hid (hy.out.below hb26)
      replace hu := Lib.hid (hu.out.below hb26)
      replace hv := Lib.hid (hv.out.below hb26)
      have hw := Lib.hid o26
      clear o26 hb26
      clear VP VP2
      go_wp2_with fail
      go_at_call 30
      refine (times9_c P _ m s _ _ _ _ _ HOK.out (id.out _ bb) hu.out hv.out).mono ?_
      rintro e w27 ⟨g27, c27, rfl, hb27, o27⟩
      replace f0 := cellKp hb27 f0
      replace f1 := cellKp hb27 f1
      have bb := bb.trans (hb27.mono bb.size)
      replace hx := Lib.hid (hx.out.below hb27)
      replace hy := Lib.hid (hy.out.below hb27)
      replace hu := Lib.hid (hu.out.below hb27)
      replace hv := Lib.hid (hv.out.below hb27)
      replace hw := Lib.hid (hw.out.below hb27)
      have hT := Lib.hid o27
      clear o27 hb27
      go_wp2_with fail
      go_at_call 16
      refine Calls.reads' (wr := w) (likeInts_c _ _ _ _ _ _ _ hw.out.ints hT.out.ints) _ fun q28 => ?_
      rw [HDL.out.pow i k]
      clear hT
      clear hu
      clear hv
      clear hw
      clear hx
      replace f0 := cellKp (below_drewN _ q28) f0
      replace f1 := cellKp (below_drewN _ q28) f1
      have bb := bb.trans ((below_drewN _ q28).mono bb.size)
      replace hy := Lib.hid (hy.out.below (below_drewN _ q28))
      have hfin := Lib.hid (hp2.out.trans (bb.mono hp2.out.size))
      clear hp2 bb id ix iy
      go_wp2
      go_ret
      exact ⟨rfl, hfin.out⟩

end Go.Proofs.Ytnnacligfoonbaa
