/-
  The product of a doubling, in both programs. No condition beside sizes.
-/
import Derived.Test.YtdehfpnlehbdjaaD12
set_option linter.unusedVariables false
set_option linter.unusedSimpArgs false
namespace Go.Proofs.Ytdehfpnlehbdjaa
open Go.RowKit

theorem heldD {w W W' : World} {a : Addr} {v : Value} (ha : a.block < w.heap.size) (hb : Below W.heap.size W W') (h : W.cell? a = some v ∧ Below w.heap.size w W) : W'.cell? a = some v ∧ Below w.heap.size w W' :=
  ⟨by rw [hb.cell (p := a) (by have := h.2.size; omega)]; exact h.1, h.2.trans (hb.mono h.2.size)⟩
theorem heldD0 {w : World} {a : Addr} {v : Value} (h : w.cell? a = some v) : w.drew.cell? a = some v ∧ Below w.heap.size w w.drew := ⟨by simpa using h, ⟨rfl, rfl, rfl, Nat.le_refl _, fun _ _ => rfl⟩⟩

theorem mulF_succ (p : Int) (s : Nat → Int) (k : Nat) (X Y : Nat → Int) (i : Nat) : mulF p s (k + 1) X Y i =
    if i < 2 ^ k then (mulF p s k X Y i + s k * mulF p s k (conjF p fun j => Y (2 ^ k + j)) (fun j => X (2 ^ k + j)) i) % p
    else (mulF p s k (fun j => Y (2 ^ k + j)) X (i - 2 ^ k) + mulF p s k (fun j => X (2 ^ k + j)) (conjF p Y) (i - 2 ^ k)) % p := rfl
theorem Own.cells0 {w : World} {e : TypeId} {g cap n : Nat} {V : Nat → Value} (h : Own w e g cap n V) : ∀ j, j < n → w.cell? ⟨g, 0 + j, none⟩ = some (V j) := fun j hj => by rw [Nat.zero_add]; exact h.cell hj
theorem ints_cut {w : World} {b o n m c l : Nat} {X : Nat → Int} (hl : l ≤ n) (hn : n ≤ c) (hc : c ≤ 9223372036854775807) (h : ∀ i, i < n → w.cell? ⟨b, o + i, none⟩ = some (.int .i64 (X i))) : Ints w (.slice (some ⟨b, o, none⟩) l c) l X :=
  ⟨_, c, b, o, rfl, by omega, hc, fun _ => rfl, fun i hi => h i (by omega)⟩
theorem ints_tail {w : World} {b o n c l : Nat} {X : Nat → Int} (hl : l ≤ n) (hn : n ≤ c) (hc : c ≤ 9223372036854775807) (h : ∀ i, i < n → w.cell? ⟨b, o + i, none⟩ = some (.int .i64 (X i))) : Ints w (.slice (some ⟨b, o + l, none⟩) (n - l) (c - l)) (n - l) (fun i => X (l + i)) :=
  ⟨_, c - l, b, o + l, rfl, by omega, by omega, fun _ => rfl, fun i hi => by rw [Nat.add_assoc]; exact h (l + i) (by omega)⟩

theorem InP.conj {p : Int} (hp : 0 < p) {n : Nat} {X : Nat → Int} (h : InP p n X) : InP p n (conjF p X) := conjF_in hp h

theorem sum_bd {p a b k : Int} (hp : 1 ≤ p) : 0 ≤ (a + k * b) % p ∧ (a + k * b) % p < p := mod_bd _ _ (by omega)

set_option maxRecDepth 100000 in
set_option maxHeartbeats 4000000 in
theorem iDouble0_c (p : Int) (sv xv yv : Value) (s X Y : Nat → Int) (w : World) (h1 : 1 ≤ p) (h2 : p ≤ 1000) (hs : Ints w sv 0 s) (hx : Ints w xv 1 X) (hy : Ints w yv 1 Y) (iX : InP p 1 X) (iY : InP p 1 Y) :
    Calls Try.prog 75 #[.int .i64 p, sv, xv, yv] w fun e w' => CopyI w w' e 1 (mulF p s 0 X Y) := by
  obtain ⟨sa, sc, sb, so, rfl, s2, s3, s4, s5⟩ := hs.out
  obtain ⟨xa, xc, xb, xo, rfl, x2, x3, x4, x5⟩ := hx.out
  obtain ⟨ya, yc, yb, yo, rfl, y2, y3, y4, y5⟩ := hy.out
  obtain rfl := x4 (by omega)
  obtain rfl := y4 (by omega)
  have e1 : w.cell? ⟨xb, xo, none⟩ = some (.int .i64 (X 0)) := x5 0 (by omega)
  have e2 : w.cell? ⟨yb, yo, none⟩ = some (.int .i64 (Y 0)) := y5 0 (by omega)
  have hb := mul_bd (iX.sm h2 0 (by omega)) (iY.sm h2 0 (by omega))
  have hwr : IntKind.i64.wrap (X 0 * Y 0) = X 0 * Y 0 := wrap_in _ (by omega)
  have hres : CopyI w (w.drew.alloc (.cells #[.int .i64 ((X 0 * Y 0) % p)] 2)) (.returned (.slice (some ⟨w.heap.size, 0, none⟩) 1 1)) 1 (mulF p s 0 X Y) :=
    ⟨⟨w.heap.size, 1, rfl, Nat.le_refl _, (heldD0 e1).2.alloc (Nat.le_refl _) _, Own.new w.drew _ #[.int .i64 ((X 0 * Y 0) % p)] _ (by simp) (fun i hi => by
      obtain rfl : i = 0 := by simp at hi; omega
      rfl)⟩⟩
  have HR := Lib.hid hres
  clear s4 s5 x4 x5 y4 y5 hs hx hy iX iY hres
  go_enter Try.func75, Try.ntmps75
  go_wp2
  go_region_law (go_simp; go_at_call 88; refine (iNum_c _ _ _ h1 h2 (by omega) (by omega)).mono ?_; rintro e w' ⟨rfl, rfl⟩)
  all_goals go_wp2
  all_goals go_ret
  all_goals exact HR.out

set_option maxRecDepth 100000 in
set_option maxHeartbeats 4000000 in
theorem sMul0_c (p : Int) (sv xv yv : Value) (s X Y : Nat → Int) (w : World) (h1 : 1 ≤ p) (h2 : p ≤ 1000) (hs : Ints w sv 0 s) (hx : Ints w xv 1 X) (hy : Ints w yv 1 Y) (iX : InP p 1 X) (iY : InP p 1 Y) :
    Calls Try.prog 73 #[.int .i64 p, sv, xv, yv] w fun e w' => CopyI w w' e 1 (mulF p s 0 X Y) := by
  obtain ⟨sa, sc, sb, so, rfl, s2, s3, s4, s5⟩ := hs.out
  obtain ⟨xa, xc, xb, xo, rfl, x2, x3, x4, x5⟩ := hx.out
  obtain ⟨ya, yc, yb, yo, rfl, y2, y3, y4, y5⟩ := hy.out
  obtain rfl := x4 (by omega)
  obtain rfl := y4 (by omega)
  have e1 : w.cell? ⟨xb, xo, none⟩ = some (.int .i64 (X 0)) := x5 0 (by omega)
  have e2 : w.cell? ⟨yb, yo, none⟩ = some (.int .i64 (Y 0)) := y5 0 (by omega)
  have hb := mul_bd (iX.sm h2 0 (by omega)) (iY.sm h2 0 (by omega))
  have hwr : IntKind.i64.wrap (X 0 * Y 0) = X 0 * Y 0 := wrap_in _ (by omega)
  have hres : CopyI w (w.drew.alloc (.cells #[.int .i64 ((X 0 * Y 0) % p)] 2)) (.returned (.slice (some ⟨w.heap.size, 0, none⟩) 1 1)) 1 (mulF p s 0 X Y) :=
    ⟨⟨w.heap.size, 1, rfl, Nat.le_refl _, (heldD0 e1).2.alloc (Nat.le_refl _) _, Own.new w.drew _ #[.int .i64 ((X 0 * Y 0) % p)] _ (by simp) (fun i hi => by
      obtain rfl : i = 0 := by simp at hi; omega
      rfl)⟩⟩
  have HR := Lib.hid hres
  clear s4 s5 x4 x5 y4 y5 hs hx hy iX iY hres
  go_enter Try.func73, Try.ntmps73
  go_wp2
  go_region_law (go_simp; go_at_call 86; refine (sMod_c _ _ _ h1 h2 (by omega) (by omega)).mono ?_; rintro e w' ⟨rfl, rfl⟩)
  all_goals go_wp2
  all_goals go_ret
  all_goals exact HR.out

set_option maxRecDepth 100000 in
set_option maxHeartbeats 4000000 in
theorem iDoubleS_c (p : Int) (k H : Nat) (s : Nat → Int) (hk : k ≤ 3) (hH : H = 1 ∨ H = 2 ∨ H = 4 ∨ H = 8) (hpow : 2 ^ k = H) (h1 : 1 ≤ p) (h2 : p ≤ 1000) (hsk : -1000 ≤ s k ∧ s k ≤ 1000)
    (IH : ∀ sv xv yv X Y w, Ints w sv k s → Ints w xv H X → Ints w yv H Y → InP p H X → InP p H Y → Calls Try.prog 75 #[.int .i64 p, sv, xv, yv] w fun e w' => CopyI w w' e H (mulF p s k X Y))
    (sv xv yv : Value) (X Y : Nat → Int) (w : World) (hs : Ints w sv (k + 1) s) (hx : Ints w xv (H + H) X) (hy : Ints w yv (H + H) Y) (iX : InP p (H + H) X) (iY : InP p (H + H) Y) :
    Calls Try.prog 75 #[.int .i64 p, sv, xv, yv] w fun e w' => CopyI w w' e (H + H) (mulF p s (k + 1) X Y) := by
  have hp0 : 0 < p := by omega
  obtain ⟨sa, sc, sb, so, rfl, s2, s3, s4, s5⟩ := hs.out
  obtain ⟨xa, xc, xb, xo, rfl, x2, x3, x4, x5⟩ := hx.out
  obtain ⟨ya, yc, yb, yo, rfl, y2, y3, y4, y5⟩ := hy.out
  have hH0 : 0 < H := by omega
  have hH8 : H ≤ 8 := by omega
  obtain rfl := s4 (by omega)
  obtain rfl := x4 (by omega)
  obtain rfl := y4 (by omega)
  have es : w.cell? ⟨sb, so + k, none⟩ = some (.int .i64 (s k)) := s5 k (by omega)
  have hsl := lt_of_cell es
  have rv : ∀ W, Below w.heap.size w W → Ints W (.slice (some ⟨sb, so, none⟩) k sc) k s := fun W hb => Ints.below (ints_cut (n := k + 1) (m := 0) (by omega) s2 s3 s5) hb
  have av : ∀ W, Below w.heap.size w W → Ints W (.slice (some ⟨xb, xo, none⟩) H xc) H X := fun W hb => Ints.below (ints_cut (n := H + H) (m := 0) (by omega) x2 x3 x5) hb
  have cv : ∀ W, Below w.heap.size w W → Ints W (.slice (some ⟨yb, yo, none⟩) H yc) H Y := fun W hb => Ints.below (ints_cut (n := H + H) (m := 0) (by omega) y2 y3 y5) hb
  have bv : ∀ W, Below w.heap.size w W → Ints W (.slice (some ⟨xb, xo + H, none⟩) H (xc - H)) H (fun i => X (2 ^ k + i)) := fun W hb => by
    have h := ints_tail (w := w) (l := H) (by omega) x2 x3 x5
    rw [show H + H - H = H by omega] at h
    rw [hpow]; exact h.below hb
  have dv : ∀ W, Below w.heap.size w W → Ints W (.slice (some ⟨yb, yo + H, none⟩) H (yc - H)) H (fun i => Y (2 ^ k + i)) := fun W hb => by
    have h := ints_tail (w := w) (l := H) (by omega) y2 y3 y5
    rw [show H + H - H = H by omega] at h
    rw [hpow]; exact h.below hb
  have RV := Lib.hid rv
  have AV := Lib.hid av
  have BV := Lib.hid bv
  have CV := Lib.hid cv
  have DV := Lib.hid dv
  have ia : InP p H X := iX.mono (by omega)
  have ic : InP p H Y := iY.mono (by omega)
  have ib : InP p H (fun i => X (2 ^ k + i)) := by rw [hpow]; exact iX.drop (by omega)
  have id : InP p H (fun i => Y (2 ^ k + i)) := by rw [hpow]; exact iY.drop (by omega)
  have IA := Lib.hid ia
  have IB := Lib.hid ib
  have IC := Lib.hid ic
  have ID := Lib.hid id
  have HI := Lib.hid IH
  have HP := Lib.hid hpow
  have hq : Int.tdiv (((H + H : Nat) : Int)) 2 = (H : Int) := by rcases hH with rfl | rfl | rfl | rfl <;> rfl
  have hq' : Int.tdiv ((H : Int) + (H : Int)) 2 = (H : Int) := by rcases hH with rfl | rfl | rfl | rfl <;> rfl
  have HH := Lib.hid hH
  have i0 : (0 : Int) ≤ (k : Int) := by omega
  have i1 : (k : Int) < (k : Int) + 1 := by omega
  have i2 : (k : Int) < ((k + 1 : Nat) : Int) := by omega
  clear s4 s5 x4 x5 y4 y5 hs hx hy iX iY rv av bv cv dv ia ib ic id IH hpow hH
  go_enter Try.func75, Try.ntmps75
  go_wp2
  go_quiet (fail)
  go_wp2
  go_region_held3 (fun W => W.cell? ⟨sb, so + k, none⟩ = some (.int .i64 (s k)) ∧ Below w.heap.size w W)
    ((first | assumption | exact ⟨by simpa using es, ⟨rfl, rfl, rfl, Nat.le_refl _, fun _ _ => rfl⟩⟩ | exact heldD hsl (by assumption) (by assumption)))
    ((first
      | (go_at_call 67; refine (iPlus_c _ _ _ _ _ _ _ _ _ ((hO1.kept hb2).kept hb3).ints hO3.ints (Nat.le_refl _) (by omega) h1 h2 ((mulF_in hp0 _ _ _ _ _).sm h2) ((mulF_in hp0 _ _ _ _ _).sm h2) hsk).mono ?_; rintro e w4 ⟨g4, c4, rfl, hg4, hb4, hO4⟩)
      | (go_at_call 75; have hx := hO2; refine (HI.out _ _ _ _ _ _ (RV.out _ (And.right (by assumption))) hO2.ints (BV.out _ (And.right (by assumption))) (conjF_in hp0 ID.out) IB.out).mono ?_; rintro e w3 ⟨g3, c3, rfl, hg3, hb3, hO3⟩)
      | (go_at_call 75; refine (HI.out _ _ _ _ _ _ (RV.out _ (And.right (by assumption))) (AV.out _ (And.right (by assumption))) (CV.out _ (And.right (by assumption))) IA.out IC.out).mono ?_; rintro e w1 ⟨g1, c1, rfl, hg1, hb1, hO1⟩)
      | (go_at_call 95; refine (iConj_c _ _ _ _ _ (DV.out _ (And.right (by assumption))) hH0 (by omega) h1 h2 (ID.out.sm h2)).mono ?_; rintro e w2 ⟨g2, c2, rfl, hg2, hb2, hO2⟩)))
  have b4 : Below w.heap.size w w4 := And.right (a := w4.cell? ⟨sb, so + k, none⟩ = some (.int .i64 (s k))) (by assumption)
  have hz1 := (hb1.size : w.heap.size ≤ _)
  have hz4 : w.heap.size ≤ g4 := by have := hb1.size; have := hb2.size; have := hb3.size; have : (w.drewN (nq + 1)).heap.size = w.heap.size := rfl; have : (w.drewN nq).drew.heap.size = w.heap.size := rfl; omega
  go_wp2_with fail
  refine (HI.out _ _ _ _ _ _ (RV.out _ b4) (DV.out _ b4) (AV.out _ b4) ID.out IA.out).mono ?_
  rintro e w5 ⟨g5, c5, rfl, hg5, hb5, hO5⟩
  have b5 := b4.trans (hb5.mono b4.size)
  go_wp2_with fail
  refine (iConj_c _ _ _ _ _ (CV.out _ b5) hH0 (by omega) h1 h2 (IC.out.sm h2)).mono ?_
  rintro e w6 ⟨g6, c6, rfl, hg6, hb6, hO6⟩
  have b6 := b5.trans (hb6.mono b5.size)
  go_wp2_with fail
  refine (HI.out _ _ _ _ _ _ (RV.out _ b6) (BV.out _ b6) hO6.ints IB.out (conjF_in hp0 IC.out)).mono ?_
  rintro e w7 ⟨g7, c7, rfl, hg7, hb7, hO7⟩
  have b7 := b6.trans (hb7.mono b6.size)
  go_wp2_with fail
  refine (iPlus_c _ _ _ _ _ _ _ _ _ ((hO5.kept hb6).kept hb7).ints hO7.ints (Nat.le_refl _) (by omega) h1 h2 ((mulF_in hp0 _ _ _ _ _).sm h2) ((mulF_in hp0 _ _ _ _ _).sm h2) (by omega)).mono ?_
  rintro e w8 ⟨g8, c8, rfl, hg8, hb8, hO8⟩
  have b8 := b7.trans (hb8.mono b7.size)
  have hA := (((hO4.kept hb5).kept hb6).kept hb7).kept hb8
  have hcells := hO8.cells0
  go_wp2_with (at_builtin; refine wpList_app _ rfl _ _ _ _ elI rfl hA rfl g8 0 H c8 _ rfl hcells (fun _ _ => rfl) (by omega) (by omega) ?_; intro g9 c9 w9 hO9 hg9 hgr9)
  go_ret
  refine ⟨g9, c9, rfl, by have := b8.size; omega, b8.grown hgr9 b8.size (fun k e => by injection e with e; omega), hO9.congr fun i hi => ?_⟩
  have e := HP.out
  show _ = Value.int .i64 (mulF p s (k + 1) X Y i)
  rw [mulF_succ]
  by_cases e2 : i < H
  · rw [if_pos e2, if_pos (show i < 2 ^ k by rw [e]; exact e2)]
  · rw [if_neg e2, if_neg (show ¬ i < 2 ^ k by rw [e]; exact e2), show i - 2 ^ k = i - H by rw [e], Int.one_mul]

set_option maxRecDepth 100000 in
set_option maxHeartbeats 4000000 in
theorem sMulS_c (p : Int) (k H : Nat) (s : Nat → Int) (hk : k ≤ 3) (hH : H = 1 ∨ H = 2 ∨ H = 4 ∨ H = 8) (hpow : 2 ^ k = H) (h1 : 1 ≤ p) (h2 : p ≤ 1000) (hsk : -1000 ≤ s k ∧ s k ≤ 1000)
    (IH : ∀ sv xv yv X Y w, Ints w sv k s → Ints w xv H X → Ints w yv H Y → InP p H X → InP p H Y → Calls Try.prog 73 #[.int .i64 p, sv, xv, yv] w fun e w' => CopyI w w' e H (mulF p s k X Y))
    (sv xv yv : Value) (X Y : Nat → Int) (w : World) (hs : Ints w sv (k + 1) s) (hx : Ints w xv (H + H) X) (hy : Ints w yv (H + H) Y) (iX : InP p (H + H) X) (iY : InP p (H + H) Y) :
    Calls Try.prog 73 #[.int .i64 p, sv, xv, yv] w fun e w' => CopyI w w' e (H + H) (mulF p s (k + 1) X Y) := by
  have hp0 : 0 < p := by omega
  obtain ⟨sa, sc, sb, so, rfl, s2, s3, s4, s5⟩ := hs.out
  obtain ⟨xa, xc, xb, xo, rfl, x2, x3, x4, x5⟩ := hx.out
  obtain ⟨ya, yc, yb, yo, rfl, y2, y3, y4, y5⟩ := hy.out
  have hH0 : 0 < H := by omega
  have hH8 : H ≤ 8 := by omega
  obtain rfl := s4 (by omega)
  obtain rfl := x4 (by omega)
  obtain rfl := y4 (by omega)
  have es : w.cell? ⟨sb, so + k, none⟩ = some (.int .i64 (s k)) := s5 k (by omega)
  have hsl := lt_of_cell es
  have rv : ∀ W, Below w.heap.size w W → Ints W (.slice (some ⟨sb, so, none⟩) k sc) k s := fun W hb => Ints.below (ints_cut (n := k + 1) (m := 0) (by omega) s2 s3 s5) hb
  have av : ∀ W, Below w.heap.size w W → Ints W (.slice (some ⟨xb, xo, none⟩) H xc) H X := fun W hb => Ints.below (ints_cut (n := H + H) (m := 0) (by omega) x2 x3 x5) hb
  have cv : ∀ W, Below w.heap.size w W → Ints W (.slice (some ⟨yb, yo, none⟩) H yc) H Y := fun W hb => Ints.below (ints_cut (n := H + H) (m := 0) (by omega) y2 y3 y5) hb
  have bv : ∀ W, Below w.heap.size w W → Ints W (.slice (some ⟨xb, xo + H, none⟩) H (xc - H)) H (fun i => X (2 ^ k + i)) := fun W hb => by
    have h := ints_tail (w := w) (l := H) (by omega) x2 x3 x5
    rw [show H + H - H = H by omega] at h
    rw [hpow]; exact h.below hb
  have dv : ∀ W, Below w.heap.size w W → Ints W (.slice (some ⟨yb, yo + H, none⟩) H (yc - H)) H (fun i => Y (2 ^ k + i)) := fun W hb => by
    have h := ints_tail (w := w) (l := H) (by omega) y2 y3 y5
    rw [show H + H - H = H by omega] at h
    rw [hpow]; exact h.below hb
  have RV := Lib.hid rv
  have AV := Lib.hid av
  have BV := Lib.hid bv
  have CV := Lib.hid cv
  have DV := Lib.hid dv
  have ia : InP p H X := iX.mono (by omega)
  have ic : InP p H Y := iY.mono (by omega)
  have ib : InP p H (fun i => X (2 ^ k + i)) := by rw [hpow]; exact iX.drop (by omega)
  have id : InP p H (fun i => Y (2 ^ k + i)) := by rw [hpow]; exact iY.drop (by omega)
  have IA := Lib.hid ia
  have IB := Lib.hid ib
  have IC := Lib.hid ic
  have ID := Lib.hid id
  have HI := Lib.hid IH
  have HP := Lib.hid hpow
  have hq : Int.tdiv (((H + H : Nat) : Int)) 2 = (H : Int) := by rcases hH with rfl | rfl | rfl | rfl <;> rfl
  have hq' : Int.tdiv ((H : Int) + (H : Int)) 2 = (H : Int) := by rcases hH with rfl | rfl | rfl | rfl <;> rfl
  have HH := Lib.hid hH
  have i0 : (0 : Int) ≤ (k : Int) := by omega
  have i1 : (k : Int) < (k : Int) + 1 := by omega
  have i2 : (k : Int) < ((k + 1 : Nat) : Int) := by omega
  clear s4 s5 x4 x5 y4 y5 hs hx hy iX iY rv av bv cv dv ia ib ic id IH hpow hH
  go_enter Try.func73, Try.ntmps73
  go_wp2
  go_quiet (fail)
  go_wp2
  go_quiet (fail)
  have bz : ∀ q q', Below w.heap.size w ((w.drewN q).drewN q') := fun q q' => ⟨rfl, rfl, rfl, Nat.le_refl _, fun _ _ => rfl⟩
  go_wp2_with fail
  refine (HI.out _ _ _ _ _ _ (RV.out _ (below_drewN _ _)) (AV.out _ (below_drewN _ _)) (CV.out _ (below_drewN _ _)) IA.out IC.out).mono ?_
  rintro e w1 ⟨g1, c1, rfl, hg1, hb1, hO1⟩
  have b1 : Below w.heap.size w w1 := ⟨hb1.os, hb1.tape, hb1.output, hb1.size, hb1.block⟩
  go_wp2_with fail
  refine (sStar_c _ _ _ _ _ (DV.out _ b1) hH0 (by omega) h1 h2 (ID.out.sm h2)).mono ?_
  rintro e w2 ⟨g2, c2, rfl, hg2, hb2, hO2⟩
  have b2 := b1.trans (hb2.mono b1.size)
  go_wp2_with fail
  refine (HI.out _ _ _ _ _ _ (RV.out _ b2) hO2.ints (BV.out _ b2) (conjF_in hp0 ID.out) IB.out).mono ?_
  rintro e w3 ⟨g3, c3, rfl, hg3, hb3, hO3⟩
  have b3 := b2.trans (hb3.mono b2.size)
  go_wp2_with fail
  refine (sScale_c _ _ _ _ _ _ hO3.ints (by omega) h1 h2 ((mulF_in hp0 _ _ _ _ _).sm h2) hsk).mono ?_
  rintro e w3' ⟨g3', c3', rfl, hg3', hb3', hO3'⟩
  have b3' := b3.trans (hb3'.mono b3.size)
  have hsm : Sm H (fun i => (s k * mulF p s k (conjF p fun i => Y (2 ^ k + i)) (fun i => X (2 ^ k + i)) i) % p) := InP.sm (fun i _ => mod_bd _ _ hp0) h2
  go_wp2_with fail
  refine (sAdd_c _ _ _ _ _ _ _ _ (((hO1.kept hb2).kept hb3).kept hb3').ints hO3'.ints (Nat.le_refl _) (by omega) h1 h2 ((mulF_in hp0 _ _ _ _ _).sm h2) hsm).mono ?_
  rintro e w4 ⟨g4, c4, rfl, hg4, hb4, hO4⟩
  have b4 := b3'.trans (hb4.mono b3'.size)
  have hz4 : w.heap.size ≤ g4 := by have := b3'.size; omega
  go_wp2_with fail
  refine (HI.out _ _ _ _ _ _ (RV.out _ b4) (DV.out _ b4) (AV.out _ b4) ID.out IA.out).mono ?_
  rintro e w5 ⟨g5, c5, rfl, hg5, hb5, hO5⟩
  have b5 := b4.trans (hb5.mono b4.size)
  go_wp2_with fail
  refine (sStar_c _ _ _ _ _ (CV.out _ b5) hH0 (by omega) h1 h2 (IC.out.sm h2)).mono ?_
  rintro e w6 ⟨g6, c6, rfl, hg6, hb6, hO6⟩
  have b6 := b5.trans (hb6.mono b5.size)
  go_wp2_with fail
  refine (HI.out _ _ _ _ _ _ (RV.out _ b6) (BV.out _ b6) hO6.ints IB.out (conjF_in hp0 IC.out)).mono ?_
  rintro e w7 ⟨g7, c7, rfl, hg7, hb7, hO7⟩
  have b7 := b6.trans (hb7.mono b6.size)
  go_wp2_with fail
  refine (sAdd_c _ _ _ _ _ _ _ _ ((hO5.kept hb6).kept hb7).ints hO7.ints (Nat.le_refl _) (by omega) h1 h2 ((mulF_in hp0 _ _ _ _ _).sm h2) ((mulF_in hp0 _ _ _ _ _).sm h2)).mono ?_
  rintro e w8 ⟨g8, c8, rfl, hg8, hb8, hO8⟩
  have b8 := b7.trans (hb8.mono b7.size)
  have hA := (((hO4.kept hb5).kept hb6).kept hb7).kept hb8
  have hcells := hO8.cells0
  go_wp2_with (at_builtin; refine wpList_app _ rfl _ _ _ _ elI rfl hA rfl g8 0 H c8 _ rfl hcells (fun _ _ => rfl) (by omega) (by omega) ?_; intro g9 c9 w9 hO9 hg9 hgr9)
  go_ret
  refine ⟨g9, c9, rfl, by have := b8.size; omega, b8.grown hgr9 b8.size (fun k e => by injection e with e; omega), hO9.congr fun i hi => ?_⟩
  have e := HP.out
  show _ = Value.int .i64 (mulF p s (k + 1) X Y i)
  rw [mulF_succ]
  by_cases e2 : i < H
  · rw [if_pos e2, if_pos (show i < 2 ^ k by rw [e]; exact e2), mod_mod_add]
  · rw [if_neg e2, if_neg (show ¬ i < 2 ^ k by rw [e]; exact e2), show i - 2 ^ k = i - H by rw [e]]

theorem iDouble_c (p : Int) (h1 : 1 ≤ p) (h2 : p ≤ 1000) (s : Nat → Int) : ∀ (k : Nat), k ≤ 4 → Sm k s → ∀ (sv xv yv : Value) (X Y : Nat → Int) (w : World), Ints w sv k s → Ints w xv (2 ^ k) X → Ints w yv (2 ^ k) Y → InP p (2 ^ k) X → InP p (2 ^ k) Y →
    Calls Try.prog 75 #[.int .i64 p, sv, xv, yv] w fun e w' => CopyI w w' e (2 ^ k) (mulF p s k X Y) := by
  intro k
  induction k with
  | zero => intro _ _ sv xv yv X Y w hs hx hy iX iY; exact iDouble0_c p sv xv yv s X Y w h1 h2 hs hx hy iX iY
  | succ k ih =>
    intro hk hsm sv xv yv X Y w hs hx hy iX iY
    have hH : 2 ^ k = 1 ∨ 2 ^ k = 2 ∨ 2 ^ k = 4 ∨ 2 ^ k = 8 := by
      have : k = 0 ∨ k = 1 ∨ k = 2 ∨ k = 3 := by omega
      rcases this with rfl | rfl | rfl | rfl <;> simp
    have e : 2 ^ (k + 1) = 2 ^ k + 2 ^ k := by rw [Nat.pow_succ]; omega
    rw [e] at hx hy iX iY ⊢
    exact iDoubleS_c p k (2 ^ k) s (by omega) hH rfl h1 h2 (hsm k (by omega)) (ih (by omega) (fun i hi => hsm i (by omega))) sv xv yv X Y w hs hx hy iX iY

theorem sMul_c (p : Int) (h1 : 1 ≤ p) (h2 : p ≤ 1000) (s : Nat → Int) : ∀ (k : Nat), k ≤ 4 → Sm k s → ∀ (sv xv yv : Value) (X Y : Nat → Int) (w : World), Ints w sv k s → Ints w xv (2 ^ k) X → Ints w yv (2 ^ k) Y → InP p (2 ^ k) X → InP p (2 ^ k) Y →
    Calls Try.prog 73 #[.int .i64 p, sv, xv, yv] w fun e w' => CopyI w w' e (2 ^ k) (mulF p s k X Y) := by
  intro k
  induction k with
  | zero => intro _ _ sv xv yv X Y w hs hx hy iX iY; exact sMul0_c p sv xv yv s X Y w h1 h2 hs hx hy iX iY
  | succ k ih =>
    intro hk hsm sv xv yv X Y w hs hx hy iX iY
    have hH : 2 ^ k = 1 ∨ 2 ^ k = 2 ∨ 2 ^ k = 4 ∨ 2 ^ k = 8 := by
      have : k = 0 ∨ k = 1 ∨ k = 2 ∨ k = 3 := by omega
      rcases this with rfl | rfl | rfl | rfl <;> simp
    have e : 2 ^ (k + 1) = 2 ^ k + 2 ^ k := by rw [Nat.pow_succ]; omega
    rw [e] at hx hy iX iY ⊢
    exact sMulS_c p k (2 ^ k) s (by omega) hH rfl h1 h2 (hsm k (by omega)) (ih (by omega) (fun i hi => hsm i (by omega))) sv xv yv X Y w hs hx hy iX iY

end Go.Proofs.Ytdehfpnlehbdjaa
