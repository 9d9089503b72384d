/-
  The counts of the program: a table filled from its last row. No condition beside sizes.
-/
import Derived.Test.YtnnacligfoonbaaD40
import Derived.Test.YtnnacligfoonbaaKJ
set_option linter.unusedVariables false
set_option linter.unusedSimpArgs false
namespace Go.Proofs.Ytnnacligfoonbaa
open Go.RowKit

/-- a table whose rows from i on are there, the others nil -/
structure PTR (w : World) (B g N P i : Nat) (R : Nat → Nat) (T : Nat → Nat → Int) : Prop where
  tab : Own w 24 g (N + 1) (N + 1) (fun j => if j < i then .slice none 0 0 else .slice (some ⟨R j, 0, none⟩) P P)
  base : B ≤ g
  row : ∀ j, i ≤ j → j < N + 1 → Own w 2 (R j) P P (fun k => .int .i64 (T j k)) ∧ B ≤ R j ∧ R j ≠ g
  ne : ∀ j j', i ≤ j' → j' < j → j < N + 1 → R j ≠ R j'

theorem PTR.put {w0 w : World} {B g N P i r : Nat} {R : Nat → Nat} {T : Nat → Nat → Int} {Z : Nat → Int} (h : PTR w0 B g N P (i + 1) R T) (hi : i < N + 1) (hb : Below w0.heap.size w0 w) (hr : Own w 2 r P P (fun k => .int .i64 (Z k))) (hrl : w0.heap.size ≤ r) (hB : B ≤ w0.heap.size) :
    PTR (w.setCell ⟨g, i, none⟩ (.slice (some ⟨r, 0, none⟩) P P)) B g N P i (fun j => if j = i then r else R j) (fun j => if j = i then Z else T j) := by
  have hgl := h.tab.lt
  refine ⟨((h.tab.kept hb).set i _).congr fun j hj => ?_, h.base, fun j hj1 hj2 => ?_, fun j j' h1 h2 h3 => ?_⟩
  · by_cases e : j = i
    · subst e; simp
    · simp only [if_neg e]
      by_cases e2 : j < i
      · rw [if_pos (by omega), if_pos e2]
      · rw [if_neg (by omega), if_neg e2]
  · by_cases e : j = i
    · subst e
      simp only [if_true]
      exact ⟨hr.setOther (show r ≠ g by omega) _, by omega, by omega⟩
    · obtain ⟨q1, q2, q3⟩ := h.row j (by omega) hj2
      simp only [if_neg e]
      exact ⟨(q1.kept hb).setOther q3 _, q2, q3⟩
  · by_cases e' : j' = i
    · subst e'
      have q := (h.row j (by omega) h3).1.lt
      simp only [if_true, if_neg (show j ≠ j' by omega)]; omega
    · simp only [if_neg e', if_neg (show j ≠ i by omega)]; exact h.ne j j' (by omega) h2 h3

theorem PTR.fill {w w' : World} {B g N P i : Nat} {R : Nat → Nat} {T : Nat → Nat → Int} {Z : Nat → Int} (h : PTR w B g N P i R T) (hi : i < N + 1) (hc : Chg w w' (· = R i)) (hr : Own w' 2 (R i) P P (fun k => .int .i64 (Z k))) :
    PTR w' B g N P i R (fun j => if j = i then Z else T j) := by
  refine ⟨hc.own h.tab (fun e => (h.row i (Nat.le_refl _) hi).2.2 e.symm), h.base, fun j hj1 hj2 => ?_, h.ne⟩
  by_cases e : j = i
  · subst e; simp only [if_true]
    exact ⟨hr, (h.row j hj1 hj2).2⟩
  · obtain ⟨q1, q2⟩ := h.row j hj1 hj2
    simp only [if_neg e]
    exact ⟨hc.own q1 (fun e2 => h.ne j i (Nat.le_refl _) (by omega) hj2 e2), q2⟩
theorem PTR.congr {w : World} {B g N P i : Nat} {R : Nat → Nat} {T T' : Nat → Nat → Int} (h : PTR w B g N P i R T) (hT : ∀ j, i ≤ j → j < N + 1 → ∀ k, k < P → T j k = T' j k) : PTR w B g N P i R T' :=
  ⟨h.tab, h.base, fun j h1 h2 => ⟨(h.row j h1 h2).1.congr fun k hk => by rw [hT j h1 h2 k hk], (h.row j h1 h2).2⟩, h.ne⟩
theorem PTR.otab {w : World} {B g N P : Nat} {R : Nat → Nat} {T : Nat → Nat → Int} (h : PTR w B g N P 0 R T) : OTab w B g (N + 1) (N + 1) (fun _ => P) T :=
  ⟨R, fun _ => P, h.tab.congr fun j _ => by simp, h.base, fun j hj => h.row j (Nat.zero_le _) hj, fun j j' hj hlt => h.ne j j' (Nat.zero_le _) hlt hj⟩
theorem boxChg {w W W' : World} {p : Int} {ao : Option Addr} {n c r : Nat} (hc : Chg W W' (· = r)) (hr : w.heap.size < r) (hb : BoxD w p ao n c W) : BoxD w p ao n c W' := by
  have hne : ¬ (w.heap.size = r) := by omega
  have e : ∀ o, W'.cell? ⟨w.heap.size, o, none⟩ = W.cell? ⟨w.heap.size, o, none⟩ := fun o => World.cell?_of_block (hc.block _ hb.2.2.1 hne)
  exact ⟨by rw [e]; exact hb.1, by rw [e]; exact hb.2.1, by have := hc.size; have := hb.2.2.1; omega, hb.2.2.2.trans (hc.below hb.2.2.2.size (fun k hk => by have hk : k = r := hk; omega))⟩
theorem Chg.cellN {W W' : World} {r b o : Nat} {v : Value} (hc : Chg W W' (· = r)) (hn : b ≠ r) (h : W.cell? ⟨b, o, none⟩ = some v) : W'.cell? ⟨b, o, none⟩ = some v := by
  rw [World.cell?_of_block (w := W) (hc.block b (lt_of_cell h) hn)]; exact h

set_option maxRecDepth 100000 in
set_option maxHeartbeats 8000000 in
theorem iNormCounts_c (P : Nat) (sv : Value) (n : Nat) (s : Nat → Int) (w : World) (hd : DV w sv P n s) (hP : 2 ≤ P) (hP2 : P ≤ 13) :
    Calls Try.prog 74 #[dbl (P : Int) sv] w fun e w' => CopyT w w' e (2 ^ n + 1) (fun _ => P) (fun i => backK P (dgF P s n) i (2 ^ n - i)) := by
  obtain ⟨ao, c, _, _, rfl, qq⟩ := hd.ints.out
  clear qq
  obtain ⟨e0, e1, e2, e3⟩ := box0 w (P : Int) ao n c 26
  have BX := Lib.hid (box0 w (P : Int) ao n c 26)
  have hn4 := hd.le
  have hD : ∀ W, Below w.heap.size w W → Calls Try.prog 79 #[dbl (P : Int) (.slice ao n c)] W fun e w' => CopyI W w' e (2 ^ n) (dgF P s n) := fun W hb => iDiag_c _ _ n s W (hd.below hb) (by omega)
  have hdg : ∀ i, 0 ≤ dgF P s n i ∧ dgF P s n i < P := fun i => dgF_in (by omega) s n i
  obtain ⟨c', hc'⟩ : ∃ c' : Nat → Int, dgF P s n = c' := ⟨_, rfl⟩
  obtain ⟨N, hN⟩ : ∃ N, 2 ^ n = N := ⟨_, rfl⟩
  have hN16 : N ≤ 16 := hN ▸ pow_le hn4
  rw [hN] at hD ⊢
  rw [hc'] at hD hdg ⊢
  have HD := Lib.hid hD
  have HG := Lib.hid hdg
  clear hN hc' hD hd hdg
  obtain ⟨Tf, hTf⟩ : ∃ Tf : Nat → Nat → Int, (fun i => backK P c' i (N - i)) = Tf := ⟨_, rfl⟩
  have hTf1 : ∀ i, i < N → ∃ C, Tf (i + 1) = C ∧ Tf i = stepK P (c' i) C ∧ (∀ j, j < P → 0 ≤ C j ∧ C j ≤ 665416609183179841) ∧ ∀ j, j < P → stepK P (c' i) C j ≤ 665416609183179841 := fun i hi => by
    have e : backK P c' i (N - i) = stepK P (c' i) (backK P c' (i + 1) (N - (i + 1))) := by rw [show N - i = (N - (i + 1)) + 1 by omega]; rfl
    refine ⟨backK P c' (i + 1) (N - (i + 1)), by rw [← hTf], by rw [← hTf]; exact e, fun j hj => ?_, fun j hj => ?_⟩
    · have h := backK_bd (show 0 < P by omega) c' (N - (i + 1)) (i + 1) j hj
      exact ⟨h.1, Int.le_trans h.2 (pow_bd hP2 (by omega))⟩
    · rw [← e]
      exact Int.le_trans (backK_bd (show 0 < P by omega) c' (N - i) i j hj).2 (pow_bd hP2 (by omega))
  have hTf0 : ∀ k, Tf N k = if k = 0 then 1 else 0 := fun k => by rw [← hTf]; show backK P c' N (N - N) k = _; rw [Nat.sub_self]; rfl
  have HTF1 := Lib.hid hTf1
  have HTF0 := Lib.hid hTf0
  rw [hTf]
  clear hTf hTf1 hTf0
  go_enter Try.func74, Try.ntmps74
  go_wp2_with fail
  go_at_call 79
  refine (HD.out _ e3).mono ?_
  rintro e w1 ⟨g1, c1, rfl, hg1, hb1, hO1⟩
  obtain ⟨f0, f1, f2, f3⟩ := boxKeep hb1 BX.out
  have BX1 := Lib.hid (show BoxD w P ao n c w1 from ⟨f0, f1, f2, f3⟩)
  have hg1' : w.heap.size < g1 := by simp only [alloc_size] at hg1; omega
  have HO1 := Lib.hid hO1
  have hl1 := hO1.lt
  clear e0 e1 e2 e3 hb1 hO1 hg1
  go_wp2_with (first
    | (at_make; refine wpList_mkA _ rfl _ _ _ _ elR rfl rfl .i64 .i64 (N + 1) rfl rfl (by omega) (by omega) ?_; intro W2 hB2A hS2A hO2A; have z0A := cellKp hB2A f0; have z1A := cellKp hB2A f1; have HS2A := Lib.hid hS2A; clear hS2A)
    | (at_make; refine wpList_mkA _ rfl _ _ _ _ elI rfl rfl .i64 .i64 P rfl rfl (by omega) (by omega) ?_; intro W3A hB3A hS3A hO3A; have q2A := hO2A.kept hB3A; have huA := q2A.cell (show N < N + 1 by omega); have hfA := q2A.frozen N; have y0A := cellKp hB3A z0A; have y1A := cellKp hB3A z1A; have HS3A := Lib.hid hS3A; clear hS3A
       have hPTA : PTR W2 w1.heap.size w1.heap.size N P (N + 1) (fun _ => 0) Tf := ⟨hO2A.congr (fun j hj => by rw [if_pos hj]), Nat.le_refl _, fun j h1 h2 => absurd h2 (by omega), fun j j' h1 h2 h3 => absurd h3 (by omega)⟩
       have hP3A := hPTA.put (i := N) (Z := fun _ => 0) (by omega) hB3A hO3A (Nat.le_refl _) hB2A.size
       have hrwA := hP3A.row N (Nat.le_refl _) (by omega)
       simp only [if_true] at hrwA
       have c1A := hP3A.tab.cell (show N < N + 1 by omega)
       rw [if_neg (Nat.lt_irrefl _)] at c1A
       simp only [if_true] at c1A
       have c2A := hrwA.1.cell (show 0 < P by omega)
       have c3A := hrwA.1.frozen 0))
  go_loopg [5] N (fun g v wr => ∃ t : Nat, t ≤ N ∧ t = g ∧ v = .int .i64 ((t : Int) - 1) ∧ BoxD w (P : Int) ao n c wr ∧ Hid (Own wr 2 g1 c1 N (fun i => .int .i64 (c' i))) ∧ ∃ R, PTR wr w1.heap.size w1.heap.size N P t R Tf)
  case atStart =>
    have hlw := BX1.out.2.2.1
    have hl3 := hB2A.size
    have b3 : BoxD w (P : Int) ao n c W3A := boxKeep hB3A (boxKeep hB2A BX1.out)
    have k1 : Chg W3A (W3A.setCell ⟨w1.heap.size, N, none⟩ (.slice (some ⟨W2.heap.size, 0, none⟩) P P)) (· = w1.heap.size) := (Chg.refl W3A (· = w1.heap.size)).setCell (a := ⟨w1.heap.size, N, none⟩) rfl _
    have k2 : Chg (W3A.setCell ⟨w1.heap.size, N, none⟩ (.slice (some ⟨W2.heap.size, 0, none⟩) P P)) ((W3A.setCell ⟨w1.heap.size, N, none⟩ (.slice (some ⟨W2.heap.size, 0, none⟩) P P)).setCell ⟨W2.heap.size, 0, none⟩ (.int .i64 1)) (· = W2.heap.size) := (Chg.refl _ (· = W2.heap.size)).setCell (a := ⟨W2.heap.size, 0, none⟩) rfl _
    refine ⟨N, Nat.le_refl _, rfl, rfl, boxChg k2 (by omega) (boxChg k1 (by omega) b3), k2.own (k1.own ((HO1.out.kept hB2A).kept hB3A) (fun e => by have e : g1 = w1.heap.size := e; omega)) (fun e => by have e : g1 = W2.heap.size := e; omega), _, (hP3A.fill (Z := Tf N) (by omega) (by simpa using k2) ?_).congr fun j h1 h2 k hk => ?_⟩
    · simp only [if_true]
      refine (hrwA.1.set 0 _).congr fun j hj => ?_
      rw [HTF0.out]
      by_cases e : j = 0 <;> simp [e]
    · obtain rfl : j = N := by omega
      simp
  case round =>
    clear hrwA c1A c2A c3A hP3A hPTA y0A y1A huA hfA q2A z0A z1A hO3A hO2A HS3A HS2A hB3A hB2A f0 f1 f2 f3
    obtain ⟨t, ht, rfl, rfl, ⟨f0, f1, f2, f3⟩, hdi, R, hPT⟩ := hrel
    obtain ⟨wo, rfl⟩ : ∃ wo, wo = wr := ⟨_, rfl⟩
    have BXo := Lib.hid (show BoxD w (P : Int) ao n c wo from ⟨f0, f1, f2, f3⟩)
    have hlw := hPT.tab.lt
    have hl0 := BX1.out.2.2.1
    by_cases hlt : 0 < t
    · obtain ⟨i, rfl⟩ : ∃ i, t = i + 1 := ⟨t - 1, by omega⟩
      rw [show (((i + 1 : Nat) : Int) - 1) = (i : Int) by omega]
      obtain ⟨C, hC1, hC2, hC3, hC4⟩ := HTF1.out i (by omega)
      have hci := HG.out i
      have HPTo := Lib.hid hPT
      have i0 : (0 : Int) ≤ (i : Int) := by omega
      have i1 : (i : Int) < (N : Int) + 1 := by omega
      have i2 : (i : Int) + 1 < (N : Int) + 1 := by omega
      go_wp2_with (first
        | (at_make; refine wpList_mkA _ rfl _ _ _ _ elI rfl rfl .i64 .i64 P rfl rfl (by omega) (by omega) ?_; intro W3 hB3 hS3 hO3; have HS3 := Lib.hid hS3; clear hS3
           have q2 := hPT.tab.kept hB3
           have hu := q2.cell (show i < N + 1 by omega)
           rw [if_pos (Nat.lt_succ_self i)] at hu
           have hf := q2.frozen i
           have hu2 := q2.cell (show i + 1 < N + 1 by omega)
           rw [if_neg (Nat.lt_irrefl _)] at hu2
           have y0 := cellKp hB3 f0
           have y1 := cellKp hB3 f1
           have hP3 := hPT.put (i := i) (Z := fun _ => 0) (by omega) hB3 hO3 (Nat.le_refl _) (by omega)
           have c3 := hP3.tab.cell (show i + 1 < N + 1 by omega)
           rw [if_neg (show ¬ i + 1 < i by omega)] at c3
           simp only [if_neg (show ¬ i + 1 = i by omega)] at c3))
      obtain ⟨w4, hw4⟩ : ∃ W, W = W3.setCell ⟨w1.heap.size, i, none⟩ (.slice (some ⟨wo.heap.size, 0, none⟩) P P) := ⟨_, rfl⟩
      have BX4 : Hid (BoxD w (P : Int) ao n c w4) := by
        rw [hw4]
        exact boxChg ((Chg.refl W3 (· = w1.heap.size)).setCell (a := ⟨w1.heap.size, i, none⟩) rfl _) (by omega) (boxKeep hB3 BXo.out)
      have HD4 : Hid (Own w4 2 g1 c1 N (fun i => .int .i64 (c' i))) := by
        rw [hw4]
        exact (hdi.out.kept hB3).setOther (show g1 ≠ w1.heap.size by omega) _
      have B4 : Hid (w.heap.size < wo.heap.size) := by exact f2
      rw [← hw4] at hP3 ⊢
      have HP3 := Lib.hid hP3
      have hrwI := hP3.row i (Nat.le_refl _) (by omega)
      have hrwN := hP3.row (i + 1) (by omega) (by omega)
      have hneR := hP3.ne (i + 1) i (Nat.le_refl _) (by omega) (by omega)
      have htab := hP3.tab
      simp only [if_true, if_neg (show ¬ i + 1 = i by omega)] at hrwI hrwN hneR
      rw [hC1] at hrwN
      obtain ⟨d, hd⟩ : ∃ d, c' i = d := ⟨_, rfl⟩
      obtain ⟨r, hr⟩ : ∃ r, wo.heap.size = r := ⟨_, rfl⟩
      have hdcell : Hid (∀ W, Chg w4 W (· = r) → W.cell? ⟨g1, i, none⟩ = some (.int .i64 d)) := fun W hc => hc.cellN (by omega) (by rw [← hd]; exact HD4.out.cell (by omega))
      have hCcell : Hid (∀ W, Chg w4 W (· = r) → ∀ j, j < P → W.cell? ⟨R (i + 1), j, none⟩ = some (.int .i64 (C j))) := fun W hc j hj => hc.cellN (by rw [← hr]; exact hneR) (hrwN.1.cell hj)
      have hTcell : Hid (∀ W, Chg w4 W (· = r) → W.cell? ⟨w1.heap.size, i, none⟩ = some (.slice (some ⟨r, 0, none⟩) P P)) := fun W hc => hc.cellN (by omega) (by
        have h := htab.cell (show i < N + 1 by omega)
        rw [if_neg (Nat.lt_irrefl _)] at h
        simp only [if_true] at h
        rw [← hr]; exact h)
      have hBoxC : Hid (∀ W, Chg w4 W (· = r) → BoxD w (P : Int) ao n c W) := fun W hc => boxChg hc (by rw [← hr]; exact B4.out) BX4.out
      rw [hd] at hC2 hC4 hci
      rw [hr] at hrwI
      have HZ := Lib.hid hrwI.1
      have HB := Lib.hid hC3
      have HB2 := Lib.hid hC4
      have HC2 := Lib.hid hC2
      have hpk : Hid (∀ n x j, n < P → x ≤ P → 0 ≤ partK P d C n x j ∧ partK P d C n x j ≤ stepK P d C j) := fun n x j hn hx => partK_bd d (fun i hi => (HB.out i hi).1) hn hx j
      rw [hr]
      clear hP3 hrwI hrwN htab hC1 hC2 hC3 hC4 hd f0 f1 f2 f3 hPT
      go_loopg [47] P (fun g v wq => ∃ m : Nat, m ≤ P ∧ g = P - m ∧ v = .int .i64 m ∧ Chg w4 wq (· = r) ∧ Own wq 2 r P P (fun j => .int .i64 (partK P d C m 0 j)))
      case atStart => exact ⟨0, Nat.zero_le _, rfl, rfl, Chg.refl _ _, HZ.out.congr fun j hj => by rw [partK_zero]⟩
      case round =>
        obtain ⟨m, hm, rfl, rfl, hcm, hOm⟩ := hrel
        by_cases hltm : m < P
        · have e1 := hCcell.out _ hcm m hltm
          obtain ⟨k0, k1, k2, k3⟩ := hBoxC.out _ hcm
          obtain ⟨u, hu⟩ : ∃ u, C m = u := ⟨_, rfl⟩
          have hCn := HB.out m hltm
          rw [hu] at e1 hCn
          go_wp2
          clear e1 k0 k1 k2 k3
          go_loopg [54] P (fun g v wq => ∃ a : Nat, a ≤ P ∧ g = P - a ∧ v = .int .i64 a ∧ Chg w4 wq (· = r) ∧ Own wq 2 r P P (fun j => .int .i64 (partK P d C m a j)))
          case atStart => exact ⟨0, Nat.zero_le _, rfl, rfl, hcm, hOm⟩
          case round =>
            obtain ⟨a, ha, rfl, rfl, hca, hOa⟩ := hrel
            clear hcm hOm
            by_cases hlta : a < P
            · have hm1 := mul_bd (a := d) (b := (a : Int)) (by omega) (by omega)
              have hm2 : 0 ≤ d * (a : Int) ∧ d * (a : Int) ≤ 1000 * 13 := ⟨Int.mul_nonneg (by omega) (by omega), Int.mul_le_mul (by omega) (by omega) (by omega) (by omega)⟩
              have hm3 : 0 ≤ d * (a : Int) * (a : Int) ∧ d * (a : Int) * (a : Int) ≤ 1000 * 13 * 13 := ⟨Int.mul_nonneg hm2.1 (by omega), Int.mul_le_mul hm2.2 (by omega) (by omega) (by omega)⟩
              have hmod := mod_bd ((m : Int) + d * a * a) P (by omega)
              obtain ⟨q, hq⟩ := Int.eq_ofNat_of_zero_le hmod.1
              have CM : Hid (∀ W, Calls Try.prog 81 #[.int .i64 P, .int .i64 ((m : Int) + d * a * a)] W fun e w' => e = .returned (.int .i64 (q : Int)) ∧ W = w') := fun W => hq ▸ iNum_c _ _ W (by omega) (by omega) (by omega) (by omega)
              have hqP : q < P := by omega
              have hpr := hpk.out m a q hltm (by omega)
              have hps := hpk.out m (a + 1) q hltm (by omega)
              have hst := HB2.out q hqP
              have hnext : partK P d C m (a + 1) q = partK P d C m a q + u := by rw [partK_next, if_pos hq, hu]
              have HNX : Hid (∀ j, partK P d C m (a + 1) j = if j = q then partK P d C m a q + u else partK P d C m a j) := fun j => by
                by_cases e : j = q
                · subst e; rw [if_pos rfl]; exact hnext
                · rw [if_neg e, partK_next, if_neg (by rw [hq]; omega)]; omega
              have j1 := hdcell.out _ hca
              have j2 := hTcell.out _ hca
              obtain ⟨k0, k1, k2, k3⟩ := hBoxC.out _ hca
              have j3 := hOa.cell hqP
              have j4 := hOa.frozen q
              have hOd := hOa.drew
              rw [hnext] at hps
              obtain ⟨x, hx⟩ : ∃ x, partK P d C m a q = x := ⟨_, rfl⟩
              rw [hx] at HNX hps j3 hpr
              have hwr : IntKind.i64.wrap (x + u) = x + u := wrap_in _ (by omega)
              have n0 : (0 : Int) ≤ (q : Int) := by omega
              have n1 : (q : Int) < (P : Int) := by omega
              have n2 : (i : Int) < (N : Int) := by omega
              have hwa : IntKind.i64.wrap (d * (a : Int)) = d * (a : Int) := wrap_in _ (by omega)
              have hwb : IntKind.i64.wrap (d * (a : Int) * (a : Int)) = d * (a : Int) * (a : Int) := wrap_in _ (by omega)
              have hwc : IntKind.i64.wrap ((m : Int) + d * (a : Int) * (a : Int)) = (m : Int) + d * (a : Int) * (a : Int) := wrap_in _ (by omega)
              clear hmod hq hnext hst hpr hps hm1 hm2 hm3
              go_wp2
              go_region_law (first
                | (go_simp; go_at_call 80; refine Calls.makes' (iField_c _ _ _) _ fun v1 hb1 => ?_; have l1 := cellKp hb1 (cellKp (drewB wr) j1); have l2 := cellKp hb1 (cellKp (drewB wr) j2); have l3 := cellKp hb1 (cellKp (drewB wr) k0); have l4 := cellKp hb1 (cellKp (drewB wr) k1); have hO5 := hOd.kept hb1; have l5 := cellKp hb1 (cellKp (drewB wr) j3); have l6 := hO5.frozen q)
                | (go_simp; go_at_call 81; refine (CM.out _).mono ?_; rintro e w' ⟨rfl, rfl⟩))
              all_goals go_wp2
              all_goals go_roundg (P - (a + 1))
              all_goals first
                | omega
                | exact ⟨a + 1, by omega, rfl, by go_num, ((hca.trans (Chg.of_below (drewB wr) _)).trans (Chg.of_below hb1 _)).setCell (a := ⟨r, q, none⟩) rfl _, (hO5.set q _).congr fun j hj => by
                    rw [HNX.out j]
                    by_cases e : j = q <;> simp [e]⟩
            · obtain rfl : a = P := by omega
              go_wp2
              go_roundg (a - (m + 1))
              case measure => omega
              case rel => exact ⟨m + 1, by omega, rfl, by go_num, hca, hOa.congr fun j hj => by rw [partK_row]⟩
        · obtain rfl : m = P := by omega
          go_wp2
          go_roundg i
          case measure => omega
          case rel =>
            refine ⟨i, by omega, rfl, by go_num, hBoxC.out _ hcm, hcm.own HD4.out (by omega), _, (HP3.out.fill (Z := Tf i) (by omega) (by simp only [if_true]; rw [hr]; exact hcm) ?_).congr fun j h1 h2 k hk => ?_⟩
            · simp only [if_true]
              rw [hr]
              exact hOm.congr fun j hj => by rw [partK_all, HC2.out]
            · by_cases e : j = i <;> simp [e]
    · obtain rfl : t = 0 := by omega
      go_wp2
      go_ret
      exact ⟨w1.heap.size, N + 1, rfl, f3, hPT.otab.mono (by omega)⟩

end Go.Proofs.Ytnnacligfoonbaa
