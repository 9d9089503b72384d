/-
  CountVectors in both programs. No condition beside sizes.
-/
import Derived.Test.YtnkflgigbielgaaSP4
import Derived.Test.YtnkflgigbielgaaSV2
import Derived.Test.YtnkflgigbielgaaQK
import Derived.Test.YtnkflgigbielgaaLSB
set_option linter.unusedVariables false
set_option linter.unusedSimpArgs false
namespace Go.Proofs.Ytnkflgigbielgaa
open Go.RowKit


theorem boxSet {w W : World} {p : Int} {ao : Option Addr} {n c b i : Nat} (h : BoxD w p ao n c W) (hb : w.heap.size < b) (v : Value) : BoxD w p ao n c (W.setCell ⟨b, i, none⟩ v) := by
  have hc : Chg W (W.setCell ⟨b, i, none⟩ v) (· = b) := (Chg.refl W (· = b)).setCell (a := ⟨b, i, none⟩) rfl v
  have hs := hc.size
  exact ⟨hc.cellC h.1 (by show ¬ w.heap.size = b; omega), hc.cellC h.2.1 (by show ¬ w.heap.size = b; omega), Nat.lt_of_lt_of_le h.2.2.1 hs, h.2.2.2.trans (hc.below h.2.2.2.size fun k e => by have e : k = b := e; omega)⟩
theorem mod_sq (P n d a : Int) : (n + (a * a) % P * d) % P = (n + d * a * a) % P := by
  rw [← mod_mod_add, mod_mul_mod, mod_mod_add]
  congr 1; grind

set_option maxRecDepth 100000 in
set_option maxHeartbeats 4000000 in
theorem sCountsSp_c (P : Nat) (sv : Value) (m : Nat) (s : Nat → Int) (w : World) (hd : SV w sv P m s) :
    Calls Try.prog 87 #[dbl P sv] w fun e w' => CopyI w w' e P (foreK P s 0 m) := by
  have hpb := hd.ok.bd
  have hm6 := hd.ok.n6
  have HC : Hid (∀ i, i < m → 0 ≤ s i ∧ s i ≤ 12) := fun i hi => by have := hd.ok.inp i hi; omega
  obtain ⟨ao, cp, b, o, rfl, p2, p3, p4, p5⟩ := hd.ints.out
  obtain ⟨e0, e1, e2, e3⟩ := box0 w P ao m cp 26
  have BX := Lib.hid (box0 w P ao m cp 26)
  have P5 := Lib.hid p5
  have hP1 : 1 ≤ P := by omega
  have hP2 : P ≤ 13 := by omega
  clear hd p5
  go_enter Try.func87, Try.ntmps87
  go_wp2_with (at_make; refine wpList_mkA _ rfl _ _ _ _ elI rfl rfl .i64 .i64 P rfl rfl (by omega) (by omega) ?_; intro W1 hB1 hS1 hO1; simp only [alloc_size] at hO1; have hu := hO1.cell hP1; have hf := hO1.frozen 0; have BX1 := Lib.hid (boxKeep hB1 BX.out); have e0 := BX1.out.1; have e1 := BX1.out.2.1; have e2 := BX1.out.2.2.1)
  go_loopg [3, 4] m (fun g o i wr => ∃ k : Nat, k ≤ m ∧ g = m - k ∧ i = .int .i64 k ∧ BoxD w P ao m cp wr ∧ ∃ g', o = .slice (some ⟨g', 0, none⟩) P P ∧ w.heap.size < g' ∧ Own wr 2 g' P P (fun j => .int .i64 (foreK P s 0 k j)))
  case atStart => exact ⟨0, Nat.zero_le _, rfl, rfl, boxSet BX1.out (by simp) _, _, rfl, by simp, (hO1.set 0 _).congr fun j hj => by
    show _ = Value.int .i64 (if j = 0 then 1 else 0)
    by_cases e : j = 0 <;> simp [e]⟩
  case round =>
    obtain ⟨k, hk, rfl, rfl, hbx, g', rfl, hg', hO⟩ := hrel
    obtain ⟨wo, rfl⟩ : ∃ wo, wo = wr := ⟨_, rfl⟩
    have HBX := Lib.hid hbx
    have hwo := hbx.2.2.1
    obtain ⟨f0, f1, f2, f3⟩ := hbx
    have hgl := hO.lt
    clear hO1 hu hf hB1 hS1 BX1 BX e0 e1 e2 e3
    by_cases hlt : k < m
    · obtain rfl := p4 (by omega)
      have hck := HC.out k hlt
      have hbd : ∀ j, j < P → 0 ≤ foreK P s 0 k j ∧ foreK P s 0 k j ≤ 665416609183179841 := fun j hj => ⟨(foreK_bd hP1 s hj).1, Int.le_trans (foreK_bd hP1 s hj).2 (pow_bd hP2 (by omega))⟩
      have hbd2 : ∀ j, j < P → stepK P (s k) (foreK P s 0 k) j ≤ 665416609183179841 := fun j hj => by
        have h2 := (foreK_bd (m := k + 1) hP1 s hj).2
        rw [foreK, Nat.zero_add] at h2
        exact Int.le_trans h2 (pow_bd hP2 (by omega))
      have hnx : Hid (∀ j, stepK P (s k) (foreK P s 0 k) j = foreK P s 0 (k + 1) j) := fun j => by rw [foreK, Nat.zero_add]
      obtain ⟨C, hCe⟩ : ∃ C, foreK P s 0 k = C := ⟨_, rfl⟩
      rw [hCe] at hbd hbd2 hnx hO
      clear hCe
      have HB := Lib.hid hbd
      have HB2 := Lib.hid hbd2
      have hpk : Hid (∀ n x j, n < P → x ≤ P → 0 ≤ partK P (s k) C n x j ∧ partK P (s k) C n x j ≤ stepK P (s k) C j) := fun n x j hn hx => partK_bd (s k) (fun i hi => (HB.out i hi).1) hn hx j
      obtain ⟨d, hd⟩ : ∃ d, s k = d := ⟨_, rfl⟩
      have hcell : Hid (∀ W, Below w.heap.size w W → W.cell? ⟨b, o + k, none⟩ = some (.int .i64 d)) := fun W hW => by rw [hW.cell (p := ⟨b, o + k, none⟩) (lt_of_cell (P5.out k hlt)), ← hd]; exact P5.out k hlt
      rw [hd] at hck hpk HB2 hnx
      clear hd hbd hbd2
      go_wp2_with (at_make; refine wpList_mkA _ rfl _ _ _ _ elI rfl rfl .i64 .i64 P rfl rfl (by omega) (by omega) ?_; intro W2 hB2 hS2 hO2)
      go_loopg [6] P (fun g i wq => ∃ n : Nat, n ≤ P ∧ g = P - n ∧ i = .int .i64 n ∧ BoxD w P (some ⟨b, o, none⟩) m cp wq ∧ Below wo.heap.size wo wq ∧ Own wq 2 wo.heap.size P P (fun j => .int .i64 (partK P d C n 0 j)))
      case atStart => exact ⟨0, Nat.zero_le _, rfl, rfl, boxKeep hB2 HBX.out, hB2, hO2.congr fun j hj => by rw [partK_zero]⟩
      case round =>
        obtain ⟨n, hn, rfl, rfl, hbx, hbq, hOq⟩ := hrel
        obtain ⟨wn, rfl⟩ : ∃ wn, wn = wr := ⟨_, rfl⟩
        have HBQ := Lib.hid hbx
        obtain ⟨f0, f1, f2, f3'⟩ := hbx
        clear hO2 hB2 hS2
        by_cases hltn : n < P
        · have hltb : ((n : Int) < (P : Int)) := by omega
          go_wp2
          go_loopg [7] P (fun g i wq => ∃ a : Nat, a ≤ P ∧ g = P - a ∧ i = .int .i64 a ∧ BoxD w P (some ⟨b, o, none⟩) m cp wq ∧ Below wo.heap.size wo wq ∧ Own wq 2 wo.heap.size P P (fun j => .int .i64 (partK P d C n a j)))
          case atStart => exact ⟨0, Nat.zero_le _, rfl, rfl, HBQ.out, hbq, hOq⟩
          case round =>
            obtain ⟨a, ha, rfl, rfl, hbx, hba, hOa⟩ := hrel
            have HBA := Lib.hid hbx
            obtain ⟨f0, f1, f2, f3'⟩ := hbx
            clear hOq hbq
            by_cases hlta : a < P
            · have hlab : ((a : Int) < (P : Int)) := by omega
              have hxx : 0 ≤ (a : Int) * a ∧ (a : Int) * a ≤ 169 := ⟨Int.mul_nonneg (by omega) (by omega), by have := Int.mul_le_mul (show (a : Int) ≤ 13 by omega) (show (a : Int) ≤ 13 by omega) (by omega) (by omega : (0:Int) ≤ 13); omega⟩
              have hmod := mod_bd ((n : Int) + d * a * a) P (by omega)
              have hmq := mod_sq P n d a
              obtain ⟨r, hr⟩ := Int.eq_ofNat_of_zero_le hmod.1
              have hrP : r < P := by omega
              obtain ⟨xx, hxe⟩ : ∃ z, (a : Int) * a = z := ⟨_, rfl⟩
              rw [hxe] at hxx hmq
              have v1 : IntKind.i64.wrap ((a : Int) * a) = xx := wrap_as hxe (by omega)
              have hx1 := mod_bd xx P (by omega)
              have v2 : Int.tmod xx P = xx % P := Int.tmod_eq_emod_of_nonneg hxx.1
              obtain ⟨x1, hxe1⟩ : ∃ z, xx % P = z := ⟨_, rfl⟩
              rw [hxe1] at hx1 v2 hmq
              have hxd : 0 ≤ x1 * d ∧ x1 * d ≤ 144 := ⟨Int.mul_nonneg hx1.1 hck.1, by have := Int.mul_le_mul (show x1 ≤ 12 by omega) hck.2 hck.1 (by omega : (0:Int) ≤ 12); omega⟩
              obtain ⟨x2, hxe2⟩ : ∃ z, x1 * d = z := ⟨_, rfl⟩
              rw [hxe2] at hxd hmq
              have v3 : IntKind.i64.wrap (x1 * d) = x2 := wrap_as hxe2 (by omega)
              obtain ⟨x3, hxe3⟩ : ∃ z, (n : Int) + x2 = z := ⟨_, rfl⟩
              rw [hxe3] at hmq
              have v4 : IntKind.i64.wrap ((n : Int) + x2) = x3 := wrap_as hxe3 (by omega)
              have v5 : Int.tmod x3 P = (r : Int) := by rw [Int.tmod_eq_emod_of_nonneg (by omega), hmq, hr]
              have hpr := hpk.out n a r hltn (by omega)
              have hps := hpk.out n (a + 1) r hltn (by omega)
              have hCn := HB.out n hltn
              have hst := HB2.out r hrP
              have hnext : partK P d C n (a + 1) r = partK P d C n a r + C n := by rw [partK_next, if_pos hr]
              have HNX : Hid (∀ j, partK P d C n (a + 1) j = if j = r then partK P d C n a r + C n else partK P d C n a j) := fun j => by
                by_cases e : j = r
                · subst e; rw [if_pos rfl]; exact hnext
                · rw [if_neg e, partK_next, if_neg (by rw [hr]; omega)]; omega
              have hcc := hcell.out _ f3'
              have hcu : wr.cell? ⟨g', n, none⟩ = some (.int .i64 (C n)) := (hO.kept hba).cell hltn
              have hnx1 : wr.cell? ⟨wo.heap.size, r, none⟩ = some (.int .i64 (partK P d C n a r)) := hOa.cell hrP
              have hfz := hOa.frozen r
              rw [hnext] at hps
              obtain ⟨q, hq⟩ : ∃ q, partK P d C n a r = q := ⟨_, rfl⟩
              obtain ⟨u, hu⟩ : ∃ u, C n = u := ⟨_, rfl⟩
              rw [hq, hu] at HNX hps
              rw [hq] at hnx1 hpr
              rw [hu] at hcu hCn
              have hwr : IntKind.i64.wrap (q + u) = q + u := wrap_in _ (by omega)
              have i0 : (0 : Int) ≤ (r : Int) := by omega
              have i1 : (r : Int) < (P : Int) := by omega
              have i2 : (0 : Int) ≤ (n : Int) := by omega
              have i3 : (n : Int) < (P : Int) := by omega
              have i4 : (0 : Int) ≤ (k : Int) := by omega
              have i5 : (k : Int) < (m : Int) := by omega
              have hP0 : (P : Int) ≠ 0 := by omega
              clear hmod hr hnext hq hu hst hpr hps hmq hxe hxe1 hxe2 hxe3 hxx hx1 hxd
              go_wp2_with fail
              go_quiet (fail)
              go_wp2_with fail
              go_region_law (fail)
              all_goals go_wp2
              all_goals go_roundg (P - (a + 1))
              all_goals first
                | omega
                | exact ⟨a + 1, by omega, rfl, by go_num, boxSet (boxKeep (below_drewN wr _) HBA.out) hwo _, (hba.trans ((below_drewN wr _).mono hba.size)).setCell (Nat.le_refl _) _, ((hOa.drewN _).set r _).congr fun j hj => by
                    rw [HNX.out j]
                    by_cases e : j = r <;> simp [e]⟩
            · obtain rfl : a = P := by omega
              go_wp2
              go_roundg (a - (n + 1))
              case measure => omega
              case rel => exact ⟨n + 1, by omega, rfl, by go_num, HBA.out, hba, hOa.congr fun j hj => by rw [partK_row]⟩
        · obtain rfl : n = P := by omega
          go_wp2
          go_roundg (m - (k + 1))
          case measure => omega
          case rel => exact ⟨k + 1, by omega, rfl, by go_num, HBQ.out, _, rfl, by have := f2; omega, hOq.congr fun j hj => by rw [partK_all, hnx.out]⟩
    · obtain rfl : k = m := by omega
      go_wp2
      go_ret
      exact ⟨g', P, rfl, by omega, f3, hO⟩


theorem ints1s (w : World) (k : Int) (t : TypeId) : Ints (w.alloc (.cells #[.int .i64 k] t)) (.slice (some ⟨w.heap.size, 0, none⟩) 1 1) 1 (fun _ => k) :=
  (Own.new w t #[.int .i64 k] (fun _ => .int .i64 k) (by simp) (fun i hi => by
    obtain rfl : i = 0 := by simp at hi; omega
    rfl)).ints

set_option maxRecDepth 100000 in
set_option maxHeartbeats 4000000 in
theorem iCountVec_c (P : Nat) (sv : Value) (m : Nat) (s : Nat → Int) (K : Nat) (w : World) (hd : SV w sv P m s) (hok : spB P m s = true) (hK : K < P) :
    Calls Try.prog 27 #[dbl P sv, .int .i64 K] w fun e w' => Makes w w' e (.tuple #[.int .i64 (foreK P s 0 m K), .int .i64 0]) := by
  have hpb := hd.ok.bd
  have hm6 := hd.ok.n6
  have HC : Hid (∀ i, i < m → 0 ≤ s i ∧ s i ≤ 12) := fun i hi => by have := hd.ok.inp i hi; omega
  have HSI := Lib.hid hd.ints
  obtain ⟨ao, cp, b, o, rfl, p2, p3, p4, p5⟩ := hd.ints.out
  obtain ⟨e0, e1, e2, e3⟩ := box0 w P ao m cp 26
  have BX := Lib.hid (box0 w P ao m cp 26)
  have P5 := Lib.hid p5
  have hP1 : 1 ≤ P := by omega
  have hP2 : P ≤ 13 := by omega
  have HOK := Lib.hid hok
  have HIS : Hid (∀ W v, Ints W v 1 (fun _ => (K : Int)) → Calls Try.prog 72 #[.int .i64 P, v] W fun e w' => e = .returned (.bool true) ∧ W = w') := fun W v hv => (inPB_true fun i hi => decide_eq_true (by omega) : inPB 0 P 1 (fun _ => (K : Int)) = true) ▸ iIs_c P v 1 _ W hv (by omega) (by omega)
  clear hd p5 hok
  go_enter Try.func27, Try.ntmps27
  go_wp2_with fail
  refine Calls.makes' (iIsSp_c P _ m s _ (HSI.out.below e3)) _ fun w1 hb1 => ?_
  rw [HOK.out]
  have BX1 := Lib.hid (boxKeep hb1 BX.out)
  obtain ⟨e0, e1, e2, e3⟩ := BX1.out
  go_wp2_with fail
  go_at_call 71
  refine Calls.makes' (iSField_c _ _ _) _ fun w2 hb2 => ?_
  have BX2 := Lib.hid (boxKeep hb2 BX1.out)
  have hi1 := ints1s w2 (K : Int) 2
  have BX3 := Lib.hid (boxKeep ((Below.refl _ _).alloc (Nat.le_refl _) (.cells #[.int .i64 (K : Int)] 2)) BX2.out)
  obtain ⟨e0, e1, e2, e3⟩ := BX3.out
  go_wp2_with fail
  go_at_call 72
  refine (HIS.out _ _ hi1).mono ?_
  rintro e w' ⟨rfl, rfl⟩
  have hlt2 : w.heap.size < w2.heap.size := BX2.out.2.2.1
  clear hi1 hb1 hb2 BX1 BX2 HIS BX
  go_wp2_with (at_make; refine wpList_mkA _ rfl _ _ _ _ elI rfl rfl .i64 .i64 P rfl rfl (by omega) (by omega) ?_; intro W1 hB1 hS1 hO1; try simp only [alloc_size] at hO1; have hu := hO1.cell hP1; have hf := hO1.frozen 0; have BX1 := Lib.hid (boxKeep hB1 BX3.out); have e0 := BX1.out.1; have e1 := BX1.out.2.1; have e2 := BX1.out.2.2.1)
  go_loopg [6, 30] m (fun g o i wr => ∃ k : Nat, k ≤ m ∧ g = m - k ∧ i = .int .i64 k ∧ BoxD w P ao m cp wr ∧ ∃ g', o = .slice (some ⟨g', 0, none⟩) P P ∧ w.heap.size < g' ∧ Own wr 2 g' P P (fun j => .int .i64 (foreK P s 0 k j)))
  case atStart => exact ⟨0, Nat.zero_le _, rfl, rfl, boxSet BX1.out (by first | omega | (simp <;> omega)) _, _, rfl, by first | omega | (simp <;> omega), (hO1.set 0 _).congr fun j hj => by
    show _ = Value.int .i64 (if j = 0 then 1 else 0)
    by_cases e : j = 0 <;> simp [e]⟩
  case round =>
    obtain ⟨k, hk, rfl, rfl, hbx, g', rfl, hg', hO⟩ := hrel
    obtain ⟨wo, rfl⟩ : ∃ wo, wo = wr := ⟨_, rfl⟩
    have HBX := Lib.hid hbx
    have hwo := hbx.2.2.1
    obtain ⟨f0, f1, f2, f3⟩ := hbx
    have hgl := hO.lt
    clear hO1 hu hf hB1 hS1 BX1 BX3 e0 e1 e2 e3
    by_cases hlt : k < m
    · obtain rfl := p4 (by omega)
      have hck := HC.out k hlt
      have hbd : ∀ j, j < P → 0 ≤ foreK P s 0 k j ∧ foreK P s 0 k j ≤ 665416609183179841 := fun j hj => ⟨(foreK_bd hP1 s hj).1, Int.le_trans (foreK_bd hP1 s hj).2 (pow_bd hP2 (by omega))⟩
      have hbd2 : ∀ j, j < P → stepK P (s k) (foreK P s 0 k) j ≤ 665416609183179841 := fun j hj => by
        have h2 := (foreK_bd (m := k + 1) hP1 s hj).2
        rw [foreK, Nat.zero_add] at h2
        exact Int.le_trans h2 (pow_bd hP2 (by omega))
      have hnx : Hid (∀ j, stepK P (s k) (foreK P s 0 k) j = foreK P s 0 (k + 1) j) := fun j => by rw [foreK, Nat.zero_add]
      obtain ⟨C, hCe⟩ : ∃ C, foreK P s 0 k = C := ⟨_, rfl⟩
      rw [hCe] at hbd hbd2 hnx hO
      clear hCe
      have HB := Lib.hid hbd
      have HB2 := Lib.hid hbd2
      have hpk : Hid (∀ n x j, n < P → x ≤ P → 0 ≤ partK P (s k) C n x j ∧ partK P (s k) C n x j ≤ stepK P (s k) C j) := fun n x j hn hx => partK_bd (s k) (fun i hi => (HB.out i hi).1) hn hx j
      obtain ⟨d, hd⟩ : ∃ d, s k = d := ⟨_, rfl⟩
      have hcell : Hid (∀ W, Below w.heap.size w W → W.cell? ⟨b, o + k, none⟩ = some (.int .i64 d)) := fun W hW => by rw [hW.cell (p := ⟨b, o + k, none⟩) (lt_of_cell (P5.out k hlt)), ← hd]; exact P5.out k hlt
      rw [hd] at hck hpk HB2 hnx
      clear hd hbd hbd2
      have hcc0 := hcell.out _ f3
      have i4 : (0 : Int) ≤ (k : Int) := by omega
      have i5 : (k : Int) < (m : Int) := by omega
      go_wp2_with (at_make; refine wpList_mkA _ rfl _ _ _ _ elI rfl rfl .i64 .i64 P rfl rfl (by omega) (by omega) ?_; intro W2 hB2 hS2 hO2)
      go_loopg [39] P (fun g i wq => ∃ n : Nat, n ≤ P ∧ g = P - n ∧ i = .int .i64 n ∧ BoxD w P (some ⟨b, o, none⟩) m cp wq ∧ Below wo.heap.size wo wq ∧ Own wq 2 wo.heap.size P P (fun j => .int .i64 (partK P d C n 0 j)))
      case atStart => exact ⟨0, Nat.zero_le _, rfl, rfl, boxKeep hB2 HBX.out, hB2, hO2.congr fun j hj => by rw [partK_zero]⟩
      case round =>
        obtain ⟨n, hn, rfl, rfl, hbx, hbq, hOq⟩ := hrel
        obtain ⟨wn, rfl⟩ : ∃ wn, wn = wr := ⟨_, rfl⟩
        have HBQ := Lib.hid hbx
        obtain ⟨f0, f1, f2, f3'⟩ := hbx
        clear hO2 hB2 hS2
        by_cases hltn : n < P
        · have hltb : ((n : Int) < (P : Int)) := by omega
          have hcu0 := (hO.kept hbq).cell hltn
          have i2 : (0 : Int) ≤ (n : Int) := by omega
          have i3 : (n : Int) < (P : Int) := by omega
          go_wp2
          clear hcu0
          go_loopg [46] P (fun g i wq => ∃ a : Nat, a ≤ P ∧ g = P - a ∧ i = .int .i64 a ∧ BoxD w P (some ⟨b, o, none⟩) m cp wq ∧ Below wo.heap.size wo wq ∧ Own wq 2 wo.heap.size P P (fun j => .int .i64 (partK P d C n a j)))
          case atStart => exact ⟨0, Nat.zero_le _, rfl, rfl, HBQ.out, hbq, hOq⟩
          case round =>
            obtain ⟨a, ha, rfl, rfl, hbx, hba, hOa⟩ := hrel
            have HBA := Lib.hid hbx
            obtain ⟨f0, f1, f2, f3'⟩ := hbx
            clear hOq hbq
            by_cases hlta : a < P
            · have hlab : ((a : Int) < (P : Int)) := by omega
              have hxx : 0 ≤ (a : Int) * a ∧ (a : Int) * a ≤ 169 := ⟨Int.mul_nonneg (by omega) (by omega), by have := Int.mul_le_mul (show (a : Int) ≤ 13 by omega) (show (a : Int) ≤ 13 by omega) (by omega) (by omega : (0:Int) ≤ 13); omega⟩
              have hmod := mod_bd ((n : Int) + d * a * a) P (by omega)
              obtain ⟨r, hr⟩ := Int.eq_ofNat_of_zero_le hmod.1
              have hrP : r < P := by omega
              obtain ⟨xx, hxe⟩ : ∃ z, (a : Int) * a = z := ⟨_, rfl⟩
              have hmq : (n : Int) + xx * d = (n : Int) + d * a * a := by rw [← hxe]; grind
              rw [hxe] at hxx
              have v1 : IntKind.i64.wrap ((a : Int) * a) = xx := wrap_as hxe (by omega)
              have hxd : 0 ≤ xx * d ∧ xx * d ≤ 2028 := ⟨Int.mul_nonneg hxx.1 hck.1, by have := Int.mul_le_mul hxx.2 hck.2 hck.1 (by omega : (0:Int) ≤ 169); omega⟩
              obtain ⟨x2, hxe2⟩ : ∃ z, xx * d = z := ⟨_, rfl⟩
              rw [hxe2] at hxd hmq
              have v3 : IntKind.i64.wrap (xx * d) = x2 := wrap_as hxe2 (by omega)
              obtain ⟨x3, hxe3⟩ : ∃ z, (n : Int) + x2 = z := ⟨_, rfl⟩
              rw [hxe3] at hmq
              have v4 : IntKind.i64.wrap ((n : Int) + x2) = x3 := wrap_as hxe3 (by omega)
              have CM : Hid (∀ W, Calls Try.prog 86 #[.int .i64 P, .int .i64 x3] W fun e w' => e = .returned (.int .i64 (r : Int)) ∧ W = w') := fun W => (show x3 % (P : Int) = r by rw [hmq, hr]) ▸ iNum_c P x3 W (by omega) (by omega) (by omega) (by omega)
              have hpr := hpk.out n a r hltn (by omega)
              have hps := hpk.out n (a + 1) r hltn (by omega)
              have hCn := HB.out n hltn
              have hst := HB2.out r hrP
              have hnext : partK P d C n (a + 1) r = partK P d C n a r + C n := by rw [partK_next, if_pos hr]
              have HNX : Hid (∀ j, partK P d C n (a + 1) j = if j = r then partK P d C n a r + C n else partK P d C n a j) := fun j => by
                by_cases e : j = r
                · subst e; rw [if_pos rfl]; exact hnext
                · rw [if_neg e, partK_next, if_neg (by rw [hr]; omega)]; omega
              have hcc := hcell.out _ f3'
              have HCU := Lib.hid ((hO.kept hba).cell hltn)
              have HNX1 := Lib.hid (hOa.cell hrP)
              rw [hnext] at hps
              obtain ⟨q, hq⟩ : ∃ q, partK P d C n a r = q := ⟨_, rfl⟩
              obtain ⟨u, hu⟩ : ∃ u, C n = u := ⟨_, rfl⟩
              rw [hq, hu] at HNX hps
              rw [hq] at HNX1 hpr
              rw [hu] at HCU hCn
              have hwr : IntKind.i64.wrap (q + u) = q + u := wrap_in _ (by omega)
              have hwq : IntKind.i64.wrap (q + C n) = q + u := by rw [hu]; exact hwr
              have i0 : (0 : Int) ≤ (r : Int) := by omega
              have i1 : (r : Int) < (P : Int) := by omega
              have i2 : (0 : Int) ≤ (n : Int) := by omega
              have i3 : (n : Int) < (P : Int) := by omega
              have i4 : (0 : Int) ≤ (k : Int) := by omega
              have i5 : (k : Int) < (m : Int) := by omega
              have hP0 : (P : Int) ≠ 0 := by omega
              clear hmod hr hnext hq hu hst hpr hps hmq hxe hxe2 hxe3 hxx hxd
              go_wp2_with fail
              go_at_call 71
              refine Calls.makes' (iSField_c _ _ _) _ fun w5 hb5 => ?_
              have HBX5 := Lib.hid (boxKeep hb5 HBA.out)
              have HO5 := Lib.hid (hOa.kept hb5)
              have HB5 := Lib.hid (hba.trans (hb5.mono hba.size))
              have hnx1 := HO5.out.cell hrP
              have hfz := HO5.out.frozen r
              rw [show partK P d C n a r = q from by have := HNX1.out; have h2 := hOa.cell hrP; rw [h2] at this; injection this with this; injection this] at hnx1
              have hOk := (hO.kept hba).kept hb5
              clear HNX1 hOa hba hb5 f0 f1
              go_wp2_with fail
              go_at_call 86
              refine (CM.out _).mono ?_
              rintro e w' ⟨rfl, rfl⟩
              go_wp2
              go_roundg (P - (a + 1))
              case measure => omega
              case rel => exact ⟨a + 1, by omega, rfl, by go_num, boxSet HBX5.out hwo _, HB5.out.setCell (Nat.le_refl _) _, (HO5.out.set r _).congr fun j hj => by
                    rw [HNX.out j]
                    by_cases e : j = r <;> simp [e]⟩
            · obtain rfl : a = P := by omega
              go_wp2
              go_roundg (a - (n + 1))
              case measure => omega
              case rel => exact ⟨n + 1, by omega, rfl, by go_num, HBA.out, hba, hOa.congr fun j hj => by rw [partK_row]⟩
        · obtain rfl : n = P := by omega
          go_wp2
          go_roundg (m - (k + 1))
          case measure => omega
          case rel => exact ⟨k + 1, by omega, rfl, by go_num, HBQ.out, _, rfl, by have := f2; omega, hOq.congr fun j hj => by rw [partK_all, hnx.out]⟩
    · obtain rfl : k = m := by omega
      have hcK := hO.cell hK
      have i4 : (0 : Int) ≤ (K : Int) := by omega
      have i5 : (K : Int) < (P : Int) := by omega
      go_wp2
      go_ret2
      exact ⟨rfl, f3⟩


end Go.Proofs.Ytnkflgigbielgaa
