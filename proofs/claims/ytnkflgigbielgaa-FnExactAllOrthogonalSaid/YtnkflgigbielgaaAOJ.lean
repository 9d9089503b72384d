/-
  All orthogonal matrices: the list both programs make, and how long it is; the count's formula. No program is in sight. No condition.
-/
import Derived.Test.YtnkflgigbielgaaQNJ
import Derived.Test.YtnkflgigbielgaaQV
import Derived.Test.YtnkflgigbielgaaLIJ
import Derived.Test.YtnkflgigbielgaaSE1
import Derived.Test.YtnkflgigbielgaaDJB
import Derived.Test.YtnkflgigbielgaaDT
import Derived.Test.YtnkflgigbielgaaF11b
set_option linter.unusedVariables false
set_option linter.unusedSimpArgs false
namespace Go.Proofs.Ytnkflgigbielgaa

/-- does a vector fit behind m columns? -/
def fitO (p : Int) (s : Nat → Int) (n m : Nat) (C : Nat → Nat → Int) (v : Nat → Int) : Bool := decide (pairF p s n v v = s m) && decide (∀ k, k < m → pairF p s n v (C k) = 0)
/-- a column more -/
def colP (C : Nat → Nat → Int) (m : Nat) (v : Nat → Int) : Nat → Nat → Int := fun k => if k = m then v else C k
/-- the tables that begin with m columns, d columns still to come: of the first t vectors those that fit -/
def growT (p : Int) (s : Nat → Int) (n tT : Nat) : Nat → (Nat → Nat → Int) → List (Nat → Nat → Int)
  | 0, C => [fun i k => C k i]
  | d + 1, C => (List.range tT).flatMap fun t => if fitO p s n (n - (d + 1)) C (vecT p n t) then growT p s n tT d (colP C (n - (d + 1)) (vecT p n t)) else []
/-- .. up to the vector t -/
def growU (p : Int) (s : Nat → Int) (n tT d : Nat) (C : Nat → Nat → Int) (t : Nat) : List (Nat → Nat → Int) :=
  (List.range t).flatMap fun t => if fitO p s n (n - (d + 1)) C (vecT p n t) then growT p s n tT d (colP C (n - (d + 1)) (vecT p n t)) else []
theorem growU_succ (p : Int) (s : Nat → Int) (n tT d : Nat) (C : Nat → Nat → Int) (t : Nat) : growU p s n tT d C (t + 1) = growU p s n tT d C t ++ if fitO p s n (n - (d + 1)) C (vecT p n t) then growT p s n tT d (colP C (n - (d + 1)) (vecT p n t)) else [] := by
  unfold growU
  rw [List.range_succ, List.flatMap_append]
  simp
theorem growU_zero (p : Int) (s : Nat → Int) (n tT d : Nat) (C : Nat → Nat → Int) : growU p s n tT d C 0 = [] := rfl
theorem growU_all (p : Int) (s : Nat → Int) (n tT d : Nat) (C : Nat → Nat → Int) : growU p s n tT d C tT = growT p s n tT (d + 1) C := rfl
theorem growT_len (p : Int) (s : Nat → Int) (n tT : Nat) : ∀ (d : Nat) (C : Nat → Nat → Int), (growT p s n tT d C).length ≤ tT ^ d
  | 0, C => Nat.le_refl _
  | d + 1, C => by
    rw [← growU_all]
    have key : ∀ t, (growU p s n tT d C t).length ≤ t * tT ^ d := fun t => by
      induction t with
      | zero => simp [growU_zero]
      | succ t ih =>
        rw [growU_succ, List.length_append, Nat.succ_mul]
        have h2 : (if fitO p s n (n - (d + 1)) C (vecT p n t) then growT p s n tT d (colP C (n - (d + 1)) (vecT p n t)) else []).length ≤ tT ^ d := by
          split
          · exact growT_len p s n tT d _
          · exact Nat.zero_le _
        omega
    have := key tT
    rw [Nat.pow_succ, Nat.mul_comm]; exact this
theorem growU_len (p : Int) (s : Nat → Int) (n tT d : Nat) (C : Nat → Nat → Int) {t : Nat} (ht : t ≤ tT) : (growU p s n tT d C t).length ≤ tT ^ (d + 1) := by
  have key : (growU p s n tT d C t).length ≤ t * tT ^ d := by
    clear ht
    induction t with
    | zero => simp [growU_zero]
    | succ t ih =>
      rw [growU_succ, List.length_append, Nat.succ_mul]
      have h2 : (if fitO p s n (n - (d + 1)) C (vecT p n t) then growT p s n tT d (colP C (n - (d + 1)) (vecT p n t)) else []).length ≤ tT ^ d := by
        split
        · exact growT_len p s n tT d _
        · exact Nat.zero_le _
      omega
  have h3 : t * tT ^ d ≤ tT * tT ^ d := Nat.mul_le_mul_right _ ht
  rw [Nat.pow_succ, Nat.mul_comm]; omega

/-! ### the count -/
def prdO (p : Int) : Nat → Int
  | 0 => 1
  | i + 1 => prdO p i * (p ^ (2 * (i + 1)) - 1)
/-- how many orthogonal matrices there are; w tells the two kinds of spaces of even dimension -/
def cntO (p : Int) (n : Nat) (w : Int) : Int := if n % 2 = 1 then 2 * p ^ ((n / 2) * (n / 2)) * prdO p (n / 2) else 2 * (p ^ ((n / 2) * (n / 2 - 1)) * (p ^ (n / 2) - w)) * prdO p (n / 2 - 1)
theorem cntO_few {p : Int} {n : Nat} {w : Int} (hp : p = 3 ∨ p = 5 ∨ p = 7 ∨ p = 11 ∨ p = 13) (hn : 1 ≤ n ∧ n ≤ 6) (hw : w = 1 ∨ w = -1) (h : cntO p n w ≤ 500) : n ≤ 2 ∨ (n = 3 ∧ p ≤ 5) := by
  have h6 : n = 1 ∨ n = 2 ∨ n = 3 ∨ n = 4 ∨ n = 5 ∨ n = 6 := by omega
  rcases hp with rfl | rfl | rfl | rfl | rfl <;> rcases h6 with rfl | rfl | rfl | rfl | rfl | rfl <;> rcases hw with rfl | rfl <;> first | (left; omega) | (right; constructor <;> omega) | (exfalso; revert h; decide +kernel)
theorem cntO_bd {p : Int} {n : Nat} {w : Int} (hp : p = 3 ∨ p = 5 ∨ p = 7 ∨ p = 11 ∨ p = 13) (hn : 1 ≤ n ∧ n ≤ 6) (hw : w = 1 ∨ w = -1) : 0 ≤ cntO p n w ∧ cntO p n w ≤ 1000000000000000000 := by
  have h6 : n = 1 ∨ n = 2 ∨ n = 3 ∨ n = 4 ∨ n = 5 ∨ n = 6 := by omega
  rcases hp with rfl | rfl | rfl | rfl | rfl <;> rcases h6 with rfl | rfl | rfl | rfl | rfl | rfl <;> rcases hw with rfl | rfl <;> decide +kernel
/-- few matrices: a short list -/
theorem few_list {p : Int} {n tT : Nat} (hp : p ≤ 13) (h3 : 3 ≤ p) (hn : n ≤ 2 ∨ (n = 3 ∧ p ≤ 5)) (hT : p ^ n = (tT : Int)) : tT ^ n ≤ 2000000 ∧ tT ≤ 200 := by
  obtain ⟨q, rfl⟩ := Int.eq_ofNat_of_zero_le (show 0 ≤ p by omega)
  have hq : q ^ n = tT := by exact_mod_cast hT
  have hT2 : tT ≤ 200 ∧ (n = 3 → tT ≤ 125) := by
    have h : n = 0 ∨ n = 1 ∨ n = 2 ∨ n = 3 := by omega
    rcases h with rfl | rfl | rfl | rfl
    · rw [← hq]; exact ⟨by show 1 ≤ 200; omega, fun h => absurd h (by omega)⟩
    · rw [← hq, Nat.pow_one]; exact ⟨by omega, fun h => absurd h (by omega)⟩
    · have : q ^ 2 ≤ 13 ^ 2 := Nat.pow_le_pow_left (by omega) 2
      rw [← hq]; exact ⟨by omega, fun h => absurd h (by omega)⟩
    · have : q ^ 3 ≤ 5 ^ 3 := Nat.pow_le_pow_left (by omega) 3
      rw [← hq]; exact ⟨by omega, fun _ => by omega⟩
  refine ⟨?_, hT2.1⟩
  rcases hn with h | ⟨h, _⟩
  · have h1 : tT ^ n ≤ 200 ^ n := Nat.pow_le_pow_left hT2.1 n
    have h2 : 200 ^ n ≤ 200 ^ 2 := Nat.pow_le_pow_right (by decide) h
    omega
  · have h1 : tT ^ n ≤ 125 ^ n := Nat.pow_le_pow_left (hT2.2 h) n
    rw [h] at h1 ⊢
    have : 125 ^ 3 = 1953125 := by decide
    omega

end Go.Proofs.Ytnkflgigbielgaa

/-
  Powers, in both programs: what the count of orthogonal matrices calls. Conditions: sizes.
-/
set_option linter.unusedVariables false
set_option linter.unusedSimpArgs false
namespace Go.Proofs.Ytnkflgigbielgaa
open Go.RowKit

set_option maxRecDepth 100000 in
theorem sRaise_c (p : Int) (k : Nat) (w : World) (hp : 3 ≤ p ∧ p ≤ 13) (hk : k ≤ 6) :
    Calls Try.prog 150 #[.int .i64 p, .int .i64 k] w fun e w' => Makes w w' e (.int .i64 (p ^ k)) := by
  go_enter Try.func150, Try.ntmps150
  go_wp2
  go_loopg [1, 5] k (fun g kv u wr => wr = w ∧ ∃ j : Nat, j ≤ k ∧ g = k - j ∧ ∃ r : Nat, kv = .int .i64 r ∧ Hid (r = k - j) ∧ u = .int .i64 (p ^ j))
  case atStart => exact ⟨rfl, 0, Nat.zero_le _, rfl, k, rfl, rfl, by simp⟩
  case round =>
    obtain ⟨rfl, j, hj, rfl, r, rfl, hr, rfl⟩ := hrel
    by_cases hlt : j < k
    · have hb := pow_sm hp.1 hp.2 (k := j + 1) (by omega)
      have he : p ^ j * p = p ^ (j + 1) := (Int.pow_succ _ _).symm
      rw [← he] at hb
      have hw : IntKind.i64.wrap (p ^ j * p) = p ^ j * p := wrap_in _ (by omega)
      have HE := Lib.hid he
      have hr0 : (0 : Int) < (r : Int) := by have := hr.out; omega
      have hwr : IntKind.i64.wrap ((r : Int) - 1) = ((r - 1 : Nat) : Int) := by have := hr.out; rw [wrap_in _ (by omega)]; omega
      clear he
      go_wp2
      go_roundg (k - (j + 1))
      case measure => omega
      case rel => exact ⟨rfl, j + 1, by omega, rfl, r - 1, by go_num, by show r - 1 = k - (j + 1); have := hr.out; omega, by rw [HE.out]⟩
    · obtain rfl : j = k := by omega
      obtain rfl : r = 0 := by have := hr.out; omega
      go_wp2
      go_ret
      exact ⟨rfl, Below.refl _ _⟩

set_option maxRecDepth 100000 in
theorem iWholeQ_c (p : Int) (k : Nat) (w : World) (hp : 3 ≤ p ∧ p ≤ 13) (hk : k ≤ 6) :
    Calls Try.prog 162 #[.int .i64 p, .int .i64 k] w fun e w' => e = .returned (.int .i64 (p ^ k)) ∧ w = w' := by
  go_enter Try.func162, Try.ntmps162
  go_wp2
  go_loopg [5, 7] k (fun g u i wr => wr = w ∧ ∃ j : Nat, j ≤ k ∧ g = k - j ∧ i = .int .i64 j ∧ u = .int .i64 (p ^ j))
  case atStart => exact ⟨rfl, 0, Nat.zero_le _, rfl, rfl, by simp⟩
  case round =>
    obtain ⟨rfl, j, hj, rfl, rfl, rfl⟩ := hrel
    by_cases hlt : j < k
    · have hb := pow_sm hp.1 hp.2 (k := j + 1) (by omega)
      have he : p ^ j * p = p ^ (j + 1) := (Int.pow_succ _ _).symm
      rw [← he] at hb
      have hw : IntKind.i64.wrap (p ^ j * p) = p ^ j * p := wrap_in _ (by omega)
      have HE := Lib.hid he
      clear he
      go_wp2
      go_roundg (k - (j + 1))
      case measure => omega
      case rel => exact ⟨rfl, j + 1, by omega, rfl, by go_num, by rw [HE.out]⟩
    · obtain rfl : j = k := by omega
      go_wp2
      go_ret
      exact ⟨rfl, rfl⟩

theorem iWhole_c (p : Int) (k : Nat) (w : World) (hp : 3 ≤ p ∧ p ≤ 13) (hk : k ≤ 6) :
    Calls Try.prog 162 #[.int .i64 p, .int .i64 k] w fun e w' => Makes w w' e (.int .i64 (p ^ k)) :=
  (iWholeQ_c p k w hp hk).mono fun e w' ⟨h1, h2⟩ => ⟨h1, by rw [← h2]; exact Below.refl _ _⟩

end Go.Proofs.Ytnkflgigbielgaa

/-
  The count of orthogonal matrices, the reference's. No condition beside the space.
-/
set_option linter.unusedVariables false
set_option linter.unusedSimpArgs false
namespace Go.Proofs.Ytnkflgigbielgaa
open Go.RowKit

/-- the kind of an even space -/
def wO (p : Int) (n : Nat) (s : Nat → Int) : Int := if witV p n s = ((n / 2 : Nat) : Int) then 1 else -1
theorem wO_two (p : Int) (n : Nat) (s : Nat → Int) : wO p n s = 1 ∨ wO p n s = -1 := by unfold wO; split <;> simp
/-- the count up to the factor i -/
def cntI (p : Int) (c0 : Int) (i : Nat) : Int := c0 * prdO p i
theorem cntI_succ (p c0 : Int) (i : Nat) : cntI p c0 (i + 1) = cntI p c0 i * (p ^ (2 * (i + 1)) - 1) := by unfold cntI; rw [prdO, Int.mul_assoc]
theorem prdO_bd {p : Int} (hp : 3 ≤ p ∧ p ≤ 13) {i : Nat} (hi : i ≤ 2) : 1 ≤ prdO p i ∧ prdO p i ≤ 5000000 := by
  obtain ⟨q, rfl⟩ := Int.eq_ofNat_of_zero_le (show 0 ≤ p by omega)
  have h3 : q = 3 ∨ q = 4 ∨ q = 5 ∨ q = 6 ∨ q = 7 ∨ q = 8 ∨ q = 9 ∨ q = 10 ∨ q = 11 ∨ q = 12 ∨ q = 13 := by omega
  have h2 : i = 0 ∨ i = 1 ∨ i = 2 := by omega
  rcases h2 with rfl | rfl | rfl <;> rcases h3 with rfl | rfl | rfl | rfl | rfl | rfl | rfl | rfl | rfl | rfl | rfl <;> decide +kernel

set_option maxRecDepth 100000 in
set_option maxHeartbeats 4000000 in
theorem sCountOdd_c (p : Int) (sv : Value) (n : Nat) (s : Nat → Int) (w : World) (hd : SV w sv p n s) (hodd : n % 2 = 1) :
    Calls Try.prog 119 #[dbl p sv] w fun e w' => Makes w w' e (.int .i64 (cntO p n (wO p n s))) := by
  have hpb := hd.ok.bd
  have hn6 := hd.ok.n6
  obtain ⟨k, hk⟩ : ∃ k, n / 2 = k := ⟨_, rfl⟩
  obtain rfl : n = 2 * k + 1 := by omega
  have hk2 : k ≤ 2 := by omega
  obtain ⟨ao, c, b, o, rfl, p2, p3, p4, p5⟩ := hd.ints.out
  obtain rfl := p4 (by omega)
  clear p4 p5
  have hcnt : cntO p (2 * k + 1) (wO p (2 * k + 1) s) = cntI p (2 * p ^ (k * k)) k := by unfold cntO cntI; rw [if_pos hodd, hk]
  rw [hcnt]
  obtain ⟨e0, e1, e2, e3⟩ := box0 w p (some ⟨b, o, none⟩) (2 * k + 1) c 26
  have E3 := Lib.hid e3
  have hq : Int.tdiv ((2 * k + 1 : Nat) : Int) 2 = (k : Int) := by rw [Int.tdiv_eq_ediv_of_nonneg (by omega)]; omega
  have hr : Int.tmod ((2 * k + 1 : Nat) : Int) 2 = 1 := by rw [Int.tmod_eq_emod_of_nonneg (by omega)]; omega
  have hwk : IntKind.i64.wrap (k : Int) = (k : Int) := wrap_in _ (by omega)
  have hkk : IntKind.i64.wrap ((k : Int) * (k : Int)) = ((k * k : Nat) : Int) := by
    have h2 : k = 0 ∨ k = 1 ∨ k = 2 := by omega
    rcases h2 with rfl | rfl | rfl <;> rfl
  have hk4 : k * k ≤ 4 := by
    have h2 : k = 0 ∨ k = 1 ∨ k = 2 := by omega
    rcases h2 with rfl | rfl | rfl <;> decide
  have HR : Hid (∀ W (j : Nat), j ≤ 6 → Calls Try.prog 150 #[.int .i64 p, .int .i64 j] W fun e w' => Makes W w' e (.int .i64 (p ^ j))) := fun W j hj => sRaise_c p j W hpb hj
  obtain ⟨N, hN⟩ : ∃ N, 2 * k + 1 = N := ⟨_, rfl⟩
  rw [hN] at hq hr e0 e1 e2 e3 E3 ⊢
  obtain ⟨K, hK⟩ : ∃ K, k * k = K := ⟨_, rfl⟩
  rw [hK] at hkk hk4 ⊢
  have hpw := pow_sm hpb.1 hpb.2 (k := K) (by omega)
  obtain ⟨Q, hQ⟩ : ∃ Q, p ^ K = Q := ⟨_, rfl⟩
  have HR0 := Lib.hid (fun W => HR.out W K (by omega))
  rw [hQ] at hpw HR0 ⊢
  have hw2 : IntKind.i64.wrap (2 * Q) = 2 * Q := wrap_in _ (by omega)
  clear hcnt hd hN hK hQ hodd hk
  go_enter Try.func119, Try.ntmps119
  go_wp2
  go_quiet (fail)
  go_wp2_with (go_at_call 150; refine Calls.makes' (HR0.out _) _ fun w1 hb1 => ?_)
  have hbw : Below w.heap.size w w1 := by
    have h1 := E3.out
    have h2 := h1.trans ((below_drewN _ nq).mono h1.size)
    exact h2.trans (hb1.mono h2.size)
  have HB := Lib.hid hbw
  clear hbw hb1 e0 e1 e2 e3 E3 HR0 hq hr hkk hw2
  go_loopg [6, 9] k (fun g u i wr => ∃ j : Nat, j ≤ k ∧ g = k - j ∧ ∃ r : Nat, i = .int .i64 r ∧ Hid (r = j + 1) ∧ u = .int .i64 (cntI p (2 * Q) j) ∧ Hid (Below w.heap.size w wr))
  case atStart => exact ⟨0, Nat.zero_le _, rfl, 1, rfl, rfl, by unfold cntI prdO; rw [Int.mul_one], HB.out⟩
  case round =>
    obtain ⟨j, hj, rfl, r, rfl, hr, rfl, hb⟩ := hrel
    by_cases hlt : j < k
    · have h1 := prdO_bd hpb (i := j) (by omega)
      have h2 := prdO_bd hpb (i := j + 1) (by omega)
      have h3 := pow_sm hpb.1 hpb.2 (k := 2 * (j + 1)) (by omega)
      have HS := Lib.hid (cntI_succ p (2 * Q) j)
      have hc1 : -100000000000000 ≤ cntI p (2 * Q) (j + 1) ∧ cntI p (2 * Q) (j + 1) ≤ 100000000000000 := by
        unfold cntI
        obtain ⟨D, hD⟩ : ∃ D, prdO p (j + 1) = D := ⟨_, rfl⟩
        rw [hD] at h2 ⊢
        obtain ⟨d, rfl⟩ := Int.eq_ofNat_of_zero_le (show 0 ≤ D by omega)
        obtain ⟨q, rfl⟩ := Int.eq_ofNat_of_zero_le (show 0 ≤ Q by omega)
        have h4 : 2 * q * d ≤ 2 * 4826809 * 5000000 := Nat.mul_le_mul (by omega) (by omega)
        have h5 : ((2 * (q : Int)) * (d : Int)) = ((2 * q * d : Nat) : Int) := by push_cast; rfl
        rw [h5]; omega
      rw [HS.out] at hc1
      obtain ⟨A, hA⟩ : ∃ A, cntI p (2 * Q) j = A := ⟨_, rfl⟩
      obtain ⟨E, hE⟩ : ∃ E, p ^ (2 * (j + 1)) = E := ⟨_, rfl⟩
      have HRj := Lib.hid (fun W => HR.out W (2 * r) (by have := hr.out; omega))
      have hre := hr.out
      have hE2 : p ^ (2 * r) = E := by rw [hre]; exact hE
      rw [hE2] at HRj
      rw [hA, hE] at HS hc1
      rw [hE] at h3
      rw [hA]
      have hw1 : IntKind.i64.wrap (2 * (r : Int)) = ((2 * r : Nat) : Int) := by rw [wrap_in _ (by omega)]; omega
      have hw2 : IntKind.i64.wrap (E - 1) = E - 1 := wrap_in _ (by omega)
      have hw3 : IntKind.i64.wrap (A * (E - 1)) = A * (E - 1) := wrap_in _ (by omega)
      have hrk : (r : Int) ≤ (k : Int) := by omega
      have HJ := Lib.hid hre
      clear h1 h2 h3 hc1 hA hE hE2 hre hr
      go_wp2_with (go_at_call 150; refine Calls.makes' (HRj.out _) _ fun w2 hb2 => ?_)
      have hbn := Lib.hid (hb.out.trans (hb2.mono hb.out.size))
      go_roundg (k - (j + 1))
      case measure => omega
      case rel => exact ⟨j + 1, by omega, rfl, r + 1, by go_num, by show r + 1 = j + 1 + 1; rw [HJ.out], by rw [HS.out], hbn.out⟩
    · obtain rfl : j = k := by omega
      have hrk : ¬ (r : Int) ≤ (j : Int) := by have := hr.out; omega
      go_wp2
      go_ret
      exact ⟨rfl, hb.out⟩

set_option maxRecDepth 100000 in
set_option maxHeartbeats 4000000 in
theorem sCountEven_c (p : Int) (sv : Value) (n : Nat) (s : Nat → Int) (w : World) (hd : SV w sv p n s) (hev : ¬ n % 2 = 1) :
    Calls Try.prog 119 #[dbl p sv] w fun e w' => Makes w w' e (.int .i64 (cntO p n (wO p n s))) := by
  have hpb := hd.ok.bd
  have hn6 := hd.ok.n6
  have hn1 := hd.ok.n1
  obtain ⟨k2, hk⟩ : ∃ k2, n / 2 = k2 + 1 := ⟨n / 2 - 1, by omega⟩
  obtain rfl : n = 2 * (k2 + 1) := by omega
  have hk2 : k2 ≤ 2 := by omega
  have HW : Hid (∀ W, Below w.heap.size w W → Calls Try.prog 96 #[dbl p sv] W fun e w' => Makes W w' e (.int .i64 (witV p (2 * (k2 + 1)) s))) := fun W hb => sWittV_c p sv _ s W (hd.below hb)
  obtain ⟨ao, c, b, o, rfl, p2, p3, p4, p5⟩ := hd.ints.out
  obtain rfl := p4 (by omega)
  clear p4 p5
  have hww := wO_two p (2 * (k2 + 1)) s
  have hcnt : cntO p (2 * (k2 + 1)) (wO p (2 * (k2 + 1)) s) = cntI p (2 * p ^ ((k2 + 1) * k2) * (p ^ (k2 + 1) - wO p (2 * (k2 + 1)) s)) k2 := by unfold cntO cntI; rw [if_neg hev, hk, Nat.add_sub_cancel, ← Int.mul_assoc]
  rw [hcnt]
  obtain ⟨e0, e1, e2, e3⟩ := box0 w p (some ⟨b, o, none⟩) (2 * (k2 + 1)) c 26
  have E3 := Lib.hid e3
  have hp3 : p ^ (k2 + 1) ≤ 2197 := by
    obtain ⟨q, rfl⟩ := Int.eq_ofNat_of_zero_le (show 0 ≤ p by omega)
    have h1 : q ^ (k2 + 1) ≤ 13 ^ (k2 + 1) := Nat.pow_le_pow_left (by omega) _
    have h2 : 13 ^ (k2 + 1) ≤ 13 ^ 3 := Nat.pow_le_pow_right (by decide) (by omega)
    have h3 : ((q ^ (k2 + 1) : Nat) : Int) = (q : Int) ^ (k2 + 1) := by simp
    have h4 : 13 ^ 3 = 2197 := by decide
    rw [← h3]; omega
  have hm6 : (k2 + 1) * k2 ≤ 6 := by
    have h2 : k2 = 0 ∨ k2 = 1 ∨ k2 = 2 := by omega
    rcases h2 with rfl | rfl | rfl <;> decide
  have hmk : IntKind.i64.wrap (((k2 + 1 : Nat) : Int) * (k2 : Int)) = (((k2 + 1) * k2 : Nat) : Int) := by
    have h2 : k2 = 0 ∨ k2 = 1 ∨ k2 = 2 := by omega
    rcases h2 with rfl | rfl | rfl <;> rfl
  have hpw1 := pow_sm hpb.1 hpb.2 (k := (k2 + 1) * k2) (by omega)
  have hpw2 := pow_sm hpb.1 hpb.2 (k := k2 + 1) (by omega)
  have HR : Hid (∀ W (j : Nat), j ≤ 6 → Calls Try.prog 150 #[.int .i64 p, .int .i64 j] W fun e w' => Makes W w' e (.int .i64 (p ^ j))) := fun W j hj => sRaise_c p j W hpb hj
  have hX : wO p (2 * (k2 + 1)) s = if witV p (2 * (k2 + 1)) s = ((k2 + 1 : Nat) : Int) then 1 else -1 := by unfold wO; rw [hk]
  obtain ⟨wv, hwv⟩ : ∃ wv, witV p (2 * (k2 + 1)) s = wv := ⟨_, rfl⟩
  rw [hwv] at HW hX
  obtain ⟨X, hXe⟩ : ∃ X, wO p (2 * (k2 + 1)) s = X := ⟨_, rfl⟩
  rw [hXe] at hX hww ⊢
  obtain ⟨N, hN⟩ : ∃ N, 2 * (k2 + 1) = N := ⟨_, rfl⟩
  obtain ⟨K, hK⟩ : ∃ K, k2 + 1 = K := ⟨_, rfl⟩
  have hq : Int.tdiv (N : Int) 2 = (K : Int) := by rw [Int.tdiv_eq_ediv_of_nonneg (by omega)]; omega
  have hr : Int.tmod (N : Int) 2 = 0 := by rw [Int.tmod_eq_emod_of_nonneg (by omega)]; omega
  have hwk : IntKind.i64.wrap (K : Int) = (K : Int) := wrap_in _ (by omega)
  have hwk1 : IntKind.i64.wrap ((K : Int) - 1) = (k2 : Int) := by rw [wrap_in _ (by omega)]; omega
  obtain ⟨M, hM⟩ : ∃ M, (k2 + 1) * k2 = M := ⟨_, rfl⟩
  rw [hM] at hmk hm6 hpw1 ⊢
  rw [hN] at e0 e1 e2 e3 E3 HW ⊢
  rw [hK] at hmk hp3 hpw2 hX ⊢
  obtain ⟨Q1, hQ1⟩ : ∃ Q1, p ^ M = Q1 := ⟨_, rfl⟩
  obtain ⟨Q2, hQ2⟩ : ∃ Q2, p ^ K = Q2 := ⟨_, rfl⟩
  have HR1 := Lib.hid (fun W => HR.out W M (by omega))
  have HR2 := Lib.hid (fun W => HR.out W K (by omega))
  rw [hQ1] at HR1 hpw1 ⊢
  rw [hQ2] at HR2 hp3 hpw2 ⊢
  have hw2 : IntKind.i64.wrap (2 * Q1) = 2 * Q1 := wrap_in _ (by omega)
  have hw4 : IntKind.i64.wrap (Q2 - X) = Q2 - X := wrap_in _ (by omega)
  have hc0 : 0 ≤ 2 * Q1 * (Q2 - X) ∧ 2 * Q1 * (Q2 - X) ≤ 50000000000 := by
    obtain ⟨u, hu⟩ := Int.eq_ofNat_of_zero_le (show 0 ≤ Q2 - X by omega)
    obtain ⟨q, rfl⟩ := Int.eq_ofNat_of_zero_le (show 0 ≤ Q1 by omega)
    have h4 : 2 * q * u ≤ 2 * 4826809 * 2198 := Nat.mul_le_mul (by omega) (by omega)
    have h5 : (2 * (q : Int)) * (u : Int) = ((2 * q * u : Nat) : Int) := by push_cast; rfl
    rw [hu, h5]; omega
  have hw5 : IntKind.i64.wrap (2 * Q1 * (Q2 - X)) = 2 * Q1 * (Q2 - X) := wrap_in _ (by omega)
  obtain ⟨c0, hc0e⟩ : ∃ c0, 2 * Q1 * (Q2 - X) = c0 := ⟨_, rfl⟩
  rw [hc0e] at hc0 hw5 ⊢
  have HX := Lib.hid hX
  clear hcnt hd hN hK hQ1 hQ2 hev hk hM hwv hXe hX
  have HBn : Hid (∀ q, Below w.heap.size w ((w.alloc (.cells #[.int .i64 p, .slice (some ⟨b, o, none⟩) N c] 26)).drewN q)) := fun q => E3.out.trans ((below_drewN _ q).mono E3.out.size)
  by_cases hv : wv = (K : Int)
  · obtain rfl : X = 1 := by rw [HX.out, if_pos hv]
    have hvb : (wv == (K : Int)) = true := beq_iff_eq.2 hv
    clear hv HX
    go_enter Try.func119, Try.ntmps119
    go_wp2
    go_quiet (fail)
    go_wp2_with fail
    refine Calls.makes' (HW.out _ (HBn.out _)) _ fun w1 hb1 => ?_
    have b1 := (HBn.out nq).trans (hb1.mono (HBn.out nq).size)
    clear hb1 e0 e1 e2 e3 HBn E3 HW
    go_wp2_with fail
    refine Calls.makes' (HR1.out _) _ fun w2 hb2 => ?_
    have b2 := b1.trans (hb2.mono b1.size)
    clear hb2 b1
    go_wp2_with fail
    refine Calls.makes' (HR2.out _) _ fun w3 hb3 => ?_
    have HB := Lib.hid (b2.trans (hb3.mono b2.size))
    clear hb3 b2
    go_wp2
    go_loopg [6, 9] k2 (fun g u i wr => ∃ j : Nat, j ≤ k2 ∧ g = k2 - j ∧ ∃ r : Nat, i = .int .i64 r ∧ Hid (r = j + 1) ∧ u = .int .i64 (cntI p c0 j) ∧ Hid (Below w.heap.size w wr))
    case atStart => exact ⟨0, Nat.zero_le _, rfl, 1, rfl, rfl, by unfold cntI prdO; rw [Int.mul_one], HB.out⟩
    case round =>
      obtain ⟨j, hj, rfl, r, rfl, hr, rfl, hb⟩ := hrel
      by_cases hlt : j < k2
      · have h1 := prdO_bd hpb (i := j) (by omega)
        have h2 := prdO_bd hpb (i := j + 1) (by omega)
        have h3 := pow_sm hpb.1 hpb.2 (k := 2 * (j + 1)) (by omega)
        have HS := Lib.hid (cntI_succ p c0 j)
        have hc1 : -1000000000000000000 ≤ cntI p c0 (j + 1) ∧ cntI p c0 (j + 1) ≤ 1000000000000000000 := by
          unfold cntI
          obtain ⟨D, hD⟩ : ∃ D, prdO p (j + 1) = D := ⟨_, rfl⟩
          rw [hD] at h2 ⊢
          obtain ⟨d, rfl⟩ := Int.eq_ofNat_of_zero_le (show 0 ≤ D by omega)
          obtain ⟨q, rfl⟩ := Int.eq_ofNat_of_zero_le hc0.1
          have h4 : q * d ≤ 50000000000 * 5000000 := Nat.mul_le_mul (by omega) (by omega)
          have h5 : ((q : Int) * (d : Int)) = ((q * d : Nat) : Int) := by push_cast; rfl
          rw [h5]; omega
        rw [HS.out] at hc1
        obtain ⟨A, hA⟩ : ∃ A, cntI p c0 j = A := ⟨_, rfl⟩
        obtain ⟨E, hE⟩ : ∃ E, p ^ (2 * (j + 1)) = E := ⟨_, rfl⟩
        have HRj := Lib.hid (fun W => HR.out W (2 * r) (by have := hr.out; omega))
        have hre := hr.out
        have hE2 : p ^ (2 * r) = E := by rw [hre]; exact hE
        rw [hE2] at HRj
        rw [hA, hE] at HS hc1
        rw [hE] at h3
        rw [hA]
        have hw1 : IntKind.i64.wrap (2 * (r : Int)) = ((2 * r : Nat) : Int) := by rw [wrap_in _ (by omega)]; omega
        have hw2 : IntKind.i64.wrap (E - 1) = E - 1 := wrap_in _ (by omega)
        have hw3 : IntKind.i64.wrap (A * (E - 1)) = A * (E - 1) := wrap_in _ (by omega)
        have hrk : (r : Int) ≤ (k2 : Int) := by omega
        have HJ := Lib.hid hre
        clear h1 h2 h3 hc1 hA hE hE2 hre hr
        go_wp2_with (go_at_call 150; refine Calls.makes' (HRj.out _) _ fun w2 hb2 => ?_)
        have hbn := Lib.hid (hb.out.trans (hb2.mono hb.out.size))
        go_roundg (k2 - (j + 1))
        case measure => omega
        case rel => exact ⟨j + 1, by omega, rfl, r + 1, by go_num, by show r + 1 = j + 1 + 1; rw [HJ.out], by rw [HS.out], hbn.out⟩
      · obtain rfl : j = k2 := by omega
        have hrk : ¬ (r : Int) ≤ (j : Int) := by have := hr.out; omega
        go_wp2
        go_ret
        exact ⟨rfl, hb.out⟩
  · obtain rfl : X = -1 := by rw [HX.out, if_neg hv]
    rw [Int.sub_neg] at hw4 hc0e
    have hvb : (wv == (K : Int)) = false := beq_eq_false_iff_ne.2 hv
    clear hv HX
    go_enter Try.func119, Try.ntmps119
    go_wp2
    go_quiet (fail)
    go_wp2_with fail
    refine Calls.makes' (HW.out _ (HBn.out _)) _ fun w1 hb1 => ?_
    have b1 := (HBn.out nq).trans (hb1.mono (HBn.out nq).size)
    clear hb1 e0 e1 e2 e3 HBn E3 HW
    go_wp2_with fail
    refine Calls.makes' (HR1.out _) _ fun w2 hb2 => ?_
    have b2 := b1.trans (hb2.mono b1.size)
    clear hb2 b1
    go_wp2_with fail
    refine Calls.makes' (HR2.out _) _ fun w3 hb3 => ?_
    have HB := Lib.hid (b2.trans (hb3.mono b2.size))
    clear hb3 b2
    go_wp2
    go_loopg [6, 9] k2 (fun g u i wr => ∃ j : Nat, j ≤ k2 ∧ g = k2 - j ∧ ∃ r : Nat, i = .int .i64 r ∧ Hid (r = j + 1) ∧ u = .int .i64 (cntI p c0 j) ∧ Hid (Below w.heap.size w wr))
    case atStart => exact ⟨0, Nat.zero_le _, rfl, 1, rfl, rfl, by unfold cntI prdO; rw [Int.mul_one], HB.out⟩
    case round =>
      obtain ⟨j, hj, rfl, r, rfl, hr, rfl, hb⟩ := hrel
      by_cases hlt : j < k2
      · have h1 := prdO_bd hpb (i := j) (by omega)
        have h2 := prdO_bd hpb (i := j + 1) (by omega)
        have h3 := pow_sm hpb.1 hpb.2 (k := 2 * (j + 1)) (by omega)
        have HS := Lib.hid (cntI_succ p c0 j)
        have hc1 : -1000000000000000000 ≤ cntI p c0 (j + 1) ∧ cntI p c0 (j + 1) ≤ 1000000000000000000 := by
          unfold cntI
          obtain ⟨D, hD⟩ : ∃ D, prdO p (j + 1) = D := ⟨_, rfl⟩
          rw [hD] at h2 ⊢
          obtain ⟨d, rfl⟩ := Int.eq_ofNat_of_zero_le (show 0 ≤ D by omega)
          obtain ⟨q, rfl⟩ := Int.eq_ofNat_of_zero_le hc0.1
          have h4 : q * d ≤ 50000000000 * 5000000 := Nat.mul_le_mul (by omega) (by omega)
          have h5 : ((q : Int) * (d : Int)) = ((q * d : Nat) : Int) := by push_cast; rfl
          rw [h5]; omega
        rw [HS.out] at hc1
        obtain ⟨A, hA⟩ : ∃ A, cntI p c0 j = A := ⟨_, rfl⟩
        obtain ⟨E, hE⟩ : ∃ E, p ^ (2 * (j + 1)) = E := ⟨_, rfl⟩
        have HRj := Lib.hid (fun W => HR.out W (2 * r) (by have := hr.out; omega))
        have hre := hr.out
        have hE2 : p ^ (2 * r) = E := by rw [hre]; exact hE
        rw [hE2] at HRj
        rw [hA, hE] at HS hc1
        rw [hE] at h3
        rw [hA]
        have hw1 : IntKind.i64.wrap (2 * (r : Int)) = ((2 * r : Nat) : Int) := by rw [wrap_in _ (by omega)]; omega
        have hw2 : IntKind.i64.wrap (E - 1) = E - 1 := wrap_in _ (by omega)
        have hw3 : IntKind.i64.wrap (A * (E - 1)) = A * (E - 1) := wrap_in _ (by omega)
        have hrk : (r : Int) ≤ (k2 : Int) := by omega
        have HJ := Lib.hid hre
        clear h1 h2 h3 hc1 hA hE hE2 hre hr
        go_wp2_with (go_at_call 150; refine Calls.makes' (HRj.out _) _ fun w2 hb2 => ?_)
        have hbn := Lib.hid (hb.out.trans (hb2.mono hb.out.size))
        go_roundg (k2 - (j + 1))
        case measure => omega
        case rel => exact ⟨j + 1, by omega, rfl, r + 1, by go_num, by show r + 1 = j + 1 + 1; rw [HJ.out], by rw [HS.out], hbn.out⟩
      · obtain rfl : j = k2 := by omega
        have hrk : ¬ (r : Int) ≤ (j : Int) := by have := hr.out; omega
        go_wp2
        go_ret
        exact ⟨rfl, hb.out⟩

end Go.Proofs.Ytnkflgigbielgaa

/-
  Lists of tables: owned, or nil; an append to one; and tables that are read and lie in no block that is turned. What the walks of AllOrthogonal share. No condition beside sizes.
-/
set_option linter.unusedVariables false
set_option linter.unusedSimpArgs false
namespace Go.Proofs.Ytnkflgigbielgaa
open Go.RowKit

theorem Chg.trans2 {w w1 w2 : World} {S S2 : Nat → Prop} (h : Chg w w1 S) (k : Chg w1 w2 S2) (hs : ∀ x, S2 x → S x ∨ w.heap.size ≤ x) : Chg w w2 S :=
  ⟨k.os.trans h.os, k.tape.trans h.tape, k.output.trans h.output, Nat.le_trans h.size k.size, fun i hi hS => (k.block i (by have := h.size; omega) (fun e => by rcases hs i e with e | e; exact hS e; omega)).trans (h.block i hi hS)⟩

/-! ### a table that is read -/

/-- a table that is read, and lies in no block of S -/
structure TabA (w : World) (S : Nat → Prop) (v : Value) (G n : Nat) (T : Nat → Nat → Int) : Prop where
  out : ∃ (ao : Option Addr) (c b o : Nat) (A : Nat → Option Addr) (C RB RO : Nat → Nat), v = .slice ao G c ∧ (G ≤ c ∧ c ≤ 9223372036854775807) ∧ (0 < G → ao = some ⟨b, o, none⟩ ∧ ¬ S b) ∧
    (∀ i, i < G → w.cell? ⟨b, o + i, none⟩ = some (.slice (A i) n (C i))) ∧ (∀ i, i < G → n ≤ C i ∧ C i ≤ 9223372036854775807) ∧
    (∀ i, i < G → A i = some ⟨RB i, RO i, none⟩ ∧ ¬ S (RB i)) ∧ (∀ i j, i < G → j < n → w.cell? ⟨RB i, RO i + j, none⟩ = some (.int .i64 (T i j)))
theorem TabA.tab {w : World} {S : Nat → Prop} {v : Value} {G n : Nat} {T : Nat → Nat → Int} (h : TabA w S v G n T) : Tab w v G (fun _ => n) T := by
  obtain ⟨ao, c, b, o, A, C, RB, RO, h1, h2, h3, h4, h5, h6, h7⟩ := h.out
  exact ⟨ao, c, b, o, A, C, RB, RO, h1, h2.1, h2.2, fun h => (h3 h).1, h4, h5, fun i hi _ => (h6 i hi).1, h7⟩
theorem Chg.cellK {w w' : World} {S : Nat → Prop} (hc : Chg w w' S) {b o : Nat} {v : Value} (hb : ¬ S b) (h : w.cell? ⟨b, o, none⟩ = some v) : w'.cell? ⟨b, o, none⟩ = some v := by
  rw [World.cell?_of_block (w := w) (hc.block b (lt_of_cell h) hb)]; exact h
theorem TabA.chg {w w' : World} {S S' : Nat → Prop} {v : Value} {G n : Nat} {T : Nat → Nat → Int} (h : TabA w S v G n T) (hc : Chg w w' S') (hS : ∀ x, S' x → S x) : TabA w' S v G n T := by
  obtain ⟨ao, c, b, o, A, C, RB, RO, h1, h2, h3, h4, h5, h6, h7⟩ := h.out
  exact ⟨ao, c, b, o, A, C, RB, RO, h1, h2, h3, fun i hi => hc.cellK (fun e => (h3 (by omega)).2 (hS _ e)) (h4 i hi), h5, h6, fun i j hi hj => hc.cellK (fun e => (h6 i hi).2 (hS _ e)) (h7 i j hi hj)⟩
theorem TabA.to {w : World} {S S' : Nat → Prop} {v : Value} {G n : Nat} {T : Nat → Nat → Int} (h : TabA w S v G n T) (hn : 0 < n) (hS : ∀ x, S' x → S x ∨ w.heap.size ≤ x) : TabA w S' v G n T := by
  obtain ⟨ao, c, b, o, A, C, RB, RO, h1, h2, h3, h4, h5, h6, h7⟩ := h.out
  refine ⟨ao, c, b, o, A, C, RB, RO, h1, h2, fun hG => ⟨(h3 hG).1, fun e => ?_⟩, h4, h5, fun i hi => ⟨(h6 i hi).1, fun e => ?_⟩, h7⟩
  · have := lt_of_cell (h4 0 hG)
    rcases hS _ e with e | e
    · exact (h3 hG).2 e
    · omega
  · have := lt_of_cell (h7 i 0 hi hn)
    rcases hS _ e with e | e
    · exact (h6 i hi).2 e
    · omega
theorem OTab.tabA {w : World} {B g cap G n : Nat} {T : Nat → Nat → Int} (h : OTab w B g cap G (fun _ => n) T) {S : Nat → Prop} (hS : ∀ x, S x → x < B) : TabA w S (.slice (some ⟨g, 0, none⟩) G cap) G n T := by
  obtain ⟨R, C, h1, h2, h3, h4⟩ := h.out
  refine ⟨_, cap, g, 0, fun i => some ⟨R i, 0, none⟩, C, R, fun _ => 0, rfl, ⟨h1.le, h1.max⟩, fun _ => ⟨rfl, fun e => by have := hS _ e; omega⟩, fun i hi => by rw [Nat.zero_add]; exact h1.cell hi, fun i hi => ⟨(h3 i hi).1.le, (h3 i hi).1.max⟩, fun i hi => ⟨rfl, fun e => by have := hS _ e; have := (h3 i hi).2.1; omega⟩, fun i j hi hj => by rw [Nat.zero_add]; exact (h3 i hi).1.cell hj⟩
theorem TabA.none (w : World) (S : Nat → Prop) (n c : Nat) (ao : Option Addr) (T : Nat → Nat → Int) (hc : c ≤ 9223372036854775807) : TabA w S (.slice ao 0 c) 0 n T :=
  ⟨ao, c, 0, 0, fun _ => Option.none, fun _ => 0, fun _ => 0, fun _ => 0, rfl, ⟨Nat.zero_le _, hc⟩, fun h => absurd h (Nat.lt_irrefl _), fun i hi => absurd hi (Nat.not_lt_zero _), fun i hi => absurd hi (Nat.not_lt_zero _), fun i hi => absurd hi (Nat.not_lt_zero _), fun i j hi => absurd hi (Nat.not_lt_zero _)⟩
theorem TabA.congr {w : World} {S : Nat → Prop} {v : Value} {G n : Nat} {T T' : Nat → Nat → Int} (h : TabA w S v G n T) (he : ∀ i j, i < G → j < n → T i j = T' i j) : TabA w S v G n T' := by
  obtain ⟨ao, c, b, o, A, C, RB, RO, h1, h2, h3, h4, h5, h6, h7⟩ := h.out
  exact ⟨ao, c, b, o, A, C, RB, RO, h1, h2, h3, h4, h5, h6, fun i j hi hj => by rw [h7 i j hi hj, he i j hi hj]⟩

/-! ### an owned list of tables -/

theorem elT : Elem Try.prog 70 39 (.slice none 0 0) 24 := ⟨Try.underlying70, by kernel_rfl, rfl⟩

theorem OTabM.chgS {w w' : World} {lo hi g cap G : Nat} {L : Nat → Nat} {T : Nat → Nat → Int} (h : OTabM w lo hi g cap G L T) {S : Nat → Prop} (hc : Chg w w' S) (hS : ∀ x, S x → x < lo ∨ hi ≤ x) : OTabM w' lo hi g cap G L T := by
  obtain ⟨R, C, h1, h2, h3, h4⟩ := h.out
  exact ⟨R, C, hc.own h1 (fun e => by have := hS _ e; omega), h2, fun i hi => ⟨hc.own (h3 i hi).1 (fun e => by have := hS _ e; have := (h3 i hi).2.1; omega), (h3 i hi).2⟩, h4⟩

/-- An owned list of n x n tables: each lies in an interval of blocks of its own, and the list in none of them; S are blocks of others. -/
structure O3 (w : World) (S : Nat → Prop) (g c n : Nat) (Xs : List (Nat → Nat → Int)) : Prop where
  out : ∃ lo hi H C : Nat → Nat, Own w 39 g c Xs.length (fun i => .slice (some ⟨H i, 0, none⟩) n (C i)) ∧ ¬ S g ∧
    (∀ i T, Xs[i]? = some T → OTabM w (lo i) (hi i) (H i) (C i) n (fun _ => n) T ∧ hi i ≤ w.heap.size ∧ (g < lo i ∨ hi i ≤ g) ∧ ∀ x, S x → x < lo i ∨ hi i ≤ x) ∧
    ∀ i j, i < Xs.length → j < i → hi j ≤ lo i
theorem O3.own {w : World} {S : Nat → Prop} {g c n : Nat} {Xs : List (Nat → Nat → Int)} (h : O3 w S g c n Xs) : ∃ V, Own w 39 g c Xs.length V := by
  obtain ⟨lo, hi, H, C, h1, _⟩ := h.out
  exact ⟨_, h1⟩
theorem O3.kept {w w' : World} {S : Nat → Prop} {g c n : Nat} {Xs : List (Nat → Nat → Int)} (h : O3 w S g c n Xs) (hb : Below w.heap.size w w') : O3 w' S g c n Xs := by
  obtain ⟨lo, hi, H, C, h1, h2, h3, h4⟩ := h.out
  have hs := hb.size
  exact ⟨lo, hi, H, C, h1.kept hb, h2, fun i T e => by obtain ⟨q1, q2, q3, q4⟩ := h3 i T e; exact ⟨q1.kept hb, by omega, q3, q4⟩, h4⟩
theorem O3.chg {w w' : World} {S S' : Nat → Prop} {g c n : Nat} {Xs : List (Nat → Nat → Int)} (h : O3 w S g c n Xs) (hc : Chg w w' S') (hS : ∀ x, S' x → S x ∨ w.heap.size ≤ x) : O3 w' S g c n Xs := by
  obtain ⟨lo, hi, H, C, h1, h2, h3, h4⟩ := h.out
  have hs := hc.size
  have hl := h1.lt
  refine ⟨lo, hi, H, C, hc.own h1 (fun e => ?_), h2, fun i T e => ?_, h4⟩
  · rcases hS _ e with e | e
    · exact h2 e
    · omega
  · obtain ⟨q1, q2, q3, q4⟩ := h3 i T e
    exact ⟨q1.chgS hc (fun x hx => by rcases hS x hx with e | e; exact q4 x e; omega), by omega, q3, q4⟩
theorem O3.to {w : World} {S S' : Nat → Prop} {g c n : Nat} {Xs : List (Nat → Nat → Int)} (h : O3 w S g c n Xs) (hS : ∀ x, S' x → S x ∨ w.heap.size ≤ x) : O3 w S' g c n Xs := by
  obtain ⟨lo, hi, H, C, h1, h2, h3, h4⟩ := h.out
  have hl := h1.lt
  refine ⟨lo, hi, H, C, h1, fun e => ?_, fun i T e => ?_, h4⟩
  · rcases hS _ e with e | e
    · exact h2 e
    · omega
  · obtain ⟨q1, q2, q3, q4⟩ := h3 i T e
    exact ⟨q1, q2, q3, fun x hx => by rcases hS x hx with e | e; exact q4 x e; omega⟩
theorem O3.pushAt {w : World} {S : Nat → Prop} {g c n : Nat} {Xs : List (Nat → Nat → Int)} (h : O3 w S g c n Xs) (hS : ∀ x, S x → x < w.heap.size) : ∃ V, Own w 39 g c Xs.length V ∧
    ∀ (wr w' : World) (g' c' lo' hi' h' ch : Nat) (T : Nat → Nat → Int), Below w.heap.size w wr → OTabM wr lo' hi' h' ch n (fun _ => n) T → w.heap.size ≤ lo' → hi' ≤ wr.heap.size →
      Own w' 39 g' c' (Xs.length + 1) (fun j => if j = Xs.length then .slice (some ⟨h', 0, none⟩) n ch else V j) → (g' = g ∨ wr.heap.size ≤ g') → wr.grownBy w' (some g) → O3 w' S g' c' n (Xs ++ [T]) := by
  obtain ⟨lo, hi, H, C, h1, h2, h3, h4⟩ := h.out
  refine ⟨_, h1, fun wr w' g' c' lo' hi' h' ch T hb hO hlo hhi hO' hg hgr => ?_⟩
  have hs := hb.size
  have hgl := h1.lt
  have hgs := hgr.size
  have hc : Chg wr w' (· = g) := ⟨hgr.os, hgr.tape, hgr.output, hgr.size, fun k hk hne => hgr.block k hk (fun e => by injection e with e; exact hne e)⟩
  refine ⟨fun i => if i = Xs.length then lo' else lo i, fun i => if i = Xs.length then hi' else hi i, fun i => if i = Xs.length then h' else H i, fun i => if i = Xs.length then ch else C i, ?_, ?_, fun i U e => ?_, fun i j hi hj => ?_⟩
  · rw [List.length_append]
    exact hO'.congr fun i hi => by
      by_cases e : i = Xs.length
      · subst e; simp
      · simp [e]
  · intro e
    rcases hg with rfl | hg
    · exact h2 e
    · have := hS _ e; omega
  · rcases Nat.lt_or_ge i Xs.length with hlt | hge
    · rw [List.getElem?_append_left hlt] at e
      have hne : i ≠ Xs.length := by omega
      simp only [if_neg hne]
      obtain ⟨q1, q2, q3, q4⟩ := h3 i U e
      exact ⟨(q1.kept hb).chgS hc (fun x hx => by have hx : x = g := hx; omega), by omega, by omega, q4⟩
    · rw [List.getElem?_append_right hge] at e
      have hz : i - Xs.length = 0 := by
        have := (List.getElem?_eq_some_iff.1 e).1
        simp at this; omega
      rw [hz] at e
      have hi' : i = Xs.length := by omega
      have hU : T = U := by simpa using e
      subst hU
      simp only [if_pos hi']
      exact ⟨hO.chgS hc (fun x hx => by have hx : x = g := hx; omega), by omega, by omega, fun x hx => by have := hS _ hx; omega⟩
  · rw [List.length_append] at hi
    have h1' : ([T] : List (Nat → Nat → Int)).length = 1 := rfl
    rw [h1'] at hi
    have hjl : j < Xs.length := by omega
    have hje : j ≠ Xs.length := by omega
    simp only [if_neg hje]
    by_cases e : i = Xs.length
    · simp only [if_pos e]
      obtain ⟨q1, q2, q3, q4⟩ := h3 j Xs[j] (List.getElem?_eq_getElem hjl)
      omega
    · simp only [if_neg e]
      exact h4 i j (by omega) hj

/-- the block of a list -/
def LB (lv : Value) (x : Nat) : Prop := ∃ N c, lv = .slice (some ⟨x, 0, none⟩) N c
theorem LB_none {c N : Nat} {x : Nat} : ¬ LB (.slice none N c) x := fun ⟨_, _, e⟩ => by injection e with e; exact absurd e (by simp)
theorem LB_some {g N c x : Nat} : LB (.slice (some ⟨g, 0, none⟩) N c) x ↔ x = g := by
  constructor
  · rintro ⟨N', c', e⟩
    injection e with e
    simp at e; exact e.symm
  · rintro rfl; exact ⟨N, c, rfl⟩
/-- an owned list of tables, or nil -/
structure OL (w : World) (S : Nat → Prop) (lv : Value) (n : Nat) (Xs : List (Nat → Nat → Int)) : Prop where
  out : (lv = .slice none 0 0 ∧ Xs = []) ∨ ∃ g c, lv = .slice (some ⟨g, 0, none⟩) Xs.length c ∧ O3 w S g c n Xs
theorem OL.kept {w w' : World} {S : Nat → Prop} {lv : Value} {n : Nat} {Xs : List (Nat → Nat → Int)} (h : OL w S lv n Xs) (hb : Below w.heap.size w w') : OL w' S lv n Xs := by
  rcases h.out with h | ⟨g, c, h1, h2⟩
  · exact ⟨Or.inl h⟩
  · exact ⟨Or.inr ⟨g, c, h1, h2.kept hb⟩⟩
theorem OL.chg {w w' : World} {S S' : Nat → Prop} {lv : Value} {n : Nat} {Xs : List (Nat → Nat → Int)} (h : OL w S lv n Xs) (hc : Chg w w' S') (hS : ∀ x, S' x → S x ∨ w.heap.size ≤ x) : OL w' S lv n Xs := by
  rcases h.out with h | ⟨g, c, h1, h2⟩
  · exact ⟨Or.inl h⟩
  · exact ⟨Or.inr ⟨g, c, h1, h2.chg hc hS⟩⟩
theorem OL.to {w : World} {S S' : Nat → Prop} {lv : Value} {n : Nat} {Xs : List (Nat → Nat → Int)} (h : OL w S lv n Xs) (hS : ∀ x, S' x → S x ∨ w.heap.size ≤ x) : OL w S' lv n Xs := by
  rcases h.out with h | ⟨g, c, h1, h2⟩
  · exact ⟨Or.inl h⟩
  · exact ⟨Or.inr ⟨g, c, h1, h2.to hS⟩⟩
theorem OL.lb {w : World} {S : Nat → Prop} {lv : Value} {n : Nat} {Xs : List (Nat → Nat → Int)} (h : OL w S lv n Xs) {x : Nat} (hx : LB lv x) : x < w.heap.size ∧ ¬ S x := by
  rcases h.out with ⟨rfl, _⟩ | ⟨g, c, rfl, h2⟩
  · exact absurd hx LB_none
  · obtain rfl := LB_some.1 hx
    obtain ⟨lo, hi, H, C, q1, q2, _⟩ := h2.out
    exact ⟨q1.lt, q2⟩
theorem OL.val {w : World} {S : Nat → Prop} {lv : Value} {n : Nat} {Xs : List (Nat → Nat → Int)} (h : OL w S lv n Xs) : ∃ ao c, lv = .slice ao Xs.length c := by
  rcases h.out with ⟨rfl, rfl⟩ | ⟨g, c, rfl, h2⟩
  · exact ⟨_, _, rfl⟩
  · exact ⟨_, _, rfl⟩
theorem OL.empty (w : World) {S : Nat → Prop} (hS : ∀ x, S x → x < w.heap.size) (n : Nat) : OL (w.alloc (.cells #[] 39)) S (.slice (some ⟨w.heap.size, 0, none⟩) 0 0) n [] :=
  ⟨Or.inr ⟨w.heap.size, 0, rfl, fun _ => 0, fun _ => 0, fun _ => 0, fun _ => 0, Own.empty _ _ _, fun e => by have := hS _ e; omega, fun i T e => by simp at e, fun i j hi => absurd hi (Nat.not_lt_zero _)⟩⟩

theorem run_push3 (w0 w : World) (S : Nat → Prop) (lv : Value) (n : Nat) (Xs : List (Nat → Nat → Int)) (lo hi h' ch : Nat) (T : Nat → Nat → Int) (ty : TypeId) (h : OL w0 S lv n Xs) (hS : ∀ x, S x → x < w0.heap.size) (hb : Below w0.heap.size w0 w)
    (hO : OTabM w lo hi h' ch n (fun _ => n) T) (hlo : w0.heap.size ≤ lo) (hhi : hi ≤ w.heap.size) (hN : Xs.length ≤ 1000000000) :
    ∃ lv' w', (Builtin.append_ #[70, 70] ty #[lv, .slice (some ⟨w.heap.size, 0, none⟩) 1 1]).run Try.prog (w.alloc (.cells #[.slice (some ⟨h', 0, none⟩) n ch] 39)) = .ok lv' w' ∧
      OL w' S lv' n (Xs ++ [T]) ∧ Chg w w' (LB lv) ∧ ∀ x, LB lv' x → LB lv x ∨ w.heap.size ≤ x := by
  have hcell : ∀ j, j < 1 → (w.alloc (.cells #[.slice (some ⟨h', 0, none⟩) n ch] 39)).cell? ⟨w.heap.size, 0 + j, none⟩ = some ((fun _ => Value.slice (some ⟨h', 0, none⟩) n ch) j) := fun j hj => by
    obtain rfl : j = 0 := by omega
    simp
  have hsz := hb.size
  have hba : Below w.heap.size w (w.alloc (.cells #[.slice (some ⟨h', 0, none⟩) n ch] 39)) := (Below.refl _ _).alloc (Nat.le_refl _) _
  rcases h.out with ⟨rfl, rfl⟩ | ⟨g, c, rfl, h3⟩
  · obtain ⟨i, hi', hz0, hz1, hz2⟩ := info_parts (elT).info
    have hr := run_append_nil (P := Try.prog) (w.alloc (.cells #[.slice (some ⟨h', 0, none⟩) n ch] 39)) 70 ty 39 i (.slice none 0 0) (elT).und hi' hz0 ⟨w.heap.size, 0, none⟩ 1 1 [.slice (some ⟨h', 0, none⟩) n ch] (by simp [hz1]) (fun j u hu => by
      obtain ⟨hlt, he⟩ := List.getElem?_eq_some_iff.1 hu
      have hj : j = 0 := by simpa using hlt
      subst hj
      rw [← he, Addr.add_lit]
      simp) (by omega) (by omega) (by rw [hz2]; omega)
    have hge := grownCap_ge (w.alloc (.cells #[.slice (some ⟨h', 0, none⟩) n ch] 39)) 1 0 39
    have hcm : grownCap (w.alloc (.cells #[.slice (some ⟨h', 0, none⟩) n ch] 39)) 1 0 39 ≤ maxLen := grownCap_le_maxLen _ 1 0 _ (by unfold maxLen; omega)
    unfold maxLen at hcm
    have hbel := ((hba.trans ((drewB (w.alloc (.cells #[.slice (some ⟨h', 0, none⟩) n ch] 39))).mono (by simp))))
    refine ⟨_, _, hr, ⟨Or.inr ⟨(w.alloc (.cells #[.slice (some ⟨h', 0, none⟩) n ch] 39)).heap.size, _, rfl, fun _ => lo, fun _ => hi, fun _ => h', fun _ => ch, ⟨⟨_, heap_alloc_new (w.alloc (.cells #[.slice (some ⟨h', 0, none⟩) n ch] 39)).drew _, ?_, ?_⟩, hge, by omega⟩, ?_, ?_, ?_⟩⟩, ?_, ?_⟩
    · have := size_zeroCells (Value.slice none 0 0).cells (grownCap (w.alloc (.cells #[.slice (some ⟨h', 0, none⟩) n ch] 39)) 1 0 39 - 1)
      rw [(elT).one] at this
      simp only [Array.size_append, List.size_toArray, this]
      simp; omega
    · intro j hj
      obtain rfl : j = 0 := by simp at hj; omega
      rw [Array.getElem?_append_left (by simp)]
      simp
    · intro e
      have := hS _ e
      simp at this; omega
    · intro j U e
      have hj : j = 0 := by
        have := (List.getElem?_eq_some_iff.1 e).1
        simp at this; omega
      subst hj
      have hU : T = U := by simpa using e
      subst hU
      have hb2 := hbel.alloc (show w.heap.size ≤ (w.alloc (.cells #[.slice (some ⟨h', 0, none⟩) n ch] 39)).drew.heap.size by simp)
      refine ⟨hO.kept (hb2 _), ?_, ?_, fun x hx => ?_⟩
      · simp; omega
      · right; simp; omega
      · show x < lo ∨ hi ≤ x
        have := hS _ hx; omega
    · intro j k hj hk
      simp at hj; omega
    · exact Chg.of_below (hbel.alloc (by simp) _) _
    · intro x hx
      have hx := LB_some.1 hx
      right; rw [hx]; simp
  · obtain ⟨V, hV, hp⟩ := h3.pushAt hS
    have hVb := (hV.kept hb).alloc (.cells #[.slice (some ⟨h', 0, none⟩) n ch] 39)
    obtain ⟨g', cap', w', hr, h2, h3', h4⟩ := run_app (P := Try.prog) (w.alloc (.cells #[.slice (some ⟨h', 0, none⟩) n ch] 39)) elT ty hVb w.heap.size 0 1 1 (fun _ => .slice (some ⟨h', 0, none⟩) n ch) hcell (fun _ _ => rfl) (by omega) (by omega)
    have hs4 := h4.size
    simp only [alloc_size] at hs4 h3'
    have hgr : w.grownBy w' (some g) := ⟨h4.os, h4.tape, h4.output, by omega, fun k hk hne => (h4.block k (by simp; omega) hne).trans (Below.heap_alloc _ _ _ hk)⟩
    have hg' : g' = g ∨ w.heap.size ≤ g' := by omega
    refine ⟨.slice (some ⟨g', 0, none⟩) (Xs.length + 1) cap', w', hr, ⟨Or.inr ⟨g', cap', by simp, hp w w' g' cap' lo hi h' ch T hb hO hlo hhi (h2.congr fun j hj => ?_) hg' hgr⟩⟩, ⟨h4.os, h4.tape, h4.output, by omega, fun k hk hne => hgr.block k hk (fun e => by injection e with e; exact hne (LB_some.2 e))⟩, fun x hx => ?_⟩
    · by_cases e : j = Xs.length
      · subst e; simp
      · rw [if_pos (by omega), if_neg e]
    · have hx := LB_some.1 hx
      rcases hg' with e | e
      · left; rw [hx, e]; exact LB_some.2 rfl
      · right; omega
theorem wpList_push3 (w0 w : World) {ops : Array Oper} {rest : List Oper} {o : Oper} {a : Act} {Q : Exit → Act → World → Prop} (hgd : o.guard = none) (s x : Operand)
    (ho : o.op = .call { callee := .builtin .append, args := #[s, x], argTypes := #[70, 70] })
    {S : Nat → Prop} {lv : Value} {n : Nat} {Xs : List (Nat → Nat → Int)} {lo hi h' ch : Nat} {T : Nat → Nat → Int} (h : OL w0 S lv n Xs) (hS : ∀ x, S x → x < w0.heap.size) (hb : Below w0.heap.size w0 w)
    (hO : OTabM w lo hi h' ch n (fun _ => n) T) (hlo : w0.heap.size ≤ lo) (hhi : hi ≤ w.heap.size) (hN : Xs.length ≤ 1000000000) (hs : a.eval s = lv) (hx : a.eval x = .slice (some ⟨w.heap.size, 0, none⟩) 1 1)
    (hq : ∀ lv' w', OL w' S lv' n (Xs ++ [T]) → Chg w w' (LB lv) → (∀ x, LB lv' x → LB lv x ∨ w.heap.size ≤ x) → wpList Try.prog ops Q rest (a.put o.dst lv') w') :
    wpList Try.prog ops Q (o :: rest) a (w.alloc (.cells #[.slice (some ⟨h', 0, none⟩) n ch] 39)) := by
  obtain ⟨lv', w', hr, h2, h3, h4⟩ := run_push3 w0 w S lv n Xs lo hi h' ch T o.type h hS hb hO hlo hhi hN
  refine wpList_plain hgd fun K hK => ?_
  unfold Oper.wp execOp
  simp only [ho, resolve, invoke, builtin, Sem.run_bind, Sem.run_pure, Result.andThen_ok, List.map_toArray, List.map_cons, List.map_nil, hs, hx, hr, Oper.upon_value]
  exact hK _ _ (hq lv' w' h2 h3 h4)
theorem step_push3 (w0 w : World) {ops : Array Oper} {o : Oper} {a : Act} {K : Act → World → Prop} {Q : Exit → Act → World → Prop} {E : Prop} (hgd : o.guard = none) (s x : Operand)
    (ho : o.op = .call { callee := .builtin .append, args := #[s, x], argTypes := #[70, 70] })
    {S : Nat → Prop} {lv : Value} {n : Nat} {Xs : List (Nat → Nat → Int)} {lo hi h' ch : Nat} {T : Nat → Nat → Int} (h : OL w0 S lv n Xs) (hS : ∀ x, S x → x < w0.heap.size) (hb : Below w0.heap.size w0 w)
    (hO : OTabM w lo hi h' ch n (fun _ => n) T) (hlo : w0.heap.size ≤ lo) (hhi : hi ≤ w.heap.size) (hN : Xs.length ≤ 1000000000) (hs : a.eval s = lv) (hx : a.eval x = .slice (some ⟨w.heap.size, 0, none⟩) 1 1)
    (hq : ∀ lv' w', OL w' S lv' n (Xs ++ [T]) → Chg w w' (LB lv) → (∀ x, LB lv' x → LB lv x ∨ w.heap.size ≤ x) → K (a.put o.dst lv') w') :
    if Region.wanted o (yielded ops a.tmps) = true then Oper.wp Try.prog o a (w.alloc (.cells #[.slice (some ⟨h', 0, none⟩) n ch] 39)) K Q else E := by
  have hw : Region.wanted o (yielded ops a.tmps) = true := by simp [Region.wanted, hgd]
  rw [if_pos hw]
  obtain ⟨lv', w', hr, h2, h3, h4⟩ := run_push3 w0 w S lv n Xs lo hi h' ch T o.type h hS hb hO hlo hhi hN
  unfold Oper.wp execOp
  simp only [ho, resolve, invoke, builtin, Sem.run_bind, Sem.run_pure, Result.andThen_ok, List.map_toArray, List.map_cons, List.map_nil, hs, hx, hr, Oper.upon_value]
  exact hq lv' w' h2 h3 h4

/-! ### plain -/

theorem growU_le {p : Int} {s : Nat → Int} {n tT d : Nat} {C : Nat → Nat → Int} (t : Nat) : ∀ k, (growU p s n tT d C t).length ≤ (growU p s n tT d C (t + k)).length
  | 0 => Nat.le_refl _
  | k + 1 => by
    have ih := growU_le (p := p) (s := s) (n := n) (tT := tT) (d := d) (C := C) t k
    rw [show t + (k + 1) = (t + k) + 1 by omega, growU_succ, List.length_append]
    omega
theorem growU_one {p : Int} {s : Nat → Int} {n tT d : Nat} {C : Nat → Nat → Int} (h : fitO p s n (n - (d + 1)) C (vecT p n 0) = false) : growU p s n tT d C 1 = [] := by
  rw [growU_succ, growU_zero, h]; simp
theorem fit_zero {p : Int} {s : Nat → Int} {n m : Nat} {C : Nat → Nat → Int} (hs : s m ≠ 0) : fitO p s n m C (vecT p n 0) = false := by
  unfold fitO
  have h0 : pairF p s n (vecT p n 0) (vecT p n 0) = 0 := by
    unfold pairF
    have : sumF (fun i => s i * vecT p n 0 i * vecT p n 0 i) n = 0 := by
      rw [sumF_congr (g := fun _ => 0) (fun i _ => by rw [vecT_zero]; simp)]
      exact sumF_zero _
    rw [this]; rfl
  rw [h0, decide_eq_false (fun e => hs e.symm)]; rfl

end Go.Proofs.Ytnkflgigbielgaa

/-
  The reference's l08Grow: the list of all orthogonal matrices that begin with some columns. No condition beside sizes.
-/
set_option linter.unusedVariables false
set_option linter.unusedSimpArgs false
namespace Go.Proofs.Ytnkflgigbielgaa
open Go.RowKit

set_option maxHeartbeats 1000000 in
theorem sTurn_c (v : Value) (G M : Nat) (L : Nat → Nat) (T : Nat → Nat → Int) (w : World) (h : Tab w v G L T) (hG : 1 ≤ G) (hG2 : G ≤ 1048576) (hM : M ≤ 1048576) (hL0 : L 0 = M) (hL : ∀ i, i < G → M ≤ L i) :
    Calls Try.prog 110 #[v] w fun e w' => CopyT w w' e M (fun _ => G) (fun k i => T i k) := by
  obtain ⟨ao, c, b, o, A, C, RB, RO, rfl, p2, p3, p4, p5, p6, p7, p8⟩ := h.out
  clear h
  obtain rfl := p4 (by omega)
  have e0 : w.cell? ⟨b, o, none⟩ = some (.slice (A 0) M (C 0)) := by rw [show o = o + 0 from rfl, p5 0 (by omega), hL0]
  have hG0 : 0 < G := hG
  have hG0i : (0 : Int) < (G : Int) := by omega
  have hbl : b < w.heap.size := lt_of_cell e0
  have E0 := Lib.hid e0
  have P5 := Lib.hid p5
  have P7 := Lib.hid p7
  have P8 := Lib.hid p8
  have HL := Lib.hid hL
  clear p4 p5 p6 p7 p8 hL hL0 e0
  go_enter Try.func110, Try.ntmps110
  go_wp2
  go_loopg [3, 4] M (fun g s i wr => ∃ k : Nat, k ≤ M ∧ g = M - k ∧ i = .int .i64 k ∧ ∃ g' c', s = .slice (some ⟨g', 0, none⟩) k c' ∧ Below w.heap.size w wr ∧ OTab wr w.heap.size g' c' k (fun _ => G) (fun k i => T i k))
  case atStart => exact ⟨0, Nat.zero_le _, rfl, rfl, _, _, rfl, (Below.refl _ _).alloc (Nat.le_refl _) _, ⟨fun _ => 0, fun _ => 0, Own.empty _ _ _, Nat.le_refl _, fun i hi => absurd hi (Nat.not_lt_zero _), fun i j hi => absurd hi (Nat.not_lt_zero _)⟩⟩
  case round =>
    obtain ⟨k, hk, rfl, rfl, g', c', rfl, hb, hT⟩ := hrel
    have e0 : wr.cell? ⟨b, o, none⟩ = some (.slice (A 0) M (C 0)) := by rw [hb.cell (p := ⟨b, o, none⟩) hbl]; exact E0.out
    by_cases hlt : k < M
    · go_wp2
      obtain ⟨wo, hwo⟩ : ∃ wo, wo = wr := ⟨_, rfl⟩
      rw [← hwo] at hb hT ⊢
      clear hwo e0
      have hbs := hb.size
      go_loopg [5, 6] G (fun g s i wr => ∃ j : Nat, j ≤ G ∧ g = G - j ∧ i = .int .i64 j ∧ ∃ g2 c2, s = .slice (some ⟨g2, 0, none⟩) j c2 ∧ wo.heap.size ≤ g2 ∧ Below wo.heap.size wo wr ∧ Own wr 2 g2 c2 j (fun i => .int .i64 (T i k)))
      case atStart => exact ⟨0, Nat.zero_le _, rfl, rfl, _, _, rfl, Nat.le_refl _, (Below.refl _ _).alloc (Nat.le_refl _) _, Own.empty _ _ _⟩
      case round =>
        obtain ⟨j, hj, rfl, rfl, g2, c2, rfl, hg2, hb2, hO⟩ := hrel
        by_cases hlt2 : j < G
        · have hkL : k < L j := by have := HL.out j hlt2; omega
          have hbb := hb.trans (hb2.mono hbs)
          have e1 : wr.cell? ⟨b, o + j, none⟩ = some (.slice (some ⟨RB j, RO j, none⟩) (L j) (C j)) := by
            rw [hbb.cell (p := ⟨b, o + j, none⟩) (lt_of_cell (P5.out j hlt2)), P5.out j hlt2, P7.out j hlt2 (by omega)]
          have e2 : wr.cell? ⟨RB j, RO j + k, none⟩ = some (.int .i64 (T j k)) := by
            rw [hbb.cell (p := ⟨RB j, RO j + k, none⟩) (lt_of_cell (P8.out j k hlt2 hkL)), P8.out j k hlt2 hkL]
          go_wp2_with (at_builtin; refine wpList_push _ rfl _ _ _ _ elI rfl hO (.int .i64 (T j k)) rfl rfl rfl (by omega) (by omega) ?_; rotate_right; intro g3 c3 w3 hO3 hg3 hgr3)
          go_roundg (G - (j + 1))
          case measure => omega
          case rel =>
            have hlt4 := hb2.size
            refine ⟨j + 1, by omega, rfl, by go_num, g3, c3, rfl, by omega, hb2.grown hgr3 hlt4 (fun k e => by injection e with e; omega), hO3.congr fun i hi => ?_⟩
            by_cases e2 : i = j
            · subst e2; simp
            · simp [e2]
        · obtain rfl : j = G := by omega
          obtain ⟨V, hV, hpush⟩ := hT.pushAt hbs
          have hV2 := hV.kept hb2
          have HP := Lib.hid hpush
          clear hpush
          go_wp2_with (at_builtin; refine wpList_push _ rfl _ _ _ _ elR rfl hV2 (.slice (some ⟨g2, 0, none⟩) j c2) rfl rfl rfl (by omega) (by omega) ?_; intro g3 c3 w3 hO3 hg3 hgr3)
          have hs2 := hb2.size
          have hgB := hT.base
          go_roundg (M - (k + 1))
          case measure => omega
          case rel => exact ⟨k + 1, by omega, rfl, by go_num, g3, c3, rfl, (hb.trans (hb2.mono hbs)).grown hgr3 (by omega) (fun k e => by injection e with e; omega), (HP.out _ _ _ _ _ _ _ _ hb2 hO hg2 hO3 hg3 hgr3).congr (fun i hi => by by_cases e : i = k <;> simp [e]) (fun i j hi hj => by by_cases e : i = k <;> simp [e])⟩
    · obtain rfl : k = M := by omega
      go_wp2
      go_ret
      exact ⟨g', c', rfl, hb, hT⟩

/-- what a call of l08Grow, of growOrthogonal, gives -/
structure GrowR (w w' : World) (e : Ending) (S : Nat → Prop) (lv : Value) (n : Nat) (Ys : List (Nat → Nat → Int)) : Prop where
  out : ∃ lv', e = .returned lv' ∧ OL w' S lv' n Ys ∧ Chg w w' (LB lv) ∧ ∀ x, LB lv' x → LB lv x ∨ w.heap.size ≤ x
def SGrow (p : Int) (s : Nat → Int) (n tT d : Nat) : Prop := ∀ (sv cv lv : Value) (C : Nat → Nat → Int) (Xs : List (Nat → Nat → Int)) (S : Nat → Prop) (w : World),
  (∀ W, Chg w W (LB lv) → SV W sv p n s) → TabA w (LB lv) cv (n - d) n C → (∀ i, i < n - d → InP p n (C i)) → OL w S lv n Xs → (∀ x, S x → x < w.heap.size) → Xs.length + (growT p s n tT d C).length ≤ 100000000 →
  Calls Try.prog 120 #[dbl p sv, cv, lv] w fun e w' => GrowR w w' e S lv n (Xs ++ growT p s n tT d C)

set_option maxRecDepth 100000 in
set_option maxHeartbeats 4000000 in
theorem sGrow0_c (p : Int) (s : Nat → Int) (n tT : Nat) : SGrow p s n tT 0 := by
  intro sv cv lv C Xs S w hs hc hC hl hS hN
  rw [Nat.sub_zero] at hc hC
  have hd := hs w (Chg.refl _ _)
  have hn6 := hd.ok.n6
  have hn1 := hd.ok.n1
  obtain ⟨ao, c, b, o, rfl, p2, p3, p4, p5⟩ := hd.ints.out
  have HT : Hid (∀ W, Below w.heap.size w W → Tab W cv n (fun _ => n) C) := fun W hb => hc.tab.below hb
  obtain ⟨cao, cc, cb, co, A, CC, RB, RO, rfl, q2, q3, q4, q5, q6, q7⟩ := hc.out
  obtain ⟨e0, e1, e2, e3⟩ := box0 w p ao n c 26
  have E3 := Lib.hid e3
  have HTU : Hid (∀ W, Below w.heap.size w W → Calls Try.prog 110 #[.slice cao n cc] W fun e w' => CopyT W w' e n (fun _ => n) (fun k i => C i k)) := fun W hb => sTurn_c _ n n (fun _ => n) C W (HT.out W hb) (by omega) (by omega) (by omega) rfl (fun i hi => Nat.le_refl _)
  have HL := Lib.hid hl
  have HS := Lib.hid hS
  have hlen : Xs.length ≤ 1000000000 := by omega
  have hg : growT p s n tT 0 C = [fun i k => C k i] := rfl
  rw [hg]
  clear hs hc hC hl hS hd p4 p5 q3 q4 q5 q6 q7 hN hg
  go_enter Try.func120, Try.ntmps120
  go_wp2_with (first
    | (go_at_call 110; refine (HTU.out _ E3.out).mono ?_; rintro e w4 ⟨g4, c4, rfl, hb4, hT4⟩; have hb5 := E3.out.trans (hb4.mono E3.out.size))
    | (at_builtin; refine wpList_push3 w _ rfl _ _ rfl HL.out HS.out hb5 hT4.bound E3.out.size (Nat.le_refl _) hlen rfl rfl ?_; intro lv' w6 hL6 hC6 hB6))
  go_ret
  have hs5 := hb5.size
  exact ⟨lv', rfl, hL6, (Chg.of_below hb5 _).trans2 hC6 (fun x e => Or.inl e), fun x hx => by rcases hB6 x hx with e | e; exact Or.inl e; exact Or.inr (by omega)⟩

/-- what is known in the walk of all vectors -/
structure GS (w : World) (p : Int) (s : Nat → Int) (n tT d : Nat) (C : Nat → Nat → Int) (Xs : List (Nat → Nat → Int)) (S : Nat → Prop) (ao : Option Addr) (c : Nat) (lv lvr : Value) (gv u t : Nat) (wr : World) : Prop where
  c0 : wr.cell? ⟨w.heap.size, 0, none⟩ = some (.int .i64 p)
  c1 : wr.cell? ⟨w.heap.size, 1, none⟩ = some (.slice ao n c)
  vec : Own wr 2 gv n n (fun i => .int .i64 (vecT p n u i))
  list : OL wr (fun x => S x ∨ (w.heap.size ≤ x ∧ x ≤ gv)) lvr n (Xs ++ growU p s n tT d C t)
  chg : Chg w wr (LB lv)
  lb : ∀ x, LB lvr x → LB lv x ∨ w.heap.size ≤ x
theorem GS.kept {w : World} {p : Int} {s : Nat → Int} {n tT d : Nat} {C : Nat → Nat → Int} {Xs : List (Nat → Nat → Int)} {S : Nat → Prop} {ao : Option Addr} {c : Nat} {lv lvr : Value} {gv u t : Nat} {wr w' : World} (h : GS w p s n tT d C Xs S ao c lv lvr gv u t wr) (hb : Below wr.heap.size wr w') : GS w p s n tT d C Xs S ao c lv lvr gv u t w' :=
  ⟨cellKp hb h.c0, cellKp hb h.c1, h.vec.kept hb, h.list.kept hb, h.chg.trans (Chg.of_below hb _), h.lb⟩
theorem GS.next {w : World} {p : Int} {s : Nat → Int} {n tT d : Nat} {C : Nat → Nat → Int} {Xs : List (Nat → Nat → Int)} {S : Nat → Prop} {ao : Option Addr} {c : Nat} {lv lvr : Value} {gv u u' t : Nat} {wr w' : World} (h : GS w p s n tT d C Xs S ao c lv lvr gv u t wr) (hg : w.heap.size < gv) (hc : Chg wr w' (· = gv)) (hO : Own w' 2 gv n n (fun i => .int .i64 (vecT p n u' i))) : GS w p s n tT d C Xs S ao c lv lvr gv u' t w' :=
  ⟨hc.cellN (by omega) h.c0, hc.cellN (by omega) h.c1, hO, h.list.chg hc (fun x e => Or.inl (Or.inr (by have e : x = gv := e; omega))), h.chg.trans2 hc (fun x e => Or.inr (by have e : x = gv := e; omega)), h.lb⟩
theorem sv_cell {w : World} {T : Nat → Prop} {b o n c : Nat} {p : Int} {s : Nat → Int} (hs : ∀ W, Chg w W T → SV W (.slice (some ⟨b, o, none⟩) n c) p n s) : ∀ W, Chg w W T → ∀ i, i < n → W.cell? ⟨b, o + i, none⟩ = some (.int .i64 (s i)) := fun W hW i hi => by
  obtain ⟨ao, c', b', o', e, _, _, h4, h5⟩ := (hs W hW).ints.out
  have h4 := h4 (by omega)
  subst h4
  injection e with e1 e2 e3
  injection e1 with e1
  injection e1 with e1 e2
  subst e1 e2
  exact h5 i hi
theorem k3Keep {w W W' : World} {a1 a2 a3 o1 o2 o3 : Nat} {v1 v2 v3 : Value} (hb : Below W.heap.size W W')
    (h : W.cell? ⟨a1, o1, none⟩ = some v1 ∧ W.cell? ⟨a2, o2, none⟩ = some v2 ∧ W.cell? ⟨a3, o3, none⟩ = some v3 ∧ Below w.heap.size w W) :
    W'.cell? ⟨a1, o1, none⟩ = some v1 ∧ W'.cell? ⟨a2, o2, none⟩ = some v2 ∧ W'.cell? ⟨a3, o3, none⟩ = some v3 ∧ Below w.heap.size w W' :=
  ⟨cellKp hb h.1, cellKp hb h.2.1, cellKp hb h.2.2.1, h.2.2.2.trans (hb.mono h.2.2.2.size)⟩
theorem k3Below {w W : World} {a1 a2 a3 o1 o2 o3 : Nat} {v1 v2 v3 : Value}
    (h : W.cell? ⟨a1, o1, none⟩ = some v1 ∧ W.cell? ⟨a2, o2, none⟩ = some v2 ∧ W.cell? ⟨a3, o3, none⟩ = some v3 ∧ Below w.heap.size w W) : Below w.heap.size w W := h.2.2.2
theorem k2Keep {W W' : World} {a1 a2 o1 o2 : Nat} {v1 v2 : Value} (hb : Below W.heap.size W W') (h : W.cell? ⟨a1, o1, none⟩ = some v1 ∧ W.cell? ⟨a2, o2, none⟩ = some v2) :
    W'.cell? ⟨a1, o1, none⟩ = some v1 ∧ W'.cell? ⟨a2, o2, none⟩ = some v2 := ⟨cellKp hb h.1, cellKp hb h.2⟩
theorem k2Chg {W W' : World} {T : Nat → Prop} {a o1 o2 : Nat} {v1 v2 : Value} (hc : Chg W W' T) (hn : ¬ T a) (h : W.cell? ⟨a, o1, none⟩ = some v1 ∧ W.cell? ⟨a, o2, none⟩ = some v2) :
    W'.cell? ⟨a, o1, none⟩ = some v1 ∧ W'.cell? ⟨a, o2, none⟩ = some v2 := ⟨hc.cellK hn h.1, hc.cellK hn h.2⟩
theorem grownChg {w w' : World} {g : Nat} (h : w.grownBy w' (some g)) : Chg w w' (· = g) := ⟨h.os, h.tape, h.output, h.size, fun k hk hne => h.block k hk (fun e => by injection e with e; exact hne e)⟩

set_option maxRecDepth 100000 in
set_option maxHeartbeats 8000000 in
theorem sGrowS_c (p : Int) (s : Nat → Int) (n tT d : Nat) (IH : SGrow p s n tT d) (hdn : d + 1 ≤ n) (hTT : p ^ n = (tT : Int)) (hreg : ∀ i, i < n → s i ≠ 0) : SGrow p s n tT (d + 1) := by
  intro sv cv lv C Xs S w hs hc hC hl hS hN
  have hd := hs w (Chg.refl _ _)
  have hpb := hd.ok.bd
  have hn6 := hd.ok.n6
  have hn1 := hd.ok.n1
  obtain ⟨m, hm⟩ : ∃ m, n - (d + 1) = m := ⟨_, rfl⟩
  have hmn : m < n := by omega
  have hm1 : n - d = m + 1 := by omega
  rw [hm] at hc hC
  have hT0 : 0 < tT := by
    have := pow_sm hpb.1 hpb.2 hn6
    omega
  have HG1 : Hid (growU p s n tT d C 1 = []) := growU_one (by rw [hm]; exact fit_zero (hreg m hmn))
  have HGS : Hid (∀ t, growU p s n tT d C (t + 1) = growU p s n tT d C t ++ if fitO p s n m C (vecT p n t) then growT p s n tT d (colP C m (vecT p n t)) else []) := fun t => by rw [growU_succ, hm]
  have HN : Hid (∀ t, t ≤ tT → Xs.length + (growU p s n tT d C t).length ≤ 100000000) := fun t ht => by
    have h1 := growU_le (p := p) (s := s) (n := n) (tT := tT) (d := d) (C := C) t (tT - t)
    rw [show t + (tT - t) = tT by omega, growU_all] at h1
    omega
  obtain ⟨ao, c, b, o, rfl, p2, p3, p4, p5⟩ := hd.ints.out
  obtain rfl := p4 (by omega)
  have HSV := Lib.hid hs
  have HSC := Lib.hid (sv_cell hs)
  have hcK := hc.to (S' := fun x => LB lv x ∨ w.heap.size ≤ x) (by omega) (fun x h => h)
  have HT : Hid (∀ W, Chg w W (LB lv) → Tab W cv m (fun _ => n) C) := fun W hW => (hcK.chg hW (fun x h => Or.inl h)).tab
  obtain ⟨cao, cc, cb, co, A, CC, RB, RO, rfl, q2, q3, q4, q5, q6, q7⟩ := hcK.out
  have HQ3 : Hid (0 < m → cao = some ⟨cb, co, none⟩) := fun h => (q3 h).1
  have HCC : Hid (∀ W, Chg w W (LB lv) → ∀ i, i < m → W.cell? ⟨cb, co + i, none⟩ = some (.slice (A i) n (CC i)) ∧ Ints W (.slice (A i) n (CC i)) n (C i)) := fun W hW i hi =>
    ⟨hW.cellK (fun e => (q3 (by omega)).2 (Or.inl e)) (q4 i hi), ⟨_, _, RB i, RO i, rfl, (q5 i hi).1, (q5 i hi).2, fun _ => (q6 i hi).1, fun j hj => hW.cellK (fun e => (q6 i hi).2 (Or.inl e)) (q7 i j hi hj)⟩⟩
  have HCI := Lib.hid hC
  have HS := Lib.hid hS
  have HTT := Lib.hid hTT
  have HIH := Lib.hid IH
  obtain ⟨e0, e1, e2, e3⟩ := box0 w p (some ⟨b, o, none⟩) n c 26
  have E3 := Lib.hid e3
  have hsz : (w.alloc (.cells #[.int .i64 p, .slice (some ⟨b, o, none⟩) n c] 26)).heap.size = w.heap.size + 1 := alloc_size _ _
  have HL := Lib.hid hl
  have HLB : Hid (∀ x, LB lv x → x < w.heap.size) := fun x hx => (hl.lb hx).1
  have hne : ((m : Int) == (n : Int)) = false := beq_eq_false_iff_ne.2 (by omega)
  clear hs hc hC hl hS hd p4 p5 hcK q3 q4 q5 q6 q7 hN IH hreg hTT
  go_enter Try.func120, Try.ntmps120
  go_wp2_with (at_make; refine wpList_mkA _ rfl _ _ _ _ elI rfl rfl .i64 .i64 n rfl rfl (by omega) (by omega) ?_; intro W3 hB3 hS3 hO3; have HS3 := Lib.hid hS3; clear hS3)
  obtain ⟨gv, hgv⟩ : ∃ gv, w.heap.size + 1 = gv := ⟨_, rfl⟩
  have hbw3 : Below w.heap.size w W3 := E3.out.trans (hB3.mono E3.out.size)
  rw [hsz, hgv] at hO3
  first | rw [hgv] | rw [hsz, hgv]
  have HG3 : Hid (GS w p s n tT d C Xs S (some ⟨b, o, none⟩) c lv lv gv 0 1 W3) :=
    ⟨cellKp hB3 e0, cellKp hB3 e1, hO3.congr fun i hi => by rw [vecT_zero], by rw [HG1.out, List.append_nil]; exact (HL.out.to (fun x hx => by rcases hx with h | h; exact Or.inl h; exact Or.inr h.1)).kept hbw3, Chg.of_below hbw3 _, fun x hx => Or.inl hx⟩
  have hgw : w.heap.size < gv := by omega
  clear hO3 hB3 HS3 hbw3 e0 e1 e2 e3 hsz hgv HL HG1 hne E3
  go_loopg [2, 8, 9] tT (fun g (sl : Value) (f : Value) (jj : Value) wr => ∃ (u : Nat) (lvr : Value), u < tT ∧ g = tT - u ∧ lvr = sl ∧ Hid (GS w p s n tT d C Xs S (some ⟨b, o, none⟩) c lv lvr gv u (u + 1) wr))
  case atStart => exact ⟨0, lv, hT0, rfl, rfl, HG3.out⟩
  case round =>
    obtain ⟨u, lvr, hu, rfl, rfl, hg⟩ := hrel
    obtain ⟨wo, rfl⟩ : ∃ wo, wo = wr := ⟨_, rfl⟩
    clear HG3
    have HNX := Lib.hid (sNextT_c p n tT u _ gv (by omega) (by omega) HTT.out hu hg.out.vec)
    have f0 := hg.out.c0
    go_wp2_with fail
    go_at_call 84
    refine HNX.out.mono ?_
    rintro e w8 ⟨bb, rfl, hc, hcase⟩
    clear f0 HNX
    rcases hcase with ⟨rfl, hn1', hO8⟩ | ⟨rfl, hn1'⟩
    · have hg8 := Lib.hid (hg.out.next hgw hc hO8)
      clear hc hO8 hg
      have hvi := vecT_in (p := p) (by omega) n (u + 1) n
      obtain ⟨sm, hsm⟩ : ∃ z, s m = z := ⟨_, rfl⟩
      obtain ⟨a, ha⟩ : ∃ a, pairF p s n (vecT p n (u + 1)) (vecT p n (u + 1)) = a := ⟨_, rfl⟩
      have HP : Hid (∀ W, Below w8.heap.size w8 W → Calls Try.prog 67 #[dbl p (.slice (some ⟨b, o, none⟩) n c), .slice (some ⟨gv, 0, none⟩) n n, .slice (some ⟨gv, 0, none⟩) n n] W fun e w' => Makes W w' e (.int .i64 a)) := fun W hb => ha ▸ sPair_c p _ _ _ n s _ _ W (HSV.out W (hg8.out.kept hb).chg) ⟨(hg8.out.kept hb).vec.ints, hvi⟩ ⟨(hg8.out.kept hb).vec.ints, hvi⟩
      have hfb : Hid (fitO p s n m C (vecT p n (u + 1)) = ((a == sm) && decide (∀ j, j < m → pairF p s n (vecT p n (u + 1)) (C j) = 0))) := by
        show fitO p s n m C (vecT p n (u + 1)) = ((a == sm) && decide (∀ j, j < m → pairF p s n (vecT p n (u + 1)) (C j) = 0))
        unfold fitO
        rw [ha, hsm]
        rfl
      obtain ⟨q0, hq0⟩ : ∃ q, (a == sm) = q := ⟨_, rfl⟩
      rw [hq0] at hfb
      have zk := HSC.out _ hg8.out.chg m hmn
      rw [hsm] at zk
      have H4 : Hid (w8.cell? ⟨w.heap.size, 0, none⟩ = some (.int .i64 p) ∧ w8.cell? ⟨w.heap.size, 1, none⟩ = some (.slice (some ⟨b, o, none⟩) n c) ∧ w8.cell? ⟨b, o + m, none⟩ = some (.int .i64 sm) ∧ Below w8.heap.size w8 w8) := ⟨hg8.out.c0, hg8.out.c1, zk, Below.refl _ _⟩
      have i0 : (0 : Int) ≤ (m : Int) := by omega
      have i1 : (m : Int) < (n : Int) := by omega
      clear ha hvi zk hsm
      go_wp2
      go_region_held3 (fun W => W.cell? ⟨w.heap.size, 0, none⟩ = some (.int .i64 p) ∧ W.cell? ⟨w.heap.size, 1, none⟩ = some (.slice (some ⟨b, o, none⟩) n c) ∧ W.cell? ⟨b, o + m, none⟩ = some (.int .i64 sm) ∧ Below w8.heap.size w8 W)
        ((first | assumption | exact k3Keep (drewB _) H4.out | exact k3Keep (by assumption) (by assumption)))
        ((first
          | (go_at_call 67; refine Calls.makes' (HP.out _ (k3Below (by assumption))) _ fun v4 hv4 => ?_)))
      rename_i hHeld
      have hb9 := Lib.hid (k3Below hHeld)
      clear hHeld HP H4
      go_wp2
      go_loopg [8, 9] (m + 1) (fun g (fl : Value) jv wq => ∃ (f : Bool) (j : Nat), j ≤ m ∧ jv = .int .i64 j ∧ fl = .bool f ∧ Hid (Below w8.heap.size w8 wq) ∧ ((f = true ∧ g = m - j + 1 ∧ Hid (q0 = true ∧ ∀ i, i < j → pairF p s n (vecT p n (u + 1)) (C i) = 0)) ∨ (f = false ∧ Hid (fitO p s n m C (vecT p n (u + 1)) = false))))
      case atStart =>
        refine ⟨q0, 0, Nat.zero_le _, rfl, by first | rfl | rw [hq0], hb9.out, ?_⟩
        cases q0
        · exact Or.inr ⟨rfl, by show fitO p s n m C (vecT p n (u + 1)) = false; rw [hfb.out]; rfl⟩
        · exact Or.inl ⟨rfl, rfl, rfl, fun i hi => absurd hi (Nat.not_lt_zero _)⟩
      case round =>
        obtain ⟨f, j, hj, rfl, rfl, hbq, hcs⟩ := hrel
        clear hb9 hq0
        rcases hcs with ⟨rfl, rfl, hall⟩ | ⟨rfl, hno⟩
        · by_cases hlt3 : j < m
          · obtain rfl := HQ3.out (by omega)
            obtain ⟨zt, hrj⟩ := HCC.out _ (hg8.out.kept hbq.out).chg j hlt3
            have hvi := vecT_in (p := p) (by omega) n (u + 1) n
            obtain ⟨a3, ha3⟩ : ∃ a, pairF p s n (vecT p n (u + 1)) (C j) = a := ⟨_, rfl⟩
            have HP3 : Hid (∀ W, Below w8.heap.size w8 W → Calls Try.prog 67 #[dbl p (.slice (some ⟨b, o, none⟩) n c), .slice (some ⟨gv, 0, none⟩) n n, .slice (A j) n (CC j)] W fun e w' => Makes W w' e (.int .i64 a3)) := fun W hb => ha3 ▸ sPair_c p _ _ _ n s _ _ W (HSV.out W (hg8.out.kept hb).chg) ⟨(hg8.out.kept hb).vec.ints, hvi⟩ ⟨(HCC.out _ (hg8.out.kept hb).chg j hlt3).2, HCI.out j hlt3⟩
            have H5 : Hid (wr.cell? ⟨w.heap.size, 0, none⟩ = some (.int .i64 p) ∧ wr.cell? ⟨w.heap.size, 1, none⟩ = some (.slice (some ⟨b, o, none⟩) n c) ∧ wr.cell? ⟨cb, co + j, none⟩ = some (.slice (A j) n (CC j)) ∧ Below w8.heap.size w8 wr) := ⟨(hg8.out.kept hbq.out).c0, (hg8.out.kept hbq.out).c1, zt, hbq.out⟩
            have j0 : (0 : Int) ≤ (j : Int) := by omega
            have j1 : (j : Int) < (m : Int) := by omega
            have HA3 := Lib.hid ha3
            clear zt hrj hvi ha3
            cases hq3 : (a3 == 0)
            · go_wp2
              go_region_held3 (fun W => W.cell? ⟨w.heap.size, 0, none⟩ = some (.int .i64 p) ∧ W.cell? ⟨w.heap.size, 1, none⟩ = some (.slice (some ⟨b, o, none⟩) n c) ∧ W.cell? ⟨cb, co + j, none⟩ = some (.slice (A j) n (CC j)) ∧ Below w8.heap.size w8 W)
                ((first | assumption | exact k3Keep (drewB _) H5.out | exact k3Keep (by assumption) (by assumption)))
                ((first
                  | (go_at_call 67; refine Calls.makes' (HP3.out _ (k3Below (by assumption))) _ fun v4 hv4 => ?_)))
              rename_i hHeld
              have hbn := Lib.hid (k3Below hHeld)
              clear hHeld HP3 H5
              go_wp2
              go_roundg (m - j)
              case measure => omega
              case rel => exact ⟨false, j + 1, by omega, by go_num, rfl, hbn.out, Or.inr ⟨rfl, by
                show fitO p s n m C (vecT p n (u + 1)) = false
                rw [hfb.out, decide_eq_false (fun h => by have h1 := h j hlt3; rw [HA3.out] at h1; rw [h1] at hq3; exact absurd hq3 (by decide)), Bool.and_false]⟩⟩
            · go_wp2
              go_region_held3 (fun W => W.cell? ⟨w.heap.size, 0, none⟩ = some (.int .i64 p) ∧ W.cell? ⟨w.heap.size, 1, none⟩ = some (.slice (some ⟨b, o, none⟩) n c) ∧ W.cell? ⟨cb, co + j, none⟩ = some (.slice (A j) n (CC j)) ∧ Below w8.heap.size w8 W)
                ((first | assumption | exact k3Keep (drewB _) H5.out | exact k3Keep (by assumption) (by assumption)))
                ((first
                  | (go_at_call 67; refine Calls.makes' (HP3.out _ (k3Below (by assumption))) _ fun v4 hv4 => ?_)))
              rename_i hHeld
              have hbn := Lib.hid (k3Below hHeld)
              clear hHeld HP3 H5
              go_wp2
              go_roundg (m - (j + 1) + 1)
              case measure => omega
              case rel => exact ⟨true, j + 1, by omega, by go_num, rfl, hbn.out, Or.inl ⟨rfl, rfl, hall.out.1, fun i hi => by
                by_cases e : i = j
                · subst e; rw [HA3.out]; simpa using hq3
                · exact hall.out.2 i (by omega)⟩⟩
          · obtain rfl : m = j := by omega
            have hfit : Hid (fitO p s n m C (vecT p n (u + 1)) = true) := by
              show fitO p s n m C (vecT p n (u + 1)) = true
              rw [hfb.out, hall.out.1, decide_eq_true hall.out.2]; rfl
            have hg9 := Lib.hid (hg8.out.kept hbq.out)
            have hnot : ¬ ((m : Int) < (m : Int)) := by omega
            have hdsz : wr.drew.heap.size = wr.heap.size := rfl
            have HO2 : Hid (Calls Try.prog 144 #[.slice cao m cc] wr.drew fun e w' => CopyT wr.drew w' e m (fun _ => n) C) := sOwn2_c _ m n C wr.drew (HT.out _ (hg9.out.kept (drewB _)).chg) hn1 (by omega) (by omega)
            have HO1 : Hid (∀ W, Below wr.heap.size wr W → Calls Try.prog 85 #[.slice (some ⟨gv, 0, none⟩) n n] W fun e w' => CopyI W w' e n (vecT p n (u + 1))) := fun W hb => sOwnI_c _ n _ W (hg9.out.kept hb).vec.ints hn1 (by omega)
            have HK0 : Hid (wr.drew.cell? ⟨w.heap.size, 0, none⟩ = some (.int .i64 p) ∧ wr.drew.cell? ⟨w.heap.size, 1, none⟩ = some (.slice (some ⟨b, o, none⟩) n c)) := ⟨cellKp (drewB wr) hg9.out.c0, cellKp (drewB wr) hg9.out.c1⟩
            have hlw : w.heap.size < wr.heap.size := lt_of_cell hg9.out.c0
            -- the call of l08Grow at the world behind the append
            have HGR : Hid (∀ W6 g6 c6, Below wr.heap.size wr W6 → OTab W6 wr.heap.size g6 c6 (m + 1) (fun _ => n) (colP C m (vecT p n (u + 1))) → Calls Try.prog 120 #[dbl p (.slice (some ⟨b, o, none⟩) n c), .slice (some ⟨g6, 0, none⟩) (m + 1) c6, lvr] W6 fun e w' => ∃ lv', e = .returned lv' ∧ GS w p s n tT d C Xs S (some ⟨b, o, none⟩) c lv lv' gv (u + 1) (u + 1 + 1) w') := fun W6 g6 c6 hb6 hT6 => by
              have hg6 := hg9.out.kept hb6
              have hs6 := hb6.size
              have hgl := hg6.vec.lt
              have hsu := HGS.out (u + 1)
              rw [hfit.out, if_pos rfl] at hsu
              have hlen := HN.out (u + 1 + 1) (by omega)
              rw [hsu, List.length_append] at hlen
              have hlb : ∀ x, LB lvr x → x < wr.heap.size ∧ ¬ (S x ∨ (w.heap.size ≤ x ∧ x ≤ gv)) := fun x hx => hg9.out.list.lb hx
              refine (HIH.out _ _ lvr (colP C m (vecT p n (u + 1))) (Xs ++ growU p s n tT d C (u + 1)) (fun x => S x ∨ (w.heap.size ≤ x ∧ x ≤ gv)) W6 (fun W hW => HSV.out W (hg6.chg.trans2 hW hg6.lb)) (by rw [hm1]; exact hT6.tabA (fun x hx => (hlb x hx).1)) (fun i hi => ?_) hg6.list (fun x hx => ?_) (by rw [List.length_append]; omega)).mono ?_
              · unfold colP
                by_cases e : i = m
                · rw [if_pos e]; exact vecT_in (by omega) n (u + 1) n
                · rw [if_neg e]; exact HCI.out i (by omega)
              · rcases hx with h | h
                · have := HS.out x h; omega
                · omega
              · rintro e w7 ⟨lv', rfl, hL7, hC7, hB7⟩
                have hn0 : ¬ LB lvr w.heap.size := fun h => (hlb _ h).2 (Or.inr ⟨Nat.le_refl _, by omega⟩)
                have hn1 : ¬ LB lvr gv := fun h => (hlb _ h).2 (Or.inr ⟨by omega, Nat.le_refl _⟩)
                refine ⟨lv', rfl, hC7.cellK hn0 hg6.c0, hC7.cellK hn0 hg6.c1, hC7.own hg6.vec hn1, by rw [hsu, ← List.append_assoc]; exact hL7, hg6.chg.trans2 hC7 hg6.lb, fun x hx => ?_⟩
                rcases hB7 x hx with h | h
                · exact hg6.lb x h
                · exact Or.inr (by omega)
            clear hall hfb hg8 hfit HIH HCC HSC HCI HN HGS
            go_wp2
            go_region_held3 (fun W => W.cell? ⟨w.heap.size, 0, none⟩ = some (.int .i64 p) ∧ W.cell? ⟨w.heap.size, 1, none⟩ = some (.slice (some ⟨b, o, none⟩) n c))
              ((first | assumption | exact HK0.out | exact k2Keep (by assumption) (by assumption) | exact k2Keep ((Below.refl _ _).alloc (Nat.le_refl _) _) (by assumption)))
              ((first
                | (go_at_call 144; refine HO2.out.mono ?_; rintro e w4 ⟨g4, c4, rfl, hb4, hT4⟩; have hS4 := k2Keep hb4 HK0.out; obtain ⟨V, hV, hpush⟩ := hT4.pushAt hb4.size; have HPU := Lib.hid hpush; clear hpush)
                | (go_at_call 85; refine (HO1.out _ ((drewB _).trans hb4)).mono ?_; rintro e w5 ⟨g5, c5, rfl, hg5, hb5, hO5⟩; have hS5 := k2Keep hb5 hS4; have hV5 := hV.kept hb5; have hs4 := hb4.size; have hs5 := hb5.size)
                | (refine step_push rfl _ _ _ _ elR rfl hV5 (.slice (some ⟨g5, 0, none⟩) n c5) rfl rfl rfl (by omega) (by omega) ?_; intro g6 c6 w6 hO6 hg6 hgr6; have hg4 := hT4.base; have hS6 := k2Chg (grownChg hgr6) (show ¬ w.heap.size = g4 by omega) hS5; have hb6 : Below wr.heap.size wr w6 := (((drewB wr).trans hb4).trans (hb5.mono (by omega))).grown hgr6 (by omega) (fun q e => by injection e with e; omega); have HC6 := Lib.hid (HGR.out w6 g6 c6 hb6 ((HPU.out _ _ _ _ _ _ _ _ hb5 hO5 hg5 hO6 hg6 hgr6).congr (fun i hi => by by_cases e : i = m <;> simp [e]) (fun _ _ _ _ => rfl))))
                | (go_at_call 120; refine HC6.out.mono ?_; rintro e w7 ⟨lv', rfl, hG7⟩; have HG7 := Lib.hid hG7; have hS7 : w7.cell? ⟨w.heap.size, 0, none⟩ = some (.int .i64 p) ∧ w7.cell? ⟨w.heap.size, 1, none⟩ = some (.slice (some ⟨b, o, none⟩) n c) := ⟨HG7.out.c0, HG7.out.c1⟩; clear hG7)))
            all_goals go_wp2
            all_goals go_roundg (tT - (u + 1))
            all_goals first
              | omega
              | exact ⟨u + 1, _, hn1', rfl, rfl, HG7.out⟩
        · have hg9 := Lib.hid (hg8.out.kept hbq.out)
          have hG9 : Hid (GS w p s n tT d C Xs S (some ⟨b, o, none⟩) c lv lvr gv (u + 1) (u + 1 + 1) wr) := ⟨hg9.out.c0, hg9.out.c1, hg9.out.vec, by rw [HGS.out (u + 1), hno.out, if_neg (by decide), List.append_nil]; exact hg9.out.list, hg9.out.chg, hg9.out.lb⟩
          clear hg9 hg8 hno hfb
          by_cases hlt3 : (j : Int) < (m : Int)
          all_goals
            go_wp2
            go_roundg (tT - (u + 1))
            case measure => omega
            case rel => exact ⟨u + 1, _, hn1', rfl, rfl, hG9.out⟩
    · have hg8 := hg.out
      have hL : OL w8 S lvr n (Xs ++ growT p s n tT (d + 1) C) := by
        have h1 := (hg8.list.chg hc (fun x e => Or.inl (Or.inr (by have e : x = gv := e; omega)))).to (S' := S) (fun x hx => Or.inl (Or.inl hx))
        rw [hn1', growU_all] at h1
        exact h1
      have hC9 := hg8.chg.trans2 hc (fun x e => Or.inr (by have e : x = gv := e; omega))
      have hlb := hg8.lb
      have HL9 := Lib.hid hL
      have HC9 := Lib.hid hC9
      have HB9 := Lib.hid hlb
      clear hL hC9 hlb hg8 hg hc
      go_wp2
      go_ret
      exact ⟨lvr, rfl, HL9.out, HC9.out, HB9.out⟩

theorem sGrow_c (p : Int) (s : Nat → Int) (n tT : Nat) (hTT : p ^ n = (tT : Int)) (hreg : ∀ i, i < n → s i ≠ 0) : ∀ d, d ≤ n → SGrow p s n tT d
  | 0, _ => sGrow0_c p s n tT
  | d + 1, h => sGrowS_c p s n tT d (sGrow_c p s n tT hTT hreg d (by omega)) h hTT hreg

end Go.Proofs.Ytnkflgigbielgaa

/-
  The count of orthogonal matrices, the program's. No condition beside the space.
-/
set_option linter.unusedVariables false
set_option linter.unusedSimpArgs false
namespace Go.Proofs.Ytnkflgigbielgaa
open Go.RowKit

theorem prdD (p : Int) : prdO p 0 = 1 := rfl

set_option maxRecDepth 100000 in
set_option maxHeartbeats 4000000 in
theorem iCountOdd_c (p : Int) (sv : Value) (n : Nat) (s : Nat → Int) (w : World) (hd : SV w sv p n s) (hodd : n % 2 = 1) :
    Calls Try.prog 151 #[dbl p sv] w fun e w' => Makes w w' e (.int .i64 (cntO p n (wO p n s))) := by
  have hpb := hd.ok.bd
  have hn6 := hd.ok.n6
  obtain ⟨k, hk⟩ : ∃ k, n / 2 = k := ⟨_, rfl⟩
  have hn2 : n = 2 * k + 1 := by omega
  have hk2 : k ≤ 2 := by omega
  obtain ⟨ao, c, b, o, rfl, p2, p3, p4, p5⟩ := hd.ints.out
  clear p4 p5
  have hcnt : cntO p n (wO p n s) = cntI p (2 * p ^ (k * k)) k := by unfold cntO cntI; rw [if_pos hodd, hk]
  rw [hcnt]
  have BX := Lib.hid (box0 w p ao n c 26)
  obtain ⟨e0, e1, e2, e3⟩ := BX.out
  have hq : Int.tdiv (n : Int) 2 = (k : Int) := by rw [Int.tdiv_eq_ediv_of_nonneg (by omega)]; omega
  have hr : Int.tmod (n : Int) 2 = 1 := by rw [Int.tmod_eq_emod_of_nonneg (by omega)]; omega
  have hwk : IntKind.i64.wrap (k : Int) = (k : Int) := wrap_in _ (by omega)
  have hkk : IntKind.i64.wrap ((k : Int) * (k : Int)) = ((k * k : Nat) : Int) := by
    have h2 : k = 0 ∨ k = 1 ∨ k = 2 := by omega
    rcases h2 with rfl | rfl | rfl <;> rfl
  have hk4 : k * k ≤ 4 := by
    have h2 : k = 0 ∨ k = 1 ∨ k = 2 := by omega
    rcases h2 with rfl | rfl | rfl <;> decide
  have HR : Hid (∀ W (j : Nat), j ≤ 6 → Calls Try.prog 162 #[.int .i64 p, .int .i64 j] W fun e w' => e = .returned (.int .i64 (p ^ j)) ∧ W = w') := fun W j hj => iWholeQ_c p j W hpb hj
  obtain ⟨K, hK⟩ : ∃ K, k * k = K := ⟨_, rfl⟩
  rw [hK] at hkk hk4 ⊢
  have hpw := pow_sm hpb.1 hpb.2 (k := K) (by omega)
  obtain ⟨Q, hQ⟩ : ∃ Q, p ^ K = Q := ⟨_, rfl⟩
  have HR0 := Lib.hid (fun W => HR.out W K (by omega))
  rw [hQ] at hpw HR0 ⊢
  have hw2 : IntKind.i64.wrap (2 * Q) = 2 * Q := wrap_in _ (by omega)
  clear hcnt hd hn2 hK hQ hodd hk
  go_enter Try.func151, Try.ntmps151
  go_wp2_with fail
  refine Calls.makes' (iDim_c _ _ _ _ _ (by omega)) _ fun w1 hb1 => ?_
  have BX1 := Lib.hid (boxKeep hb1 BX.out)
  obtain ⟨f0, f1, f2, f3⟩ := BX1.out
  clear e0 e1 e2 e3 hb1 BX
  go_wp2_with fail
  go_at_call 92
  refine Calls.makes' (iDim_c _ _ _ _ _ (by omega)) _ fun w2 hb2 => ?_
  have HBX := Lib.hid (boxKeep hb2 BX1.out)
  obtain ⟨e0, e1, e2, e3⟩ := HBX.out
  clear f0 f1 f2 f3 hb2 BX1
  go_wp2_with (go_at_call 162; refine (HR0.out _).mono ?_; rintro e w' ⟨rfl, rfl⟩)
  clear e0 e1 e2 e3 HR0 hq hr hkk hw2
  go_loopg [4, 5] k (fun g u i wr => ∃ j : Nat, j ≤ k ∧ g = k - j ∧ ∃ r : Nat, i = .int .i64 r ∧ Hid (r = j + 1) ∧ u = .int .i64 (cntI p (2 * Q) j) ∧ Hid (BoxD w p ao n c wr))
  case atStart => exact ⟨0, Nat.zero_le _, rfl, 1, rfl, rfl, by unfold cntI prdO; rw [Int.mul_one], HBX.out⟩
  case round =>
    obtain ⟨j, hj, rfl, r, rfl, hr, rfl, hb⟩ := hrel
    clear HBX
    obtain ⟨g0, g1, g2, g3⟩ := hb.out
    by_cases hlt : j < k
    · have h1 := prdO_bd hpb (i := j) (by omega)
      have h2 := prdO_bd hpb (i := j + 1) (by omega)
      have h3 := pow_sm hpb.1 hpb.2 (k := 2 * (j + 1)) (by omega)
      have HS := Lib.hid (cntI_succ p ((2 * Q)) j)
      have hc1 : -100000000000000 ≤ cntI p ((2 * Q)) (j + 1) ∧ cntI p ((2 * Q)) (j + 1) ≤ 100000000000000 := by
        unfold cntI
        obtain ⟨D, hD⟩ : ∃ D, prdO p (j + 1) = D := ⟨_, rfl⟩
        rw [hD] at h2 ⊢
        obtain ⟨d, rfl⟩ := Int.eq_ofNat_of_zero_le (show 0 ≤ D by omega)
        obtain ⟨q, rfl⟩ := Int.eq_ofNat_of_zero_le (show 0 ≤ Q by omega)
        have h4 : 2 * q * d ≤ 2 * 4826809 * 5000000 := Nat.mul_le_mul (by omega) (by omega)
        have h5 : ((2 * (q : Int)) * (d : Int)) = ((2 * q * d : Nat) : Int) := by push_cast; rfl
        rw [h5]; omega
      rw [HS.out] at hc1
      obtain ⟨A, hA⟩ : ∃ A, cntI p ((2 * Q)) j = A := ⟨_, rfl⟩
      obtain ⟨E, hE⟩ : ∃ E, p ^ (2 * (j + 1)) = E := ⟨_, rfl⟩
      have HRj := Lib.hid (fun W => HR.out W (2 * r) (by have := hr.out; omega))
      have hre := hr.out
      have hE2 : p ^ (2 * r) = E := by rw [hre]; exact hE
      rw [hE2] at HRj
      rw [hA, hE] at HS hc1
      rw [hE] at h3
      rw [hA]
      have hw1 : IntKind.i64.wrap (2 * (r : Int)) = ((2 * r : Nat) : Int) := by rw [wrap_in _ (by omega)]; omega
      have hw2 : IntKind.i64.wrap (E - 1) = E - 1 := wrap_in _ (by omega)
      have hw3 : IntKind.i64.wrap (A * (E - 1)) = A * (E - 1) := wrap_in _ (by omega)
      have hrk : (r : Int) ≤ (k : Int) := by omega
      have HJ := Lib.hid hre
      clear h1 h2 h3 hc1 hA hE hE2 hre hr g1 g2 g3
      go_wp2_with (go_at_call 162; refine (HRj.out _).mono ?_; rintro e w' ⟨rfl, rfl⟩)
      go_roundg (k - (j + 1))
      case measure => omega
      case rel => exact ⟨j + 1, by omega, rfl, r + 1, by go_num, by show r + 1 = j + 1 + 1; rw [HJ.out], by rw [HS.out], hb.out⟩
    · obtain rfl : j = k := by omega
      have hrk : ¬ (r : Int) ≤ (j : Int) := by have := hr.out; omega
      clear g0 g1 g2
      go_wp2
      go_ret
      exact ⟨rfl, hb.out.2.2.2⟩

set_option maxRecDepth 100000 in
set_option maxHeartbeats 4000000 in
theorem iCountEven_c (p : Int) (sv : Value) (n : Nat) (s : Nat → Int) (w : World) (hd : SV w sv p n s) (hrg : regB s n = true) (hev : ¬ n % 2 = 1) :
    Calls Try.prog 151 #[dbl p sv] w fun e w' => Makes w w' e (.int .i64 (cntO p n (wO p n s))) := by
  have hpb := hd.ok.bd
  have hn6 := hd.ok.n6
  have hn1 := hd.ok.n1
  obtain ⟨k2, hk⟩ : ∃ k2, n / 2 = k2 + 1 := ⟨n / 2 - 1, by omega⟩
  have hn2 : n = 2 * (k2 + 1) := by omega
  have hk2 : k2 ≤ 2 := by omega
  have hsp : spB p n s = true := by have h1 := hd.ok.prime; have h2 := hd.ok.inp; unfold spB; rw [h1, decide_eq_true ⟨hn1, hn6⟩]; exact decide_eq_true fun i hi => by have := h2 i hi; omega
  have hwc : witC p n s = 0 := by unfold witC; rw [hsp, if_pos rfl, if_pos hrg]
  have HW : Hid (∀ W, Below w.heap.size w W → Calls Try.prog 32 #[dbl p sv] W fun e w' => Makes W w' e (.tuple #[.int .i64 (witV p n s), .int .i64 0])) := fun W hb => by
    have h := iWittIndex_c p sv n s W (hd.below hb).ints
    rw [hwc] at h
    exact h
  obtain ⟨ao, c, b, o, rfl, p2, p3, p4, p5⟩ := hd.ints.out
  clear p4 p5
  have hww := wO_two p n s
  have hcnt : cntO p n (wO p n s) = cntI p (2 * (p ^ ((k2 + 1) * k2) * (p ^ (k2 + 1) - wO p n s))) k2 := by unfold cntO cntI; rw [if_neg hev, hk, Nat.add_sub_cancel]
  rw [hcnt]
  have BX := Lib.hid (box0 w p ao n c 26)
  obtain ⟨e0, e1, e2, e3⟩ := BX.out
  have hp3 : p ^ (k2 + 1) ≤ 2197 := by
    obtain ⟨q, rfl⟩ := Int.eq_ofNat_of_zero_le (show 0 ≤ p by omega)
    have h1 : q ^ (k2 + 1) ≤ 13 ^ (k2 + 1) := Nat.pow_le_pow_left (by omega) _
    have h2 : 13 ^ (k2 + 1) ≤ 13 ^ 3 := Nat.pow_le_pow_right (by decide) (by omega)
    have h3 : ((q ^ (k2 + 1) : Nat) : Int) = (q : Int) ^ (k2 + 1) := by simp
    have h4 : 13 ^ 3 = 2197 := by decide
    rw [← h3]; omega
  have hm6 : (k2 + 1) * k2 ≤ 6 := by
    have h2 : k2 = 0 ∨ k2 = 1 ∨ k2 = 2 := by omega
    rcases h2 with rfl | rfl | rfl <;> decide
  have hmk : IntKind.i64.wrap (((k2 + 1 : Nat) : Int) * (k2 : Int)) = (((k2 + 1) * k2 : Nat) : Int) := by
    have h2 : k2 = 0 ∨ k2 = 1 ∨ k2 = 2 := by omega
    rcases h2 with rfl | rfl | rfl <;> rfl
  have hpw1 := pow_sm hpb.1 hpb.2 (k := (k2 + 1) * k2) (by omega)
  have hpw2 := pow_sm hpb.1 hpb.2 (k := k2 + 1) (by omega)
  have HR : Hid (∀ W (j : Nat), j ≤ 6 → Calls Try.prog 162 #[.int .i64 p, .int .i64 j] W fun e w' => e = .returned (.int .i64 (p ^ j)) ∧ W = w') := fun W j hj => iWholeQ_c p j W hpb hj
  have hX : wO p n s = if witV p n s = ((k2 + 1 : Nat) : Int) then 1 else -1 := by unfold wO; rw [hk]
  obtain ⟨wv, hwv⟩ : ∃ wv, witV p n s = wv := ⟨_, rfl⟩
  rw [hwv] at HW hX
  obtain ⟨X, hXe⟩ : ∃ X, wO p n s = X := ⟨_, rfl⟩
  rw [hXe] at hX hww ⊢
  obtain ⟨K, hK⟩ : ∃ K, k2 + 1 = K := ⟨_, rfl⟩
  have hq : Int.tdiv (n : Int) 2 = (K : Int) := by rw [Int.tdiv_eq_ediv_of_nonneg (by omega)]; omega
  have hr : Int.tmod (n : Int) 2 = 0 := by rw [Int.tmod_eq_emod_of_nonneg (by omega)]; omega
  have hwk : IntKind.i64.wrap (K : Int) = (K : Int) := wrap_in _ (by omega)
  have hwk1 : IntKind.i64.wrap ((K : Int) - 1) = (k2 : Int) := by rw [wrap_in _ (by omega)]; omega
  obtain ⟨M, hM⟩ : ∃ M, (k2 + 1) * k2 = M := ⟨_, rfl⟩
  rw [hM] at hmk hm6 hpw1 ⊢
  rw [hK] at hmk hp3 hpw2 hX ⊢
  obtain ⟨Q1, hQ1⟩ : ∃ Q1, p ^ M = Q1 := ⟨_, rfl⟩
  obtain ⟨Q2, hQ2⟩ : ∃ Q2, p ^ K = Q2 := ⟨_, rfl⟩
  have HR1 : Hid (∀ W (j : Int), j = (M : Int) → Calls Try.prog 162 #[.int .i64 p, .int .i64 j] W fun e w' => e = .returned (.int .i64 (p ^ M)) ∧ W = w') := fun W j hj => by rw [hj]; exact HR.out W M (by omega)
  have HR2 : Hid (∀ W (j : Int), j = (K : Int) → Calls Try.prog 162 #[.int .i64 p, .int .i64 j] W fun e w' => e = .returned (.int .i64 (p ^ K)) ∧ W = w') := fun W j hj => by rw [hj]; exact HR.out W K (by omega)
  rw [hQ1] at HR1 hpw1 ⊢
  rw [hQ2] at HR2 hp3 hpw2 ⊢
  have hw4 : IntKind.i64.wrap (Q2 - X) = Q2 - X := wrap_in _ (by omega)
  have hc0 : 0 ≤ 2 * (Q1 * (Q2 - X)) ∧ 2 * (Q1 * (Q2 - X)) ≤ 50000000000 := by
    obtain ⟨u, hu⟩ := Int.eq_ofNat_of_zero_le (show 0 ≤ Q2 - X by omega)
    obtain ⟨q, rfl⟩ := Int.eq_ofNat_of_zero_le (show 0 ≤ Q1 by omega)
    have h4 : q * u ≤ 4826809 * 2198 := Nat.mul_le_mul (by omega) (by omega)
    have h5 : (q : Int) * (u : Int) = ((q * u : Nat) : Int) := by push_cast; rfl
    rw [hu, h5]; omega
  have hw2 : IntKind.i64.wrap (Q1 * (Q2 - X)) = Q1 * (Q2 - X) := wrap_in _ (by omega)
  have hw5 : IntKind.i64.wrap (2 * (Q1 * (Q2 - X))) = 2 * (Q1 * (Q2 - X)) := wrap_in _ (by omega)
  obtain ⟨c0, hc0e⟩ : ∃ c0, 2 * (Q1 * (Q2 - X)) = c0 := ⟨_, rfl⟩
  rw [hc0e] at hc0 hw5 ⊢
  have HX := Lib.hid hX
  have hkK1 : K ≤ k2 + 1 := by omega
  have hkK2 : k2 + 1 ≤ K := by omega
  clear hcnt hd hn2 hK hQ1 hQ2 hev hk hM hwv hXe hX hsp hwc hrg
  by_cases hv : wv = (K : Int)
  · obtain rfl : X = 1 := by rw [HX.out, if_pos hv]
    have hvb : (wv == (K : Int)) = true := beq_iff_eq.2 hv
    clear hv HX
    go_enter Try.func151, Try.ntmps151
    go_wp2_with fail
    refine Calls.makes' (iDim_c _ _ _ _ _ (by omega)) _ fun w1 hb1 => ?_
    have BX1 := Lib.hid (boxKeep hb1 BX.out)
    obtain ⟨f0, f1, f2, f3⟩ := BX1.out
    clear e0 e1 e2 e3 hb1 BX
    go_wp2_with fail
    go_at_call 92
    refine Calls.makes' (iDim_c _ _ _ _ _ (by omega)) _ fun w2 hb2 => ?_
    have BX2 := Lib.hid (boxKeep hb2 BX1.out)
    obtain ⟨e0, e1, e2, e3⟩ := BX2.out
    clear f0 f1 f2 f3 hb2 BX1
    go_wp2_with fail
    go_at_call 32
    refine Calls.makes' (HW.out _ e3) _ fun w3 hb3 => ?_
    have BX3 := Lib.hid (boxKeep hb3 BX2.out)
    obtain ⟨f0, f1, f2, f3⟩ := BX3.out
    clear e0 e1 e2 e3 hb3 BX2 HW f1 f2 f3
    go_wp2
    go_quiet (first
      | (go_at_call 162; exact Calls.pure (HR1.out _ _ (by with_reducible rfl)))
      | (go_at_call 162; exact Calls.pure (HR2.out _ _ (by with_reducible rfl))))
    have HBX := Lib.hid (boxKeep (below_drewN w3 nq) BX3.out)
    clear f0 BX3 HR1 HR2 hq hr hmk hw4 hw2 hw5 hww hpw1 hpw2 hp3 hc0e
    go_wp2
    go_loopg [4, 9] k2 (fun g u i wr => ∃ j : Nat, j ≤ k2 ∧ g = k2 - j ∧ ∃ r : Nat, i = .int .i64 r ∧ Hid (r = j + 1) ∧ u = .int .i64 (cntI p c0 j) ∧ Hid (BoxD w p ao n c wr))
    case atStart => exact ⟨0, Nat.zero_le _, rfl, 1, rfl, rfl, by unfold cntI prdO; rw [Int.mul_one], HBX.out⟩
    case round =>
      obtain ⟨j, hj, rfl, r, rfl, hr, rfl, hb⟩ := hrel
      clear HBX
      obtain ⟨g0, g1, g2, g3⟩ := hb.out
      by_cases hlt : j < k2
      · have h1 := prdO_bd hpb (i := j) (by omega)
        have h2 := prdO_bd hpb (i := j + 1) (by omega)
        have h3 := pow_sm hpb.1 hpb.2 (k := 2 * (j + 1)) (by omega)
        have HS := Lib.hid (cntI_succ p (c0) j)
        have hc1 : -1000000000000000000 ≤ cntI p (c0) (j + 1) ∧ cntI p (c0) (j + 1) ≤ 1000000000000000000 := by
          unfold cntI
          obtain ⟨D, hD⟩ : ∃ D, prdO p (j + 1) = D := ⟨_, rfl⟩
          rw [hD] at h2 ⊢
          obtain ⟨d, rfl⟩ := Int.eq_ofNat_of_zero_le (show 0 ≤ D by omega)
          obtain ⟨q, rfl⟩ := Int.eq_ofNat_of_zero_le hc0.1
          have h4 : q * d ≤ 50000000000 * 5000000 := Nat.mul_le_mul (by omega) (by omega)
          have h5 : ((q : Int) * (d : Int)) = ((q * d : Nat) : Int) := by push_cast; rfl
          rw [h5]; omega
        rw [HS.out] at hc1
        obtain ⟨A, hA⟩ : ∃ A, cntI p (c0) j = A := ⟨_, rfl⟩
        obtain ⟨E, hE⟩ : ∃ E, p ^ (2 * (j + 1)) = E := ⟨_, rfl⟩
        have HRj := Lib.hid (fun W => HR.out W (2 * r) (by have := hr.out; omega))
        have hre := hr.out
        have hE2 : p ^ (2 * r) = E := by rw [hre]; exact hE
        rw [hE2] at HRj
        rw [hA, hE] at HS hc1
        rw [hE] at h3
        rw [hA]
        have hw1 : IntKind.i64.wrap (2 * (r : Int)) = ((2 * r : Nat) : Int) := by rw [wrap_in _ (by omega)]; omega
        have hw2 : IntKind.i64.wrap (E - 1) = E - 1 := wrap_in _ (by omega)
        have hw3 : IntKind.i64.wrap (A * (E - 1)) = A * (E - 1) := wrap_in _ (by omega)
        have hrk : (r : Int) < (K : Int) := by omega
        have HJ := Lib.hid hre
        clear h1 h2 h3 hc1 hA hE hE2 hre hr g1 g2 g3
        go_wp2_with (go_at_call 162; refine (HRj.out _).mono ?_; rintro e w' ⟨rfl, rfl⟩)
        go_roundg (k2 - (j + 1))
        case measure => omega
        case rel => exact ⟨j + 1, by omega, rfl, r + 1, by go_num, by show r + 1 = j + 1 + 1; rw [HJ.out], by rw [HS.out], hb.out⟩
      · obtain rfl : j = k2 := by omega
        have hrk : ¬ (r : Int) < (K : Int) := by have := hr.out; omega
        clear g0 g1 g2
        go_wp2
        go_ret
        exact ⟨rfl, hb.out.2.2.2⟩
  · obtain rfl : X = -1 := by rw [HX.out, if_neg hv]
    rw [Int.sub_neg] at hw4 hw2 hc0e
    have hvb : (wv == (K : Int)) = false := beq_eq_false_iff_ne.2 hv
    clear hv HX
    go_enter Try.func151, Try.ntmps151
    go_wp2_with fail
    refine Calls.makes' (iDim_c _ _ _ _ _ (by omega)) _ fun w1 hb1 => ?_
    have BX1 := Lib.hid (boxKeep hb1 BX.out)
    obtain ⟨f0, f1, f2, f3⟩ := BX1.out
    clear e0 e1 e2 e3 hb1 BX
    go_wp2_with fail
    go_at_call 92
    refine Calls.makes' (iDim_c _ _ _ _ _ (by omega)) _ fun w2 hb2 => ?_
    have BX2 := Lib.hid (boxKeep hb2 BX1.out)
    obtain ⟨e0, e1, e2, e3⟩ := BX2.out
    clear f0 f1 f2 f3 hb2 BX1
    go_wp2_with fail
    go_at_call 32
    refine Calls.makes' (HW.out _ e3) _ fun w3 hb3 => ?_
    have BX3 := Lib.hid (boxKeep hb3 BX2.out)
    obtain ⟨f0, f1, f2, f3⟩ := BX3.out
    clear e0 e1 e2 e3 hb3 BX2 HW f1 f2 f3
    go_wp2
    go_quiet (first
      | (go_at_call 162; exact Calls.pure (HR1.out _ _ (by with_reducible rfl)))
      | (go_at_call 162; exact Calls.pure (HR2.out _ _ (by with_reducible rfl))))
    have HBX := Lib.hid (boxKeep (below_drewN w3 nq) BX3.out)
    clear f0 BX3 HR1 HR2 hq hr hmk hw4 hw2 hw5 hww hpw1 hpw2 hp3 hc0e
    go_wp2
    go_loopg [4, 9] k2 (fun g u i wr => ∃ j : Nat, j ≤ k2 ∧ g = k2 - j ∧ ∃ r : Nat, i = .int .i64 r ∧ Hid (r = j + 1) ∧ u = .int .i64 (cntI p c0 j) ∧ Hid (BoxD w p ao n c wr))
    case atStart => exact ⟨0, Nat.zero_le _, rfl, 1, rfl, rfl, by unfold cntI prdO; rw [Int.mul_one], HBX.out⟩
    case round =>
      obtain ⟨j, hj, rfl, r, rfl, hr, rfl, hb⟩ := hrel
      clear HBX
      obtain ⟨g0, g1, g2, g3⟩ := hb.out
      by_cases hlt : j < k2
      · have h1 := prdO_bd hpb (i := j) (by omega)
        have h2 := prdO_bd hpb (i := j + 1) (by omega)
        have h3 := pow_sm hpb.1 hpb.2 (k := 2 * (j + 1)) (by omega)
        have HS := Lib.hid (cntI_succ p (c0) j)
        have hc1 : -1000000000000000000 ≤ cntI p (c0) (j + 1) ∧ cntI p (c0) (j + 1) ≤ 1000000000000000000 := by
          unfold cntI
          obtain ⟨D, hD⟩ : ∃ D, prdO p (j + 1) = D := ⟨_, rfl⟩
          rw [hD] at h2 ⊢
          obtain ⟨d, rfl⟩ := Int.eq_ofNat_of_zero_le (show 0 ≤ D by omega)
          obtain ⟨q, rfl⟩ := Int.eq_ofNat_of_zero_le hc0.1
          have h4 : q * d ≤ 50000000000 * 5000000 := Nat.mul_le_mul (by omega) (by omega)
          have h5 : ((q : Int) * (d : Int)) = ((q * d : Nat) : Int) := by push_cast; rfl
          rw [h5]; omega
        rw [HS.out] at hc1
        obtain ⟨A, hA⟩ : ∃ A, cntI p (c0) j = A := ⟨_, rfl⟩
        obtain ⟨E, hE⟩ : ∃ E, p ^ (2 * (j + 1)) = E := ⟨_, rfl⟩
        have HRj := Lib.hid (fun W => HR.out W (2 * r) (by have := hr.out; omega))
        have hre := hr.out
        have hE2 : p ^ (2 * r) = E := by rw [hre]; exact hE
        rw [hE2] at HRj
        rw [hA, hE] at HS hc1
        rw [hE] at h3
        rw [hA]
        have hw1 : IntKind.i64.wrap (2 * (r : Int)) = ((2 * r : Nat) : Int) := by rw [wrap_in _ (by omega)]; omega
        have hw2 : IntKind.i64.wrap (E - 1) = E - 1 := wrap_in _ (by omega)
        have hw3 : IntKind.i64.wrap (A * (E - 1)) = A * (E - 1) := wrap_in _ (by omega)
        have hrk : (r : Int) < (K : Int) := by omega
        have HJ := Lib.hid hre
        clear h1 h2 h3 hc1 hA hE hE2 hre hr g1 g2 g3
        go_wp2_with (go_at_call 162; refine (HRj.out _).mono ?_; rintro e w' ⟨rfl, rfl⟩)
        go_roundg (k2 - (j + 1))
        case measure => omega
        case rel => exact ⟨j + 1, by omega, rfl, r + 1, by go_num, by show r + 1 = j + 1 + 1; rw [HJ.out], by rw [HS.out], hb.out⟩
      · obtain rfl : j = k2 := by omega
        have hrk : ¬ (r : Int) < (K : Int) := by have := hr.out; omega
        clear g0 g1 g2
        go_wp2
        go_ret
        exact ⟨rfl, hb.out.2.2.2⟩

theorem iCount_c (p : Int) (sv : Value) (n : Nat) (s : Nat → Int) (w : World) (hd : SV w sv p n s) (hrg : regB s n = true) :
    Calls Try.prog 151 #[dbl p sv] w fun e w' => Makes w w' e (.int .i64 (cntO p n (wO p n s))) := by
  by_cases h : n % 2 = 1
  · exact iCountOdd_c p sv n s w hd h
  · exact iCountEven_c p sv n s w hd hrg h
theorem sCount_c (p : Int) (sv : Value) (n : Nat) (s : Nat → Int) (w : World) (hd : SV w sv p n s) :
    Calls Try.prog 119 #[dbl p sv] w fun e w' => Makes w w' e (.int .i64 (cntO p n (wO p n s))) := by
  by_cases h : n % 2 = 1
  · exact sCountOdd_c p sv n s w hd h
  · exact sCountEven_c p sv n s w hd h

set_option maxRecDepth 100000 in
set_option maxHeartbeats 2000000 in
theorem iCountOrthogonal_c (p : Int) (sv : Value) (n : Nat) (s : Nat → Int) (w : World) (h : Ints w sv n s) :
    Calls Try.prog 121 #[dbl p sv] w fun e w' => Makes w w' e (rC (witC p n s) (cntO p n (wO p n s))) := by
  have H' := Lib.hid h
  obtain ⟨ao, c, b, o, rfl, p2, p3, qx⟩ := h.out
  have BX := Lib.hid (box0 w p ao n c 26)
  obtain ⟨e0, e1, e2, e3⟩ := BX.out
  clear h qx
  cases hok : spB p n s
  · have hc : witC p n s = 1 := by unfold witC; rw [hok]; rfl
    rw [hc]
    have HOK := Lib.hid hok
    clear hok hc
    go_enter Try.func121, Try.ntmps121
    go_wp2_with fail
    refine Calls.makes' (iIsSp_c p _ n s _ (H'.out.below e3)) _ fun w1 hb1 => ?_
    rw [HOK.out]
    have b4 := e3.trans (hb1.mono e3.size)
    go_wp2
    go_ret2
    exact ⟨rfl, b4⟩
  · have hsp := spB_ok hok
    obtain ⟨g, hg⟩ : ∃ g, regB s n = g := ⟨_, rfl⟩
    have hc : witC p n s = if g then 0 else 5 := by unfold witC; rw [hok, if_pos rfl, hg]
    rw [hc]
    have HOK := Lib.hid hok
    have HR : Hid (∀ W, Below w.heap.size w W → Calls Try.prog 91 #[dbl p (.slice ao n c)] W fun e w' => Makes W w' e (.bool g)) := fun W hb => hg ▸ iReg_c p _ n s W (H'.out.below hb)
    have HG := Lib.hid hg
    obtain ⟨N, hN⟩ : ∃ N, cntO p n (wO p n s) = N := ⟨_, rfl⟩
    have HC : Hid (∀ W, Below w.heap.size w W → g = true → Calls Try.prog 151 #[dbl p (.slice ao n c)] W fun e w' => Makes W w' e (.int .i64 N)) := fun W hb e => hN ▸ iCount_c p _ n s W ⟨H'.out.below hb, hsp⟩ (hg.trans e)
    rw [hN]
    clear hok hsp hg hc hN
    cases g
    · go_enter Try.func121, Try.ntmps121
      go_wp2_with fail
      refine Calls.makes' (iIsSp_c p _ n s _ (H'.out.below e3)) _ fun w1 hb1 => ?_
      rw [HOK.out]
      obtain ⟨f0, f1, f2, f3⟩ := boxKeep hb1 BX.out
      clear e0 e1 e2 e3
      go_wp2_with fail
      go_at_call 91
      refine Calls.makes' (HR.out _ f3) _ fun w2 hb2 => ?_
      have b4 := f3.trans (hb2.mono f3.size)
      go_wp2
      go_ret2
      exact ⟨rfl, b4⟩
    · go_enter Try.func121, Try.ntmps121
      go_wp2_with fail
      refine Calls.makes' (iIsSp_c p _ n s _ (H'.out.below e3)) _ fun w1 hb1 => ?_
      rw [HOK.out]
      have BX1 := Lib.hid (boxKeep hb1 BX.out)
      obtain ⟨f0, f1, f2, f3⟩ := BX1.out
      clear e0 e1 e2 e3
      go_wp2_with fail
      go_at_call 91
      refine Calls.makes' (HR.out _ f3) _ fun w2 hb2 => ?_
      obtain ⟨e0, e1, e2, e3⟩ := boxKeep hb2 BX1.out
      clear f0 f1 f2 f3
      go_wp2_with fail
      go_at_call 151
      refine Calls.makes' (HC.out _ e3 (by first | rfl | trivial)) _ fun w3 hb3 => ?_
      have b4 := e3.trans (hb3.mono e3.size)
      go_wp2
      go_ret2
      exact ⟨rfl, b4⟩

end Go.Proofs.Ytnkflgigbielgaa

/-
  What the program's growOrthogonal is made of: the walk of all vectors for its closure, the test of a column, a copy of a list of rows, an append to a list that may be nil; and the case of complete columns. No condition beside sizes.
-/
set_option linter.unusedVariables false
set_option linter.unusedSimpArgs false
namespace Go.Proofs.Ytnkflgigbielgaa
open Go.RowKit

set_option maxHeartbeats 400000 in
/-- slices.IndexFunc over a table, the test a closure over one pointer, that makes memory and turns none. -/
theorem iIndexFuncR2_c (f : FuncId) (hcf : ∀ (a : Array Value) (W : World), (callFunc f a).run Try.prog W = .ok (.enter f a) W) (cp cq : Value) (v : Value) (G : Nat) (L : Nat → Nat) (T : Nat → Nat → Int) (p : Nat → Bool) (w : World) (h : Tab w v G L T)
    (hf : ∀ i, i < G → ∀ W u, Below w.heap.size w W → Ints W u (L i) (T i) → Calls Try.prog f #[u, cp, cq] W fun e W' => Makes W W' e (.bool (p i))) :
    Calls Try.prog 149 #[v, .func (.func f) #[] #[cp, cq]] w fun e w' => Makes w w' e (.int .i64 (idxB p G)) := by
  obtain ⟨ao, c, b, o, A, C, RB, RO, rfl, p2, p3, p4, p5, p6, p7, p8⟩ := h.out
  have hr := fun i hi => Tab.rowAt p6 p7 p8 (i := i) hi
  have Hr := Lib.hid hr
  have P5 := Lib.hid p5
  have HF := Lib.hid hf
  clear p5 p6 p7 p8 h hf hr
  go_enter Try.func149, Try.ntmps149
  go_wp2
  go_loopg [8] G (fun g i wr => ∃ k : Nat, k ≤ G ∧ g = G - k ∧ i = .int .i64 k ∧ Below w.heap.size w wr ∧ ∀ j, j < k → p j = false)
  case atStart => exact ⟨0, Nat.zero_le _, rfl, rfl, Below.refl _ _, fun j hj => absurd hj (Nat.not_lt_zero _)⟩
  case round =>
    obtain ⟨k, hk, rfl, rfl, hb, hall⟩ := hrel
    have HA := Lib.hid hall; clear hall
    by_cases hlt : k < G
    · obtain rfl := p4 (by omega)
      have e1 : wr.cell? ⟨b, o + k, none⟩ = some (.slice (A k) (L k) (C k)) := by rw [hb.cell (p := ⟨b, o + k, none⟩) (lt_of_cell (P5.out k hlt))]; exact P5.out k hlt
      have hbs := hb.size
      go_wp2_with fail
      refine Calls.makes' (HF.out k hlt _ _ hb ((Hr.out k hlt).below hb)) _ fun w1 hb1 => ?_
      cases hp : p k
      · go_wp2
        go_roundg (G - (k + 1))
        case measure => omega
        case rel => exact ⟨k + 1, by omega, rfl, by go_num, hb.trans (hb1.mono hbs), fun j hj => by
          by_cases e : j = k
          · subst e; exact hp
          · exact HA.out j (by omega)⟩
      · go_wp2
        go_ret
        exact ⟨ret_i64 (idxB_at hlt HA.out hp).symm, hb.trans (hb1.mono hbs)⟩
    · obtain rfl : k = G := by omega
      go_wp2
      go_ret
      exact ⟨ret_i64 (idxB_none HA.out).symm, hb⟩

theorem iContainsFuncR2_c (f : FuncId) (hcf : ∀ (a : Array Value) (W : World), (callFunc f a).run Try.prog W = .ok (.enter f a) W) (cp cq : Value) (v : Value) (G : Nat) (L : Nat → Nat) (T : Nat → Nat → Int) (p : Nat → Bool) (w : World) (h : Tab w v G L T)
    (hf : ∀ i, i < G → ∀ W u, Below w.heap.size w W → Ints W u (L i) (T i) → Calls Try.prog f #[u, cp, cq] W fun e W' => Makes W W' e (.bool (p i))) :
    Calls Try.prog 114 #[v, .func (.func f) #[] #[cp, cq]] w fun e w' => Makes w w' e (.bool (anyB p G)) := by
  have HF := Lib.hid hf
  clear hf
  go_enter Try.func114, Try.ntmps114
  go_wp2_with fail
  refine Calls.makes' (iIndexFuncR2_c f hcf _ _ _ _ _ _ p _ h HF.out) _ fun w1 hb1 => ?_
  go_wp2
  go_ret
  exact ⟨rfl, hb1⟩


set_option maxRecDepth 100000 in
set_option maxHeartbeats 4000000 in
theorem iVectorsGr_c (p : Int) (ao : Option Addr) (n c : Nat) (v1 v2 v3 v4 : Value) (tT : Nat) (w : World) (hpb : 3 ≤ p ∧ p ≤ 13) (hn6 : n ≤ 6) (hT : p ^ n = (tT : Int)) (J : Nat → Nat → World → Prop) (stop : Nat → Bool)
    (H0 : ∀ gv W, Below w.heap.size w W → w.heap.size < gv → gv < W.heap.size → W.cell? ⟨w.heap.size, 0, none⟩ = some (.int .i64 p) → J 0 gv W)
    (HK : ∀ t gv W W', J t gv W → Chg W W' (· = gv) → w.heap.size < gv → J t gv W')
    (HX : ∀ t gv W, J t gv W → W.cell? ⟨w.heap.size, 0, none⟩ = some (.int .i64 p))
    (HF : ∀ t gv W, t < tT → (∀ u, u < t → stop u = false) → w.heap.size < gv → J t gv W → Own W 2 gv n n (fun i => .int .i64 (vecT p n t i)) → Calls Try.prog 152 #[.slice (some ⟨gv, 0, none⟩) n n, v1, v2, v3, v4] W fun e w' => e = .returned (.bool (stop t)) ∧ J (t + 1) gv w' ∧ Own w' 2 gv n n (fun i => .int .i64 (vecT p n t i))) :
    Calls Try.prog 79 #[dbl p (.slice ao n c), .func (.func 152) #[] #[v1, v2, v3, v4]] w fun e w' => ∃ gv, (e = .returned (.bool false) ∧ (∀ t, t < tT → stop t = false) ∧ J tT gv w') ∨ (∃ t, t < tT ∧ e = .returned (.bool true) ∧ stop t = true ∧ (∀ u, u < t → stop u = false) ∧ J (t + 1) gv w') := by
  have hp0 : 1 ≤ tT := by
    have := pow_sm hpb.1 hpb.2 hn6
    omega
  obtain ⟨e0, e1, e2, e3⟩ := box0 w p ao n c 26
  have BX := Lib.hid (box0 w p ao n c 26)
  have HT := Lib.hid hT
  have H0 := Lib.hid H0
  have HK := Lib.hid HK
  have HX := Lib.hid HX
  have HF := Lib.hid HF
  have hmf : ∀ (fn : Fn) (first cap : Array Value) (w : World), (Instr.makeFunc fn first cap).run Try.prog w = .ok (.func fn first cap) w := fun _ _ _ _ => rfl
  clear hT
  go_enter Try.func79, Try.ntmps79
  go_wp2_with fail
  refine Calls.makes' (iDim_c _ _ _ _ _ (by omega)) _ fun w1 hb1 => ?_
  have bx1 := boxKeep hb1 ⟨e0, e1, e2, e3⟩
  have BX1 := Lib.hid bx1
  have hs1 := hb1.size
  have hsb : (w.alloc (.cells #[.int .i64 p, .slice ao n c] 26)).heap.size = w.heap.size + 1 := alloc_size _ _
  clear e0 e1 e2 e3
  go_wp2_with (at_make; refine wpList_mkA _ rfl _ _ _ _ elI rfl rfl .i64 .i64 n rfl rfl (by omega) (by omega) ?_; intro W3 hB3 hS3 hO3; have HS3 := Lib.hid hS3; clear hS3)
  rw [hsb] at hs1
  obtain ⟨bx, hbx⟩ : ∃ bx, w.heap.size = bx := ⟨_, rfl⟩
  obtain ⟨gv, hgv⟩ : ∃ gv, w1.heap.size = gv := ⟨_, rfl⟩
  have hbw3 : Below w.heap.size w W3 := bx1.2.2.2.trans (hB3.mono bx1.2.2.2.size)
  have hbg : bx ≠ gv := by omega
  have hbl : bx < gv := by omega
  rw [hgv] at hO3
  have hv0 : J 0 gv W3 := H0.out gv W3 hbw3 (by omega) hO3.lt (cellKp hB3 bx1.1)
  have HV0 := Lib.hid hv0
  have HO3 : Hid (Own W3 2 gv n n (fun i => .int .i64 (vecT p n 0 i))) := hO3.congr fun i hi => by rw [vecT_zero]
  rw [hbx] at HK HX HF
  rw [hbx, hgv]
  clear hv0 hbw3 hO3 hB3 HS3 hb1 bx1 BX BX1 hsb H0 hs1 hgv
  go_loopg [6] tT (fun g (i : Value) wr => ∃ t : Nat, t < tT ∧ g = tT - t ∧ Hid (J t gv wr) ∧ Hid (Own wr 2 gv n n (fun i => .int .i64 (vecT p n t i))) ∧ Hid (∀ u, u < t → stop u = false))
  case atStart => exact ⟨0, by omega, rfl, HV0.out, HO3.out, fun u hu => absurd hu (Nat.not_lt_zero _)⟩
  case round =>
    obtain ⟨t, ht, rfl, hV, hO, hU⟩ := hrel
    obtain ⟨wo, rfl⟩ : ∃ wo, wo = wr := ⟨_, rfl⟩
    clear HV0 HO3
    obtain ⟨b, hb⟩ : ∃ b, stop t = b := ⟨_, rfl⟩
    have HFt := HF.out t gv wo ht hU.out hbl hV.out hO.out
    rw [hb] at HFt
    have HFt := Lib.hid HFt
    have HB := Lib.hid hb
    clear hb
    cases b
    rotate_left
    · go_wp2_with (go_at_call 152; refine HFt.out.mono ?_; rintro e w5 ⟨rfl, hV5, hO5⟩; have HV5 := Lib.hid hV5; clear hV5 hO5)
      go_ret
      exact ⟨gv, Or.inr ⟨t, ht, rfl, HB.out, hU.out, HV5.out⟩⟩
    go_wp2_with (go_at_call 152; refine HFt.out.mono ?_; rintro e w5 ⟨rfl, hV5, hO5⟩; have HV5 := Lib.hid hV5; have HO5 := Lib.hid hO5; clear hV5 hO5)
    have hU5 : Hid (∀ u, u < t + 1 → stop u = false) := fun u hu => by
      by_cases e : u = t
      · subst e; exact HB.out
      · exact hU.out u (by omega)
    clear HFt HB hU hV hO
    go_loopg [6] n (fun gg i wq => ∃ r : Nat, r ≤ n ∧ r = gg ∧ i = .int .i64 ((r : Int) - 1) ∧ Chg w5 wq (· = gv) ∧ Own wq 2 gv n n (fun i => .int .i64 (clr r (vecT p n t) i)) ∧ Hid (maxFrom p n r (vecT p n t)))
    case atStart => exact ⟨n, Nat.le_refl _, rfl, rfl, Chg.refl _ _, HO5.out.congr fun i hi => by unfold clr; rw [if_neg (by omega)], fun i h1 h2 => absurd h2 (by omega)⟩
    case round =>
      obtain ⟨r, hr, rfl, rfl, hc, hOq, hmx⟩ := hrel
      have yb := hc.cellN hbg (HX.out _ _ _ HV5.out)
      by_cases hlt : 0 < r
      · obtain ⟨i, rfl⟩ : ∃ i, r = i + 1 := ⟨r - 1, by omega⟩
        rw [show (((i + 1 : Nat) : Int) - 1) = (i : Int) by omega]
        have hxi := vecT_in (p := p) (by omega) n t n i (by omega)
        have y1 : wr.cell? ⟨gv, i, none⟩ = some (.int .i64 (vecT p n t i)) := by
          have h := hOq.cell (show i < n by omega)
          rw [h]; unfold clr; rw [if_neg (by omega)]
        obtain ⟨xi, hxe⟩ : ∃ xi, vecT p n t i = xi := ⟨_, rfl⟩
        rw [hxe] at y1 hxi
        have HXE := Lib.hid hxe
        have y2 := hOq.frozen i
        have i1 : (0 : Int) ≤ (i : Int) := by omega
        have i2 : (i : Int) < (n : Int) := by omega
        have hw1 : IntKind.i64.wrap (p - 1) = p - 1 := wrap_in _ (by omega)
        clear hxe
        have HC := Lib.hid hc
        have HOq := Lib.hid hOq
        have HY2 := Lib.hid y2
        by_cases hmax : xi = p - 1
        · have HMX := Lib.hid (HXE.out.trans hmax)
          subst hmax
          have HY1 := Lib.hid y1
          clear hOq hc HXE
          go_wp2
          go_quiet (fail)
          have z1 : (wr.drewN nq).cell? ⟨gv, i, none⟩ = some (.int .i64 (p - 1)) := HY1.out
          have z2 : (wr.drewN nq).frozen? ⟨gv, i, none⟩ = false := HY2.out
          have HC9 : Hid (Chg w5 (wr.drewN nq) (· = gv)) := ⟨HC.out.os, HC.out.tape, HC.out.output, HC.out.size, HC.out.block⟩
          have HO9 := Lib.hid ((HOq.out.drewN nq).set i (.int .i64 0))
          clear yb y1 y2
          go_wp2
          go_roundg i
          case measure => omega
          case rel => exact ⟨i, by omega, rfl, by go_num, HC9.out.setCell (a := ⟨gv, i, none⟩) rfl _, HO9.out.congr fun j hj => by
              unfold clr
              by_cases e : j = i
              · subst e; simp
              · rw [if_neg e]
                by_cases e2 : i + 1 ≤ j
                · rw [if_pos e2, if_pos (by omega)]
                · rw [if_neg e2, if_neg (by omega)], fun j h1 h2 => by
              by_cases e : j = i
              · subst e; exact HMX.out
              · exact hmx.out j (by omega) h2⟩
        · have HMX : Hid (vecT p n t i ≠ p - 1) := fun e => hmax (HXE.out.symm.trans e)
          have hne : decide (xi = p - 1) = false := decide_eq_false hmax
          have HY1 := Lib.hid y1
          have hwx : IntKind.i64.wrap (xi + 1) = xi + 1 := wrap_in _ (by omega)
          clear hOq hc
          go_wp2
          go_quiet (fail)
          have z1 : (wr.drewN nq).cell? ⟨gv, i, none⟩ = some (.int .i64 xi) := HY1.out
          have z2 : (wr.drewN nq).frozen? ⟨gv, i, none⟩ = false := HY2.out
          have HC9 : Hid (Chg w5 (wr.drewN nq) (· = gv)) := ⟨HC.out.os, HC.out.tape, HC.out.output, HC.out.size, HC.out.block⟩
          have HO9 := Lib.hid ((HOq.out.drewN nq).set i (.int .i64 (xi + 1)))
          clear yb y1 y2
          go_wp2
          have hnx := next_vecT (show 1 ≤ p by omega) (t := t) (b := true) (X' := inc i (vecT p n t)) (by rw [HT.out]; omega) (Or.inl ⟨rfl, inc_in (by omega) (vecT_in (by omega) n t n) HMX.out, val_inc (by omega) hmx.out⟩)
          rcases hnx with ⟨_, h1, h2⟩ | ⟨h1, _⟩
          · rw [HT.out] at h1
            go_roundg (tT - (t + 1))
            case measure => omega
            case rel => exact ⟨t + 1, by omega, rfl, HK.out _ _ _ _ HV5.out (HC9.out.setCell (a := ⟨gv, i, none⟩) rfl _) hbl, HO9.out.congr fun j hj => by
                rw [← h2 j hj]
                unfold clr inc
                by_cases e : j = i
                · subst e; rw [if_pos rfl, if_pos rfl, HXE.out]
                · rw [if_neg e, if_neg e]
                  by_cases e2 : i + 1 ≤ j
                  · rw [if_pos e2, if_pos (by omega)]
                  · rw [if_neg e2, if_neg (by omega)], hU5.out⟩
          · exact absurd h1 (by decide)
      · obtain rfl : r = 0 := by omega
        rw [show (((0 : Nat) : Int) - 1) = -1 by omega]
        have HC := Lib.hid hc
        clear hOq hc
        go_wp2
        go_quiet (fail)
        go_wp2
        go_ret
        have HC9 : Hid (Chg w5 (wr.drewN nq) (· = gv)) := ⟨HC.out.os, HC.out.tape, HC.out.output, HC.out.size, HC.out.block⟩
        have hnx := next_vecT (show 1 ≤ p by omega) (t := t) (b := false) (X' := fun _ => 0) (by rw [HT.out]; omega) (Or.inr ⟨rfl, val_top hmx.out⟩)
        rcases hnx with ⟨h1, _⟩ | ⟨_, h1⟩
        · exact absurd h1 (by decide)
        · rw [HT.out] at h1
          obtain rfl : t + 1 = tT := by omega
          exact ⟨gv, Or.inl ⟨rfl, hU5.out, HK.out _ _ _ _ HV5.out HC9.out hbl⟩⟩

set_option maxRecDepth 100000 in
set_option maxHeartbeats 1000000 in
/-- the test of one column: is the product with it other than 0? -/
theorem iGrCol_c (p : Int) (bT bV gv : Nat) (bo : Option Addr) (n d : Nat) (t V : Nat → Int) (u : Value) (X : Nat → Int) (w : World) (ht : SV w (.slice bo n d) p n t) (hV : Vc w (.slice (some ⟨gv, 0, none⟩) n n) p n V) (hX : Vc w u p n X)
    (c0 : w.cell? ⟨bT, 0, none⟩ = some (.int .i64 p)) (c1 : w.cell? ⟨bT, 1, none⟩ = some (.slice bo n d)) (c2 : w.cell? ⟨bV, 0, none⟩ = some (.slice (some ⟨gv, 0, none⟩) n n)) :
    Calls Try.prog 153 #[u, .pointer (some ⟨bT, 0, none⟩), .pointer (some ⟨bV, 0, none⟩)] w fun e w' => Makes w w' e (.bool (!(pairF p t n V X == 0))) := by
  obtain ⟨a, ha⟩ : ∃ a, pairF p t n V X = a := ⟨_, rfl⟩
  have HP : Hid (∀ W, Below w.heap.size w W → Calls Try.prog 64 #[dbl p (.slice bo n d), .slice (some ⟨gv, 0, none⟩) n n, u] W fun e w' => Makes W w' e (.int .i64 a)) := fun W hb => ha ▸ iPair_c p _ _ _ n t V X W (ht.below hb) (hV.below hb) (hX.below hb)
  obtain ⟨xa, xc, b, o, rfl, q2, q3, qx⟩ := hX.ints.out
  rw [ha]
  clear ht hV hX qx ha
  go_enter Try.func153, Try.ntmps153
  go_wp2_with fail
  go_at_call 64
  refine Calls.makes' (HP.out _ (by first | exact Below.refl _ _ | exact below_drewN _ _)) _ fun w1 hb1 => ?_
  have hf : Below w.heap.size w w1 := by first | exact hb1 | exact (below_drewN _ _).trans (hb1.mono (below_drewN _ _).size)
  go_wp2
  go_ret
  exact ⟨rfl, hf⟩

/-- rows: a list that is owned, from block B on, or nil -/
structure ORow (w : World) (B : Nat) (ao : Option Addr) (c m : Nat) (V : Nat → Value) : Prop where
  out : (ao = none ∧ m = 0 ∧ c = 0) ∨ ∃ g, ao = some ⟨g, 0, none⟩ ∧ B ≤ g ∧ Own w 24 g c m V
theorem ORow.kept {w w' : World} {B : Nat} {ao : Option Addr} {c m : Nat} {V : Nat → Value} (h : ORow w B ao c m V) (hb : Below w.heap.size w w') : ORow w' B ao c m V := by
  rcases h.out with h | ⟨g, h1, h2, h3⟩
  · exact ⟨Or.inl h⟩
  · exact ⟨Or.inr ⟨g, h1, h2, h3.kept hb⟩⟩

theorem ORow.lb {w : World} {B : Nat} {ao : Option Addr} {c m : Nat} {V : Nat → Value} (h : ORow w B ao c m V) {x : Nat} (hx : LB (.slice ao m c) x) : B ≤ x ∧ x < w.heap.size := by
  rcases h.out with ⟨rfl, rfl, rfl⟩ | ⟨g, rfl, hg, hO⟩
  · exact absurd hx LB_none
  · have e := LB_some.1 hx
    have := hO.lt
    omega

theorem run_pushR (w : World) (B : Nat) (a : Option Addr) (c n : Nat) (V : Nat → Value) (u : Value) (ty : TypeId) (hB : B ≤ w.heap.size) (h : ORow w B a c n V) (hn : n ≤ 1000000000) (h1 : u.oneCell' = true) :
    ∃ g' c' w', (Builtin.append_ #[39, 39] ty #[.slice a n c, .slice (some ⟨w.heap.size, 0, none⟩) 1 1]).run Try.prog (w.alloc (.cells #[u] 24)) = .ok (.slice (some ⟨g', 0, none⟩) (n + 1) c') w' ∧
      B ≤ g' ∧ Own w' 24 g' c' (n + 1) (fun j => if j = n then u else V j) ∧ Chg w w' (LB (.slice a n c)) := by
  have hcell : ∀ j, j < 1 → (w.alloc (.cells #[u] 24)).cell? ⟨w.heap.size, 0 + j, none⟩ = some ((fun _ => u) j) := fun j hj => by
    obtain rfl : j = 0 := by omega
    simp
  rcases h.out with ⟨rfl, rfl, rfl⟩ | ⟨g, rfl, hg, hO⟩
  · obtain ⟨i, hi, hz0, hz1, hz2⟩ := info_parts (elR).info
    have hr := run_append_nil (P := Try.prog) (w.alloc (.cells #[u] 24)) 39 ty 24 i (.slice none 0 0) (elR).und hi hz0 ⟨w.heap.size, 0, none⟩ 1 1 [u] (by simp [hz1]) (fun j v hu => by
      obtain ⟨hlt, he⟩ := List.getElem?_eq_some_iff.1 hu
      have hj : j = 0 := by simpa using hlt
      subst hj
      rw [← he, Addr.add_lit]
      simp) (by omega) (by omega) (by rw [hz2]; omega)
    have hge := grownCap_ge (w.alloc (.cells #[u] 24)) 1 0 24
    have hcm : grownCap (w.alloc (.cells #[u] 24)) 1 0 24 ≤ maxLen := grownCap_le_maxLen _ 1 0 _ (by unfold maxLen; omega)
    unfold maxLen at hcm
    refine ⟨_, _, _, hr, ?_, ⟨⟨_, heap_alloc_new (w.alloc (.cells #[u] 24)).drew _, ?_, ?_⟩, hge, by omega⟩, ?_⟩
    · simp; omega
    · have := size_zeroCells (Value.slice none 0 0).cells (grownCap (w.alloc (.cells #[u] 24)) 1 0 24 - 1)
      rw [(elR).one] at this
      simp only [Array.size_append, List.size_toArray, this]
      simp; omega
    · intro j hj
      obtain rfl : j = 0 := by omega
      rw [Array.getElem?_append_left (by simp)]
      simp
    · exact Chg.of_below (((((Below.refl _ _).alloc (Nat.le_refl _) _ : Below w.heap.size w (w.alloc (.cells #[u] 24))).trans ((drewB _).mono (by simp))).alloc (by simp) _)) _
  · obtain ⟨g', cap', w', hr, h2, h3, h4⟩ := run_app (P := Try.prog) (w.alloc (.cells #[u] 24)) elR ty (hO.alloc _) w.heap.size 0 1 1 (fun _ => u) hcell (fun _ _ => h1) (by omega) (by omega)
    have hs4 := h4.size
    simp only [alloc_size] at hs4 h3
    refine ⟨g', cap', w', hr, by omega, h2.congr fun j hj => ?_, ⟨h4.os, h4.tape, h4.output, by omega, fun k hk hne => (h4.block k (by simp; omega) (fun e => by injection e with e; exact hne (LB_some.2 e))).trans (Below.heap_alloc _ _ _ hk)⟩⟩
    by_cases e : j = n
    · subst e; simp
    · rw [if_pos (by omega), if_neg e]
theorem step_pushR {ops : Array Oper} {o : Oper} {a : Act} {w : World} {K : Act → World → Prop} {Q : Exit → Act → World → Prop} {E : Prop} (hgd : o.guard = none) (s x : Operand)
    (ho : o.op = .call { callee := .builtin .append, args := #[s, x], argTypes := #[39, 39] })
    {B c n : Nat} {ao : Option Addr} {V : Nat → Value} (hB : B ≤ w.heap.size) (hown : ORow w B ao c n V) (hn : n ≤ 1000000000) (u : Value) (hs : a.eval s = .slice ao n c) (hx : a.eval x = .slice (some ⟨w.heap.size, 0, none⟩) 1 1) (h1 : u.oneCell' = true)
    (h : ∀ g' c' w', B ≤ g' → Own w' 24 g' c' (n + 1) (fun j => if j = n then u else V j) → Chg w w' (LB (.slice ao n c)) → K (a.put o.dst (.slice (some ⟨g', 0, none⟩) (n + 1) c')) w') :
    if Region.wanted o (yielded ops a.tmps) = true then Oper.wp Try.prog o a (w.alloc (.cells #[u] 24)) K Q else E := by
  have hw : Region.wanted o (yielded ops a.tmps) = true := by simp [Region.wanted, hgd]
  rw [if_pos hw]
  obtain ⟨g', c', w', hr, h2, h3, h4⟩ := run_pushR w B ao c n V u o.type hB hown hn h1
  unfold Oper.wp execOp
  simp only [ho, resolve, invoke, builtin, Sem.run_bind, Sem.run_pure, Result.andThen_ok, List.map_toArray, List.map_cons, List.map_nil, hs, hx, hr, Oper.upon_value]
  exact h g' c' w' h2 h3 h4

/-- a copy of a list of rows: the rows are shared -/
theorem iCloneRow_c (b o c m : Nat) (V : Nat → Value) (w : World) (h1 : 1 ≤ m) (hm : m ≤ 1048576) (hV : ∀ i, i < m → w.cell? ⟨b, o + i, none⟩ = some (V i)) (hone : ∀ i, i < m → (V i).oneCell' = true) :
    Calls Try.prog 154 #[.slice (some ⟨b, o, none⟩) m c] w fun e w' => ∃ ao c', e = .returned (.slice ao m c') ∧ Below w.heap.size w w' ∧ ORow w' w.heap.size ao c' m V := by
  have ba : Below w.heap.size w (w.alloc (.cells #[] 24)) := (Below.refl _ _).alloc (Nat.le_refl _) _
  have hcells : ∀ j, j < m → (w.alloc (.cells #[] 24)).cell? ⟨b, o + j, none⟩ = some (V j) := fun j hj => cellKp ba (hV j hj)
  have hE : Own (w.alloc (.cells #[] 24)) 24 w.heap.size 0 0 V := Own.empty _ _ _
  have BA := Lib.hid ba
  have HC := Lib.hid hcells
  have HN := Lib.hid hone
  clear hV ba hcells hone
  have hnil : ∀ W : World, (binOp .eql 39 (.slice (some ⟨b, o, none⟩) m c) (.slice none 0 0)).run Try.prog W = .ok (.bool false) W := fun W => Lib.run_eql_slice_some_nil W _ _ _ Try.underlying39
  go_enter Try.func154, Try.ntmps154
  go_wp2_with (at_builtin; refine wpList_app _ rfl _ _ _ _ elR rfl hE rfl b o m c _ rfl HC.out HN.out (by omega) (by omega) ?_; intro g9 c9 w9 hO9 hg9 hgr9)
  have hs := BA.out.size
  go_ret
  rw [Nat.zero_add] at hO9
  exact ⟨some ⟨g9, 0, none⟩, c9, rfl, BA.out.grown hgr9 hs (fun k e => by injection e with e; omega), ⟨Or.inr ⟨g9, rfl, by omega, hO9.congr fun i hi => by rw [if_neg (by omega), Nat.sub_zero]⟩⟩⟩
theorem iCloneRow0_c (w : World) (V : Nat → Value) :
    Calls Try.prog 154 #[.slice none 0 0] w fun e w' => ∃ ao c', e = .returned (.slice ao 0 c') ∧ Below w.heap.size w w' ∧ ORow w' w.heap.size ao c' 0 V := by
  have hnil : ∀ W : World, (binOp .eql 39 (.slice none 0 0) (.slice none 0 0)).run Try.prog W = .ok (.bool true) W := fun W => Lib.run_eql_slice_nil_nil W _ _ Try.underlying39
  go_enter Try.func154, Try.ntmps154
  go_wp2
  go_ret
  exact ⟨none, 0, rfl, Below.refl _ _, ⟨Or.inl ⟨rfl, rfl, rfl⟩⟩⟩

theorem k2Chg2 {W W' : World} {T : Nat → Prop} {a1 a2 o1 o2 : Nat} {v1 v2 : Value} (hc : Chg W W' T) (h1 : ¬ T a1) (h2 : ¬ T a2) (h : W.cell? ⟨a1, o1, none⟩ = some v1 ∧ W.cell? ⟨a2, o2, none⟩ = some v2) :
    W'.cell? ⟨a1, o1, none⟩ = some v1 ∧ W'.cell? ⟨a2, o2, none⟩ = some v2 := ⟨hc.cellK h1 h.1, hc.cellK h2 h.2⟩
/-- what is asked of a call of growOrthogonal -/
def IGrow (p : Int) (s : Nat → Int) (n tT d : Nat) : Prop := ∀ (sv cv lv : Value) (C : Nat → Nat → Int) (Xs : List (Nat → Nat → Int)) (S : Nat → Prop) (w : World),
  (∀ W, Chg w W (LB lv) → SV W sv p n s) → TabA w (LB lv) cv (n - d) n C → (n - d = 0 → cv = .slice none 0 0) → (∀ i, i < n - d → InP p n (C i)) → OL w S lv n Xs → (∀ x, S x → x < w.heap.size) → Xs.length + (growT p s n tT d C).length ≤ 100000000 →
  Calls Try.prog 122 #[dbl p sv, cv, lv] w fun e w' => GrowR w w' e S lv n (Xs ++ growT p s n tT d C)

/-- the boxes of growOrthogonal -/
structure BoxG (w : World) (p : Int) (ao : Option Addr) (n c : Nat) (cv lv : Value) (m : Int) (bi : Nat) (W : World) : Prop where
  c0 : W.cell? ⟨w.heap.size, 0, none⟩ = some (.int .i64 p)
  c1 : W.cell? ⟨w.heap.size, 1, none⟩ = some (.slice ao n c)
  cc : W.cell? ⟨w.heap.size + 1, 0, none⟩ = some cv
  co : W.cell? ⟨w.heap.size + 1 + 1, 0, none⟩ = some lv
  ci : W.cell? ⟨bi, 0, none⟩ = some (.int .i64 m)
  fo : W.frozen? ⟨w.heap.size + 1 + 1, 0, none⟩ = false
  ord : w.heap.size + 1 + 1 < bi ∧ bi < W.heap.size
  below : Below w.heap.size w W
theorem frzKp {W W' : World} {b o : Nat} (hb : Below W.heap.size W W') (hl : b < W.heap.size) : W'.frozen? ⟨b, o, none⟩ = W.frozen? ⟨b, o, none⟩ := World.frozen?_of_block (hb.block b hl)
theorem BoxG.kept {w W W' : World} {p : Int} {ao : Option Addr} {n c : Nat} {cv lv : Value} {m : Int} {bi : Nat} (h : BoxG w p ao n c cv lv m bi W) (hb : Below W.heap.size W W') : BoxG w p ao n c cv lv m bi W' :=
  ⟨cellKp hb h.c0, cellKp hb h.c1, cellKp hb h.cc, cellKp hb h.co, cellKp hb h.ci, (frzKp hb (lt_of_cell h.co)).trans h.fo, by have := h.ord; have := hb.size; omega, h.below.trans (hb.mono h.below.size)⟩
/-- the first three boxes, and then the fourth -/
theorem boxG3 (w : World) (p : Int) (ao : Option Addr) (n c : Nat) (cv lv : Value) {W : World} (hW : ((w.alloc (.cells #[.int .i64 p, .slice ao n c] 26)).alloc (.cells #[cv] 39)).alloc (.cells #[lv] 70) = W) :
    W.cell? ⟨w.heap.size, 0, none⟩ = some (.int .i64 p) ∧ W.cell? ⟨w.heap.size, 1, none⟩ = some (.slice ao n c) ∧ W.cell? ⟨w.heap.size + 1, 0, none⟩ = some cv ∧ W.cell? ⟨w.heap.size + 1 + 1, 0, none⟩ = some lv ∧ W.frozen? ⟨w.heap.size + 1 + 1, 0, none⟩ = false ∧ W.heap.size = w.heap.size + 1 + 1 + 1 ∧ Below w.heap.size w W := by
  subst hW
  obtain ⟨e0, e1, e2, e3⟩ := box0 w p ao n c 26
  have s1 : (w.alloc (.cells #[.int .i64 p, .slice ao n c] 26)).heap.size = w.heap.size + 1 := alloc_size _ _
  obtain ⟨W1, h1⟩ : ∃ W1, w.alloc (.cells #[.int .i64 p, .slice ao n c] 26) = W1 := ⟨_, rfl⟩
  rw [h1] at e0 e1 e2 e3 s1 ⊢
  have b2 : Below W1.heap.size W1 (W1.alloc (.cells #[cv] 39)) := (Below.refl _ _).alloc (Nat.le_refl _) _
  have o2 := Own.new W1 39 #[cv] (fun _ => cv) (by simp) (fun i hi => by
    obtain rfl : i = 0 := by simp at hi; omega
    rfl)
  have c2 := o2.cell (i := 0) (by simp)
  have s2 : (W1.alloc (.cells #[cv] 39)).heap.size = W1.heap.size + 1 := alloc_size _ _
  obtain ⟨W2, h2⟩ : ∃ W2, W1.alloc (.cells #[cv] 39) = W2 := ⟨_, rfl⟩
  rw [h2] at b2 c2 s2 ⊢
  have b3 : Below W2.heap.size W2 (W2.alloc (.cells #[lv] 70)) := (Below.refl _ _).alloc (Nat.le_refl _) _
  have o3 := Own.new W2 70 #[lv] (fun _ => lv) (by simp) (fun i hi => by
    obtain rfl : i = 0 := by simp at hi; omega
    rfl)
  have c3 := o3.cell (i := 0) (by simp)
  have f3 := o3.frozen 0
  have s3 : (W2.alloc (.cells #[lv] 70)).heap.size = W2.heap.size + 1 := alloc_size _ _
  rw [s1] at c2
  rw [s2, s1] at c3 f3
  exact ⟨cellKp b3 (cellKp b2 e0), cellKp b3 (cellKp b2 e1), cellKp b3 c2, c3, f3, by omega, e3.trans ((b2.mono e3.size).trans (b3.mono (by omega)))⟩
theorem boxG4 (w : World) (p : Int) (ao : Option Addr) (n c : Nat) (cv lv : Value) (m : Int) {W : World} (hW : (((w.alloc (.cells #[.int .i64 p, .slice ao n c] 26)).alloc (.cells #[cv] 39)).alloc (.cells #[lv] 70)).alloc (.cells #[.int .i64 m] 3) = W) :
    BoxG w p ao n c cv lv m (w.heap.size + 1 + 1 + 1) W := by
  subst hW
  obtain ⟨W3, hW3⟩ : ∃ W, ((w.alloc (.cells #[.int .i64 p, .slice ao n c] 26)).alloc (.cells #[cv] 39)).alloc (.cells #[lv] 70) = W := ⟨_, rfl⟩
  obtain ⟨h0, h1, h2, h3, h4, h5, h6⟩ := boxG3 w p ao n c cv lv hW3
  rw [hW3]
  have b4 : Below W3.heap.size W3 (W3.alloc (.cells #[.int .i64 m] 3)) := (Below.refl _ _).alloc (Nat.le_refl _) _
  have o4 := Own.new W3 3 #[.int .i64 m] (fun _ => .int .i64 m) (by simp) (fun i hi => by
    obtain rfl : i = 0 := by simp at hi; omega
    rfl)
  have s4 : (W3.alloc (.cells #[.int .i64 m] 3)).heap.size = W3.heap.size + 1 := alloc_size _ _
  have c4 := o4.cell (i := 0) (by simp)
  rw [h5] at c4
  exact ⟨cellKp b4 h0, cellKp b4 h1, cellKp b4 h2, cellKp b4 h3, c4, (frzKp b4 (lt_of_cell h3)).trans h4, ⟨by omega, by omega⟩, h6.trans (b4.mono h6.size)⟩

end Go.Proofs.Ytnkflgigbielgaa

/-
  The program's growOrthogonal: its closure, and the list of all orthogonal matrices that begin with some columns. No condition beside sizes.
-/
set_option linter.unusedVariables false
set_option linter.unusedSimpArgs false
namespace Go.Proofs.Ytnkflgigbielgaa
open Go.RowKit

set_option maxRecDepth 100000 in
set_option maxHeartbeats 4000000 in
theorem iGrow0_c (p : Int) (s : Nat → Int) (n tT : Nat) : IGrow p s n tT 0 := by
  intro sv cv lv C Xs S w hs hc hnil hC hl hS hN
  rw [Nat.sub_zero] at hc hC
  have hd := hs w (Chg.refl _ _)
  have hn6 := hd.ok.n6
  have hn1 := hd.ok.n1
  obtain ⟨ao, c, b, o, rfl, p2, p3, p4, p5⟩ := hd.ints.out
  have HT : Hid (∀ W, Below w.heap.size w W → Tab W cv n (fun _ => n) C) := fun W hb => hc.tab.below hb
  obtain ⟨cao, cc, cb, co, A, CC, RB, RO, rfl, q2, q3, q4, q5, q6, q7⟩ := hc.out
  have HTU : Hid (∀ W, Below w.heap.size w W → Calls Try.prog 116 #[.slice cao n cc] W fun e w' => CopyT W w' e n (fun _ => n) (fun k i => C i k)) := fun W hb => iTranspose_c _ n n (fun _ => n) C W (HT.out W hb) (by omega) (by omega) (by omega) rfl (fun i hi => Nat.le_refl _)
  have HL := Lib.hid hl
  have HS := Lib.hid hS
  have hlen : Xs.length ≤ 1000000000 := by omega
  have hg : growT p s n tT 0 C = [fun i k => C k i] := rfl
  rw [hg]
  have hlb : ∀ x, LB lv x → x < w.heap.size := fun x hx => (hl.lb hx).1
  have HLB := Lib.hid hlb
  obtain ⟨W5, hW5⟩ : ∃ W, (((w.alloc (.cells #[.int .i64 p, .slice ao n c] 26)).alloc (.cells #[.slice cao n cc] 39)).alloc (.cells #[lv] 70)).alloc (.cells #[.int .i64 (n : Int)] 3) = W := ⟨_, rfl⟩
  have b4 := boxG4 w p ao n c (.slice cao n cc) lv (n : Int) hW5
  have BG5 := Lib.hid b4
  have HW5 := Lib.hid hW5
  have H4 : Hid (W5.cell? ⟨w.heap.size, 0, none⟩ = some (.int .i64 p) ∧ W5.cell? ⟨w.heap.size, 1, none⟩ = some (.slice ao n c) ∧ W5.cell? ⟨w.heap.size + 1 + 1 + 1, 0, none⟩ = some (.int .i64 (n : Int)) ∧ Below W5.heap.size W5 W5) := ⟨b4.c0, b4.c1, b4.ci, Below.refl _ _⟩
  obtain ⟨la, lc, hlv⟩ := hl.val
  obtain ⟨ln, hln⟩ : ∃ k, Xs.length = k := ⟨_, rfl⟩
  rw [hln] at hlv hlen
  have HLN := Lib.hid hln
  subst hlv
  clear hs hc hnil hC hl hS hd p4 p5 q3 q4 q5 q6 q7 hN hg hlb b4 hW5 hln
  go_enter Try.func122, Try.ntmps122
  go_wp2
  rw [HW5.out]
  go_region_held3 (fun W => W.cell? ⟨w.heap.size, 0, none⟩ = some (.int .i64 p) ∧ W.cell? ⟨w.heap.size, 1, none⟩ = some (.slice ao n c) ∧ W.cell? ⟨w.heap.size + 1 + 1 + 1, 0, none⟩ = some (.int .i64 (n : Int)) ∧ Below W5.heap.size W5 W)
    ((first | assumption | exact k3Keep (drewB _) H4.out | exact k3Keep (by assumption) (by assumption)))
    ((first
      | (go_at_call 92; refine Calls.makes' (iDim_c _ _ _ _ _ (by omega)) _ fun v4 hv4 => ?_)))
  rename_i hHeld
  have bg := BG5.out.kept (k3Below hHeld)
  have hbw := bg.below
  have HK0 : Hid (v4.drew.cell? ⟨w.heap.size + 1, 0, none⟩ = some (.slice cao n cc) ∧ v4.drew.cell? ⟨w.heap.size + 1 + 1, 0, none⟩ = some (.slice la ln lc)) := ⟨cellKp (drewB _) bg.cc, cellKp (drewB _) bg.co⟩
  have hbd : Below w.heap.size w v4.drew := hbw.trans ((drewB _).mono hbw.size)
  have HBD := Lib.hid hbd
  clear hHeld bg hbw hbd H4 BG5 HW5
  go_wp2
  go_region_held3 (fun W => W.cell? ⟨w.heap.size + 1, 0, none⟩ = some (.slice cao n cc) ∧ W.cell? ⟨w.heap.size + 1 + 1, 0, none⟩ = some (.slice la ln lc))
    ((first | assumption | exact HK0.out | exact k2Keep (by assumption) (by assumption) | exact k2Keep ((Below.refl _ _).alloc (Nat.le_refl _) _) (by assumption)))
    ((first
      | (go_at_call 116; refine (HTU.out _ HBD.out).mono ?_; rintro e w4 ⟨g4, c4, rfl, hb4, hT4⟩; have hb5 := HBD.out.trans (hb4.mono HBD.out.size); have hS4 := k2Keep hb4 HK0.out; have hss := HBD.out.size)
      | (refine step_push3 w _ rfl _ _ rfl HL.out HS.out hb5 hT4.bound hss (Nat.le_refl _) (by rw [HLN.out]; exact hlen) rfl rfl ?_; intro lv' w6 hL6 hC6 hB6; have hS6 := k2Chg2 hC6 (fun e => absurd (HLB.out _ e) (by omega)) (fun e => absurd (HLB.out _ e) (by omega)) hS4)))
  all_goals go_wp2
  all_goals go_ret
  all_goals
    have hs5 := hb5.size
    exact ⟨lv', rfl, hL6, (Chg.of_below hb5 _).trans2 hC6 (fun x e => Or.inl e), fun x hx => by rcases hB6 x hx with e | e; exact Or.inl e; exact Or.inr (by omega)⟩

theorem k4Keep {W W' : World} {a1 a2 a3 a4 o1 o2 o3 o4 : Nat} {v1 v2 v3 v4 : Value} (hb : Below W.heap.size W W') (h : W.cell? ⟨a1, o1, none⟩ = some v1 ∧ W.cell? ⟨a2, o2, none⟩ = some v2 ∧ W.cell? ⟨a3, o3, none⟩ = some v3 ∧ W.cell? ⟨a4, o4, none⟩ = some v4) :
    W'.cell? ⟨a1, o1, none⟩ = some v1 ∧ W'.cell? ⟨a2, o2, none⟩ = some v2 ∧ W'.cell? ⟨a3, o3, none⟩ = some v3 ∧ W'.cell? ⟨a4, o4, none⟩ = some v4 := ⟨cellKp hb h.1, cellKp hb h.2.1, cellKp hb h.2.2.1, cellKp hb h.2.2.2⟩
theorem s4Put {W : World} {a1 a2 a3 a4 o1 o2 o3 o4 g : Nat} {v1 v2 v3 v4 u : Value} (h : W.cell? ⟨a1, o1, none⟩ = some v1 ∧ W.cell? ⟨a2, o2, none⟩ = some v2 ∧ W.cell? ⟨a3, o3, none⟩ = some v3 ∧ W.cell? ⟨a4, o4, none⟩ = some v4) (hne : g ≠ a1 ∧ g ≠ a2 ∧ g ≠ a3 ∧ g ≠ a4) :
    (W.setCell ⟨g, 0, none⟩ u).cell? ⟨a1, o1, none⟩ = some v1 ∧ (W.setCell ⟨g, 0, none⟩ u).cell? ⟨a2, o2, none⟩ = some v2 ∧ (W.setCell ⟨g, 0, none⟩ u).cell? ⟨a3, o3, none⟩ = some v3 ∧ (W.setCell ⟨g, 0, none⟩ u).cell? ⟨a4, o4, none⟩ = some v4 :=
  ⟨(World.cell?_setCell_other W _ _ u (fun e => by injection e with e _ _; exact hne.1 e)).trans h.1, (World.cell?_setCell_other W _ _ u (fun e => by injection e with e _ _; exact hne.2.1 e)).trans h.2.1, (World.cell?_setCell_other W _ _ u (fun e => by injection e with e _ _; exact hne.2.2.1 e)).trans h.2.2.1, (World.cell?_setCell_other W _ _ u (fun e => by injection e with e _ _; exact hne.2.2.2 e)).trans h.2.2.2⟩
theorem k6Keep {w W W' : World} {a1 a2 a3 a4 a5 a6 o1 o2 o3 o4 o5 o6 : Nat} {v1 v2 v3 v4 v5 v6 : Value} (hb : Below W.heap.size W W')
    (h : W.cell? ⟨a1, o1, none⟩ = some v1 ∧ W.cell? ⟨a2, o2, none⟩ = some v2 ∧ W.cell? ⟨a3, o3, none⟩ = some v3 ∧ W.cell? ⟨a4, o4, none⟩ = some v4 ∧ W.cell? ⟨a5, o5, none⟩ = some v5 ∧ W.cell? ⟨a6, o6, none⟩ = some v6 ∧ Below w.heap.size w W) :
    W'.cell? ⟨a1, o1, none⟩ = some v1 ∧ W'.cell? ⟨a2, o2, none⟩ = some v2 ∧ W'.cell? ⟨a3, o3, none⟩ = some v3 ∧ W'.cell? ⟨a4, o4, none⟩ = some v4 ∧ W'.cell? ⟨a5, o5, none⟩ = some v5 ∧ W'.cell? ⟨a6, o6, none⟩ = some v6 ∧ Below w.heap.size w W' :=
  ⟨cellKp hb h.1, cellKp hb h.2.1, cellKp hb h.2.2.1, cellKp hb h.2.2.2.1, cellKp hb h.2.2.2.2.1, cellKp hb h.2.2.2.2.2.1, h.2.2.2.2.2.2.trans (hb.mono h.2.2.2.2.2.2.size)⟩
theorem k6Below {w W : World} {a1 a2 a3 a4 a5 a6 o1 o2 o3 o4 o5 o6 : Nat} {v1 v2 v3 v4 v5 v6 : Value}
    (h : W.cell? ⟨a1, o1, none⟩ = some v1 ∧ W.cell? ⟨a2, o2, none⟩ = some v2 ∧ W.cell? ⟨a3, o3, none⟩ = some v3 ∧ W.cell? ⟨a4, o4, none⟩ = some v4 ∧ W.cell? ⟨a5, o5, none⟩ = some v5 ∧ W.cell? ⟨a6, o6, none⟩ = some v6 ∧ Below w.heap.size w W) : Below w.heap.size w W := h.2.2.2.2.2.2
theorem k6V {w W : World} {a1 a2 a3 a4 a5 a6 o1 o2 o3 o4 o5 o6 : Nat} {v1 v2 v3 v4 v5 v6 : Value}
    (h : W.cell? ⟨a1, o1, none⟩ = some v1 ∧ W.cell? ⟨a2, o2, none⟩ = some v2 ∧ W.cell? ⟨a3, o3, none⟩ = some v3 ∧ W.cell? ⟨a4, o4, none⟩ = some v4 ∧ W.cell? ⟨a5, o5, none⟩ = some v5 ∧ W.cell? ⟨a6, o6, none⟩ = some v6 ∧ Below w.heap.size w W) : W.cell? ⟨a3, o3, none⟩ = some v3 := h.2.2.1

/-- what stands while the closure runs -/
structure GJ (w0 : World) (p : Int) (s : Nat → Int) (n tT d : Nat) (C : Nat → Nat → Int) (Xs : List (Nat → Nat → Int)) (S : Nat → Prop) (ao : Option Addr) (c : Nat) (cv lv : Value) (m : Int) (bi bx gv t : Nat) (W : World) : Prop where
  c0 : W.cell? ⟨w0.heap.size, 0, none⟩ = some (.int .i64 p)
  c1 : W.cell? ⟨w0.heap.size, 1, none⟩ = some (.slice ao n c)
  cc : W.cell? ⟨w0.heap.size + 1, 0, none⟩ = some cv
  ci : W.cell? ⟨bi, 0, none⟩ = some (.int .i64 m)
  cx : W.cell? ⟨bx, 0, none⟩ = some (.int .i64 p)
  fo : W.frozen? ⟨w0.heap.size + 1 + 1, 0, none⟩ = false
  ord : w0.heap.size + 1 + 1 < bi ∧ bi < bx ∧ bx < gv ∧ gv < W.heap.size
  chg : Chg w0 W (LB lv)
  list : ∃ lvr, W.cell? ⟨w0.heap.size + 1 + 1, 0, none⟩ = some lvr ∧ OL W (fun x => S x ∨ (w0.heap.size ≤ x ∧ x ≤ gv)) lvr n (Xs ++ growU p s n tT d C t) ∧ ∀ x, LB lvr x → LB lv x ∨ w0.heap.size ≤ x
theorem GJ.kept {w0 : World} {p : Int} {s : Nat → Int} {n tT d : Nat} {C : Nat → Nat → Int} {Xs : List (Nat → Nat → Int)} {S : Nat → Prop} {ao : Option Addr} {c : Nat} {cv lv : Value} {m : Int} {bi bx gv t : Nat} {W W' : World} (h : GJ w0 p s n tT d C Xs S ao c cv lv m bi bx gv t W) (hb : Below W.heap.size W W') : GJ w0 p s n tT d C Xs S ao c cv lv m bi bx gv t W' := by
  obtain ⟨lvr, h1, h2, h3⟩ := h.list
  obtain ⟨o1, o2, o3, o4⟩ := h.ord
  exact ⟨cellKp hb h.c0, cellKp hb h.c1, cellKp hb h.cc, cellKp hb h.ci, cellKp hb h.cx, (frzKp hb (lt_of_cell h1)).trans h.fo, ⟨o1, o2, o3, by have := hb.size; omega⟩, h.chg.trans (Chg.of_below hb _), lvr, cellKp hb h1, h2.kept hb, h3⟩
theorem GJ.chgV {w0 : World} {p : Int} {s : Nat → Int} {n tT d : Nat} {C : Nat → Nat → Int} {Xs : List (Nat → Nat → Int)} {S : Nat → Prop} {ao : Option Addr} {c : Nat} {cv lv : Value} {m : Int} {bi bx gv t : Nat} {W W' : World} (h : GJ w0 p s n tT d C Xs S ao c cv lv m bi bx gv t W) (hc : Chg W W' (· = gv)) : GJ w0 p s n tT d C Xs S ao c cv lv m bi bx gv t W' := by
  obtain ⟨lvr, h1, h2, h3⟩ := h.list
  obtain ⟨o1, o2, o3, o4⟩ := h.ord
  refine ⟨hc.cellN (by omega) h.c0, hc.cellN (by omega) h.c1, hc.cellN (by omega) h.cc, hc.cellN (by omega) h.ci, hc.cellN (by omega) h.cx, ?_, ⟨o1, o2, o3, by have := hc.size; omega⟩, h.chg.trans2 hc (fun x e => Or.inr (by have e : x = gv := e; omega)), lvr, hc.cellN (by omega) h1, h2.chg hc (fun x e => Or.inl (Or.inr (by have e : x = gv := e; omega))), h3⟩
  exact (World.frozen?_of_block (hc.block _ (lt_of_cell h1) (fun e => by have e : w0.heap.size + 1 + 1 = gv := e; omega))).trans h.fo
theorem BoxG.gj {w0 V W : World} {p : Int} {s : Nat → Int} {n tT d : Nat} {C : Nat → Nat → Int} {Xs : List (Nat → Nat → Int)} {S : Nat → Prop} {ao : Option Addr} {c : Nat} {cv lv : Value} {m : Int} {bi gv : Nat} (h : BoxG w0 p ao n c cv lv m bi V) (hl : OL w0 S lv n Xs) (hb : Below V.heap.size V W) (h1 : V.heap.size < gv) (h2 : gv < W.heap.size) (hx : W.cell? ⟨V.heap.size, 0, none⟩ = some (.int .i64 p)) : GJ w0 p s n tT d C Xs S ao c cv lv m bi V.heap.size gv 0 W := by
  have h' := h.kept hb
  exact ⟨h'.c0, h'.c1, h'.cc, h'.ci, hx, h'.fo, ⟨h.ord.1, h.ord.2, h1, h2⟩, Chg.of_below h'.below _, lv, h'.co, by rw [growU_zero, List.append_nil]; exact (hl.to (fun x hx => by rcases hx with e | e; exact Or.inl e; exact Or.inr e.1)).kept h'.below, fun x e => Or.inl e⟩
/-- behind the call and the store -/
theorem GJ.fin {w0 : World} {p : Int} {s : Nat → Int} {n tT d : Nat} {C : Nat → Nat → Int} {Xs : List (Nat → Nat → Int)} {S : Nat → Prop} {ao : Option Addr} {c : Nat} {cv lv lvr lv' : Value} {m : Int} {bi bx gv t t' : Nat} {W W' : World} (h : GJ w0 p s n tT d C Xs S ao c cv lv m bi bx gv t W) (y1 : W.cell? ⟨w0.heap.size + 1 + 1, 0, none⟩ = some lvr) (y2 : OL W (fun x => S x ∨ (w0.heap.size ≤ x ∧ x ≤ gv)) lvr n (Xs ++ growU p s n tT d C t)) (y3 : ∀ x, LB lvr x → LB lv x ∨ w0.heap.size ≤ x)
    (hc : Chg W W' (LB lvr)) (hL : OL W' (fun x => S x ∨ (w0.heap.size ≤ x ∧ x ≤ gv)) lv' n (Xs ++ growU p s n tT d C t')) (hlb : ∀ x, LB lv' x → LB lvr x ∨ W.heap.size ≤ x) :
    (W'.cell? ⟨w0.heap.size, 0, none⟩ = some (.int .i64 p) ∧ W'.cell? ⟨w0.heap.size, 1, none⟩ = some (.slice ao n c) ∧ W'.cell? ⟨w0.heap.size + 1, 0, none⟩ = some cv) ∧ W'.cell? ⟨w0.heap.size + 1 + 1, 0, none⟩ = some lvr ∧ W'.frozen? ⟨w0.heap.size + 1 + 1, 0, none⟩ = false ∧ GJ w0 p s n tT d C Xs S ao c cv lv m bi bx gv t' (W'.setCell ⟨w0.heap.size + 1 + 1, 0, none⟩ lv') := by
  obtain ⟨o1, o2, o3, o4⟩ := h.ord
  have hno : ∀ x, w0.heap.size ≤ x → x ≤ gv → ¬ LB lvr x := fun x h1 h2 e => (y2.lb e).2 (Or.inr ⟨h1, h2⟩)
  have k0 := hc.cellK (hno _ (Nat.le_refl _) (by omega)) h.c0
  have k1 := hc.cellK (hno _ (Nat.le_refl _) (by omega)) h.c1
  have k2 := hc.cellK (hno _ (by omega) (by omega)) h.cc
  have k3 := hc.cellK (hno _ (by omega) (by omega)) h.ci
  have k4 := hc.cellK (hno _ (by omega) (by omega)) h.cx
  have k5 := hc.cellK (hno _ (by omega) (by omega)) y1
  have k6 : W'.frozen? ⟨w0.heap.size + 1 + 1, 0, none⟩ = false := (World.frozen?_of_block (hc.block (w0.heap.size + 1 + 1) (lt_of_cell y1) (hno (w0.heap.size + 1 + 1) (by omega) (by omega)))).trans h.fo
  have hcs : Chg W' (W'.setCell ⟨w0.heap.size + 1 + 1, 0, none⟩ lv') (· = w0.heap.size + 1 + 1) := (Chg.refl W' (· = w0.heap.size + 1 + 1)).setCell (a := ⟨w0.heap.size + 1 + 1, 0, none⟩) rfl lv'
  have hs := hcs.size
  have hs2 := hc.size
  refine ⟨⟨k0, k1, k2⟩, k5, k6, hcs.cellN (by omega) k0, hcs.cellN (by omega) k1, hcs.cellN (by omega) k2, hcs.cellN (by omega) k3, hcs.cellN (by omega) k4, ?_, ⟨o1, o2, o3, by omega⟩, (h.chg.trans2 hc y3).trans2 hcs (fun x e => Or.inr (by have e : x = w0.heap.size + 1 + 1 := e; omega)), lv', World.cell?_setCell_same _ _ _ k5, hL.chg hcs (fun x e => Or.inl (Or.inr (by have e : x = w0.heap.size + 1 + 1 := e; omega))), fun x hx => ?_⟩
  · rw [World.frozen?_setCell]; exact k6
  · rcases hlb x hx with e | e
    · exact y3 x e
    · exact Or.inr (by omega)

set_option maxRecDepth 100000 in
set_option maxHeartbeats 8000000 in
theorem iGrCl_c (p : Int) (s : Nat → Int) (n tT d m : Nat) (IH : IGrow p s n tT d) (hdn : d + 1 ≤ n) (hm : n - (d + 1) = m) (w0 : World) (b o c : Nat) (cv lv : Value) (C : Nat → Nat → Int) (Xs : List (Nat → Nat → Int)) (S : Nat → Prop)
    (hs : ∀ W, Chg w0 W (LB lv) → SV W (.slice (some ⟨b, o, none⟩) n c) p n s) (hcK : TabA w0 (fun x => LB lv x ∨ w0.heap.size ≤ x) cv m n C) (hnil : m = 0 → cv = .slice none 0 0) (hC : ∀ i, i < m → InP p n (C i)) (hS : ∀ x, S x → x < w0.heap.size) (hN : ∀ t, t ≤ tT → Xs.length + (growU p s n tT d C t).length ≤ 100000000)
    (bi bx gv t : Nat) (w : World) (ht : t < tT) (h : GJ w0 p s n tT d C Xs S (some ⟨b, o, none⟩) c cv lv (m : Int) bi bx gv t w) (hO : Own w 2 gv n n (fun i => .int .i64 (vecT p n t i))) :
    Calls Try.prog 152 #[.slice (some ⟨gv, 0, none⟩) n n, .pointer (some ⟨w0.heap.size, 0, none⟩), .pointer (some ⟨bi, 0, none⟩), .pointer (some ⟨w0.heap.size + 1, 0, none⟩), .pointer (some ⟨w0.heap.size + 1 + 1, 0, none⟩)] w fun e w' => e = .returned (.bool false) ∧ GJ w0 p s n tT d C Xs S (some ⟨b, o, none⟩) c cv lv (m : Int) bi bx gv (t + 1) w' ∧ Own w' 2 gv n n (fun i => .int .i64 (vecT p n t i)) := by
  have hd := hs w h.chg
  have hpb := hd.ok.bd
  have hn6 := hd.ok.n6
  have hn1 := hd.ok.n1
  have hmn : m < n := by omega
  have hm1 : n - d = m + 1 := by omega
  obtain ⟨o1, o2, o3, o4⟩ := h.ord
  obtain ⟨lvr, y1, y2, y3⟩ := h.list
  have HGJ := Lib.hid h
  have HSV := Lib.hid hs
  have hvi := vecT_in (p := p) (by omega) n t n
  have HVI := Lib.hid hvi
  have HO := Lib.hid hO
  have hsu : growU p s n tT d C (t + 1) = growU p s n tT d C t ++ if fitO p s n m C (vecT p n t) then growT p s n tT d (colP C m (vecT p n t)) else [] := by rw [growU_succ, hm]
  have HSU := Lib.hid hsu
  obtain ⟨a, ha⟩ : ∃ a, pairF p s n (vecT p n t) (vecT p n t) = a := ⟨_, rfl⟩
  obtain ⟨sm, hsm⟩ : ∃ z, s m = z := ⟨_, rfl⟩
  obtain ⟨q, hq⟩ : ∃ q, decide (∀ k, k < m → pairF p s n (vecT p n t) (C k) = 0) = q := ⟨_, rfl⟩
  have hfb : fitO p s n m C (vecT p n t) = ((a == sm) && q) := by
    unfold fitO
    rw [ha, hq, hsm]
    rfl
  have hany : anyB (fun j => !(pairF p s n (vecT p n t) (C j) == 0)) m = !q := by
    cases q
    · have h1 := of_decide_eq_false hq
      have h2 : ∃ j, j < m ∧ pairF p s n (vecT p n t) (C j) ≠ 0 := Classical.byContradiction fun hno => h1 fun j hj => Classical.byContradiction fun hne => hno ⟨j, hj, hne⟩
      obtain ⟨j, hj, hne⟩ := h2
      exact anyB_at hj (by simpa using hne)
    · have h1 := of_decide_eq_true hq
      exact anyB_none fun j hj => by rw [h1 j hj]; rfl
  have HN : Hid (∀ W, Below w.heap.size w W → Calls Try.prog 73 #[dbl p (.slice (some ⟨b, o, none⟩) n c), .slice (some ⟨gv, 0, none⟩) n n] W fun e w' => Makes W w' e (.int .i64 a)) := fun W hb => ha ▸ iSNorm_c p _ _ n s _ W (HSV.out W (HGJ.out.kept hb).chg) ⟨(HO.out.kept hb).ints, HVI.out⟩
  have HTW : Hid (∀ W, Below w.heap.size w W → Tab W cv m (fun _ => n) C) := fun W hb => (hcK.chg (HGJ.out.kept hb).chg (fun x e => Or.inl e)).tab
  have HC : Hid (∀ W bV, Below w.heap.size w W → W.cell? ⟨bV, 0, none⟩ = some (.slice (some ⟨gv, 0, none⟩) n n) → Calls Try.prog 114 #[cv, .func (.func 153) #[] #[.pointer (some ⟨w0.heap.size, 0, none⟩), .pointer (some ⟨bV, 0, none⟩)]] W fun e w' => Makes W w' e (.bool (!q))) := fun W bV hb hcV => hany ▸ iContainsFuncR2_c 153 (fun _ _ => rfl) _ _ cv m (fun _ => n) C (fun j => !(pairF p s n (vecT p n t) (C j) == 0)) W (HTW.out W hb) (fun i hi W' u hb' hu =>
    iGrCol_c p w0.heap.size bV gv (some ⟨b, o, none⟩) n c s (vecT p n t) u (C i) W' (HSV.out W' (HGJ.out.kept (hb.trans (hb'.mono hb.size))).chg) ⟨(HO.out.kept (hb.trans (hb'.mono hb.size))).ints, HVI.out⟩ ⟨hu, hC i hi⟩ (HGJ.out.kept (hb.trans (hb'.mono hb.size))).c0 (HGJ.out.kept (hb.trans (hb'.mono hb.size))).c1 (cellKp hb' hcV))
  have hmf : ∀ (fn : Fn) (first cap : Array Value) (w : World), (Instr.makeFunc fn first cap).run Try.prog w = .ok (.func fn first cap) w := fun _ _ _ _ => rfl
  have hob := Own.new w 24 #[.slice (some ⟨gv, 0, none⟩) n n] (fun _ => .slice (some ⟨gv, 0, none⟩) n n) (by simp) (fun i hi => by
    obtain rfl : i = 0 := by simp at hi; omega
    rfl)
  have cV := hob.cell (i := 0) (by simp)
  have hbA : Below w.heap.size w (w.alloc (.cells #[.slice (some ⟨gv, 0, none⟩) n n] 24)) := (Below.refl _ _).alloc (Nat.le_refl _) _
  have zs := sv_cell hs w h.chg m hmn
  rw [hsm] at zs
  have H5 : Hid ((fun W : World => W.cell? ⟨w0.heap.size, 0, none⟩ = some (.int .i64 p) ∧ W.cell? ⟨w0.heap.size, 1, none⟩ = some (.slice (some ⟨b, o, none⟩) n c) ∧ W.cell? ⟨w.heap.size, 0, none⟩ = some (.slice (some ⟨gv, 0, none⟩) n n) ∧ W.cell? ⟨bi, 0, none⟩ = some (.int .i64 (m : Int)) ∧ W.cell? ⟨b, o + m, none⟩ = some (.int .i64 sm) ∧ W.cell? ⟨w0.heap.size + 1, 0, none⟩ = some cv ∧ Below w.heap.size w W) (w.alloc (.cells #[.slice (some ⟨gv, 0, none⟩) n n] 24))) := ⟨cellKp hbA h.c0, cellKp hbA h.c1, cV, cellKp hbA h.ci, cellKp hbA zs, cellKp hbA h.cc, hbA⟩
  have HNO : Hid (((a == sm) && q) = false → ∀ W, Below w.heap.size w W → GJ w0 p s n tT d C Xs S (some ⟨b, o, none⟩) c cv lv (m : Int) bi bx gv (t + 1) W ∧ Own W 2 gv n n (fun i => .int .i64 (vecT p n t i))) := fun e W hb => by
    have h1 := HGJ.out.kept hb
    obtain ⟨l, z1, z2, z3⟩ := h1.list
    exact ⟨⟨h1.c0, h1.c1, h1.cc, h1.ci, h1.cx, h1.fo, h1.ord, h1.chg, l, z1, by rw [HSU.out, hfb, e, if_neg (by decide), List.append_nil]; exact z2, z3⟩, HO.out.kept hb⟩
  obtain ⟨cao, cc, cb, co, A, CC, RB, RO, rfl, q2, q3, q4, q5, q6, q7⟩ := hcK.out
  have HCR : Hid (∀ W, Below w.heap.size w W → Calls Try.prog 154 #[.slice cao m cc] W fun e w' => ∃ ao c', e = .returned (.slice ao m c') ∧ Below W.heap.size W w' ∧ ORow w' W.heap.size ao c' m (fun i => .slice (A i) n (CC i))) := fun W hb => by
    by_cases h0 : m = 0
    · have e1 := hnil h0
      subst h0
      rw [e1]
      exact iCloneRow0_c W _
    · obtain rfl := (q3 (by omega)).1
      exact iCloneRow_c cb co cc m _ W (by omega) (by omega) (fun i hi => (HGJ.out.kept hb).chg.cellK (fun e => (q3 (by omega)).2 (Or.inl e)) (q4 i hi)) (fun i hi => rfl)
  have HCL : Hid (∀ W, Below w.heap.size w W → Calls Try.prog 81 #[.slice (some ⟨gv, 0, none⟩) n n] W fun e w' => CopyI W w' e n (vecT p n t)) := fun W hb => iClone_c gv n n _ W (HO.out.kept hb) (by omega)
  have HGR : Hid (((a == sm) && q) = true → ∀ W6 g6 c6 g5 c5, Below w.heap.size w W6 → w.heap.size ≤ g6 → Own W6 24 g6 c6 (m + 1) (fun j => if j = m then .slice (some ⟨g5, 0, none⟩) n c5 else .slice (A j) n (CC j)) → w.heap.size ≤ g5 → Own W6 2 g5 c5 n (fun i => .int .i64 (vecT p n t i)) → W6.cell? ⟨w.heap.size, 0, none⟩ = some (.slice (some ⟨gv, 0, none⟩) n n) →
      Calls Try.prog 122 #[dbl p (.slice (some ⟨b, o, none⟩) n c), .slice (some ⟨g6, 0, none⟩) (m + 1) c6, lvr] W6 fun e w' => ∃ (la : Option Addr) (ln lc : Nat), e = .returned (.slice la ln lc) ∧ (fun W : World => W.cell? ⟨w0.heap.size, 0, none⟩ = some (.int .i64 p) ∧ W.cell? ⟨w0.heap.size, 1, none⟩ = some (.slice (some ⟨b, o, none⟩) n c) ∧ W.cell? ⟨w0.heap.size + 1, 0, none⟩ = some (.slice cao m cc) ∧ W.cell? ⟨w.heap.size, 0, none⟩ = some (.slice (some ⟨gv, 0, none⟩) n n)) w' ∧ w'.cell? ⟨w0.heap.size + 1 + 1, 0, none⟩ = some lvr ∧ w'.frozen? ⟨w0.heap.size + 1 + 1, 0, none⟩ = false ∧ GJ w0 p s n tT d C Xs S (some ⟨b, o, none⟩) c (.slice cao m cc) lv (m : Int) bi bx gv (t + 1) (w'.setCell ⟨w0.heap.size + 1 + 1, 0, none⟩ (.slice la ln lc)) ∧ Own (w'.setCell ⟨w0.heap.size + 1 + 1, 0, none⟩ (.slice la ln lc)) 2 gv n n (fun i => .int .i64 (vecT p n t i))) := fun hfit W6 g6 c6 g5 c5 hb6 hg6 hO6 hg5 hO5 hcV6 => by
    have h6 := HGJ.out.kept hb6
    have hlbw : ∀ x, LB lvr x → x < w.heap.size ∧ ¬ (S x ∨ (w0.heap.size ≤ x ∧ x ≤ gv)) := fun x hx => y2.lb hx
    have hlb0 : ∀ x, LB lvr x → LB lv x ∨ w0.heap.size ≤ x := y3
    have y1' := cellKp hb6 y1
    have y2' := y2.kept hb6
    have hsz := hb6.size
    rw [hfb, hfit, if_pos rfl] at hsu
    have hlen := hN (t + 1) (by omega)
    rw [hsu, List.length_append] at hlen
    have hTA : TabA W6 (LB lvr) (.slice (some ⟨g6, 0, none⟩) (m + 1) c6) (m + 1) n (colP C m (vecT p n t)) := by
      refine ⟨some ⟨g6, 0, none⟩, c6, g6, 0, fun i => if i = m then some ⟨g5, 0, none⟩ else A i, fun i => if i = m then c5 else CC i, fun i => if i = m then g5 else RB i, fun i => if i = m then 0 else RO i, rfl, ⟨hO6.le, hO6.max⟩, fun _ => ⟨rfl, fun e => by have := (hlbw _ e).1; omega⟩, fun i hi => ?_, fun i hi => ?_, fun i hi => ?_, fun i j hi hj => ?_⟩
      · rw [Nat.zero_add, hO6.cell hi]
        by_cases e : i = m
        · simp only [if_pos e]
        · simp only [if_neg e]
      · by_cases e : i = m
        · simp only [if_pos e]; exact ⟨hO5.le, hO5.max⟩
        · simp only [if_neg e]; exact q5 i (by omega)
      · by_cases e : i = m
        · simp only [if_pos e]; exact ⟨by first | exact rfl | trivial, fun e => by have := (hlbw _ e).1; omega⟩
        · simp only [if_neg e]; exact ⟨(q6 i (by omega)).1, fun e => (q6 i (by omega)).2 (hlb0 _ e)⟩
      · unfold colP
        by_cases e : i = m
        · simp only [if_pos e]; rw [Nat.zero_add]; exact hO5.cell hj
        · simp only [if_neg e]; exact h6.chg.cellK (fun e => (q6 i (by omega)).2 (Or.inl e)) (q7 i j (by omega) hj)
    refine (IH _ _ lvr (colP C m (vecT p n t)) (Xs ++ growU p s n tT d C t) (fun x => S x ∨ (w0.heap.size ≤ x ∧ x ≤ gv)) W6 (fun W hW => HSV.out W (h6.chg.trans2 hW hlb0)) (by rw [hm1]; exact hTA) (fun e => absurd e (by omega)) (fun i hi => ?_) y2' (fun x hx => ?_) (by rw [List.length_append]; omega)).mono ?_
    · unfold colP
      by_cases e : i = m
      · rw [if_pos e]; exact HVI.out
      · rw [if_neg e]; exact hC i (by omega)
    · have hc6 := HGJ.out.chg.size
      rcases hx with e | e
      · have := hS x e; omega
      · omega
    · rintro e w7 ⟨lv', rfl, hL7, hC7, hB7⟩
      rw [List.append_assoc, ← hsu] at hL7
      have hgo : ¬ LB lvr gv := fun e => (hlbw _ e).2 (Or.inr ⟨by omega, Nat.le_refl _⟩)
      have hbV : ¬ LB lvr w.heap.size := fun e => by have := (hlbw _ e).1; omega
      obtain ⟨la, lc, rfl⟩ := hL7.val
      obtain ⟨⟨k0, k1, k2⟩, k3, k4, k5⟩ := h6.fin y1' y2' y3 hC7 hL7 hB7
      refine ⟨la, _, lc, rfl, ⟨k0, k1, k2, hC7.cellK hbV hcV6⟩, k3, k4, k5, (hC7.own (HO.out.kept hb6) hgo).setOther (by show gv ≠ w0.heap.size + 1 + 1; omega) _⟩
  have HNE : Hid (w0.heap.size + 1 + 1 ≠ w0.heap.size ∧ w0.heap.size + 1 + 1 ≠ w0.heap.size ∧ w0.heap.size + 1 + 1 ≠ w0.heap.size + 1 ∧ w0.heap.size + 1 + 1 ≠ w.heap.size) := ⟨by omega, by omega, by omega, by omega⟩
  have i0 : (0 : Int) ≤ (m : Int) := by omega
  have i1 : (m : Int) < (n : Int) := by omega
  have hm6 : m ≤ 6 := by omega
  have Y1 := Lib.hid y1
  clear h hs hcK hnil hC hS hN hO hd hvi hsu ha hsm hq hfb hany hob cV hbA zs q3 q4 q5 q6 q7 y1 y2 y3 IH
  cases hae : (a == sm)
  · rw [hae] at HNO
    go_enter Try.func152, Try.ntmps152
    go_wp2
    refine wp_region_held_drew (S := fun W : World => W.cell? ⟨w0.heap.size, 0, none⟩ = some (.int .i64 p) ∧ W.cell? ⟨w0.heap.size, 1, none⟩ = some (.slice (some ⟨b, o, none⟩) n c) ∧ W.cell? ⟨w.heap.size, 0, none⟩ = some (.slice (some ⟨gv, 0, none⟩) n n) ∧ W.cell? ⟨bi, 0, none⟩ = some (.int .i64 (m : Int)) ∧ W.cell? ⟨b, o + m, none⟩ = some (.int .i64 sm) ∧ W.cell? ⟨w0.heap.size + 1, 0, none⟩ = some (.slice cao m cc) ∧ Below w.heap.size w W) (by kernel_rfl) (k6Keep (drewB _) H5.out) (fun hHeld => ?_)
    refine tkRun 0 7 (.agg #[.int .i64 p, .slice (some ⟨b, o, none⟩) n c]) rfl rfl (by kernel_rfl) (by kernel_rfl) (by kernel_rfl) (fun _ _ _ h => h) rfl (fun W hW => by (try dsimp only at hW); go_simp) (by assumption) ?_
    try simp only [Act.put, List.setIfInBounds_toArray, List.set_cons_zero, List.set_cons_succ]
    refine tkRun 1 8 (.slice (some ⟨gv, 0, none⟩) n n) rfl rfl (by kernel_rfl) (by kernel_rfl) (by kernel_rfl) (fun _ _ _ h => h) rfl (fun W hW => by (try dsimp only at hW); go_simp) (by assumption) ?_
    try simp only [Act.put, List.setIfInBounds_toArray, List.set_cons_zero, List.set_cons_succ]
    refine tkRun 3 10 (.pointer (some ⟨w0.heap.size, 1, none⟩)) rfl rfl (by kernel_rfl) (by kernel_rfl) (by kernel_rfl) (fun _ _ _ h => h) rfl (fun W hW => by (try dsimp only at hW); go_simp) (by assumption) ?_
    try simp only [Act.put, List.setIfInBounds_toArray, List.set_cons_zero, List.set_cons_succ]
    refine tkRun 4 11 (.slice (some ⟨b, o, none⟩) n c) rfl rfl (by kernel_rfl) (by kernel_rfl) (by kernel_rfl) (fun _ _ _ h => h) rfl (fun W hW => by (try dsimp only at hW); go_simp) (by assumption) ?_
    try simp only [Act.put, List.setIfInBounds_toArray, List.set_cons_zero, List.set_cons_succ]
    refine tkRun 5 12 (.int .i64 (m : Int)) rfl rfl (by kernel_rfl) (by kernel_rfl) (by kernel_rfl) (fun _ _ _ h => h) rfl (fun W hW => by (try dsimp only at hW); go_simp) (by assumption) ?_
    try simp only [Act.put, List.setIfInBounds_toArray, List.set_cons_zero, List.set_cons_succ]
    refine tkRun 6 13 (.pointer (some ⟨b, o + m, none⟩)) rfl rfl (by kernel_rfl) (by kernel_rfl) (by kernel_rfl) (fun _ _ _ h => h) rfl (fun W hW => by (try dsimp only at hW); go_simp) (by assumption) ?_
    try simp only [Act.put, List.setIfInBounds_toArray, List.set_cons_zero, List.set_cons_succ]
    refine tkRun 7 14 (.int .i64 sm) rfl rfl (by kernel_rfl) (by kernel_rfl) (by kernel_rfl) (fun _ _ _ h => h) rfl (fun W hW => by (try dsimp only at hW); go_simp) (by assumption) ?_
    try simp only [Act.put, List.setIfInBounds_toArray, List.set_cons_zero, List.set_cons_succ]
    refine wpAnyH_ready (rs := [2]) (by kernel_rfl) (by simp) ?_
    refine AllReadyH.cons (o := _) rfl (fun K hK => ?_) AllReadyH.nil
    go_simp
    go_at_call 73
    refine Calls.makes' (HN.out _ (k6Below hHeld)) _ fun w4 hb4 => ?_
    go_wp2_with fail
    refine hK.out _ _ (k6Keep hb4 (by assumption)) (fun hHeld2 => ?_)
    clear hK K
    try simp only [Act.put, List.setIfInBounds_toArray, List.set_cons_zero, List.set_cons_succ]
    refine tkRun 8 15 (.bool false) rfl rfl (by kernel_rfl) (by kernel_rfl) (by kernel_rfl) (fun _ _ _ h => h) rfl (fun W hW => by (try dsimp only at hW); go_simp) (by assumption) ?_
    try simp only [Act.put, List.setIfInBounds_toArray, List.set_cons_zero, List.set_cons_succ]
    refine tkRun 9 16 (.bool false) rfl rfl (by kernel_rfl) (by kernel_rfl) (by kernel_rfl) (fun _ _ _ h => h) rfl (fun W hW => by (try dsimp only at hW); go_simp) (by assumption) ?_
    try simp only [Act.put, List.setIfInBounds_toArray, List.set_cons_zero, List.set_cons_succ]
    refine tkOff 10 17 rfl rfl (by kernel_rfl) (by kernel_rfl) (by kernel_rfl) (fun _ _ _ h => h) rfl (by assumption) ?_
    try simp only [Act.put, List.setIfInBounds_toArray, List.set_cons_zero, List.set_cons_succ]
    refine tkOff 11 18 rfl rfl (by kernel_rfl) (by kernel_rfl) (by kernel_rfl) (fun _ _ _ h => h) rfl (by assumption) ?_
    try simp only [Act.put, List.setIfInBounds_toArray, List.set_cons_zero, List.set_cons_succ]
    refine tkOff 12 19 rfl rfl (by kernel_rfl) (by kernel_rfl) (by kernel_rfl) (fun _ _ _ h => h) rfl (by assumption) ?_
    try simp only [Act.put, List.setIfInBounds_toArray, List.set_cons_zero, List.set_cons_succ]
    refine tkOff 13 20 rfl rfl (by kernel_rfl) (by kernel_rfl) (by kernel_rfl) (fun _ _ _ h => h) rfl (by assumption) ?_
    try simp only [Act.put, List.setIfInBounds_toArray, List.set_cons_zero, List.set_cons_succ]
    refine tkRun 14 21 (.bool false) rfl rfl (by kernel_rfl) (by kernel_rfl) (by kernel_rfl) (fun _ _ _ h => h) rfl (fun W hW => by (try dsimp only at hW); go_simp) (by assumption) ?_
    try simp only [Act.put, List.setIfInBounds_toArray, List.set_cons_zero, List.set_cons_succ]
    refine wpAnyH_done (by kernel_rfl) ?_ _
    have hf := HNO.out rfl w4 (k6Below hHeld2)
    go_wp2
    go_ret
    exact ⟨by first | exact rfl | trivial, hf⟩
  · cases q
    · rw [hae] at HNO
      go_enter Try.func152, Try.ntmps152
      go_wp2
      go_region_held3 (fun W : World => W.cell? ⟨w0.heap.size, 0, none⟩ = some (.int .i64 p) ∧ W.cell? ⟨w0.heap.size, 1, none⟩ = some (.slice (some ⟨b, o, none⟩) n c) ∧ W.cell? ⟨w.heap.size, 0, none⟩ = some (.slice (some ⟨gv, 0, none⟩) n n) ∧ W.cell? ⟨bi, 0, none⟩ = some (.int .i64 (m : Int)) ∧ W.cell? ⟨b, o + m, none⟩ = some (.int .i64 sm) ∧ W.cell? ⟨w0.heap.size + 1, 0, none⟩ = some (.slice cao m cc) ∧ Below w.heap.size w W)
        ((first | assumption | exact k6Keep (drewB _) H5.out | exact k6Keep (by assumption) (by assumption)))
        ((first
          | (go_at_call 73; refine Calls.makes' (HN.out _ (k6Below (by assumption))) _ fun v4 hv4 => ?_)
          | (go_at_call 114; refine Calls.makes' (HC.out _ _ (k6Below (by assumption)) (k6V (by assumption))) _ fun v5 hv5 => ?_)))
      rename_i hHeld
      have hf := HNO.out rfl _ (k6Below hHeld)
      go_wp2
      go_ret
      exact ⟨rfl, hf⟩
    · rw [hae] at HGR
      go_enter Try.func152, Try.ntmps152
      go_wp2
      go_region_held3 (fun W : World => W.cell? ⟨w0.heap.size, 0, none⟩ = some (.int .i64 p) ∧ W.cell? ⟨w0.heap.size, 1, none⟩ = some (.slice (some ⟨b, o, none⟩) n c) ∧ W.cell? ⟨w.heap.size, 0, none⟩ = some (.slice (some ⟨gv, 0, none⟩) n n) ∧ W.cell? ⟨bi, 0, none⟩ = some (.int .i64 (m : Int)) ∧ W.cell? ⟨b, o + m, none⟩ = some (.int .i64 sm) ∧ W.cell? ⟨w0.heap.size + 1, 0, none⟩ = some (.slice cao m cc) ∧ Below w.heap.size w W)
        ((first | assumption | exact k6Keep (drewB _) H5.out | exact k6Keep (by assumption) (by assumption)))
        ((first
          | (go_at_call 73; refine Calls.makes' (HN.out _ (k6Below (by assumption))) _ fun v4 hv4 => ?_)
          | (go_at_call 114; refine Calls.makes' (HC.out _ _ (k6Below (by assumption)) (k6V (by assumption))) _ fun v5 hv5 => ?_)))
      rename_i hHeld
      have hb := k6Below hHeld
      have hs1 := hb.size
      have hbd : Below w.heap.size w v5.drew := hb.trans ((drewB _).mono hb.size)
      have hSd : (fun W : World => W.cell? ⟨w0.heap.size, 0, none⟩ = some (.int .i64 p) ∧ W.cell? ⟨w0.heap.size, 1, none⟩ = some (.slice (some ⟨b, o, none⟩) n c) ∧ W.cell? ⟨w0.heap.size + 1, 0, none⟩ = some (.slice cao m cc) ∧ W.cell? ⟨w.heap.size, 0, none⟩ = some (.slice (some ⟨gv, 0, none⟩) n n)) v5.drew := ⟨cellKp (drewB _) hHeld.1, cellKp (drewB _) hHeld.2.1, cellKp (drewB _) hHeld.2.2.2.2.2.1, cellKp (drewB _) hHeld.2.2.1⟩
      have zod := cellKp hbd Y1.out
      clear hHeld HNO H5 HC HN hv4
      go_wp2
      refine wp_region_held_drew (S := fun W : World => W.cell? ⟨w0.heap.size, 0, none⟩ = some (.int .i64 p) ∧ W.cell? ⟨w0.heap.size, 1, none⟩ = some (.slice (some ⟨b, o, none⟩) n c) ∧ W.cell? ⟨w0.heap.size + 1, 0, none⟩ = some (.slice cao m cc) ∧ W.cell? ⟨w.heap.size, 0, none⟩ = some (.slice (some ⟨gv, 0, none⟩) n n)) (by kernel_rfl) hSd (fun hHeld => ?_)
      refine tkRun 0 22 (.agg #[.int .i64 p, .slice (some ⟨b, o, none⟩) n c]) rfl rfl (by kernel_rfl) (by kernel_rfl) (by kernel_rfl) (fun _ _ _ h => h) rfl (fun W hW => by (try dsimp only at hW); go_simp) (by assumption) ?_
      try simp only [Act.put, List.setIfInBounds_toArray, List.set_cons_zero, List.set_cons_succ]
      refine tkRun 1 23 (.slice cao m cc) rfl rfl (by kernel_rfl) (by kernel_rfl) (by kernel_rfl) (fun _ _ _ h => h) rfl (fun W hW => by (try dsimp only at hW); go_simp) (by assumption) ?_
      try simp only [Act.put, List.setIfInBounds_toArray, List.set_cons_zero, List.set_cons_succ]
      refine tkRun 3 25 (.slice (some ⟨gv, 0, none⟩) n n) rfl rfl (by kernel_rfl) (by kernel_rfl) (by kernel_rfl) (fun _ _ _ h => h) rfl (fun W hW => by (try dsimp only at hW); go_simp) (by assumption) ?_
      try simp only [Act.put, List.setIfInBounds_toArray, List.set_cons_zero, List.set_cons_succ]
      refine wpAnyH_ready (rs := [2, 7]) (by kernel_rfl) (by simp) ?_
      refine AllReadyH.cons (o := _) rfl (fun K hK => ?_) (AllReadyH.cons (o := _) rfl (fun K hK => ?_) (AllReadyH.nil))
      · go_simp
        go_at_call 154
        refine (HCR.out _ hbd).mono ?_
        rintro e x4 ⟨a4, c4, rfl, hb4, hR4⟩
        have hS4 := k4Keep hb4 hSd
        have zo4 := cellKp hb4 zod
        have hs4 := hb4.size
        go_wp2_with fail
        refine hK.out _ _ hS4 (fun hHeld4 => ?_)
        clear hK K
        try simp only [Act.put, List.setIfInBounds_toArray, List.set_cons_zero, List.set_cons_succ]
        refine wpAnyH_ready (rs := [4, 7]) (by kernel_rfl) (by simp) ?_
        refine AllReadyH.cons (o := _) rfl (fun K hK => ?_) (AllReadyH.cons (o := _) rfl (fun K hK => ?_) (AllReadyH.nil))
        · go_simp
          go_at_call 81
          refine (HCL.out _ (hbd.trans (hb4.mono hbd.size))).mono ?_
          rintro e x5 ⟨g5, c5, rfl, hg5, hb5, hO5⟩
          have hS5 := k4Keep hb5 hS4
          have zo5 := cellKp hb5 zo4
          have hs5 := hb5.size
          have hR5 := hR4.kept hb5
          have hba5 : Below x5.heap.size x5 (x5.alloc (.cells #[.slice (some ⟨g5, 0, none⟩) n c5] 24)) := (Below.refl _ _).alloc (Nat.le_refl _) _
          have hSa := k4Keep hba5 hS5
          have zoa := cellKp hba5 zo5
          go_wp2_with fail
          refine hK.out _ _ hS5 (fun hHeld5 => ?_)
          clear hK K
          try simp only [Act.put, List.setIfInBounds_toArray, List.set_cons_zero, List.set_cons_succ]
          refine wpAnyH_ready (rs := [5, 7]) (by kernel_rfl) (by simp) ?_
          refine AllReadyH.cons (o := _) rfl (fun K hK => ?_) (AllReadyH.cons (o := _) rfl (fun K hK => ?_) (AllReadyH.nil))
          · go_simp
            refine hK.out _ _ hSa (fun hHelda => ?_)
            clear hK K
            try simp only [Act.put, List.setIfInBounds_toArray, List.set_cons_zero, List.set_cons_succ]
            refine wpAnyH_ready (rs := [6, 7]) (by kernel_rfl) (by simp) ?_
            refine AllReadyH.cons (o := _) rfl (fun K hK => ?_) (AllReadyH.cons (o := _) rfl (fun K hK => ?_) (AllReadyH.nil))
            · refine step_pushR rfl _ _ rfl (B := v5.drew.heap.size) (by omega) hR5 (by omega) (.slice (some ⟨g5, 0, none⟩) n c5) rfl rfl rfl ?_
              intro g6 c6 x6 hg6 hO6 hc6
              have hb6 : Below v5.drew.heap.size v5.drew x6 := (hb4.trans (hb5.mono hs4)).trans (hc6.below (by omega) (fun x hx => (hR4.lb hx).1))
              have hO56 := hc6.own hO5 (fun e => by have := (hR4.lb e).2; omega)
              have hS6 := k4Keep hb6 hSd
              have zo6 := cellKp hb6 zod
              have HG6 := Lib.hid (HGR.out rfl x6 g6 c6 g5 c5 (hbd.trans (hb6.mono hbd.size)) (by have := hbd.size; omega) hO6 (by have := hbd.size; omega) hO56 hS6.2.2.2)
              refine hK.out _ _ hS6 (fun hHeld6 => ?_)
              clear hK K
              try simp only [Act.put, List.setIfInBounds_toArray, List.set_cons_zero, List.set_cons_succ]
              refine wpAnyH_ready (rs := [7]) (by kernel_rfl) (by simp) ?_
              refine AllReadyH.cons (o := _) rfl (fun K hK => ?_) (AllReadyH.nil)
              · go_simp
                refine hK.out _ _ hS6 (fun hHeldL => ?_)
                clear hK K
                try simp only [Act.put, List.setIfInBounds_toArray, List.set_cons_zero, List.set_cons_succ]
                refine wpAnyH_ready (rs := [8]) (by kernel_rfl) (by simp) ?_
                refine AllReadyH.cons (o := _) rfl (fun K hK => ?_) AllReadyH.nil
                go_simp
                go_at_call 122
                refine HG6.out.mono ?_
                rintro e x7 ⟨la7, ln7, lc7, rfl, hS7, zo7, zf7, hf7⟩
                go_wp2_with fail
                refine hK.out _ _ hS7 (fun hHeld7 => ?_)
                clear hK K
                try simp only [Act.put, List.setIfInBounds_toArray, List.set_cons_zero, List.set_cons_succ]
                refine wpAnyH_ready (rs := [9]) (by kernel_rfl) (by simp) ?_
                refine AllReadyH.cons (o := _) rfl (fun K hK => ?_) AllReadyH.nil
                go_simp
                refine hK.out _ _ (s4Put hS7 HNE.out) (fun hHeld9 => ?_)
                clear hK K
                try simp only [Act.put, List.setIfInBounds_toArray, List.set_cons_zero, List.set_cons_succ]
                refine wpAnyH_done (by kernel_rfl) ?_ _
                go_wp2
                go_ret
                exact ⟨rfl, hf7⟩
            · go_simp
              refine hK.out _ _ hSa (fun hHeldL => ?_)
              clear hK K
              try simp only [Act.put, List.setIfInBounds_toArray, List.set_cons_zero, List.set_cons_succ]
              refine wpAnyH_ready (rs := [6]) (by kernel_rfl) (by simp) ?_
              refine AllReadyH.cons (o := _) rfl (fun K hK => ?_) (AllReadyH.nil)
              · refine step_pushR rfl _ _ rfl (B := v5.drew.heap.size) (by omega) hR5 (by omega) (.slice (some ⟨g5, 0, none⟩) n c5) rfl rfl rfl ?_
                intro g6 c6 x6 hg6 hO6 hc6
                have hb6 : Below v5.drew.heap.size v5.drew x6 := (hb4.trans (hb5.mono hs4)).trans (hc6.below (by omega) (fun x hx => (hR4.lb hx).1))
                have hO56 := hc6.own hO5 (fun e => by have := (hR4.lb e).2; omega)
                have hS6 := k4Keep hb6 hSd
                have zo6 := cellKp hb6 zod
                have HG6 := Lib.hid (HGR.out rfl x6 g6 c6 g5 c5 (hbd.trans (hb6.mono hbd.size)) (by have := hbd.size; omega) hO6 (by have := hbd.size; omega) hO56 hS6.2.2.2)
                refine hK.out _ _ hS6 (fun hHeld6 => ?_)
                clear hK K
                try simp only [Act.put, List.setIfInBounds_toArray, List.set_cons_zero, List.set_cons_succ]
                refine wpAnyH_ready (rs := [8]) (by kernel_rfl) (by simp) ?_
                refine AllReadyH.cons (o := _) rfl (fun K hK => ?_) AllReadyH.nil
                go_simp
                go_at_call 122
                refine HG6.out.mono ?_
                rintro e x7 ⟨la7, ln7, lc7, rfl, hS7, zo7, zf7, hf7⟩
                go_wp2_with fail
                refine hK.out _ _ hS7 (fun hHeld7 => ?_)
                clear hK K
                try simp only [Act.put, List.setIfInBounds_toArray, List.set_cons_zero, List.set_cons_succ]
                refine wpAnyH_ready (rs := [9]) (by kernel_rfl) (by simp) ?_
                refine AllReadyH.cons (o := _) rfl (fun K hK => ?_) AllReadyH.nil
                go_simp
                refine hK.out _ _ (s4Put hS7 HNE.out) (fun hHeld9 => ?_)
                clear hK K
                try simp only [Act.put, List.setIfInBounds_toArray, List.set_cons_zero, List.set_cons_succ]
                refine wpAnyH_done (by kernel_rfl) ?_ _
                go_wp2
                go_ret
                exact ⟨rfl, hf7⟩
          · go_simp
            refine hK.out _ _ hS5 (fun hHeldL => ?_)
            clear hK K
            try simp only [Act.put, List.setIfInBounds_toArray, List.set_cons_zero, List.set_cons_succ]
            refine wpAnyH_ready (rs := [5]) (by kernel_rfl) (by simp) ?_
            refine AllReadyH.cons (o := _) rfl (fun K hK => ?_) (AllReadyH.nil)
            · go_simp
              refine hK.out _ _ hSa (fun hHelda => ?_)
              clear hK K
              try simp only [Act.put, List.setIfInBounds_toArray, List.set_cons_zero, List.set_cons_succ]
              refine wpAnyH_ready (rs := [6]) (by kernel_rfl) (by simp) ?_
              refine AllReadyH.cons (o := _) rfl (fun K hK => ?_) (AllReadyH.nil)
              · refine step_pushR rfl _ _ rfl (B := v5.drew.heap.size) (by omega) hR5 (by omega) (.slice (some ⟨g5, 0, none⟩) n c5) rfl rfl rfl ?_
                intro g6 c6 x6 hg6 hO6 hc6
                have hb6 : Below v5.drew.heap.size v5.drew x6 := (hb4.trans (hb5.mono hs4)).trans (hc6.below (by omega) (fun x hx => (hR4.lb hx).1))
                have hO56 := hc6.own hO5 (fun e => by have := (hR4.lb e).2; omega)
                have hS6 := k4Keep hb6 hSd
                have zo6 := cellKp hb6 zod
                have HG6 := Lib.hid (HGR.out rfl x6 g6 c6 g5 c5 (hbd.trans (hb6.mono hbd.size)) (by have := hbd.size; omega) hO6 (by have := hbd.size; omega) hO56 hS6.2.2.2)
                refine hK.out _ _ hS6 (fun hHeld6 => ?_)
                clear hK K
                try simp only [Act.put, List.setIfInBounds_toArray, List.set_cons_zero, List.set_cons_succ]
                refine wpAnyH_ready (rs := [8]) (by kernel_rfl) (by simp) ?_
                refine AllReadyH.cons (o := _) rfl (fun K hK => ?_) AllReadyH.nil
                go_simp
                go_at_call 122
                refine HG6.out.mono ?_
                rintro e x7 ⟨la7, ln7, lc7, rfl, hS7, zo7, zf7, hf7⟩
                go_wp2_with fail
                refine hK.out _ _ hS7 (fun hHeld7 => ?_)
                clear hK K
                try simp only [Act.put, List.setIfInBounds_toArray, List.set_cons_zero, List.set_cons_succ]
                refine wpAnyH_ready (rs := [9]) (by kernel_rfl) (by simp) ?_
                refine AllReadyH.cons (o := _) rfl (fun K hK => ?_) AllReadyH.nil
                go_simp
                refine hK.out _ _ (s4Put hS7 HNE.out) (fun hHeld9 => ?_)
                clear hK K
                try simp only [Act.put, List.setIfInBounds_toArray, List.set_cons_zero, List.set_cons_succ]
                refine wpAnyH_done (by kernel_rfl) ?_ _
                go_wp2
                go_ret
                exact ⟨rfl, hf7⟩
        · go_simp
          refine hK.out _ _ hS4 (fun hHeldL => ?_)
          clear hK K
          try simp only [Act.put, List.setIfInBounds_toArray, List.set_cons_zero, List.set_cons_succ]
          refine wpAnyH_ready (rs := [4]) (by kernel_rfl) (by simp) ?_
          refine AllReadyH.cons (o := _) rfl (fun K hK => ?_) (AllReadyH.nil)
          · go_simp
            go_at_call 81
            refine (HCL.out _ (hbd.trans (hb4.mono hbd.size))).mono ?_
            rintro e x5 ⟨g5, c5, rfl, hg5, hb5, hO5⟩
            have hS5 := k4Keep hb5 hS4
            have zo5 := cellKp hb5 zo4
            have hs5 := hb5.size
            have hR5 := hR4.kept hb5
            have hba5 : Below x5.heap.size x5 (x5.alloc (.cells #[.slice (some ⟨g5, 0, none⟩) n c5] 24)) := (Below.refl _ _).alloc (Nat.le_refl _) _
            have hSa := k4Keep hba5 hS5
            have zoa := cellKp hba5 zo5
            go_wp2_with fail
            refine hK.out _ _ hS5 (fun hHeld5 => ?_)
            clear hK K
            try simp only [Act.put, List.setIfInBounds_toArray, List.set_cons_zero, List.set_cons_succ]
            refine wpAnyH_ready (rs := [5]) (by kernel_rfl) (by simp) ?_
            refine AllReadyH.cons (o := _) rfl (fun K hK => ?_) (AllReadyH.nil)
            · go_simp
              refine hK.out _ _ hSa (fun hHelda => ?_)
              clear hK K
              try simp only [Act.put, List.setIfInBounds_toArray, List.set_cons_zero, List.set_cons_succ]
              refine wpAnyH_ready (rs := [6]) (by kernel_rfl) (by simp) ?_
              refine AllReadyH.cons (o := _) rfl (fun K hK => ?_) (AllReadyH.nil)
              · refine step_pushR rfl _ _ rfl (B := v5.drew.heap.size) (by omega) hR5 (by omega) (.slice (some ⟨g5, 0, none⟩) n c5) rfl rfl rfl ?_
                intro g6 c6 x6 hg6 hO6 hc6
                have hb6 : Below v5.drew.heap.size v5.drew x6 := (hb4.trans (hb5.mono hs4)).trans (hc6.below (by omega) (fun x hx => (hR4.lb hx).1))
                have hO56 := hc6.own hO5 (fun e => by have := (hR4.lb e).2; omega)
                have hS6 := k4Keep hb6 hSd
                have zo6 := cellKp hb6 zod
                have HG6 := Lib.hid (HGR.out rfl x6 g6 c6 g5 c5 (hbd.trans (hb6.mono hbd.size)) (by have := hbd.size; omega) hO6 (by have := hbd.size; omega) hO56 hS6.2.2.2)
                refine hK.out _ _ hS6 (fun hHeld6 => ?_)
                clear hK K
                try simp only [Act.put, List.setIfInBounds_toArray, List.set_cons_zero, List.set_cons_succ]
                refine wpAnyH_ready (rs := [8]) (by kernel_rfl) (by simp) ?_
                refine AllReadyH.cons (o := _) rfl (fun K hK => ?_) AllReadyH.nil
                go_simp
                go_at_call 122
                refine HG6.out.mono ?_
                rintro e x7 ⟨la7, ln7, lc7, rfl, hS7, zo7, zf7, hf7⟩
                go_wp2_with fail
                refine hK.out _ _ hS7 (fun hHeld7 => ?_)
                clear hK K
                try simp only [Act.put, List.setIfInBounds_toArray, List.set_cons_zero, List.set_cons_succ]
                refine wpAnyH_ready (rs := [9]) (by kernel_rfl) (by simp) ?_
                refine AllReadyH.cons (o := _) rfl (fun K hK => ?_) AllReadyH.nil
                go_simp
                refine hK.out _ _ (s4Put hS7 HNE.out) (fun hHeld9 => ?_)
                clear hK K
                try simp only [Act.put, List.setIfInBounds_toArray, List.set_cons_zero, List.set_cons_succ]
                refine wpAnyH_done (by kernel_rfl) ?_ _
                go_wp2
                go_ret
                exact ⟨rfl, hf7⟩
      · go_simp
        refine hK.out _ _ hSd (fun hHeldL => ?_)
        clear hK K
        try simp only [Act.put, List.setIfInBounds_toArray, List.set_cons_zero, List.set_cons_succ]
        refine wpAnyH_ready (rs := [2]) (by kernel_rfl) (by simp) ?_
        refine AllReadyH.cons (o := _) rfl (fun K hK => ?_) (AllReadyH.nil)
        · go_simp
          go_at_call 154
          refine (HCR.out _ hbd).mono ?_
          rintro e x4 ⟨a4, c4, rfl, hb4, hR4⟩
          have hS4 := k4Keep hb4 hSd
          have zo4 := cellKp hb4 zod
          have hs4 := hb4.size
          go_wp2_with fail
          refine hK.out _ _ hS4 (fun hHeld4 => ?_)
          clear hK K
          try simp only [Act.put, List.setIfInBounds_toArray, List.set_cons_zero, List.set_cons_succ]
          refine wpAnyH_ready (rs := [4]) (by kernel_rfl) (by simp) ?_
          refine AllReadyH.cons (o := _) rfl (fun K hK => ?_) (AllReadyH.nil)
          · go_simp
            go_at_call 81
            refine (HCL.out _ (hbd.trans (hb4.mono hbd.size))).mono ?_
            rintro e x5 ⟨g5, c5, rfl, hg5, hb5, hO5⟩
            have hS5 := k4Keep hb5 hS4
            have zo5 := cellKp hb5 zo4
            have hs5 := hb5.size
            have hR5 := hR4.kept hb5
            have hba5 : Below x5.heap.size x5 (x5.alloc (.cells #[.slice (some ⟨g5, 0, none⟩) n c5] 24)) := (Below.refl _ _).alloc (Nat.le_refl _) _
            have hSa := k4Keep hba5 hS5
            have zoa := cellKp hba5 zo5
            go_wp2_with fail
            refine hK.out _ _ hS5 (fun hHeld5 => ?_)
            clear hK K
            try simp only [Act.put, List.setIfInBounds_toArray, List.set_cons_zero, List.set_cons_succ]
            refine wpAnyH_ready (rs := [5]) (by kernel_rfl) (by simp) ?_
            refine AllReadyH.cons (o := _) rfl (fun K hK => ?_) (AllReadyH.nil)
            · go_simp
              refine hK.out _ _ hSa (fun hHelda => ?_)
              clear hK K
              try simp only [Act.put, List.setIfInBounds_toArray, List.set_cons_zero, List.set_cons_succ]
              refine wpAnyH_ready (rs := [6]) (by kernel_rfl) (by simp) ?_
              refine AllReadyH.cons (o := _) rfl (fun K hK => ?_) (AllReadyH.nil)
              · refine step_pushR rfl _ _ rfl (B := v5.drew.heap.size) (by omega) hR5 (by omega) (.slice (some ⟨g5, 0, none⟩) n c5) rfl rfl rfl ?_
                intro g6 c6 x6 hg6 hO6 hc6
                have hb6 : Below v5.drew.heap.size v5.drew x6 := (hb4.trans (hb5.mono hs4)).trans (hc6.below (by omega) (fun x hx => (hR4.lb hx).1))
                have hO56 := hc6.own hO5 (fun e => by have := (hR4.lb e).2; omega)
                have hS6 := k4Keep hb6 hSd
                have zo6 := cellKp hb6 zod
                have HG6 := Lib.hid (HGR.out rfl x6 g6 c6 g5 c5 (hbd.trans (hb6.mono hbd.size)) (by have := hbd.size; omega) hO6 (by have := hbd.size; omega) hO56 hS6.2.2.2)
                refine hK.out _ _ hS6 (fun hHeld6 => ?_)
                clear hK K
                try simp only [Act.put, List.setIfInBounds_toArray, List.set_cons_zero, List.set_cons_succ]
                refine wpAnyH_ready (rs := [8]) (by kernel_rfl) (by simp) ?_
                refine AllReadyH.cons (o := _) rfl (fun K hK => ?_) AllReadyH.nil
                go_simp
                go_at_call 122
                refine HG6.out.mono ?_
                rintro e x7 ⟨la7, ln7, lc7, rfl, hS7, zo7, zf7, hf7⟩
                go_wp2_with fail
                refine hK.out _ _ hS7 (fun hHeld7 => ?_)
                clear hK K
                try simp only [Act.put, List.setIfInBounds_toArray, List.set_cons_zero, List.set_cons_succ]
                refine wpAnyH_ready (rs := [9]) (by kernel_rfl) (by simp) ?_
                refine AllReadyH.cons (o := _) rfl (fun K hK => ?_) AllReadyH.nil
                go_simp
                refine hK.out _ _ (s4Put hS7 HNE.out) (fun hHeld9 => ?_)
                clear hK K
                try simp only [Act.put, List.setIfInBounds_toArray, List.set_cons_zero, List.set_cons_succ]
                refine wpAnyH_done (by kernel_rfl) ?_ _
                go_wp2
                go_ret
                exact ⟨rfl, hf7⟩

set_option maxRecDepth 100000 in
set_option maxHeartbeats 8000000 in
theorem iGrowS_c (p : Int) (s : Nat → Int) (n tT d : Nat) (IH : IGrow p s n tT d) (hdn : d + 1 ≤ n) (hTT : p ^ n = (tT : Int)) : IGrow p s n tT (d + 1) := by
  intro sv cv lv C Xs S w hs hc hnil hC hl hS hN
  have hd := hs w (Chg.refl _ _)
  have hpb := hd.ok.bd
  have hn6 := hd.ok.n6
  have hn1 := hd.ok.n1
  obtain ⟨m, hm⟩ : ∃ m, n - (d + 1) = m := ⟨_, rfl⟩
  have hmn : m < n := by omega
  rw [hm] at hc hC hnil
  have HN : ∀ t, t ≤ tT → Xs.length + (growU p s n tT d C t).length ≤ 100000000 := fun t ht => by
    have h1 := growU_le (p := p) (s := s) (n := n) (tT := tT) (d := d) (C := C) t (tT - t)
    rw [show t + (tT - t) = tT by omega, growU_all] at h1
    omega
  obtain ⟨ao, c, b, o, rfl, p2, p3, p4, p5⟩ := hd.ints.out
  obtain rfl := p4 (by omega)
  have hcK := hc.to (S' := fun x => LB lv x ∨ w.heap.size ≤ x) (by omega) (fun x h => h)
  have HV : Hid (∀ V bi, BoxG w p (some ⟨b, o, none⟩) n c cv lv (m : Int) bi V → Calls Try.prog 79 #[dbl p (.slice (some ⟨b, o, none⟩) n c), .func (.func 152) #[] #[.pointer (some ⟨w.heap.size, 0, none⟩), .pointer (some ⟨bi, 0, none⟩), .pointer (some ⟨w.heap.size + 1, 0, none⟩), .pointer (some ⟨w.heap.size + 1 + 1, 0, none⟩)]] V fun e w' => ∃ (la : Option Addr) (ln lc : Nat), e = .returned (.bool false) ∧ w'.cell? ⟨w.heap.size + 1 + 1, 0, none⟩ = some (.slice la ln lc) ∧ OL w' S (.slice la ln lc) n (Xs ++ growT p s n tT (d + 1) C) ∧ Chg w w' (LB lv) ∧ ∀ x, LB (.slice la ln lc) x → LB lv x ∨ w.heap.size ≤ x) := fun V bi hbg =>
    (iVectorsGr_c p (some ⟨b, o, none⟩) n c (.pointer (some ⟨w.heap.size, 0, none⟩)) (.pointer (some ⟨bi, 0, none⟩)) (.pointer (some ⟨w.heap.size + 1, 0, none⟩)) (.pointer (some ⟨w.heap.size + 1 + 1, 0, none⟩)) tT V hpb hn6 hTT (fun t gv W => GJ w p s n tT d C Xs S (some ⟨b, o, none⟩) c cv lv (m : Int) bi V.heap.size gv t W) (fun _ => false)
      (fun gv W hb h1 h2 hx => hbg.gj hl hb h1 h2 hx)
      (fun t gv W W' h hc _ => h.chgV hc)
      (fun t gv W h => h.cx)
      (fun t gv W ht _ _ hJ hO => iGrCl_c p s n tT d m IH hdn hm w b o c cv lv C Xs S hs hcK hnil hC hS HN bi V.heap.size gv t W ht hJ hO)).mono fun e w' h => by
        rcases h with ⟨gv, ⟨he, _, hJ⟩ | ⟨t, _, _, hb, _⟩⟩
        · obtain ⟨lvr, z1, z2, z3⟩ := hJ.list
          rw [growU_all] at z2
          obtain ⟨la, lc, rfl⟩ := z2.val
          exact ⟨la, _, lc, he, z1, z2.to (fun x hx => Or.inl (Or.inl hx)), hJ.chg, z3⟩
        · exact absurd hb (by simp)
  obtain ⟨cao, cc, cb, co, A, CC, RB, RO, rfl, q2, q3, q4, q5, q6, q7⟩ := hc.out
  obtain ⟨la, lc, hlv⟩ := hl.val
  obtain ⟨ln, hln⟩ : ∃ k, Xs.length = k := ⟨_, rfl⟩
  rw [hln] at hlv
  subst hlv
  obtain ⟨W5, hW5⟩ : ∃ W, (((w.alloc (.cells #[.int .i64 p, .slice (some ⟨b, o, none⟩) n c] 26)).alloc (.cells #[.slice cao m cc] 39)).alloc (.cells #[.slice la ln lc] 70)).alloc (.cells #[.int .i64 (m : Int)] 3) = W := ⟨_, rfl⟩
  have b4 := boxG4 w p (some ⟨b, o, none⟩) n c (.slice cao m cc) (.slice la ln lc) (m : Int) hW5
  have BG5 := Lib.hid b4
  have HW5 := Lib.hid hW5
  have H4 : Hid (W5.cell? ⟨w.heap.size, 0, none⟩ = some (.int .i64 p) ∧ W5.cell? ⟨w.heap.size, 1, none⟩ = some (.slice (some ⟨b, o, none⟩) n c) ∧ W5.cell? ⟨w.heap.size + 1 + 1 + 1, 0, none⟩ = some (.int .i64 (m : Int)) ∧ Below W5.heap.size W5 W5) := ⟨b4.c0, b4.c1, b4.ci, Below.refl _ _⟩
  have hne : ((m : Int) == (n : Int)) = false := beq_eq_false_iff_ne.2 (by omega)
  have hmf : ∀ (fn : Fn) (first cap : Array Value) (w : World), (Instr.makeFunc fn first cap).run Try.prog w = .ok (.func fn first cap) w := fun _ _ _ _ => rfl
  clear hs hc hnil hC hl hS hd p4 p5 hcK q3 q4 q5 q6 q7 HN b4 hW5 hln hN IH
  go_enter Try.func122, Try.ntmps122
  go_wp2
  rw [HW5.out]
  go_region_held3 (fun W => W.cell? ⟨w.heap.size, 0, none⟩ = some (.int .i64 p) ∧ W.cell? ⟨w.heap.size, 1, none⟩ = some (.slice (some ⟨b, o, none⟩) n c) ∧ W.cell? ⟨w.heap.size + 1 + 1 + 1, 0, none⟩ = some (.int .i64 (m : Int)) ∧ Below W5.heap.size W5 W)
    ((first | assumption | exact k3Keep (drewB _) H4.out | exact k3Keep (by assumption) (by assumption)))
    ((first
      | (go_at_call 92; refine Calls.makes' (iDim_c _ _ _ _ _ (by omega)) _ fun v4 hv4 => ?_)))
  rename_i hHeld
  have bg := BG5.out.kept (k3Below hHeld)
  have HVv := Lib.hid (HV.out v4 _ bg)
  have f0 := bg.c0
  have f1 := bg.c1
  clear hHeld bg H4 BG5 HW5 HV
  go_wp2_with fail
  go_at_call 79
  refine HVv.out.mono ?_
  rintro e w9 ⟨la9, ln9, lc9, rfl, z1, z2, z3, z4⟩
  have Z2 := Lib.hid z2
  have Z3 := Lib.hid z3
  have Z4 := Lib.hid z4
  clear z2 z3 z4 f0 f1 HVv
  go_wp2
  go_ret
  exact ⟨_, rfl, Z2.out, Z3.out, Z4.out⟩

theorem iGrow_c (p : Int) (s : Nat → Int) (n tT : Nat) (hTT : p ^ n = (tT : Int)) : ∀ d, d ≤ n → IGrow p s n tT d
  | 0, _ => iGrow0_c p s n tT
  | d + 1, h => iGrowS_c p s n tT d (iGrow_c p s n tT hTT d (by omega)) h hTT

end Go.Proofs.Ytnkflgigbielgaa

/-
  AllOrthogonal in both programs, with its codes; and lists of tables as the law handles them. No condition beside sizes.
-/
set_option linter.unusedVariables false
set_option linter.unusedSimpArgs false
namespace Go.Proofs.Ytnkflgigbielgaa
open Go.RowKit

/-! ### lists of tables, told by the interval of blocks they lie in -/

/-- an owned list of n x n tables -/
structure O3I (w : World) (B U g c N n : Nat) (X : Nat → Nat → Nat → Int) : Prop where
  out : ∃ lo hi H C : Nat → Nat, Own w 39 g c N (fun i => .slice (some ⟨H i, 0, none⟩) n (C i)) ∧ (B ≤ g ∧ g < U) ∧
    (∀ i, i < N → OTabM w (lo i) (hi i) (H i) (C i) n (fun _ => n) (X i) ∧ B ≤ lo i ∧ hi i ≤ U ∧ (g < lo i ∨ hi i ≤ g)) ∧ ∀ i j, i < N → j < i → hi j ≤ lo i
/-- .. or nil -/
structure OT3 (w : World) (B U : Nat) (a : Option Addr) (c N n : Nat) (X : Nat → Nat → Nat → Int) : Prop where
  out : (a = none ∧ N = 0 ∧ c = 0) ∨ ∃ g, a = some ⟨g, 0, none⟩ ∧ O3I w B U g c N n X
theorem O3I.chgS {w w' : World} {B U g c N n : Nat} {X : Nat → Nat → Nat → Int} (h : O3I w B U g c N n X) {S : Nat → Prop} (hc : Chg w w' S) (hS : ∀ x, S x → x < B ∨ U ≤ x) : O3I w' B U g c N n X := by
  obtain ⟨lo, hi, H, C, h1, h2, h3, h4⟩ := h.out
  exact ⟨lo, hi, H, C, hc.own h1 (fun e => by have := hS _ e; omega), h2, fun i hi' => by obtain ⟨q1, q2, q3, q4⟩ := h3 i hi'; exact ⟨q1.chgS hc (fun x hx => by have := hS _ hx; omega), q2, q3, q4⟩, h4⟩
theorem OT3.kept {w w' : World} {B U : Nat} {a : Option Addr} {c N n : Nat} {X : Nat → Nat → Nat → Int} (h : OT3 w B U a c N n X) (hb : Below w.heap.size w w') : OT3 w' B U a c N n X := by
  rcases h.out with h | ⟨g, h1, hO⟩
  · exact ⟨Or.inl h⟩
  · exact ⟨Or.inr ⟨g, h1, hO.chgS (Chg.of_below hb (fun _ => False)) (fun x e => e.elim)⟩⟩
theorem OT3.chg {w w' : World} {B U B' U' : Nat} {a : Option Addr} {c N n : Nat} {X : Nat → Nat → Nat → Int} (h : OT3 w B U a c N n X) (hc : Chg w w' (IV B' U')) (hd : U ≤ B' ∨ U' ≤ B) : OT3 w' B U a c N n X := by
  rcases h.out with h | ⟨g, h1, hO⟩
  · exact ⟨Or.inl h⟩
  · exact ⟨Or.inr ⟨g, h1, hO.chgS hc (fun x e => by have e1 := e.1; have e2 := e.2; omega)⟩⟩
theorem OT3.low {w : World} {B B' U : Nat} {a : Option Addr} {c N n : Nat} {X : Nat → Nat → Nat → Int} (h : OT3 w B U a c N n X) (hB : B' ≤ B) : OT3 w B' U a c N n X := by
  rcases h.out with h | ⟨g, h1, hO⟩
  · exact ⟨Or.inl h⟩
  · obtain ⟨lo, hi, H, C, q1, q2, q3, q4⟩ := hO.out
    exact ⟨Or.inr ⟨g, h1, lo, hi, H, C, q1, ⟨by omega, q2.2⟩, fun i hi' => by obtain ⟨z1, z2, z3, z4⟩ := q3 i hi'; exact ⟨z1, by omega, z3, z4⟩, q4⟩⟩
theorem OL.ot3 {w : World} {B n : Nat} {lv : Value} {Xs : List (Nat → Nat → Int)} (h : OL w (fun x => x < B) lv n Xs) : ∃ a c, lv = .slice a Xs.length c ∧ OT3 w B w.heap.size a c Xs.length n (fun i => Xs.getD i (fun _ _ => 0)) := by
  rcases h.out with ⟨rfl, rfl⟩ | ⟨g, c, rfl, hO⟩
  · exact ⟨_, _, rfl, ⟨Or.inl ⟨rfl, rfl, rfl⟩⟩⟩
  · obtain ⟨lo, hi, H, C, q1, q2, q3, q4⟩ := hO.out
    refine ⟨_, _, rfl, ⟨Or.inr ⟨g, rfl, lo, hi, H, C, q1, ⟨Nat.le_of_not_lt q2, q1.lt⟩, fun i hi' => ?_, q4⟩⟩⟩
    obtain ⟨z1, z2, z3, z4⟩ := q3 i Xs[i] (List.getElem?_eq_getElem hi')
    have e : Xs.getD i (fun _ _ => 0) = Xs[i] := by simp [hi']
    rw [e]
    refine ⟨z1, ?_, z2, z3⟩
    obtain ⟨_, _, _, o2, _⟩ := z1.out
    rcases Nat.lt_or_ge (lo i) B with h1 | h1
    · have := z4 (lo i) h1; omega
    · exact h1

/-- a list of tables that is read -/
structure Tab3 (w : World) (v : Value) (N n : Nat) (X : Nat → Nat → Nat → Int) : Prop where
  out : ∃ (ao : Option Addr) (c b o : Nat) (A : Nat → Option Addr) (C : Nat → Nat), v = .slice ao N c ∧ (N ≤ c ∧ c ≤ 9223372036854775807) ∧ (0 < N → ao = some ⟨b, o, none⟩) ∧
    (∀ i, i < N → w.cell? ⟨b, o + i, none⟩ = some (.slice (A i) n (C i)) ∧ Tab w (.slice (A i) n (C i)) n (fun _ => n) (X i))
theorem OT3.tab3 {w : World} {B U : Nat} {a : Option Addr} {c N n : Nat} {X : Nat → Nat → Nat → Int} (h : OT3 w B U a c N n X) : Tab3 w (.slice a N c) N n X := by
  rcases h.out with ⟨rfl, rfl, rfl⟩ | ⟨g, rfl, hO⟩
  · exact ⟨none, 0, 0, 0, fun _ => none, fun _ => 0, rfl, ⟨Nat.le_refl _, by omega⟩, fun h => absurd h (Nat.lt_irrefl _), fun i hi => absurd hi (Nat.not_lt_zero _)⟩
  · obtain ⟨lo, hi, H, C, q1, q2, q3, q4⟩ := hO.out
    exact ⟨_, c, g, 0, fun i => some ⟨H i, 0, none⟩, C, rfl, ⟨q1.le, q1.max⟩, fun _ => rfl, fun i hi' => ⟨by rw [Nat.zero_add]; exact q1.cell hi', (q3 i hi').1.otab.tab⟩⟩
theorem Tab3.drewN {w : World} {v : Value} {N n : Nat} {X : Nat → Nat → Nat → Int} (h : Tab3 w v N n X) (q : Nat) : Tab3 (w.drewN q) v N n X := by
  obtain ⟨ao, c, b, o, A, C, h1, h2, h3, h4⟩ := h.out
  exact ⟨ao, c, b, o, A, C, h1, h2, h3, fun i hi => ⟨by simpa using (h4 i hi).1, (h4 i hi).2.drewN q⟩⟩

set_option maxHeartbeats 800000 in
theorem eqT3_c (v1 v2 : Value) (N n : Nat) (X : Nat → Nat → Nat → Int) (w : World) (h1 : Tab3 w v1 N n X) (h2 : Tab3 w v2 N n X) :
    Calls Try.prog 57 #[v1, v2] w fun e w' => Reads w w' e (.bool true) := by
  obtain ⟨ao, c, ab, aoff, A, C, rfl, p2, p3, p4⟩ := h1.out
  obtain ⟨bo, d, bb, boff, A', C', rfl, r2, r3, r4⟩ := h2.out
  have H1 := Lib.hid p4
  have H2 := Lib.hid r4
  clear h1 h2 p4 r4
  go_enter Try.func57, Try.ntmps57
  go_wp2
  go_loopg [5] N (fun g i wr => ∃ k : Nat, k ≤ N ∧ g = N - k ∧ i = .int .i64 k ∧ (∃ q, wr = w.drewN q))
  case atStart => exact ⟨0, Nat.zero_le _, rfl, rfl, ⟨0, rfl⟩⟩
  case round =>
    obtain ⟨k, hk, rfl, rfl, hq⟩ := hrel
    have Hq := Lib.hid hq
    by_cases hlt : k < N
    · obtain rfl := p3 (by omega)
      obtain rfl := r3 (by omega)
      have e1 : wr.cell? ⟨ab, aoff + k, none⟩ = some (.slice (A k) n (C k)) := by obtain ⟨q, rfl⟩ := hq; simpa using (H1.out k hlt).1
      have e2 : wr.cell? ⟨bb, boff + k, none⟩ = some (.slice (A' k) n (C' k)) := by obtain ⟨q, rfl⟩ := hq; simpa using (H2.out k hlt).1
      have I1 : Hid (∀ m, Tab (wr.drewN m) (.slice (A k) n (C k)) n (fun _ => n) (X k)) := fun m => by obtain ⟨q, rfl⟩ := hq; exact ((H1.out k hlt).2.drewN q).drewN m
      have I2 : Hid (∀ m, Tab (wr.drewN m) (.slice (A' k) n (C' k)) n (fun _ => n) (X k)) := fun m => by obtain ⟨q, rfl⟩ := hq; exact ((H2.out k hlt).2.drewN q).drewN m
      have HQ : Hid (∀ m, Calls Try.prog 49 #[.slice (A k) n (C k), .slice (A' k) n (C' k)] (wr.drewN m) fun e w' => Reads (wr.drewN m) w' e (.bool true)) := fun m => by
        have h := eqInt64SS_c _ _ _ _ _ _ _ _ _ (I1.out m) (I2.out m)
        rw [eqTB_refl] at h
        exact h
      clear hq
      go_wp2
      go_quiet ((go_at_call 49; exact Calls.reads (HQ.out _)))
      go_wp2
      go_roundg (N - (k + 1))
      case measure => omega
      case rel => exact ⟨k + 1, by omega, rfl, by go_num, drewN_more Hq.out _⟩
    · obtain rfl : k = N := by omega
      go_wp2
      go_ret
      exact ⟨rfl, Hq.out⟩

/-- the marks of a list of tables -/
def markX (k : Int) (n : Nat) (i r j : Nat) : Int := markT (k + i * (n * n)) (fun _ => n) r j

set_option maxHeartbeats 800000 in
theorem markT3_c (B U g cap N n : Nat) (X : Nat → Nat → Nat → Int) (k : Int) (w : World) (h : O3I w B U g cap N n X) (h0 : 0 ≤ k) (hk : k ≤ 1000000) (hN : N ≤ 2000000) (hn : n ≤ 6) :
    Calls Try.prog 58 #[.slice (some ⟨g, 0, none⟩) N cap, .int .i64 k] w fun e w' => e = .returned (.int .i64 (k + N * (n * n))) ∧ Chg w w' (IV B U) ∧ O3I w' B U g cap N n (markX k n) := by
  obtain ⟨lo, hi, H, C, q1, q2, q3, q4⟩ := h.out
  have hle := q1.le
  have hmax := q1.max
  have Q1 := Lib.hid q1
  have Q3 := Lib.hid q3
  have Q4 := Lib.hid q4
  obtain ⟨D, hD⟩ : ∃ D, n * n = D := ⟨_, rfl⟩
  have hD36 : D ≤ 36 := by rw [← hD]; exact Nat.mul_le_mul hn hn
  have HD := Lib.hid hD
  have hDi : ((n : Int) * (n : Int)) = (D : Int) := by rw [← hD]; push_cast; rfl
  have HDI := Lib.hid hDi
  rw [hDi]
  clear h q1 q3 q4 hD hDi
  go_enter Try.func58, Try.ntmps58
  go_wp2
  go_loopg [1, 5] N (fun gg q i wr => ∃ j : Nat, j ≤ N ∧ gg = N - j ∧ i = .int .i64 j ∧ (∃ kv : Int, q = .int .i64 kv ∧ Hid (kv = k + j * D)) ∧ Hid (Chg w wr (fun x => ∃ i, i < N ∧ lo i ≤ x ∧ x < hi i)) ∧ Hid (∀ i, i < N → OTabM wr (lo i) (hi i) (H i) (C i) n (fun _ => n) (if i < j then markX k n i else X i)))
  case atStart => exact ⟨0, Nat.zero_le _, rfl, rfl, ⟨k, rfl, by show k = k + ((0 : Nat) : Int) * D; simp⟩, Chg.refl _ _, fun i hi' => by rw [if_neg (by omega)]; exact (Q3.out i hi').1⟩
  case round =>
    obtain ⟨j, hj, rfl, rfl, ⟨kv, rfl, hkv⟩, hc, hO⟩ := hrel
    have hT : Own wr 39 g cap N (fun i => .slice (some ⟨H i, 0, none⟩) n (C i)) := hc.out.own Q1.out (fun ⟨i, hi', e1, e2⟩ => by have := (Q3.out i hi').2.2.2; omega)
    by_cases hlt : j < N
    · have hu := hT.cell hlt
      have hb1 : (j : Int) * (D : Int) ≤ 72000000 := by
        have h := Nat.mul_le_mul (show j ≤ 2000000 by omega) hD36
        have e : ((j : Int) * (D : Int)) = ((j * D : Nat) : Int) := by push_cast; rfl
        rw [e]; omega
      have hb0 : 0 ≤ (j : Int) * (D : Int) := Int.mul_nonneg (by omega) (by omega)
      have hk0 : 0 ≤ kv ∧ kv ≤ 1073741824 := by have := hkv.out; omega
      have hs : sumL (fun _ => n) n = D := by rw [sumL_const]; exact HD.out
      have HM : Hid (Calls Try.prog 53 #[.slice (some ⟨H j, 0, none⟩) n (C j), .int .i64 kv] wr fun e w' => e = .returned (.int .i64 (kv + D)) ∧ Chg wr w' (fun b => lo j ≤ b ∧ b < hi j) ∧ OTabM w' (lo j) (hi j) (H j) (C j) n (fun _ => n) (markT kv (fun _ => n))) := by
        have h := markT_c2 (lo j) (hi j) (H j) (C j) n (fun _ => n) _ kv wr (hO.out j hlt) hk0.1 hk0.2 (by omega) (by rw [hs]; omega)
        rw [hs] at h
        exact h
      have hwk : IntKind.i64.wrap (kv + (D : Int)) = kv + D := wrap_in _ (by omega)
      clear hT hb1 hb0 hs
      go_wp2_with fail
      refine HM.out.mono ?_
      rintro e w1 ⟨rfl, hc1, hO1⟩
      have HO1 := Lib.hid hO1
      have HC1 := Lib.hid hc1
      clear hu hO1 hc1 HM
      go_wp2
      go_roundg (N - (j + 1))
      case measure => omega
      case rel =>
        have hkvj : kv = k + j * (n * n) := by rw [HDI.out]; exact hkv.out
        refine ⟨j + 1, by omega, rfl, by go_num, ⟨kv + D, rfl, by show kv + D = k + ((j + 1 : Nat) : Int) * D; have := hkv.out; rw [this]; push_cast; grind⟩, hc.out.trans (HC1.out.mono fun b e => ⟨j, hlt, e⟩), fun i hi' => ?_⟩
        by_cases e : i = j
        · subst e
          rw [if_pos (by omega)]
          have e2 : markX k n i = markT kv (fun _ => n) := by funext r c; unfold markX; rw [hkvj]
          rw [e2]; exact HO1.out
        · have h1 := (hO.out i hi').chgS HC1.out (fun x hx => by
            rcases Nat.lt_or_ge i j with h | h
            · have := Q4.out j i hlt h; omega
            · have := Q4.out i j hi' (by omega); omega)
          by_cases e2 : i < j
          · rw [if_pos e2] at h1; rw [if_pos (by omega)]; exact h1
          · rw [if_neg e2] at h1; rw [if_neg (by omega)]; exact h1
    · obtain rfl : j = N := by omega
      have hkv2 := hkv.out
      clear hT
      go_wp2
      go_ret
      refine ⟨ret_i64 hkv2, hc.out.mono (fun b ⟨i, hi', e1, e2⟩ => by have := (Q3.out i hi').2; exact ⟨by omega, by omega⟩), ⟨lo, hi, H, C, hc.out.own Q1.out (fun ⟨i, hi', e1, e2⟩ => by have := (Q3.out i hi').2.2.2; omega), q2, fun i hi' => ⟨?_, (Q3.out i hi').2⟩, Q4.out⟩⟩
      have h1 := hO.out i hi'
      rw [if_pos hi'] at h1
      exact h1

theorem markT3_nil (k : Int) (w : World) :
    Calls Try.prog 58 #[.slice none 0 0, .int .i64 k] w fun e w' => e = .returned (.int .i64 k) ∧ w = w' := by
  go_enter Try.func58, Try.ntmps58
  go_wp2
  go_loopg [1, 5] 0 (fun _ q i wr => q = .int .i64 k ∧ i = .int .i64 0 ∧ wr = w)
  case atStart => exact ⟨rfl, rfl, rfl⟩
  case round =>
    obtain ⟨rfl, rfl, rfl⟩ := hrel
    go_wp2
    go_ret
    exact ⟨rfl, rfl⟩
theorem markT3_o (a : Option Addr) (B U c N n : Nat) (X : Nat → Nat → Nat → Int) (k : Int) (w : World) (h : OT3 w B U a c N n X) (h0 : 0 ≤ k) (hk : k ≤ 1000000) (hN : N ≤ 2000000) (hn : n ≤ 6) :
    Calls Try.prog 58 #[.slice a N c, .int .i64 k] w fun e w' => e = .returned (.int .i64 (k + N * (n * n))) ∧ Chg w w' (IV B U) ∧ OT3 w' B U a c N n (markX k n) := by
  rcases h.out with ⟨rfl, rfl, rfl⟩ | ⟨g, rfl, hO⟩
  · exact (markT3_nil k w).mono fun e w' h => ⟨by rw [h.1]; simp, by rw [← h.2]; exact Chg.refl _ _, ⟨Or.inl ⟨rfl, rfl, rfl⟩⟩⟩
  · exact (markT3_c B U g c N n X k w hO h0 hk hN hn).mono fun e w' h => ⟨h.1, h.2.1, ⟨Or.inr ⟨g, rfl, h.2.2⟩⟩⟩

set_option maxHeartbeats 400000 in
theorem heldT_c2 (v : Value) (G : Nat) (L : Nat → Nat) (T : Nat → Nat → Int) (k : Int) (w : World) (h : Tab w v G L T) (h0 : 0 ≤ k) (hk : k ≤ 1073741824) (hG : G ≤ 1048576) (hn : sumL L G ≤ 1048576) (hT : ∀ i j, i < G → T i j = k + sumL L i + j) :
    Calls Try.prog 54 #[v, .int .i64 k] w fun e w' => e = .returned (.int .i64 (k + sumL L G)) ∧ w = w' := by
  obtain ⟨ao, c, b, o, A, C, RB, RO, rfl, h2, h3, h4, h5, h6, h7, h8⟩ := h.out
  have hr : ∀ i, i < G → Ints w (.slice (A i) (L i) (C i)) (L i) (T i) := fun i hi => Tab.rowAt h6 h7 h8 hi
  have HR := Lib.hid hr
  have P5 := Lib.hid h5
  have HT := Lib.hid hT
  clear h h5 h7 h8 hr hT h6
  go_enter Try.func54, Try.ntmps54
  go_wp2
  go_loopg [1, 5] G (fun gg q i wr => wr = w ∧ ∃ j : Nat, j ≤ G ∧ gg = G - j ∧ i = .int .i64 j ∧ q = .int .i64 (k + sumL L j))
  case atStart => exact ⟨rfl, 0, Nat.zero_le _, rfl, rfl, by simp [sumL]⟩
  case round =>
    obtain ⟨rfl, j, hj, rfl, rfl, rfl⟩ := hrel
    by_cases hlt : j < G
    · obtain rfl := h4 (by omega)
      have hc := P5.out j hlt
      have hs1 := sumL_row (L := L) hlt
      have hs2 := sumL_le (L := L) (show j ≤ G by omega)
      have hs3 : Hid (sumL L (j + 1) = sumL L j + L j) := rfl
      go_wp2_with fail
      refine (heldInt64S_c _ _ _ (k + sumL L j) _ (HR.out j hlt) (by omega) (by omega) (by omega) (fun i _ => HT.out j i hlt)).mono ?_
      rintro e w1 ⟨rfl, rfl⟩
      go_wp2
      go_roundg (G - (j + 1))
      case measure => omega
      case rel => exact ⟨rfl, j + 1, by omega, rfl, by go_num, by rw [hs3.out]; congr 1; simp; omega⟩
    · obtain rfl : j = G := by omega
      go_wp2
      go_ret
      exact ⟨rfl, rfl⟩

set_option maxHeartbeats 800000 in
theorem heldT3_c (v : Value) (N n : Nat) (k : Int) (w : World) (h : Tab3 w v N n (markX k n)) (h0 : 0 ≤ k) (hk : k ≤ 1000000) (hN : N ≤ 2000000) (hn : n ≤ 6) :
    Calls Try.prog 59 #[v, .int .i64 k] w fun e w' => e = .returned (.int .i64 (k + N * (n * n))) ∧ w = w' := by
  obtain ⟨ao, c, b, o, A, C, rfl, p2, p3, p4⟩ := h.out
  have H1 := Lib.hid p4
  obtain ⟨D, hD⟩ : ∃ D, n * n = D := ⟨_, rfl⟩
  have hD36 : D ≤ 36 := by rw [← hD]; exact Nat.mul_le_mul hn hn
  have HD := Lib.hid hD
  have hDi : ((n : Int) * (n : Int)) = (D : Int) := by rw [← hD]; push_cast; rfl
  have HDI := Lib.hid hDi
  rw [hDi]
  clear h p4 hD hDi
  go_enter Try.func59, Try.ntmps59
  go_wp2
  go_loopg [1, 5] N (fun gg q i wr => wr = w ∧ ∃ j : Nat, j ≤ N ∧ gg = N - j ∧ i = .int .i64 j ∧ ∃ kv : Int, q = .int .i64 kv ∧ Hid (kv = k + j * D))
  case atStart => exact ⟨rfl, 0, Nat.zero_le _, rfl, rfl, k, rfl, by show k = k + ((0 : Nat) : Int) * D; simp⟩
  case round =>
    obtain ⟨rfl, j, hj, rfl, rfl, kv, rfl, hkv⟩ := hrel
    by_cases hlt : j < N
    · obtain rfl := p3 (by omega)
      have hu := (H1.out j hlt).1
      have hb1 : (j : Int) * (D : Int) ≤ 72000000 := by
        have h := Nat.mul_le_mul (show j ≤ 2000000 by omega) hD36
        have e : ((j : Int) * (D : Int)) = ((j * D : Nat) : Int) := by push_cast; rfl
        rw [e]; omega
      have hb0 : 0 ≤ (j : Int) * (D : Int) := Int.mul_nonneg (by omega) (by omega)
      have hk0 : 0 ≤ kv ∧ kv ≤ 1073741824 := by have := hkv.out; omega
      have hs : sumL (fun _ => n) n = D := by rw [sumL_const]; exact HD.out
      have hkvj : kv = k + j * (n * n) := by rw [HDI.out]; exact hkv.out
      have HM : Hid (Calls Try.prog 54 #[.slice (A j) n (C j), .int .i64 kv] wr fun e w' => e = .returned (.int .i64 (kv + D)) ∧ wr = w') := by
        have h := heldT_c2 _ n (fun _ => n) _ kv wr (H1.out j hlt).2 hk0.1 hk0.2 (by omega) (by rw [hs]; omega) (fun r c hr => by unfold markX markT; rw [← hkvj])
        rw [hs] at h
        exact h
      have hwk : IntKind.i64.wrap (kv + (D : Int)) = kv + D := wrap_in _ (by omega)
      have hpos : ¬ kv + (D : Int) < 0 := by omega
      clear hb1 hb0 hs hkvj
      go_wp2_with fail
      refine HM.out.mono ?_
      rintro e w1 ⟨rfl, rfl⟩
      clear hu HM
      go_wp2
      go_roundg (N - (j + 1))
      case measure => omega
      case rel => exact ⟨rfl, j + 1, by omega, rfl, by go_num, kv + D, rfl, by show kv + D = k + ((j + 1 : Nat) : Int) * D; have := hkv.out; rw [this]; push_cast; grind⟩
    · obtain rfl : j = N := by omega
      have hkv2 := hkv.out
      go_wp2
      go_ret
      exact ⟨ret_i64 hkv2, rfl⟩

/-- A result that is a list of tables that the call made, or nil, and a code. -/
structure ResO3 (w w' : World) (e : Ending) (cc : Int) (N n : Nat) (X : Nat → Nat → Nat → Int) : Prop where
  out : ∃ a c, e = .returned (.tuple #[.slice a N c, .int .i64 cc]) ∧ Below w.heap.size w w' ∧ OT3 w' w.heap.size w'.heap.size a c N n X

/-! ### AllOrthogonal -/

/-- the code -/
def allC (p : Int) (n : Nat) (s : Nat → Int) : Int := if spB p n s then (if regB s n then (if 500 < cntO p n (wO p n s) then 3 else 0) else 5) else 1
/-- the list -/
def allL (p : Int) (n : Nat) (s : Nat → Int) : List (Nat → Nat → Int) := if allC p n s = 0 then growT p s n (p ^ n).toNat n (fun _ _ => 0) else []
theorem dF_regO {p : Int} {n : Nat} {s : Nat → Int} (h : SpOk p n s) : (dF p s n == 0) = !regB s n := by
  rw [disc_reg h.prime h.inp]; unfold regB; simp
theorem reg_nz {n : Nat} {s : Nat → Int} (h : regB s n = true) : ∀ i, i < n → s i ≠ 0 := fun i hi e => by
  unfold regB at h
  have h1 : (0 ≤ idx s 0 n) := (idx_nonneg s 0 n).2 ⟨i, hi, e⟩
  rw [decide_eq_true h1] at h
  exact absurd h (by decide)
theorem prime_cases {p : Int} (h : primeB p = true) : p = 3 ∨ p = 5 ∨ p = 7 ∨ p = 11 ∨ p = 13 := by
  have h1 := primeB_bd h
  have h2 : p = 3 ∨ p = 4 ∨ p = 5 ∨ p = 6 ∨ p = 7 ∨ p = 8 ∨ p = 9 ∨ p = 10 ∨ p = 11 ∨ p = 12 ∨ p = 13 := by omega
  rcases h2 with rfl | rfl | rfl | rfl | rfl | rfl | rfl | rfl | rfl | rfl | rfl <;> first | omega | (exfalso; revert h; decide)
theorem all_len {p : Int} {n : Nat} {s : Nat → Int} (h : allC p n s = 0) : SpOk p n s ∧ regB s n = true ∧ ∃ tT : Nat, p ^ n = (tT : Int) ∧ (p ^ n).toNat = tT ∧ (growT p s n tT n (fun _ _ => 0)).length ≤ 2000000 := by
  unfold allC at h
  cases hk : spB p n s
  · rw [hk] at h; simp at h
  · rw [hk, if_pos rfl] at h
    cases hr : regB s n
    · rw [hr] at h; simp at h
    · rw [hr, if_pos rfl] at h
      by_cases hm : 500 < cntO p n (wO p n s)
      · rw [if_pos hm] at h; omega
      · have hsp := spB_ok hk
        have hpb := hsp.bd
        have hpn := pow_sm hpb.1 hpb.2 hsp.n6
        obtain ⟨tT, hT⟩ := Int.eq_ofNat_of_zero_le (show 0 ≤ p ^ n by omega)
        have hfew := cntO_few (prime_cases hsp.prime) ⟨hsp.n1, hsp.n6⟩ (wO_two p n s) (by omega)
        have h3 := few_list (tT := tT) hpb.2 hpb.1 hfew hT
        refine ⟨hsp, rfl, tT, hT, by rw [hT]; rfl, Nat.le_trans (growT_len p s n tT n _) h3.1⟩
theorem all_le (p : Int) (n : Nat) (s : Nat → Int) : (allL p n s).length ≤ 2000000 := by
  unfold allL
  by_cases h : allC p n s = 0
  · rw [if_pos h]
    obtain ⟨_, _, tT, _, e, hl⟩ := all_len h
    rw [e]; exact hl
  · rw [if_neg h]; exact Nat.zero_le _

set_option maxRecDepth 100000 in
set_option maxHeartbeats 4000000 in
theorem sAllOrthogonal_c (p : Int) (sv : Value) (n : Nat) (s : Nat → Int) (w : World) (h : Ints w sv n s) :
    Calls Try.prog 55 #[dbl p sv] w fun e w' => ResO3 w w' e (allC p n s) (allL p n s).length n (fun i => (allL p n s).getD i (fun _ _ => 0)) := by
  have H' := Lib.hid h
  obtain ⟨ao, c, b, o, rfl, p2, p3, qx⟩ := h.out
  have BX := Lib.hid (box0 w p ao n c 26)
  obtain ⟨e0, e1, e2, e3⟩ := BX.out
  clear h qx
  have hno : ∀ cc, cc ≠ 0 → allC p n s = cc → allL p n s = [] := fun cc h1 h2 => by unfold allL; rw [if_neg (by omega)]
  have C1 : Hid (∀ W, Below w.heap.size w W → Calls Try.prog 65 #[dbl p (.slice ao n c)] W fun e w' => Makes W w' e (.bool (spB p n s))) := fun W hb => sIsSp_c p _ n s W (H'.out.below hb)
  cases hok : spB p n s
  · have hc : allC p n s = 1 := by unfold allC; rw [hok]; rfl
    rw [hno 1 (by decide) hc, hc]
    rw [hok] at C1
    clear hok hc hno
    go_enter Try.func55, Try.ntmps55
    go_wp2_with fail
    refine Calls.makes' (C1.out _ e3) _ fun w1 hb1 => ?_
    have b4 := e3.trans (hb1.mono e3.size)
    go_wp2
    go_ret2
    exact ⟨none, 0, rfl, b4, ⟨Or.inl ⟨rfl, rfl, rfl⟩⟩⟩
  · have hsp := spB_ok hok
    have hpb := hsp.bd
    have hn1 := hsp.n1
    have hn6 := hsp.n6
    rw [hok] at C1
    have D1 : Hid (∀ W, Below w.heap.size w W → Calls Try.prog 95 #[dbl p (.slice ao n c)] W fun e w' => Makes W w' e (.int .i64 (dF p s n))) := fun W hb => sDisc_c p _ n s W ⟨H'.out.below hb, hsp⟩
    have hd1 := dF_regO hsp
    obtain ⟨x1, hx1⟩ : ∃ x, dF p s n = x := ⟨_, rfl⟩
    rw [hx1] at hd1 D1
    cases hr : regB s n
    · have hc : allC p n s = 5 := by unfold allC; rw [hok, hr]; rfl
      rw [hno 5 (by decide) hc, hc]
      rw [hr] at hd1
      have hd1' : (x1 == 0) = true := hd1
      clear hok hc hno hd1 hx1 hr hsp
      go_enter Try.func55, Try.ntmps55
      go_wp2_with fail
      refine Calls.makes' (C1.out _ e3) _ fun w1 hb1 => ?_
      obtain ⟨f0, f1, f2, f3⟩ := boxKeep hb1 BX.out
      clear e0 e1 e2 e3
      go_wp2_with fail
      go_at_call 95
      refine Calls.makes' (D1.out _ f3) _ fun w2 hb2 => ?_
      have b4 := f3.trans (hb2.mono f3.size)
      go_wp2
      go_ret2
      exact ⟨none, 0, rfl, b4, ⟨Or.inl ⟨rfl, rfl, rfl⟩⟩⟩
    · rw [hr] at hd1
      have hd1' : (x1 == 0) = false := hd1
      obtain ⟨M, hM⟩ : ∃ M, cntO p n (wO p n s) = M := ⟨_, rfl⟩
      have K1 : Hid (∀ W, Below w.heap.size w W → Calls Try.prog 119 #[dbl p (.slice ao n c)] W fun e w' => Makes W w' e (.int .i64 M)) := fun W hb => hM ▸ sCount_c p _ n s W ⟨H'.out.below hb, hsp⟩
      by_cases hm : 500 < M
      · have hc : allC p n s = 3 := by unfold allC; rw [hok, hr, hM, if_pos rfl, if_pos rfl, if_pos hm]
        rw [hno 3 (by decide) hc, hc]
        clear hok hc hno hd1 hx1 hr hsp hM
        go_enter Try.func55, Try.ntmps55
        go_wp2_with fail
        refine Calls.makes' (C1.out _ e3) _ fun w1 hb1 => ?_
        have BX1 := Lib.hid (boxKeep hb1 BX.out)
        obtain ⟨f0, f1, f2, f3⟩ := BX1.out
        clear e0 e1 e2 e3
        go_wp2_with fail
        go_at_call 95
        refine Calls.makes' (D1.out _ f3) _ fun w2 hb2 => ?_
        obtain ⟨e0, e1, e2, e3⟩ := boxKeep hb2 BX1.out
        clear f0 f1 f2 f3
        go_wp2_with fail
        go_at_call 119
        refine Calls.makes' (K1.out _ e3) _ fun w3 hb3 => ?_
        have b4 := e3.trans (hb3.mono e3.size)
        go_wp2
        go_ret2
        exact ⟨none, 0, rfl, b4, ⟨Or.inl ⟨rfl, rfl, rfl⟩⟩⟩
      · have hc : allC p n s = 0 := by unfold allC; rw [hok, hr, hM, if_pos rfl, if_pos rfl, if_neg hm]
        obtain ⟨_, _, tT, hTT, htn, hlen⟩ := all_len hc
        have hall : allL p n s = growT p s n tT n (fun _ _ => 0) := by unfold allL; rw [if_pos hc, htn]
        rw [hall, hc]
        have HGR : Hid (∀ W gl, Below w.heap.size w W → w.heap.size ≤ gl → OL W (fun x => x < w.heap.size) (.slice (some ⟨gl, 0, none⟩) 0 0) n [] → ∀ gc, Calls Try.prog 120 #[dbl p (.slice ao n c), .slice (some ⟨gc, 0, none⟩) 0 0, .slice (some ⟨gl, 0, none⟩) 0 0] W fun e w' => ∃ la lc, e = .returned (.slice la (growT p s n tT n (fun _ _ => 0)).length lc) ∧ Below w.heap.size w w' ∧ OT3 w' w.heap.size w'.heap.size la lc (growT p s n tT n (fun _ _ => 0)).length n (fun i => (growT p s n tT n (fun _ _ => 0)).getD i (fun _ _ => 0))) := fun W gl hb hgl hL gc => by
          have hlb : ∀ x, LB (.slice (some ⟨gl, 0, none⟩) 0 0) x → w.heap.size ≤ x := fun x hx => by have := LB_some.1 hx; omega
          refine (sGrow_c p s n tT hTT (reg_nz hr) n (Nat.le_refl _) _ _ _ (fun _ _ => 0) [] (fun x => x < w.heap.size) W (fun W' hW => ⟨H'.out.below (hb.trans (hW.below hb.size hlb)), hsp⟩) (by rw [Nat.sub_self]; exact TabA.none _ _ _ _ _ _ (by omega)) (fun i hi => absurd hi (by omega)) hL (fun x hx => by have := hb.size; have hx : x < w.heap.size := hx; omega) (by simp; omega)).mono ?_
          rintro e w' ⟨lv', rfl, hL', hC', _⟩
          rw [List.nil_append] at hL'
          obtain ⟨la, lc, rfl, hO⟩ := hL'.ot3
          exact ⟨la, lc, rfl, hb.trans (hC'.below hb.size hlb), hO⟩
        obtain ⟨G, hG⟩ : ∃ G, growT p s n tT n (fun _ _ => 0) = G := ⟨_, rfl⟩
        rw [hG] at HGR hlen ⊢
        obtain ⟨gl, hgl⟩ : ∃ k, G.length = k := ⟨_, rfl⟩
        rw [hgl] at HGR ⊢
        clear hok hc hno hd1 hx1 hr hsp hM hall hG hTT htn hlen hgl
        go_enter Try.func55, Try.ntmps55
        go_wp2_with fail
        refine Calls.makes' (C1.out _ e3) _ fun w1 hb1 => ?_
        have BX1 := Lib.hid (boxKeep hb1 BX.out)
        obtain ⟨f0, f1, f2, f3⟩ := BX1.out
        clear e0 e1 e2 e3
        go_wp2_with fail
        go_at_call 95
        refine Calls.makes' (D1.out _ f3) _ fun w2 hb2 => ?_
        have BX2 := Lib.hid (boxKeep hb2 BX1.out)
        obtain ⟨e0, e1, e2, e3⟩ := BX2.out
        clear f0 f1 f2 f3
        go_wp2_with fail
        go_at_call 119
        refine Calls.makes' (K1.out _ e3) _ fun w3 hb3 => ?_
        obtain ⟨f0, f1, f2, f3⟩ := boxKeep hb3 BX2.out
        have hba : Below w3.heap.size w3 (w3.alloc (.cells #[] 24)) := (Below.refl _ _).alloc (Nat.le_refl _) _
        have sza : (w3.alloc (.cells #[] 24)).heap.size = w3.heap.size + 1 := alloc_size _ _
        have hbb : Below w3.heap.size w3 ((w3.alloc (.cells #[] 24)).alloc (.cells #[] 39)) := hba.alloc (by omega) _
        have hE := OL.empty (w3.alloc (.cells #[] 24)) (S := fun x => x < w.heap.size) (fun x hx => by have hx : x < w.heap.size := hx; have := f3.size; omega) n
        rw [sza] at hE
        have hc0 := cellKp hba f0
        have hc1 := cellKp hba f1
        have hc2 := cellKp hbb f0
        have hc3 := cellKp hbb f1
        have HCall := Lib.hid (HGR.out _ (w3.heap.size + 1) (f3.trans (hbb.mono f3.size)) (by have := f3.size; omega) hE w3.heap.size)
        clear e0 e1 e2 e3 hba hbb hE HGR sza
        go_wp2_with fail
        go_at_call 120
        refine HCall.out.mono ?_
        rintro e w9 ⟨la, lc, rfl, hb9, hO9⟩
        have HB9 := Lib.hid hb9
        have HO9 := Lib.hid hO9
        clear hb9 hO9 HCall
        go_wp2
        go_ret2
        exact ⟨la, lc, rfl, HB9.out, HO9.out⟩

set_option maxRecDepth 100000 in
set_option maxHeartbeats 4000000 in
theorem iAllOrthogonal_c (p : Int) (sv : Value) (n : Nat) (s : Nat → Int) (w : World) (h : Ints w sv n s) :
    Calls Try.prog 56 #[dbl p sv] w fun e w' => ResO3 w w' e (allC p n s) (allL p n s).length n (fun i => (allL p n s).getD i (fun _ _ => 0)) := by
  have H' := Lib.hid h
  obtain ⟨ao, c, b, o, rfl, p2, p3, qx⟩ := h.out
  have BX := Lib.hid (box0 w p ao n c 26)
  obtain ⟨e0, e1, e2, e3⟩ := BX.out
  clear h qx
  have hno : ∀ cc, cc ≠ 0 → allC p n s = cc → allL p n s = [] := fun cc h1 h2 => by unfold allL; rw [if_neg (by omega)]
  have C1 : Hid (∀ W, Below w.heap.size w W → Calls Try.prog 121 #[dbl p (.slice ao n c)] W fun e w' => Makes W w' e (rC (witC p n s) (cntO p n (wO p n s)))) := fun W hb => iCountOrthogonal_c p _ n s W (H'.out.below hb)
  obtain ⟨M, hM⟩ : ∃ M, cntO p n (wO p n s) = M := ⟨_, rfl⟩
  rw [hM] at C1
  obtain ⟨k, hk⟩ : ∃ k, witC p n s = k := ⟨_, rfl⟩
  by_cases h0 : k = 0
  · subst h0
    have hor : spB p n s = true ∧ regB s n = true := by
      unfold witC at hk
      cases h1 : spB p n s
      · rw [h1] at hk; simp at hk
      · rw [h1, if_pos rfl] at hk
        cases h2 : regB s n
        · rw [h2] at hk; simp at hk
        · exact ⟨rfl, rfl⟩
    have C2 : Hid (∀ W, Below w.heap.size w W → Calls Try.prog 121 #[dbl p (.slice ao n c)] W fun e w' => Makes W w' e (.tuple #[.int .i64 M, .int .i64 0])) := fun W hb => by
      have h := C1.out W hb
      rw [hk] at h
      exact h
    obtain ⟨hok, hr⟩ := hor
    have hsp := spB_ok hok
    have hn1 := hsp.n1
    have hn6 := hsp.n6
    by_cases hm : 500 < M
    · have hc : allC p n s = 3 := by unfold allC; rw [hok, hr, hM, if_pos rfl, if_pos rfl, if_pos hm]
      rw [hno 3 (by decide) hc, hc]
      clear hok hc hno hr hsp hM hk C1
      go_enter Try.func56, Try.ntmps56
      go_wp2_with fail
      refine Calls.makes' (C2.out _ e3) _ fun w1 hb1 => ?_
      have b4 := e3.trans (hb1.mono e3.size)
      go_wp2
      go_ret2
      exact ⟨none, 0, rfl, b4, ⟨Or.inl ⟨rfl, rfl, rfl⟩⟩⟩
    · have hc : allC p n s = 0 := by unfold allC; rw [hok, hr, hM, if_pos rfl, if_pos rfl, if_neg hm]
      obtain ⟨_, _, tT, hTT, htn, hlen⟩ := all_len hc
      have hall : allL p n s = growT p s n tT n (fun _ _ => 0) := by unfold allL; rw [if_pos hc, htn]
      rw [hall, hc]
      have HGR : Hid (∀ W, Below w.heap.size w W → Calls Try.prog 122 #[dbl p (.slice ao n c), .slice none 0 0, .slice none 0 0] W fun e w' => ∃ la lc, e = .returned (.slice la (growT p s n tT n (fun _ _ => 0)).length lc) ∧ Below w.heap.size w w' ∧ OT3 w' w.heap.size w'.heap.size la lc (growT p s n tT n (fun _ _ => 0)).length n (fun i => (growT p s n tT n (fun _ _ => 0)).getD i (fun _ _ => 0))) := fun W hb => by
        have hlb : ∀ x, LB (.slice none 0 0) x → w.heap.size ≤ x := fun x hx => absurd hx LB_none
        refine (iGrow_c p s n tT hTT n (Nat.le_refl _) _ _ _ (fun _ _ => 0) [] (fun x => x < w.heap.size) W (fun W' hW => ⟨H'.out.below (hb.trans (hW.below hb.size hlb)), hsp⟩) (by rw [Nat.sub_self]; exact TabA.none _ _ _ _ _ _ (by omega)) (fun _ => rfl) (fun i hi => absurd hi (by omega)) ⟨Or.inl ⟨rfl, rfl⟩⟩ (fun x hx => by have := hb.size; have hx : x < w.heap.size := hx; omega) (by simp; omega)).mono ?_
        rintro e w' ⟨lv', rfl, hL', hC', _⟩
        rw [List.nil_append] at hL'
        obtain ⟨la, lc, rfl, hO⟩ := hL'.ot3
        exact ⟨la, lc, rfl, hb.trans (hC'.below hb.size hlb), hO⟩
      obtain ⟨G, hG⟩ : ∃ G, growT p s n tT n (fun _ _ => 0) = G := ⟨_, rfl⟩
      rw [hG] at HGR hlen ⊢
      obtain ⟨gl, hgl⟩ : ∃ k, G.length = k := ⟨_, rfl⟩
      rw [hgl] at HGR ⊢
      clear hok hc hno hr hsp hM hall hG hTT htn hlen hgl hk C1
      go_enter Try.func56, Try.ntmps56
      go_wp2_with fail
      refine Calls.makes' (C2.out _ e3) _ fun w1 hb1 => ?_
      obtain ⟨f0, f1, f2, f3⟩ := boxKeep hb1 BX.out
      have HCall := Lib.hid (HGR.out _ f3)
      clear e0 e1 e2 e3 HGR
      go_wp2_with fail
      go_at_call 122
      refine HCall.out.mono ?_
      rintro e w9 ⟨la, lc, rfl, hb9, hO9⟩
      have HB9 := Lib.hid hb9
      have HO9 := Lib.hid hO9
      clear hb9 hO9 HCall
      go_wp2
      go_ret2
      exact ⟨la, lc, rfl, HB9.out, HO9.out⟩
  · have hc : allC p n s = k := by
      unfold allC; unfold witC at hk
      cases h1 : spB p n s
      · rw [h1] at hk; simpa using hk
      · rw [h1, if_pos rfl] at hk
        rw [if_pos rfl]
        cases h2 : regB s n
        · rw [h2] at hk; simpa using hk
        · rw [h2] at hk; simp at hk; omega
    rw [hno k h0 hc, hc]
    have C2 : Hid (∀ W, Below w.heap.size w W → Calls Try.prog 121 #[dbl p (.slice ao n c)] W fun e w' => Makes W w' e (.tuple #[.int .i64 0, .int .i64 k])) := fun W hb => by
      have h := C1.out W hb
      rw [hk] at h
      unfold rC at h
      rw [if_neg h0] at h
      exact h
    have hne : (k != 0) = true := by simpa using h0
    clear hc hno hk hM C1 h0
    go_enter Try.func56, Try.ntmps56
    go_wp2_with fail
    refine Calls.makes' (C2.out _ e3) _ fun w1 hb1 => ?_
    have b4 := e3.trans (hb1.mono e3.size)
    go_wp2
    go_ret2
    exact ⟨none, 0, rfl, b4, ⟨Or.inl ⟨rfl, rfl, rfl⟩⟩⟩

end Go.Proofs.Ytnkflgigbielgaa

/-
  The law on AllOrthogonal returns true. No condition.
-/
set_option linter.unusedVariables false
set_option linter.unusedSimpArgs false
namespace Go.Proofs.Ytnkflgigbielgaa
open Go.RowKit

theorem mulN_bd {N m : Nat} (hN : N ≤ 2000000) (hm : m ≤ 6) : 0 ≤ (N : Int) * ((m : Int) * (m : Int)) ∧ (N : Int) * ((m : Int) * (m : Int)) ≤ 72000000 := by
  have h := Nat.mul_le_mul hN (Nat.mul_le_mul hm hm)
  have e : ((N : Int) * ((m : Int) * (m : Int))) = ((N * (m * m) : Nat) : Int) := by push_cast; rfl
  rw [e]; omega
theorem markT3_z (a : Option Addr) (B U c N n : Nat) (X : Nat → Nat → Nat → Int) (k Z : Int) (w : World) (hZ : (N : Int) * ((n : Int) * (n : Int)) = Z) (h : OT3 w B U a c N n X) (h0 : 0 ≤ k) (hk : k ≤ 1000000) (hN : N ≤ 2000000) (hn : n ≤ 6) :
    Calls Try.prog 58 #[.slice a N c, .int .i64 k] w fun e w' => e = .returned (.int .i64 (k + Z)) ∧ Chg w w' (IV B U) ∧ OT3 w' B U a c N n (markX k n) := hZ ▸ markT3_o a B U c N n X k w h h0 hk hN hn
theorem heldT3_z (v : Value) (N n : Nat) (k Z : Int) (w : World) (hZ : (N : Int) * ((n : Int) * (n : Int)) = Z) (h : Tab3 w v N n (markX k n)) (h0 : 0 ≤ k) (hk : k ≤ 1000000) (hN : N ≤ 2000000) (hn : n ≤ 6) :
    Calls Try.prog 59 #[v, .int .i64 k] w fun e w' => e = .returned (.int .i64 (k + Z)) ∧ w = w' := hZ ▸ heldT3_c v N n k w h h0 hk hN hn
/-- for the law: the tables' size is told as a small number where there is none -/
theorem ResO3.size {w w' : World} {e : Ending} {cc : Int} {N n : Nat} {X : Nat → Nat → Nat → Int} (h : ResO3 w w' e cc N n X) (h0 : ¬ n ≤ 6 → N = 0) : ResO3 w w' e cc N (if n ≤ 6 then n else 0) X := by
  by_cases hn : n ≤ 6
  · rw [if_pos hn]; exact h
  · rw [if_neg hn]
    have hN := h0 hn
    subst hN
    obtain ⟨a, c, h1, h2, h3⟩ := h.out
    refine ⟨a, c, h1, h2, ?_⟩
    rcases h3.out with h | ⟨g, e, hO⟩
    · exact ⟨Or.inl h⟩
    · obtain ⟨lo, hi, H, C, q1, q2, q3, q4⟩ := hO.out
      exact ⟨Or.inr ⟨g, e, lo, hi, H, C, q1.congr fun i hi' => absurd hi' (Nat.not_lt_zero _), q2, fun i hi' => absurd hi' (Nat.not_lt_zero _), q4⟩⟩
theorem all_none {p : Int} {n : Nat} {s : Nat → Int} (h : ¬ n ≤ 6) : (allL p n s).length = 0 := by
  unfold allL
  by_cases hc : allC p n s = 0
  · have := (all_len hc).1.n6
    omega
  · rw [if_neg hc]; rfl

theorem AllOrthogonal_o (pd : Int) (nd : Nat) (sd : Nat → Int) :
    ∃ (cc : Int) (N m : Nat) (R : Nat → Nat → Nat → Int), N ≤ 2000000 ∧ m ≤ 6 ∧ 
    (∀ (W : World) (dv : Value), Ints W dv nd sd → Calls Try.prog 55 #[dbl pd dv] W fun e w' => ResO3 W w' e cc N m R) ∧
    (∀ (W : World) (dv : Value), Ints W dv nd sd → Calls Try.prog 56 #[dbl pd dv] W fun e w' => ResO3 W w' e cc N m R) :=
  ⟨allC pd nd sd, (allL pd nd sd).length, if nd ≤ 6 then nd else 0, fun i => (allL pd nd sd).getD i (fun _ _ => 0), all_le pd nd sd, (by split <;> omega), fun W dv h1 => (sAllOrthogonal_c pd dv nd sd W h1).mono fun _ _ h => h.size all_none, fun W dv h1 => (iAllOrthogonal_c pd dv nd sd W h1).mono fun _ _ h => h.size all_none⟩

set_option maxRecDepth 100000 in
set_option maxHeartbeats 8000000 in
theorem lawAllOrthogonal_c (pd : Int) (dv : Value) (nd : Nat) (sd : Nat → Int) (w : World) (hd : Ints w dv nd sd) :
    Calls Try.prog 9 #[dbl pd dv] w fun e w' => Law w w' e := by
  have id : Hid (∀ W, Below w.heap.size w W → Ints W dv nd sd) := fun W hb => hd.below hb
  obtain ⟨ad, cd, _, _, rfl, pd2, pd3, _⟩ := hd.out
  obtain ⟨e0, e1, e2, e3⟩ := box0 w pd ad nd cd 59
  have BX := Lib.hid (box0 w pd ad nd cd 59)
  have E3 := Lib.hid e3
  clear hd
  obtain ⟨cc, N, m, R, hN, hm, CS0, CI0⟩ := AllOrthogonal_o pd nd sd
  obtain ⟨Z, hZ⟩ : ∃ Z : Int, (N : Int) * ((m : Int) * (m : Int)) = Z := ⟨_, rfl⟩
  have hZ0 : 0 ≤ Z ∧ Z ≤ 72000000 := by rw [← hZ]; exact mulN_bd hN hm
  have HZ := Lib.hid hZ
  clear hZ
  have CS := Lib.hid CS0
  have CI := Lib.hid CI0
  clear CS0 CI0
  by_cases hs : nd ≤ 1048576
  rotate_left
  · have h0 := szP_big hs
    go_enter Try.func9, Try.ntmps9
    go_wp2_with fail
    go_at_call 42
    refine Calls.makes' (szSp_c _ _ _ _ _ (id.out _ E3.out)) _ fun w1 hb1 => ?_
    rw [h0]
    go_wp2
    go_ret
    exact ⟨rfl, E3.out.trans (hb1.mono E3.out.size)⟩
  have h0 := szP_ok hs
  go_enter Try.func9, Try.ntmps9
  go_wp2_with fail
  go_at_call 42
  refine Calls.makes' (szSp_c _ _ _ _ _ (id.out _ E3.out)) _ fun w1 hb1 => ?_
  obtain ⟨f0, f1, _, bb⟩ := boxKeep hb1 BX.out
  have hu : Hid (w.heap.size + 1 ≤ w1.heap.size) := Lib.hid (lt_of_cell f0)
  clear e0 e1 e2 e3 hb1 BX E3
  go_wp2_with fail
  refine (toSp_o _ _ _ _ _ (id.out _ bb) hs).mono ?_
  rintro e w2 ⟨a2, c2, rfl, hb2, nsd⟩
  have d_sd := hu
  have s_sd := Lib.hid hb2.size
  have g_sd := Lib.hid (Nat.succ_le_of_lt (lt_of_cell f0))
  have f0 := cellKp hb2 f0
  have f1 := cellKp hb2 f1
  have bb := bb.trans (hb2.mono bb.size)
  have hu := Lib.hid (Nat.le_trans hu.out hb2.size)
  have sd := nsd
  clear nsd hb2 hu
  have hu := Lib.hid (Nat.le_refl w2.heap.size)
  go_wp2_with fail
  go_at_call 55
  refine (CS.out _ _ sd.ints).mono ?_
  rintro e w3 ⟨a3, c3, rfl, hb3, noW⟩
  have d_oW := hu
  have s_oW := Lib.hid hb3.size
  have g_oW := Lib.hid (Nat.succ_le_of_lt (lt_of_cell f0))
  have sd := sd.kept hb3
  have f0 := cellKp hb3 f0
  have f1 := cellKp hb3 f1
  have bb := bb.trans (hb3.mono bb.size)
  have hu := Lib.hid (Nat.le_trans hu.out hb3.size)
  have oW := noW
  clear noW hb3 hu
  have hu := Lib.hid (Nat.le_refl w3.heap.size)
  clear sd
  clear d_sd s_sd g_sd
  go_wp2_with fail
  refine (toSp_o _ _ _ _ _ (id.out _ bb) hs).mono ?_
  rintro e w4 ⟨a4, c4, rfl, hb4, nxd⟩
  have d_xd := hu
  have s_xd := Lib.hid hb4.size
  have g_xd := Lib.hid (Nat.succ_le_of_lt (lt_of_cell f0))
  have oW := oW.kept hb4
  have f0 := cellKp hb4 f0
  have f1 := cellKp hb4 f1
  have bb := bb.trans (hb4.mono bb.size)
  have hu := Lib.hid (Nat.le_trans hu.out hb4.size)
  have xd := nxd
  clear nxd hb4 hu
  have hu := Lib.hid (Nat.le_refl w4.heap.size)
  have ha7 : Below w4.heap.size w4 (w4.alloc (.cells #[.int .i64 pd, .slice a4 nd c4] 26)) := (Below.refl _ _).alloc (Nat.le_refl _) _
  have D7 := box0 w4 pd a4 nd c4 26
  have d0 := D7.1
  have d1 := D7.2.1
  have lw7 := bb.size
  have oW := oW.kept ha7
  have xd := xd.kept ha7
  have f0 := cellKp ha7 f0
  have f1 := cellKp ha7 f1
  have bb := bb.trans (ha7.mono bb.size)
  clear ha7 D7 hu
  go_wp2_with fail
  go_at_call 56
  refine (CI.out _ _ xd.ints).mono ?_
  rintro e w5 ⟨a5, c5, rfl, hb5, noG⟩
  have noG := noG.low (Nat.le_of_eq (alloc_size _ _).symm)
  have s_oG : Hid (w4.heap.size + 1 ≤ w5.heap.size) := Lib.hid (Nat.le_trans (Nat.le_of_eq (alloc_size _ _).symm) hb5.size)
  have g_oG : Hid (w.heap.size + 1 ≤ w4.heap.size + 1) := Lib.hid (Nat.succ_le_succ lw7)
  clear lw7
  have d_oG : Hid (w4.heap.size + 1 ≤ w4.heap.size + 1) := Lib.hid (Nat.le_refl _)
  have oW := oW.kept hb5
  have xd := xd.kept hb5
  have f0 := cellKp hb5 f0
  have f1 := cellKp hb5 f1
  have d0 := cellKp hb5 d0
  have d1 := cellKp hb5 d1
  have bb := bb.trans (hb5.mono bb.size)
  have oG := noG
  clear noG hb5
  have hu := Lib.hid (Nat.le_refl w5.heap.size)
  go_wp2_with fail
  refine Calls.reads' (wr := w) (eqT3_c _ _ _ _ _ _ oG.tab3 oW.tab3) _ fun q1 => ?_
  have oW := oW.kept (below_drewN _ q1)
  have xd := xd.kept (below_drewN _ q1)
  have oG := oG.kept (below_drewN _ q1)
  have f0 := cellKp (below_drewN _ q1) f0
  have f1 := cellKp (below_drewN _ q1) f1
  have d0 := cellKp (below_drewN _ q1) d0
  have d1 := cellKp (below_drewN _ q1) d1
  have bb := bb.trans ((below_drewN _ q1).mono bb.size)
  have hu := Lib.hid (Nat.le_trans hu.out (below_drewN _ q1).size)
  go_wp2
  go_region_held3 (fun W => W.cell? ⟨w.heap.size, 0, none⟩ = some (.int .i64 pd) ∧ W.cell? ⟨w.heap.size, 1, none⟩ = some (.slice ad nd cd) ∧ W.cell? ⟨w4.heap.size, 0, none⟩ = some (.int .i64 pd) ∧ W.cell? ⟨w4.heap.size, 1, none⟩ = some (.slice a4 nd c4) ∧ Below w.heap.size w W)
    ((first | assumption | exact box2Keep (drewBelow _) ⟨f0, f1, d0, d1, bb⟩ | exact box2Keep (by assumption) (by assumption)))
    ((first
      | (go_at_call 45; refine (toSp_o _ _ _ _ _ (id.out _ (box2Below (by assumption))) hs).mono ?_; rintro e wc ⟨ac', cc', rfl, hbc, hOc⟩)
      | (go_at_call 48; refine Calls.makes' (eqSp_c _ _ _ _ _ _ ((xd.kept (drewBelow _)).kept hbc).ints hOc.ints) _ fun wd hbd => ?_)))
  have oW := oW.kept (drewBelow _)
  have xd := xd.kept (drewBelow _)
  have oG := oG.kept (drewBelow _)
  have f0 := cellKp (drewBelow _) f0
  have f1 := cellKp (drewBelow _) f1
  have d0 := cellKp (drewBelow _) d0
  have d1 := cellKp (drewBelow _) d1
  have bb := bb.trans ((drewBelow _).mono bb.size)
  have hu := Lib.hid (Nat.le_trans hu.out (drewBelow _).size)
  have oW := oW.kept hbc
  have xd := xd.kept hbc
  have oG := oG.kept hbc
  have f0 := cellKp hbc f0
  have f1 := cellKp hbc f1
  have d0 := cellKp hbc d0
  have d1 := cellKp hbc d1
  have bb := bb.trans (hbc.mono bb.size)
  have hu := Lib.hid (Nat.le_trans hu.out hbc.size)
  have oW := oW.kept hbd
  have xd := xd.kept hbd
  have oG := oG.kept hbd
  have f0 := cellKp hbd f0
  have f1 := cellKp hbd f1
  have d0 := cellKp hbd d0
  have d1 := cellKp hbd d1
  have bb := bb.trans (hbd.mono bb.size)
  have hu := Lib.hid (Nat.le_trans hu.out hbd.size)
  clear hbc hbd hOc
  go_wp2_with fail
  go_at_call 52
  refine (markSp_o _ _ _ _ _ _ _ _ _ xd (by omega) (by omega) (by omega)).mono ?_
  rintro e m6 ⟨rfl, hc⟩
  have oW := oW.chg hc (by have z0 := d_oW.out; have y0 := s_oW.out; have v0 := g_oW.out; have z1 := d_xd.out; have y1 := s_xd.out; have v1 := g_xd.out; have z2 := d_oG.out; have y2 := s_oG.out; have v2 := g_oG.out; omega)
  have oG := oG.chg hc (by have z0 := d_oW.out; have y0 := s_oW.out; have v0 := g_oW.out; have z1 := d_xd.out; have y1 := s_xd.out; have v1 := g_xd.out; have z2 := d_oG.out; have y2 := s_oG.out; have v2 := g_oG.out; omega)
  have f0 := hc.cellI (by have z0 := d_oW.out; have y0 := s_oW.out; have v0 := g_oW.out; have z1 := d_xd.out; have y1 := s_xd.out; have v1 := g_xd.out; have z2 := d_oG.out; have y2 := s_oG.out; have v2 := g_oG.out; omega) f0
  have f1 := hc.cellI (by have z0 := d_oW.out; have y0 := s_oW.out; have v0 := g_oW.out; have z1 := d_xd.out; have y1 := s_xd.out; have v1 := g_xd.out; have z2 := d_oG.out; have y2 := s_oG.out; have v2 := g_oG.out; omega) f1
  have d0 := hc.cellI (by have z0 := d_oW.out; have y0 := s_oW.out; have v0 := g_oW.out; have z1 := d_xd.out; have y1 := s_xd.out; have v1 := g_xd.out; have z2 := d_oG.out; have y2 := s_oG.out; have v2 := g_oG.out; omega) d0
  have d1 := hc.cellI (by have z0 := d_oW.out; have y0 := s_oW.out; have v0 := g_oW.out; have z1 := d_xd.out; have y1 := s_xd.out; have v1 := g_xd.out; have z2 := d_oG.out; have y2 := s_oG.out; have v2 := g_oG.out; omega) d1
  have bb := bb.trans (hc.belowI bb.size (by have z0 := d_oW.out; have y0 := s_oW.out; have v0 := g_oW.out; have z1 := d_xd.out; have y1 := s_xd.out; have v1 := g_xd.out; have z2 := d_oG.out; have y2 := s_oG.out; have v2 := g_oG.out; omega))
  have hu := Lib.hid (Nat.le_trans hu.out hc.size)
  clear hc
  clear xd
  clear d0 d1
  go_wp2_with fail
  refine Calls.reads' (wr := w) (eqT3_c _ _ _ _ _ _ oG.tab3 oW.tab3) _ fun q2 => ?_
  have oW := oW.kept (below_drewN _ q2)
  have oG := oG.kept (below_drewN _ q2)
  have f0 := cellKp (below_drewN _ q2) f0
  have f1 := cellKp (below_drewN _ q2) f1
  have bb := bb.trans ((below_drewN _ q2).mono bb.size)
  have hu := Lib.hid (Nat.le_trans hu.out (below_drewN _ q2).size)
  go_wp2_with fail
  refine (markT3_z _ _ _ _ _ _ _ _ _ _ HZ.out oG (by omega) (by omega) hN hm).mono ?_
  rintro e m7 ⟨rfl, hc, noG⟩
  have oW := oW.chg hc (by have z0 := d_oW.out; have y0 := s_oW.out; have v0 := g_oW.out; have z1 := d_xd.out; have y1 := s_xd.out; have v1 := g_xd.out; have z2 := d_oG.out; have y2 := s_oG.out; have v2 := g_oG.out; omega)
  have f0 := hc.cellI (by have z0 := d_oW.out; have y0 := s_oW.out; have v0 := g_oW.out; have z1 := d_xd.out; have y1 := s_xd.out; have v1 := g_xd.out; have z2 := d_oG.out; have y2 := s_oG.out; have v2 := g_oG.out; omega) f0
  have f1 := hc.cellI (by have z0 := d_oW.out; have y0 := s_oW.out; have v0 := g_oW.out; have z1 := d_xd.out; have y1 := s_xd.out; have v1 := g_xd.out; have z2 := d_oG.out; have y2 := s_oG.out; have v2 := g_oG.out; omega) f1
  have bb := bb.trans (hc.belowI bb.size (by have z0 := d_oW.out; have y0 := s_oW.out; have v0 := g_oW.out; have z1 := d_xd.out; have y1 := s_xd.out; have v1 := g_xd.out; have z2 := d_oG.out; have y2 := s_oG.out; have v2 := g_oG.out; omega))
  have hu := Lib.hid (Nat.le_trans hu.out hc.size)
  clear hc
  have oG := noG
  clear noG
  go_wp2_with fail
  refine (heldT3_z _ _ _ _ _ _ HZ.out oG.tab3 (by omega) (by omega) hN hm).mono ?_
  rintro e w' ⟨rfl, rfl⟩
  go_wp2_with fail
  refine (toSp_o _ _ _ _ _ (id.out _ bb) hs).mono ?_
  rintro e w8 ⟨a8, c8, rfl, hb8, nud⟩
  have d_ud := hu
  have s_ud := Lib.hid hb8.size
  have g_ud := Lib.hid (Nat.succ_le_of_lt (lt_of_cell f0))
  have oW := oW.kept hb8
  have oG := oG.kept hb8
  have f0 := cellKp hb8 f0
  have f1 := cellKp hb8 f1
  have bb := bb.trans (hb8.mono bb.size)
  have hu := Lib.hid (Nat.le_trans hu.out hb8.size)
  have ud := nud
  clear nud hb8 hu
  have hu := Lib.hid (Nat.le_refl w8.heap.size)
  go_wp2_with fail
  go_at_call 56
  refine (CI.out _ _ ud.ints).mono ?_
  rintro e w9 ⟨a9, c9, rfl, hb9, noH⟩
  have d_oH := hu
  have s_oH := Lib.hid hb9.size
  have g_oH := Lib.hid (Nat.succ_le_of_lt (lt_of_cell f0))
  have oW := oW.kept hb9
  have oG := oG.kept hb9
  have ud := ud.kept hb9
  have f0 := cellKp hb9 f0
  have f1 := cellKp hb9 f1
  have bb := bb.trans (hb9.mono bb.size)
  have hu := Lib.hid (Nat.le_trans hu.out hb9.size)
  have oH := noH
  clear noH hb9 hu
  have hu := Lib.hid (Nat.le_refl w9.heap.size)
  go_wp2_with fail
  refine Calls.reads' (wr := w) (eqT3_c _ _ _ _ _ _ oH.tab3 oW.tab3) _ fun q3 => ?_
  have oW := oW.kept (below_drewN _ q3)
  have oG := oG.kept (below_drewN _ q3)
  have ud := ud.kept (below_drewN _ q3)
  have oH := oH.kept (below_drewN _ q3)
  have f0 := cellKp (below_drewN _ q3) f0
  have f1 := cellKp (below_drewN _ q3) f1
  have bb := bb.trans ((below_drewN _ q3).mono bb.size)
  have hu := Lib.hid (Nat.le_trans hu.out (below_drewN _ q3).size)
  go_wp2_with fail
  refine (heldT3_z _ _ _ _ _ _ HZ.out oG.tab3 (by omega) (by omega) hN hm).mono ?_
  rintro e w' ⟨rfl, rfl⟩
  go_wp2
  go_ret
  exact ⟨rfl, bb⟩

end Go.Proofs.Ytnkflgigbielgaa
