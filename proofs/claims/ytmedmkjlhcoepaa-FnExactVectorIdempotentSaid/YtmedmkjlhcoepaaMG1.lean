/-
  The grade of a mask, in both programs. No condition beside sizes.
-/
import Derived.Test.YtmedmkjlhcoepaaDW
import Derived.Deep.RegionLaw
set_option linter.unusedVariables false
set_option linter.unusedSimpArgs false
namespace Go.Proofs.Ytmedmkjlhcoepaa
open Go.RowKit

/-- how many bits of a number are 1 -/
def pcF : Nat → Nat → Nat
  | 0, _ => 0
  | k + 1, m => m % 2 + pcF k (m / 2)
def pc (m : Nat) : Nat := pcF 6 m
theorem pc_steps : ∀ m ∈ List.range 64, pc m = m % 2 + pc (m / 2) := by decide +kernel
theorem pc_step {m : Nat} (h : m < 64) : pc m = m % 2 + pc (m / 2) := pc_steps m (List.mem_range.2 h)
theorem pc_les : ∀ n ∈ List.range 7, ∀ m ∈ List.range (2 ^ n), pc m ≤ n := by decide +kernel
theorem pc_le {n m : Nat} (hn : n ≤ 6) (h : m < 2 ^ n) : pc m ≤ n := pc_les n (List.mem_range.2 (by omega)) m (List.mem_range.2 h)

set_option maxRecDepth 100000 in
set_option maxHeartbeats 1000000 in
theorem iOnes64_c (m : Nat) (hm : m < 64) (w : World) :
    Calls Try.prog 160 #[.int .u64 m] w fun e w' => e = .returned (.int .i64 (pc m)) ∧ w = w' := by
  go_enter Try.func160, Try.ntmps160
  go_wp2
  go_ret
  refine ⟨?_, rfl⟩
  refine ret_i64 ?_
  clear w
  revert m
  decide +kernel

set_option maxRecDepth 100000 in
set_option maxHeartbeats 1000000 in
theorem iOnes_c (m : Nat) (hm : m < 64) (w : World) :
    Calls Try.prog 152 #[.int .u64 m] w fun e w' => e = .returned (.int .i64 (pc m)) ∧ w = w' := by
  have H := Lib.hid (iOnes64_c m hm w)
  obtain ⟨z, hz⟩ : ∃ z, pc m = z := ⟨_, rfl⟩
  rw [hz] at H ⊢
  go_enter Try.func152, Try.ntmps152
  go_wp2_with fail
  go_at_call 160
  refine H.out.mono ?_
  rintro e w' ⟨rfl, rfl⟩
  go_wp2
  go_ret
  exact ⟨rfl, rfl⟩

set_option maxRecDepth 100000 in
set_option maxHeartbeats 1000000 in
theorem iGradeOf_c (m : Nat) (hm : m < 64) (w : World) :
    Calls Try.prog 129 #[.int .i64 m] w fun e w' => e = .returned (.int .i64 (pc m)) ∧ w = w' := by
  have H := Lib.hid (iOnes_c m hm w)
  obtain ⟨z, hz⟩ : ∃ z, pc m = z := ⟨_, rfl⟩
  have hz6 : z ≤ 6 := hz ▸ pc_le (n := 6) (by omega) (by simpa using hm)
  rw [hz] at H ⊢
  go_enter Try.func129, Try.ntmps129
  go_wp2_with fail
  go_at_call 152
  refine H.out.mono ?_
  rintro e w' ⟨rfl, rfl⟩
  go_wp2
  go_ret
  exact ⟨rfl, rfl⟩

set_option maxRecDepth 100000 in
set_option maxHeartbeats 1000000 in
theorem sGrade_c (m : Nat) (hm : m < 64) (w : World) :
    Calls Try.prog 132 #[.int .i64 m] w fun e w' => e = .returned (.int .i64 (pc m)) ∧ w = w' := by
  have h6 := pc_le (n := 6) (by omega) (by simpa using hm : m < 2 ^ 6)
  have HP : Hid (pc m = pc m) := rfl
  obtain ⟨z, hz⟩ : ∃ z, pc m = z := ⟨_, rfl⟩
  rw [hz] at h6 ⊢
  have HZ := Lib.hid hz
  clear hz HP
  go_enter Try.func132, Try.ntmps132
  go_wp2
  go_loopg [0, 3] m (fun g a t wr => w = wr ∧ ∃ x y : Nat, x = g ∧ a = .int .i64 x ∧ t = .int .i64 y ∧ x < 64 ∧ Hid (y + pc x = z))
  case atStart => exact ⟨rfl, m, 0, rfl, rfl, rfl, hm, by have h := HZ.out; show 0 + pc m = z; omega⟩
  case round =>
    obtain ⟨rfl, x, y, rfl, rfl, rfl, hx, hy⟩ := hrel
    have hyz : y ≤ z := by have : y + pc x = z := hy; omega
    by_cases h0 : 0 < x
    · have HN : Hid (y + x % 2 + pc (x / 2) = z) := by have h1 : y + pc x = z := hy; rw [pc_step hx] at h1; show y + x % 2 + pc (x / 2) = z; omega
      go_wp2
      go_roundg (x / 2)
      case measure => omega
      case rel => exact ⟨rfl, x / 2, y + x % 2, rfl, by go_num, by go_num, by omega, HN⟩
    · obtain rfl : x = 0 := by omega
      have e : y = z := by have h1 : y + pc 0 = z := hy; have h2 : pc 0 = 0 := rfl; omega
      subst e
      go_wp2
      go_ret
      exact ⟨rfl, rfl⟩

end Go.Proofs.Ytmedmkjlhcoepaa
