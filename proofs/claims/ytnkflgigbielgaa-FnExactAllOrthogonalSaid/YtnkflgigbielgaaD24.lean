/-
  Powers and inverses of numbers, and the norm of an element, in both programs. No condition beside sizes.
-/
import Derived.Test.YtnkflgigbielgaaD22
import Derived.Test.YtnkflgigbielgaaQNJ
set_option linter.unusedVariables false
set_option linter.unusedSimpArgs false
namespace Go.Proofs.Ytnkflgigbielgaa
open Go.RowKit

set_option maxHeartbeats 400000 in
theorem iPow_c (p a kv : Int) (k : Nat) (hkv : kv = k) (w : World) (h1 : 2 ≤ p) (h2 : p ≤ 1000) (ha : 0 ≤ a ∧ a < p) (hk : k ≤ 1000) :
    Calls Try.prog 160 #[.int .i64 p, .int .i64 a, .int .i64 kv] w fun e w' => e = .returned (.int .i64 (powM p a k)) ∧ w = w' := by
  subst hkv
  go_enter Try.func160, Try.ntmps160
  go_wp2
  go_loopg [7, 9] k (fun g o i wr => w = wr ∧ ∃ j : Nat, j ≤ k ∧ g = k - j ∧ i = .int .i64 j ∧ o = .int .i64 (powM p a j))
  case atStart => exact ⟨rfl, 0, Nat.zero_le _, rfl, rfl, rfl⟩
  case round =>
    obtain ⟨rfl, j, hj, rfl, rfl, rfl⟩ := hrel
    by_cases hlt : j < k
    · have hb := powM_bd (p := p) (a := a) (by omega) j
      have hm := mul_bd (a := powM p a j) (b := a) (by omega) (by omega)
      go_wp2_with (go_at_call 86; refine (iNum_c _ _ _ (by omega) h2 (by omega) (by omega)).mono ?_; rintro e w' ⟨rfl, rfl⟩)
      go_roundg (k - (j + 1))
      case measure => omega
      case rel => exact ⟨rfl, j + 1, by omega, rfl, by go_num, rfl⟩
    · obtain rfl : j = k := by omega
      go_wp2
      go_ret
      exact ⟨rfl, rfl⟩

theorem iInv_c (p a : Int) (w : World) (h1 : 2 ≤ p) (h2 : p ≤ 1000) (ha : 0 ≤ a ∧ a < p) :
    Calls Try.prog 142 #[.int .i64 p, .int .i64 a] w fun e w' => e = .returned (.int .i64 (invM p a)) ∧ w = w' := by
  have HM : Hid (powM p a (p - 2).toNat = invM p a) := rfl
  go_enter Try.func142, Try.ntmps142
  go_wp2_with fail
  go_at_call 160
  refine (iPow_c p a _ (p - 2).toNat (by omega) _ h1 h2 ha (by omega)).mono ?_
  rintro e w' ⟨rfl, rfl⟩
  go_wp2
  go_ret
  exact ⟨ret_i64 HM.out, rfl⟩

set_option maxHeartbeats 400000 in
theorem sInv_c (p a : Int) (w : World) (hp : primeB p = true) (h3 : 0 < a) (h4 : a < p) :
    Calls Try.prog 145 #[.int .i64 p, .int .i64 a] w fun e w' => e = .returned (.int .i64 (invM p a)) ∧ w = w' := by
  have hb := primeB_bd hp
  obtain ⟨i1, i2, i3⟩ := invM_spec hp h3 h4
  have hu : ∀ j : Nat, (j : Int) < p → (a * j) % p = 1 → (j : Int) = invM p a := fun j hj h => invM_unique hp h3 h4 (by omega) hj h
  obtain ⟨I, hI⟩ := Int.eq_ofNat_of_zero_le i1
  rw [hI] at i2 i3 hu ⊢
  have hI0 : 1 ≤ I := by
    rcases Nat.eq_zero_or_pos I with e | e
    · subst e; simp at i3
    · exact e
  have HU := Lib.hid hu
  have HI := Lib.hid i3
  clear hu i3 hI hp i1
  have hp0 : p ≠ 0 := by omega
  go_enter Try.func145, Try.ntmps145
  go_wp2
  go_loopg [5] (I - 1) (fun g i wr => w = wr ∧ ∃ j : Nat, 1 ≤ j ∧ j ≤ I ∧ g = I - j ∧ i = .int .i64 j)
  case atStart => exact ⟨rfl, 1, Nat.le_refl _, hI0, rfl, rfl⟩
  case round =>
    obtain ⟨rfl, j, hj1, hj, rfl, rfl⟩ := hrel
    have hm := mul_bd (a := a) (b := (j : Int)) (by omega) (by omega)
    have ht : Int.tmod (a * (j : Int)) p = (a * (j : Int)) % p := Int.tmod_eq_emod_of_nonneg (Int.mul_nonneg (by omega) (by omega))
    by_cases hlt : j < I
    · have hne : (((a * (j : Int)) % p) != 1) = true := by
        rw [bne_iff_ne]; intro e
        have := HU.out j (by omega) e
        omega
      go_wp2
      go_roundg (I - (j + 1))
      case measure => omega
      case rel => exact ⟨rfl, j + 1, by omega, by omega, rfl, by go_num⟩
    · obtain rfl : j = I := by omega
      have hne : (((a * (j : Int)) % p) != 1) = false := by rw [HI.out]; rfl
      go_wp2
      go_ret
      exact ⟨rfl, rfl⟩

/-- Append of a list, as a step of a region that draws its order. -/
theorem step_app {P : Program} {ops : Array Oper} {o : Oper} {a : Act} {w : World} {K : Act → World → Prop} {Q : Exit → Act → World → Prop} {E : Prop} (hgd : o.guard = none) (s x : Operand) (t e : TypeId) {z : Value} {bytes : Nat} (el : Elem P t e z bytes)
    (ho : o.op = .call { callee := .builtin .append, args := #[s, x], argTypes := #[t, t] })
    {g cap n : Nat} {V : Nat → Value} (hown : Own w e g cap n V) (hs : a.eval s = .slice (some ⟨g, 0, none⟩) n cap)
    (b off m c : Nat) (N : Nat → Value) (hx : a.eval x = .slice (some ⟨b, off, none⟩) m c) (hN : ∀ j, j < m → w.cell? ⟨b, off + j, none⟩ = some (N j)) (h1 : ∀ j, j < m → (N j).oneCell' = true)
    (h63 : n + m ≤ 9223372036854775807) (hbytes : (n + m) * bytes ≤ 140737488355328)
    (h : ∀ g' cap' w', Own w' e g' cap' (n + m) (fun j => if j < n then V j else N (j - n)) → (g' = g ∨ g' = w.heap.size) → w.grownBy w' (some g) → K (a.put o.dst (.slice (some ⟨g', 0, none⟩) (n + m) cap')) w') :
    if Region.wanted o (yielded ops a.tmps) = true then Oper.wp P o a w K Q else E := by
  have hw : Region.wanted o (yielded ops a.tmps) = true := by simp [Region.wanted, hgd]
  rw [if_pos hw]
  obtain ⟨g', cap', w', hr, h2, h3, h4⟩ := run_app (P := P) w el o.type hown b off m c N hN h1 h63 hbytes
  unfold Oper.wp execOp
  simp only [ho, resolve, invoke, builtin, Sem.run_bind, Sem.run_pure, Result.andThen_ok, List.map_toArray, List.map_cons, List.map_nil, hs, hx, hr, Oper.upon_value]
  exact h g' cap' w' h2 h3 h4

theorem grown_cell {w w' : World} {g b o : Nat} {v : Value} (h : w.grownBy w' (some g)) (hn : b ≠ g) (hc : w.cell? ⟨b, o, none⟩ = some v) : w'.cell? ⟨b, o, none⟩ = some v := by
  have e : w'.cell? ⟨b, o, none⟩ = w.cell? ⟨b, o, none⟩ := World.cell?_of_block (h.block b (lt_of_cell hc) (fun e => by injection e with e; exact hn e))
  rw [e]; exact hc
theorem boxGrown {w w4 w9 : World} {p : Int} {ao : Option Addr} {n c g : Nat} (h : w4.grownBy w9 (some g)) (hg : w.heap.size < g) (hb : BoxD w p ao n c w4) : BoxD w p ao n c w9 :=
  ⟨grown_cell h (by omega) hb.1, grown_cell h (by omega) hb.2.1, by have := h.size; have := hb.2.2.1; omega, hb.2.2.2.grown h hb.2.2.2.size (fun k e => by injection e with e; omega)⟩

/-- the diagonal's numbers in the order of the spec's list -/
theorem dgF_lt {p : Int} {s : Nat → Int} {k i : Nat} (h : i < 2 ^ k) : dgF p s (k + 1) i = dgF p s k i := by rw [dgF, if_pos h]
theorem dgF_ge {p : Int} {s : Nat → Int} {k i : Nat} (h : ¬ i < 2 ^ k) : dgF p s (k + 1) i = ((p - s k) * dgF p s k (i - 2 ^ k)) % p := by rw [dgF, if_neg h]

end Go.Proofs.Ytnkflgigbielgaa
