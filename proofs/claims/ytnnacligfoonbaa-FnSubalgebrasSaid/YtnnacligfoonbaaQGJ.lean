/-
  The equations of the nucleus and of the centre: however they are put together, the lists whose products with them are nought are the same. No program is in sight. No condition.
-/
import Derived.Test.YtnnacligfoonbaaQF
import Derived.Test.YtnnacligfoonbaaQH
import Derived.Test.YtnnacligfoonbaaQAJ
set_option linter.unusedVariables false
set_option linter.unusedSimpArgs false
namespace Go.Proofs.Ytnnacligfoonbaa

/-- the functions that lead the nucleus to nought; the last one for the centre -/
def nucF (p : Int) (s : Nat → Int) (n i k a : Nat) (X : Nat → Int) : Nat → Int :=
  if a = 0 then asF p s n X (dltU i) (dltU k) else if a = 1 then asF p s n (dltU i) X (dltU k) else if a = 2 then asF p s n (dltU i) (dltU k) X else coF p s n X (dltU i)
theorem nucF_in {p : Int} (hp : 0 < p) (s : Nat → Int) (n i k a : Nat) (X : Nat → Int) (m : Nat) : InP p m (nucF p s n i k a X) := by
  unfold nucF
  split
  · exact asF_in hp _ _ _ _ _ _
  · split
    · exact asF_in hp _ _ _ _ _ _
    · split
      · exact asF_in hp _ _ _ _ _ _
      · exact fun j _ => mod_bd _ _ hp
/-- one equation -/
def eqR (p : Int) (s : Nat → Int) (n i k a q : Nat) (j : Nat) : Int := nucF p s n i k a (dltU j) q
theorem eqR_in {p : Int} (hp : 0 < p) (s : Nat → Int) (n i k a q : Nat) (m : Nat) : InP p m (eqR p s n i k a q) := fun j _ => nucF_in hp s n i k a (dltU j) (q + 1) q (by omega)
/-- all equations (A is 3, or 4 for the centre) -/
def EqS (p : Int) (s : Nat → Int) (n A : Nat) (u : Nat → Int) : Prop := ∃ i k a q, i < 2 ^ n ∧ k < 2 ^ n ∧ a < A ∧ q < 2 ^ n ∧ u = eqR p s n i k a q
/-- the rows of some functions -/
def FnS (m : Nat) (F : Nat → (Nat → Int) → Nat → Int) (t : Nat) (u : Nat → Int) : Prop := ∃ r q, r < t ∧ q < m ∧ u = fun j => F r (dltU j) q

theorem RedOf.iff {p : Int} {n : Nat} {S S' : (Nat → Int) → Prop} {Q : (Nat → Nat → Int) × Nat} (h : RedOf p n S Q) (e : ∀ u, S u ↔ S' u) : RedOf p n S' Q :=
  h.turn (fun u hu => .gen ((e u).1 hu)) (fun u hu => .gen ((e u).2 hu))

/-- rows, and one function's rows behind them -/
def appT (Q : (Nat → Nat → Int) × Nat) (f : (Nat → Int) → Nat → Int) (r : Nat) : Nat → Int := if r < Q.2 then Q.1 r else fun j => f (dltU j) (r - Q.2)
/-- the rows of functions, reduced after each -/
def solQ (p : Int) (m : Nat) (F : Nat → (Nat → Int) → Nat → Int) : Nat → (Nat → Nat → Int) × Nat
  | 0 => (fun _ _ => 0, 0)
  | t + 1 => bSt p ((solQ p m F t).2 + m) (appT (solQ p m F t) (F t)) m
theorem appT_in {p : Int} {m G : Nat} {Q : (Nat → Nat → Int) × Nat} {f : (Nat → Int) → Nat → Int} (h : RowsIn p Q.2 m Q.1) (hf : ∀ j q, j < m → q < m → 0 ≤ f (dltU j) q ∧ f (dltU j) q < p) (hG : G ≤ Q.2 + m) : RowsIn p G m (appT Q f) := fun r hr j hj => by
  unfold appT
  split
  · exact h r (by assumption) j hj
  · exact hf j (r - Q.2) hj (by omega)
theorem solQ_of {p : Int} (hp : primeB p = true) {m : Nat} {F : Nat → (Nat → Int) → Nat → Int} : ∀ {t : Nat}, (∀ r j q, r < t → j < m → q < m → 0 ≤ F r (dltU j) q ∧ F r (dltU j) q < p) → RedOf p m (FnS m F t) (solQ p m F t)
  | 0, _ => (RedOf.nil p m (fun _ _ => 0)).iff fun u => ⟨fun h => h.elim, fun ⟨r, q, hr, _⟩ => absurd hr (Nat.not_lt_zero _)⟩
  | t + 1, h => by
    have ih := solQ_of hp (t := t) fun r j q hr => h r j q (by omega)
    show RedOf p m (FnS m F (t + 1)) (bSt p ((solQ p m F t).2 + m) (appT (solQ p m F t) (F t)) m)
    generalize solQ p m F t = Q at ih ⊢
    have hin := appT_in (f := F t) ih.inp (fun j q hj hq => h t j q (by omega) hj hq) (Nat.le_refl (Q.2 + m))
    refine (bSt_of hp hin).turn (fun u hu => ?_) fun u hu => ?_
    · obtain ⟨r, hr, rfl⟩ := hu
      unfold appT
      by_cases e : r < Q.2
      · rw [if_pos e]
        exact (ih.to r e).mono fun v hv => by
          obtain ⟨r', q, h1, h2, h3⟩ := hv
          exact .gen ⟨r', q, by omega, h2, h3⟩
      · rw [if_neg e]; exact .gen ⟨t, r - Q.2, by omega, by omega, rfl⟩
    · obtain ⟨r, q, h1, h2, rfl⟩ := hu
      by_cases e : r = t
      · subst e
        have e2 : appT Q (F r) (Q.2 + q) = fun j => F r (dltU j) q := by unfold appT; rw [if_neg (by omega), Nat.add_sub_cancel_left]
        rw [← e2]; exact .row (by omega)
      · refine (ih.of (fun j => F r (dltU j) q) ⟨r, q, by omega, h2, rfl⟩).mono fun v hv => ?_
        obtain ⟨i, hi, rfl⟩ := hv
        have e2 : appT Q (F t) i = Q.1 i := by unfold appT; rw [if_pos hi]
        rw [← e2]; exact .row (by omega)

theorem eqQ_exists {p : Int} (hp : primeB p = true) (s : Nat → Int) (n A : Nat) : ∃ Q, RedOf p (2 ^ n) (EqS p s n A) Q :=
  red_exists hp fun u hu => by
    have hb := primeB_bd hp
    obtain ⟨i, k, a, q, _, _, _, _, rfl⟩ := hu
    exact eqR_in (by omega) s n i k a q _
/-- the reduced equations -/
noncomputable def eqQ (p : Int) (s : Nat → Int) (n A : Nat) : (Nat → Nat → Int) × Nat :=
  open Classical in if h : ∃ Q, RedOf p (2 ^ n) (EqS p s n A) Q then Classical.choose h else (fun _ _ => 0, 0)
theorem eqQ_of {p : Int} (hp : primeB p = true) (s : Nat → Int) (n A : Nat) : RedOf p (2 ^ n) (EqS p s n A) (eqQ p s n A) := by
  have h := eqQ_exists hp s n A
  unfold eqQ
  rw [dif_pos h]
  exact Classical.choose_spec h
/-- the reduced rows of the nucleus, or of the centre -/
noncomputable def nucQ (p : Int) (s : Nat → Int) (n A : Nat) : (Nat → Nat → Int) × Nat := kerS p (2 ^ n) (eqQ p s n A)
theorem nucQ_le {p : Int} (hp : primeB p = true) (s : Nat → Int) (n A : Nat) : (nucQ p s n A).2 ≤ 2 ^ n := by
  have hb := primeB_bd hp
  exact (bSt_of hp (kerT_in (p := p) (by omega) (2 ^ n) _ _ _ _)).le
/-- by the program: rows that are reduced once more -/
theorem nuc_i {p : Int} (hp : primeB p = true) {s : Nat → Int} {n A : Nat} {Q : (Nat → Nat → Int) × Nat} (h : RedOf p (2 ^ n) (EqS p s n A) Q) :
    (kerS p (2 ^ n) (bSt p Q.2 Q.1 (2 ^ n))).2 = (nucQ p s n A).2 ∧ ∀ r j, r < (kerS p (2 ^ n) (bSt p Q.2 Q.1 (2 ^ n))).2 → j < 2 ^ n → (kerS p (2 ^ n) (bSt p Q.2 Q.1 (2 ^ n))).1 r j = (nucQ p s n A).1 r j := by
  have h1 := (bSt_of hp h.inp).turn (S' := EqS p s n A) (fun u hu => by obtain ⟨r, hr, rfl⟩ := hu; exact h.to r hr) h.of
  have h0 := eqQ_of hp s n A
  have k1 := ker_same hp h1 h0
  have k2 := ker_same hp h0 h0
  refine ⟨k1.1.trans k2.1.symm, fun r j hr hj => (k1.2 r j hr hj).trans (k2.2 r j ?_ hj).symm⟩
  rw [k2.1, ← k1.1]; exact hr
/-- by the reference -/
theorem nuc_s {p : Int} (hp : primeB p = true) {s : Nat → Int} {n A : Nat} {Q : (Nat → Nat → Int) × Nat} (h : RedOf p (2 ^ n) (EqS p s n A) Q) :
    (kerA p (2 ^ n) (putA p (2 ^ n) Q.1 Q.2)).2 = (nucQ p s n A).2 ∧ ∀ r j, r < (kerA p (2 ^ n) (putA p (2 ^ n) Q.1 Q.2)).2 → j < 2 ^ n → (kerA p (2 ^ n) (putA p (2 ^ n) Q.1 Q.2)).1 r j = (nucQ p s n A).1 r j := by
  have h1 := (putA_of hp h.inp).turn (S' := EqS p s n A) (fun u hu => by obtain ⟨r, hr, rfl⟩ := hu; exact h.to r hr) h.of
  have h0 := eqQ_of hp s n A
  have k1 := ker_same hp h0 h1
  exact ⟨k1.1.symm, fun r j hr hj => (k1.2 r j (by show r < (nucQ p s n A).2; rw [show (nucQ p s n A).2 = (kerS p (2 ^ n) (eqQ p s n A)).2 from rfl, k1.1]; exact hr) hj).symm⟩

/-- the tests of the program, in their order -/
def tstF (p : Int) (s : Nat → Int) (n : Nat) (t : Nat) : (Nat → Int) → Nat → Int := nucF p s n (t / 3 / 2 ^ n) (t / 3 % 2 ^ n) (t % 3)
theorem tstF_at {p : Int} {s : Nat → Int} {n i k a : Nat} (hk : k < 2 ^ n) (ha : a < 3) : tstF p s n ((i * 2 ^ n + k) * 3 + a) = nucF p s n i k a := by
  unfold tstF
  have e1 : ((i * 2 ^ n + k) * 3 + a) / 3 = i * 2 ^ n + k := by omega
  have e2 : ((i * 2 ^ n + k) * 3 + a) % 3 = a := by omega
  rw [e1, e2]
  have e3 : (i * 2 ^ n + k) / 2 ^ n = i := by rw [Nat.mul_comm i, Nat.mul_add_div (by omega), Nat.div_eq_of_lt hk, Nat.add_zero]
  have e4 : (i * 2 ^ n + k) % 2 ^ n = k := by rw [Nat.mul_comm i, Nat.mul_add_mod, Nat.mod_eq_of_lt hk]
  rw [e3, e4]
/-- the tests, and those of the centre behind them -/
def tstC (p : Int) (s : Nat → Int) (n : Nat) (t : Nat) : (Nat → Int) → Nat → Int := if t < 2 ^ n * 2 ^ n * 3 then tstF p s n t else nucF p s n (t - 2 ^ n * 2 ^ n * 3) 0 3
theorem tst_split {N t : Nat} (h : t < N * N * 3) : t / 3 / N < N ∧ t / 3 % N < N := by
  have hN : 0 < N := by
    by_cases e : N = 0
    · subst e; simp at h
    · omega
  have h1 : t / 3 < N * N := by omega
  exact ⟨Nat.div_lt_of_lt_mul h1, Nat.mod_lt _ hN⟩
theorem FnS_nuc (p : Int) (s : Nat → Int) (n : Nat) (u : Nat → Int) : FnS (2 ^ n) (tstF p s n) (2 ^ n * 2 ^ n * 3) u ↔ EqS p s n 3 u := by
  constructor
  · rintro ⟨t, q, ht, hq, rfl⟩
    exact ⟨_, _, _, q, (tst_split ht).1, (tst_split ht).2, Nat.mod_lt _ (by omega), hq, rfl⟩
  · rintro ⟨i, k, a, q, hi, hk, ha, hq, rfl⟩
    refine ⟨(i * 2 ^ n + k) * 3 + a, q, ?_, hq, ?_⟩
    · have := Nat.mul_le_mul_right (2 ^ n) (show i + 1 ≤ 2 ^ n by omega)
      rw [Nat.succ_mul] at this
      omega
    · rw [tstF_at hk ha]; rfl
theorem FnS_cen (p : Int) (s : Nat → Int) (n : Nat) (u : Nat → Int) : FnS (2 ^ n) (tstC p s n) (2 ^ n * 2 ^ n * 3 + 2 ^ n) u ↔ EqS p s n 4 u := by
  have h0 : 0 < 2 ^ n := Nat.pos_of_ne_zero (by simp)
  constructor
  · rintro ⟨t, q, ht, hq, rfl⟩
    by_cases e : t < 2 ^ n * 2 ^ n * 3
    · refine ⟨_, _, _, q, (tst_split e).1, (tst_split e).2, Nat.lt_of_lt_of_le (Nat.mod_lt t (show 3 > 0 by omega)) (by omega), hq, ?_⟩
      unfold tstC; rw [if_pos e]; rfl
    · refine ⟨t - 2 ^ n * 2 ^ n * 3, 0, 3, q, by omega, h0, by omega, hq, ?_⟩
      unfold tstC; rw [if_neg e]; rfl
  · rintro ⟨i, k, a, q, hi, hk, ha, hq, rfl⟩
    by_cases e : a < 3
    · have hlt : (i * 2 ^ n + k) * 3 + a < 2 ^ n * 2 ^ n * 3 := by
        have := Nat.mul_le_mul_right (2 ^ n) (show i + 1 ≤ 2 ^ n by omega)
        rw [Nat.succ_mul] at this
        omega
      refine ⟨(i * 2 ^ n + k) * 3 + a, q, by omega, hq, ?_⟩
      unfold tstC; rw [if_pos hlt, tstF_at hk e]; rfl
    · obtain rfl : a = 3 := by omega
      refine ⟨2 ^ n * 2 ^ n * 3 + i, q, by omega, hq, ?_⟩
      unfold tstC; rw [if_neg (by omega), Nat.add_sub_cancel_left]; rfl

/-- the equations that are before (i, k, a, q) -/
def EqP (p : Int) (s : Nat → Int) (n A i k a q : Nat) (u : Nat → Int) : Prop :=
  ∃ i' k' a' q', i' < 2 ^ n ∧ k' < 2 ^ n ∧ a' < A ∧ q' < 2 ^ n ∧ (i' < i ∨ (i' = i ∧ (k' < k ∨ (k' = k ∧ (a' < a ∨ (a' = a ∧ q' < q)))))) ∧ u = eqR p s n i' k' a' q'
theorem EqP_zero {p : Int} {s : Nat → Int} {n A : Nat} (u : Nat → Int) : EqP p s n A 0 0 0 0 u ↔ False :=
  ⟨fun ⟨i', k', a', q', _, _, _, _, h, _⟩ => by omega, fun h => h.elim⟩
theorem EqP_q {p : Int} {s : Nat → Int} {n A i k a q : Nat} (hi : i < 2 ^ n) (hk : k < 2 ^ n) (ha : a < A) (hq : q < 2 ^ n) (u : Nat → Int) : EqP p s n A i k a (q + 1) u ↔ EqP p s n A i k a q u ∨ u = eqR p s n i k a q := by
  constructor
  · rintro ⟨i', k', a', q', h1, h2, h3, h4, h5, rfl⟩
    by_cases e : i' = i ∧ k' = k ∧ a' = a ∧ q' = q
    · obtain ⟨rfl, rfl, rfl, rfl⟩ := e; exact Or.inr rfl
    · exact Or.inl ⟨i', k', a', q', h1, h2, h3, h4, by omega, rfl⟩
  · rintro (⟨i', k', a', q', h1, h2, h3, h4, h5, rfl⟩ | rfl)
    · exact ⟨i', k', a', q', h1, h2, h3, h4, by omega, rfl⟩
    · exact ⟨i, k, a, q, hi, hk, ha, hq, by omega, rfl⟩
theorem EqP_a {p : Int} {s : Nat → Int} {n A i k a : Nat} (u : Nat → Int) : EqP p s n A i k a (2 ^ n) u ↔ EqP p s n A i k (a + 1) 0 u := by
  constructor <;>
  · rintro ⟨i', k', a', q', h1, h2, h3, h4, h5, rfl⟩
    exact ⟨i', k', a', q', h1, h2, h3, h4, by omega, rfl⟩
theorem EqP_k {p : Int} {s : Nat → Int} {n A i k : Nat} (u : Nat → Int) : EqP p s n A i k A 0 u ↔ EqP p s n A i (k + 1) 0 0 u := by
  constructor <;>
  · rintro ⟨i', k', a', q', h1, h2, h3, h4, h5, rfl⟩
    exact ⟨i', k', a', q', h1, h2, h3, h4, by omega, rfl⟩
theorem EqP_i {p : Int} {s : Nat → Int} {n A i : Nat} (u : Nat → Int) : EqP p s n A i (2 ^ n) 0 0 u ↔ EqP p s n A (i + 1) 0 0 0 u := by
  constructor <;>
  · rintro ⟨i', k', a', q', h1, h2, h3, h4, h5, rfl⟩
    exact ⟨i', k', a', q', h1, h2, h3, h4, by omega, rfl⟩
theorem EqP_all {p : Int} {s : Nat → Int} {n A : Nat} (u : Nat → Int) : EqP p s n A (2 ^ n) 0 0 0 u ↔ EqS p s n A u := by
  constructor
  · rintro ⟨i', k', a', q', h1, h2, h3, h4, h5, rfl⟩
    exact ⟨i', k', a', q', h1, h2, h3, h4, rfl⟩
  · rintro ⟨i', k', a', q', h1, h2, h3, h4, rfl⟩
    exact ⟨i', k', a', q', h1, h2, h3, h4, Or.inl h1, rfl⟩
/-- one equation more, put in or nought -/
theorem EqP_put {p : Int} (hp : primeB p = true) {s : Nat → Int} {n A i k a q : Nat} (hi : i < 2 ^ n) (hk : k < 2 ^ n) (ha : a < A) (hq : q < 2 ^ n) {Q : (Nat → Nat → Int) × Nat} (h : RedOf p (2 ^ n) (EqP p s n A i k a q) Q) :
    (ldd (2 ^ n) (eqR p s n i k a q) < 2 ^ n → RedOf p (2 ^ n) (EqP p s n A i k a (q + 1)) (putS p (2 ^ n) (eqR p s n i k a q) Q)) ∧ (¬ ldd (2 ^ n) (eqR p s n i k a q) < 2 ^ n → RedOf p (2 ^ n) (EqP p s n A i k a (q + 1)) Q) := by
  have hb := primeB_bd hp
  refine ⟨fun _ => (h.put hp (eqR_in (by omega) s n i k a q _)).iff fun u => (EqP_q hi hk ha hq u).symm, fun h0 => ?_⟩
  have hz : ∀ j, j < 2 ^ n → eqR p s n i k a q j = 0 := fun j hj => ldd_before (n := 2 ^ n) (by omega)
  refine h.turn (fun u hu => .gen ((EqP_q hi hk ha hq u).2 (Or.inl hu))) fun u hu => ?_
  rcases (EqP_q hi hk ha hq u).1 hu with h1 | rfl
  · exact .gen h1
  · exact .nil _ fun j hj => Cg.of_eq (hz j hj)

end Go.Proofs.Ytnnacligfoonbaa

/-
  How many rows the nucleus and the centre of a doubling have. No program is in sight. No condition.
-/
set_option linter.unusedVariables false
set_option linter.unusedSimpArgs false
namespace Go.Proofs.Ytnnacligfoonbaa

/-! ### signs, reckoned -/
theorem sA_vals : ∀ n ∈ List.range 5, ∀ i ∈ List.range (2 ^ n), ∀ k ∈ List.range (2 ^ n), ∀ l ∈ List.range (2 ^ n), sA n i k l = 0 ∨ (2 < n ∧ (sA n i k l = 2 ∨ sA n i k l = -2) ∧ i ≠ 0 ∧ k ≠ 0 ∧ l ≠ 0) := by decide +kernel
theorem sC_vals : ∀ n ∈ List.range 5, ∀ i ∈ List.range (2 ^ n), ∀ k ∈ List.range (2 ^ n), sC n i k = 0 ∨ (1 < n ∧ (sC n i k = 2 ∨ sC n i k = -2) ∧ i ≠ 0 ∧ k ≠ 0) := by decide +kernel
theorem sA_some : ∀ n ∈ [3, 4], ∀ j ∈ List.range (2 ^ n), j ≠ 0 → ∃ i ∈ List.range (2 ^ n), ∃ k ∈ List.range (2 ^ n), sA n j i k ≠ 0 := by decide +kernel
theorem sC_some : ∀ n ∈ [2, 3, 4], ∀ j ∈ List.range (2 ^ n), j ≠ 0 → ∃ i ∈ List.range (2 ^ n), sC n j i ≠ 0 := by decide +kernel
theorem sA_val {n i k l : Nat} (hn : n ≤ 4) (hi : i < 2 ^ n) (hk : k < 2 ^ n) (hl : l < 2 ^ n) : sA n i k l = 0 ∨ (2 < n ∧ (sA n i k l = 2 ∨ sA n i k l = -2) ∧ i ≠ 0 ∧ k ≠ 0 ∧ l ≠ 0) :=
  sA_vals n (List.mem_range.2 (by omega)) i (List.mem_range.2 hi) k (List.mem_range.2 hk) l (List.mem_range.2 hl)
theorem sC_val {n i k : Nat} (hn : n ≤ 4) (hi : i < 2 ^ n) (hk : k < 2 ^ n) : sC n i k = 0 ∨ (1 < n ∧ (sC n i k = 2 ∨ sC n i k = -2) ∧ i ≠ 0 ∧ k ≠ 0) :=
  sC_vals n (List.mem_range.2 (by omega)) i (List.mem_range.2 hi) k (List.mem_range.2 hk)

/-! ### numbers other than nought, modulo p -/
theorem nz_mul {p : Int} (hp : primeB p = true) {a b : Int} (ha : ¬ Cg p a 0) (hb : ¬ Cg p b 0) : ¬ Cg p (a * b) 0 := fun h => by
  have hbd := primeB_bd hp
  have h1 : 0 ≤ a % p ∧ a % p < p := mod_bd _ _ (by omega)
  have h2 : a % p ≠ 0 := fun e => ha (Cg.of_zero e)
  obtain ⟨v1, v2, v3⟩ := invM_spec hp (a := a % p) (by omega) h1.2
  refine hb ?_
  have e1 : Cg p (a * invM p (a % p)) 1 := by
    have : Cg p (a % p * invM p (a % p)) 1 := by show _ % p = 1 % p; rw [v3, Int.emod_eq_of_lt (by omega) (by omega)]
    exact ((Cg.mod' p a).mul (Cg.rfl' p _)).trans this
  have e2 := e1.mul (Cg.rfl' p b)
  rw [Int.one_mul] at e2
  refine e2.symm.trans ?_
  have e3 := h.mul (Cg.rfl' p (invM p (a % p)))
  rw [Int.zero_mul] at e3
  exact (Cg.of_eq (by grind)).trans e3
theorem nz_pr {p : Int} (hp : primeB p = true) {s : Nat → Int} : ∀ {n : Nat} (m : Nat), (∀ t, t < n → ¬ Cg p (s t) 0) → ¬ Cg p (pr s n m) 0
  | 0, _, _ => by have := primeB_bd hp; exact not_one (by omega)
  | n + 1, m, h => by
    have := primeB_bd hp
    unfold pr
    refine nz_mul hp (nz_pr hp m fun t ht => h t (by omega)) ?_
    split
    · exact h n (by omega)
    · exact not_one (by omega)
theorem nz_two {p : Int} (hp : primeB p = true) {c : Int} (h : c = 2 ∨ c = -2) : ¬ Cg p c 0 := fun e => by
  have hb := primeB_bd hp
  have e' := e.zero
  rcases h with rfl | rfl
  · rw [Int.emod_eq_of_lt (by omega) (by omega)] at e'; omega
  · have : (-2 : Int) % p = (p - 2) % p := by rw [show p - 2 = -2 + p * 1 by omega, Int.add_mul_emod_self_left]
    rw [this, Int.emod_eq_of_lt (by omega) (by omega)] at e'; omega
theorem nz_step {p : Int} (h : 1 ≤ p) {a : Int} (h1 : 1 ≤ a) (h2 : a ≤ p - 1) : ¬ Cg p a 0 := fun e => by
  have := e.eq ⟨by omega, by omega⟩ ⟨by omega, by omega⟩; omega

/-! ### the entries of the equations -/
/-- the sign of an entry, its steps, its place -/
def nSg (n i k a j : Nat) : Int := if a = 0 then sA n j i k else if a = 1 then sA n i j k else if a = 2 then sA n i k j else sC n j i
def nPr (s : Nat → Int) (n i k a j : Nat) : Int := if a = 0 then pr s n (j &&& i) * pr s n ((j ^^^ i) &&& k) else if a = 1 then pr s n (i &&& j) * pr s n ((i ^^^ j) &&& k) else if a = 2 then pr s n (i &&& k) * pr s n ((i ^^^ k) &&& j) else pr s n (j &&& i)
def nPl (i k a j : Nat) : Nat := if a = 0 then j ^^^ i ^^^ k else if a = 1 then i ^^^ j ^^^ k else if a = 2 then i ^^^ k ^^^ j else j ^^^ i
theorem nuc_entry {p : Int} {s : Nat → Int} {n i k a j : Nat} (hi : i < 2 ^ n) (hk : k < 2 ^ n) (hj : j < 2 ^ n) : CgV p (2 ^ n) (nucF p s n i k a (dltU j)) (dltC (nSg n i k a j * nPr s n i k a j) (nPl i k a j)) := by
  unfold nucF nSg nPr nPl
  split
  · exact as_basis hj hi hk
  · split
    · exact as_basis hi hj hk
    · split
      · exact as_basis hi hk hj
      · exact co_basis hj hi
theorem nSg_zero {n i k a : Nat} (hn : n ≤ 4) (hi : i < 2 ^ n) (hk : k < 2 ^ n) : nSg n i k a 0 = 0 := by
  have h0 : 0 < 2 ^ n := Nat.pos_of_ne_zero (by simp)
  unfold nSg
  split
  · rcases sA_val hn h0 hi hk with h | ⟨_, _, h, _⟩
    · exact h
    · exact absurd rfl h
  · split
    · rcases sA_val hn hi h0 hk with h | ⟨_, _, _, h, _⟩
      · exact h
      · exact absurd rfl h
    · split
      · rcases sA_val hn hi hk h0 with h | ⟨_, _, _, _, h⟩
        · exact h
        · exact absurd rfl h
      · rcases sC_val hn h0 hi with h | ⟨_, _, h, _⟩
        · exact h
        · exact absurd rfl h
theorem nSg_none {n i k a j A : Nat} (hn : n ≤ 4) (hi : i < 2 ^ n) (hk : k < 2 ^ n) (hj : j < 2 ^ n) (ha : a < A) (h : (n ≤ 2 ∧ A ≤ 3) ∨ n ≤ 1) : nSg n i k a j = 0 := by
  have hA : ∀ x y z, x < 2 ^ n → y < 2 ^ n → z < 2 ^ n → sA n x y z = 0 := fun x y z hx hy hz => by
    rcases sA_val hn hx hy hz with h2 | ⟨h2, _⟩
    · exact h2
    · omega
  unfold nSg
  split
  · exact hA _ _ _ hj hi hk
  · split
    · exact hA _ _ _ hi hj hk
    · split
      · exact hA _ _ _ hi hk hj
      · rcases sC_val hn hj hi with h2 | ⟨h2, _⟩
        · exact h2
        · omega

/-- all but the first places -/
theorem units_red {p : Int} (hp : 2 ≤ p) (N : Nat) : Red p N (N - 1) (fun r => dltU (r + 1)) (fun r => r + 1) :=
  ⟨fun r _ j _ => by unfold dltU; split <;> omega, fun r hr => by show r + 1 < N; omega, fun r s h _ => by show r + 1 < s + 1; omega, fun r _ => by simp [dltU], fun r s _ _ h => by unfold dltU; rw [if_neg (by omega)], fun r j _ hj => by unfold dltU; rw [if_neg]; have : j < r + 1 := hj; omega⟩
theorem units_span {p : Int} {N : Nat} {v : Nat → Int} (h0 : Cg p (v 0) 0) : Spn p N (RowS (N - 1) fun r => dltU (r + 1)) v := by
  have key : ∀ m, m ≤ N - 1 → Spn p N (RowS (N - 1) fun r => dltU (r + 1)) fun j => if 1 ≤ j ∧ j ≤ m then v j else 0 := by
    intro m
    induction m with
    | zero => intro _; exact .nil _ fun j _ => Cg.of_eq (by rw [if_neg (by omega)])
    | succ m ih =>
      intro hm
      refine (ih (by omega)).comb (v (m + 1)) (.gen ⟨m, by omega, rfl⟩) fun j _ => Cg.of_eq ?_
      show (if 1 ≤ j ∧ j ≤ m + 1 then v j else 0) = (if 1 ≤ j ∧ j ≤ m then v j else 0) + v (m + 1) * if j = m + 1 then 1 else 0
      by_cases e : j = m + 1
      · subst e; rw [if_pos ⟨by omega, Nat.le_refl _⟩, if_neg (by omega), if_pos rfl]; omega
      · rw [if_neg e, Int.mul_zero, Int.add_zero]
        by_cases e2 : 1 ≤ j ∧ j ≤ m
        · rw [if_pos e2, if_pos (by omega)]
        · rw [if_neg e2, if_neg (by omega)]
  refine (key (N - 1) (Nat.le_refl _)).congr fun j hj => ?_
  by_cases e : j = 0
  · subst e; rw [if_neg (by omega)]; exact h0
  · rw [if_pos (by omega)]; exact Cg.rfl' _ _

theorem xor_cancel {a b c : Nat} (h : a ^^^ c = b ^^^ c) : a = b := by
  have := congrArg (· ^^^ c) h
  simpa [Nat.xor_assoc] using this

theorem nuc_none {p : Int} (hp : primeB p = true) {s : Nat → Int} {n A : Nat} (hn : n ≤ 4) (h : (n ≤ 2 ∧ A ≤ 3) ∨ n ≤ 1) : (nucQ p s n A).2 = 2 ^ n := by
  have hb := primeB_bd hp
  have h1 : RedOf p (2 ^ n) (EqS p s n A) ((fun _ _ => 0), 0) := (RedOf.nil p (2 ^ n) (fun _ _ => 0)).turn (fun u hu => hu.elim) fun u hu => by
    obtain ⟨i, k, a, q, hi, hk, ha, hq, rfl⟩ := hu
    refine .nil _ fun j hj => ?_
    refine (nuc_entry (p := p) (s := s) (a := a) hi hk hj q hq).trans (Cg.of_eq ?_)
    rw [nSg_none hn hi hk hj ha h, Int.zero_mul]
    unfold dltC; split <;> rfl
  have h2 := (eqQ_of hp s n A).same (by omega) h1
  have h3 := ker_count hp (eqQ_of hp s n A).red
  have h4 : (eqQ p s n A).2 = 0 := h2.1
  rw [h4] at h3
  exact h3
theorem nuc_one {p : Int} (hp : primeB p = true) {s : Nat → Int} {n A : Nat} (hn : n ≤ 4) (hs : ∀ t, t < n → ¬ Cg p (s t) 0) (h : (3 ≤ n ∧ 3 ≤ A) ∨ (2 ≤ n ∧ 4 ≤ A)) : (nucQ p s n A).2 = 1 := by
  have hb := primeB_bd hp
  have hN : 1 ≤ 2 ^ n := Nat.pos_of_ne_zero (by simp)
  have h1 : RedOf p (2 ^ n) (EqS p s n A) ((fun r => dltU (r + 1)), 2 ^ n - 1) := by
    refine ⟨⟨_, units_red (by omega) (2 ^ n)⟩, fun r hr => ?_, fun u hu => ?_⟩
    · show Spn p (2 ^ n) (EqS p s n A) (dltU (r + 1))
      have hr : r < 2 ^ n - 1 := hr
      -- an equation whose only entry is there
      have hex : ∃ i k a, i < 2 ^ n ∧ k < 2 ^ n ∧ a < A ∧ (nSg n i k a (r + 1) = 2 ∨ nSg n i k a (r + 1) = -2) ∧ (a = 0 ∨ a = 3) := by
        by_cases h3 : 3 ≤ n ∧ 3 ≤ A
        · have hm : n ∈ [3, 4] := by
            have h4 : n = 3 ∨ n = 4 := by omega
            rcases h4 with h4 | h4 <;> simp [h4]
          obtain ⟨i, hi, k, hk, hne⟩ := sA_some n hm (r + 1) (List.mem_range.2 (by omega)) (by omega)
          have hi := List.mem_range.1 hi
          have hk := List.mem_range.1 hk
          refine ⟨i, k, 0, hi, hk, by omega, ?_, Or.inl rfl⟩
          rcases sA_val hn (show r + 1 < 2 ^ n by omega) hi hk with e | ⟨_, e, _⟩
          · exact absurd e hne
          · exact e
        · have hm : n ∈ [2, 3, 4] := by
            have h4 : n = 2 ∨ n = 3 ∨ n = 4 := by omega
            rcases h4 with h4 | h4 | h4 <;> simp [h4]
          obtain ⟨i, hi, hne⟩ := sC_some n hm (r + 1) (List.mem_range.2 (by omega)) (by omega)
          have hi := List.mem_range.1 hi
          refine ⟨i, 0, 3, hi, by omega, by omega, ?_, Or.inr rfl⟩
          rcases sC_val hn (show r + 1 < 2 ^ n by omega) hi with e | ⟨_, e, _⟩
          · exact absurd e hne
          · exact e
      obtain ⟨i, k, a, hi, hk, ha, hsg, ha2⟩ := hex
      have hjr : r + 1 < 2 ^ n := by omega
      have hq : nPl i k a (r + 1) < 2 ^ n := by
        unfold nPl
        have h4 : (r + 1) ^^^ i < 2 ^ n := Nat.xor_lt_two_pow hjr hi
        rcases ha2 with rfl | rfl
        · exact Nat.xor_lt_two_pow h4 hk
        · exact h4
      have hcc : ¬ Cg p (nSg n i k a (r + 1) * nPr s n i k a (r + 1)) 0 := by
        refine nz_mul hp (nz_two hp hsg) ?_
        unfold nPr
        rcases ha2 with rfl | rfl
        · exact nz_mul hp (nz_pr hp _ hs) (nz_pr hp _ hs)
        · exact nz_pr hp _ hs
      obtain ⟨cc, hcce⟩ : ∃ cc, nSg n i k a (r + 1) * nPr s n i k a (r + 1) = cc := ⟨_, rfl⟩
      rw [hcce] at hcc
      have hrow : ∀ j, j < 2 ^ n → Cg p (eqR p s n i k a (nPl i k a (r + 1)) j) (cc * dltU (r + 1) j) := fun j hj => by
        refine (nuc_entry (p := p) (s := s) (a := a) hi hk hj _ hq).trans (Cg.of_eq ?_)
        unfold dltC dltU
        by_cases e : j = r + 1
        · subst e; rw [if_pos rfl, if_pos rfl, hcce, Int.mul_one]
        · rw [if_neg e, if_neg, Int.mul_zero]
          intro h5
          refine e ?_
          unfold nPl at h5
          rcases ha2 with rfl | rfl
          · have h6 : (r + 1) ^^^ i ^^^ k = j ^^^ i ^^^ k := h5
            exact (xor_cancel (xor_cancel h6)).symm
          · have h6 : (r + 1) ^^^ i = j ^^^ i := h5
            exact (xor_cancel h6).symm
      have h1' : 0 ≤ cc % p ∧ cc % p < p := mod_bd _ _ (by omega)
      have h2' : cc % p ≠ 0 := fun e => hcc (Cg.of_zero e)
      obtain ⟨v1, v2, v3⟩ := invM_spec hp (a := cc % p) (by omega) h1'.2
      refine (Spn.gen (p := p) (n := 2 ^ n) (S := EqS p s n A) ⟨i, k, a, _, hi, hk, ha, hq, rfl⟩).scale (invM p (cc % p)) fun j hj => ?_
      have e1 := (Cg.rfl' p (invM p (cc % p))).mul (hrow j hj)
      refine (Cg.trans e1 ?_).symm
      have e2 : Cg p (cc * invM p (cc % p)) 1 := by
        have : Cg p (cc % p * invM p (cc % p)) 1 := by show _ % p = 1 % p; rw [v3, Int.emod_eq_of_lt (by omega) (by omega)]
        exact ((Cg.mod' p cc).mul (Cg.rfl' p _)).trans this
      have e3 := e2.mul (Cg.rfl' p (dltU (r + 1) j))
      rw [Int.one_mul] at e3
      exact (Cg.of_eq (by grind)).trans e3
    · obtain ⟨i, k, a, q, hi, hk, ha, hq, rfl⟩ := hu
      refine units_span ?_
      refine (nuc_entry (p := p) (s := s) (a := a) hi hk (show 0 < 2 ^ n by omega) q hq).trans (Cg.of_eq ?_)
      rw [nSg_zero hn hi hk, Int.zero_mul]
      unfold dltC; split <;> rfl
  have h2 := (eqQ_of hp s n A).same (by omega) h1
  have h3 := ker_count hp (eqQ_of hp s n A).red
  have h4 : (eqQ p s n A).2 = 2 ^ n - 1 := h2.1
  rw [h4] at h3
  have h5 : (nucQ p s n A).2 + (2 ^ n - 1) = 2 ^ n := h3
  omega

end Go.Proofs.Ytnnacligfoonbaa
