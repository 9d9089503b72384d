/-
  How many rows the kernel of reduced rows has: as many as places are free. No program is in sight. No condition.
-/
import Derived.Test.YtnnacligfoonbaaQF
set_option linter.unusedVariables false
set_option linter.unusedSimpArgs false
namespace Go.Proofs.Ytnnacligfoonbaa

/-- lists read at some places alone -/
theorem Spn.restrict {p : Int} {n m d : Nat} {W : Nat → Nat → Int} {f : Nat → Nat} (hf : ∀ s, s < m → f s < n) {u : Nat → Int} (h : Spn p n (RowS d W) u) : Spn p m (RowS d fun i s => W i (f s)) fun s => u (f s) := by
  induction h with
  | nil v h => exact .nil _ fun s hs => h _ (hf s hs)
  | add u v w k hu _ h ih =>
    obtain ⟨r, hr, rfl⟩ := hu
    exact ih.comb k (.gen ⟨r, hr, rfl⟩) fun s hs => h _ (hf s hs)
/-- lists with a place of their own each are not more than the rows that make them -/
theorem own_count {p : Int} (hp : primeB p = true) {n m d : Nat} {W U : Nat → Nat → Int} {f : Nat → Nat} (hW : RowsIn p d n W) (hf : ∀ s, s < m → f s < n) (hU : ∀ r s, r < m → s < m → Cg p (U r (f s)) (dltU r s)) (h : ∀ r, r < m → Spn p n (RowS d W) (U r)) : m ≤ d := by
  have hb := primeB_bd hp
  have hin : RowsIn p d m fun i s => W i (f s) := fun i hi s hs => hW i hi _ (hf s hs)
  have h1 := bSt_of hp hin
  obtain ⟨c, hc⟩ := h1.red
  have h2 := (dltU_red (p := p) (by omega) m).count_le (by omega) hc fun r hr => by
    refine (((h r hr).restrict hf).congr fun s hs => (hU r s hr hs).symm).mono fun u hu => h1.of u hu
  exact Nat.le_trans h2 (bSt_in (p := p) (by omega) hin m).2.1

theorem sel_inc {p : Nat → Bool} : ∀ {n i j : Nat}, i < j → j < cnt p n → sel p n i < sel p n j
  | 0, i, j, _, h => by simp [cnt] at h
  | n + 1, i, j, hij, h => by
    by_cases e : j < cnt p n
    · rw [sel_old e, sel_old (show i < cnt p n by omega)]; exact sel_inc hij e
    · cases hp : p n
      · simp [cnt, hp] at h; omega
      · have : j = cnt p n := by simp [cnt, hp] at h; omega
        subst this
        rw [sel_new hp, sel_old hij]
        exact (sel_lt hij).1
theorem cnt_remove {p : Nat → Bool} {x : Nat} (hx : p x = true) : ∀ {n : Nat}, x < n → cnt (fun j => p j && !(x == j)) n + 1 = cnt p n
  | 0, h => absurd h (Nat.not_lt_zero _)
  | n + 1, h => by
    simp only [cnt]
    by_cases e : x = n
    · subst e
      have : ∀ m, m ≤ x → cnt (fun j => p j && !(x == j)) m = cnt p m := by
        intro m
        induction m with
        | zero => intro _; rfl
        | succ m ih =>
          intro hm
          simp only [cnt]
          rw [ih (by omega)]
          have : (x == m) = false := by simp; omega
          simp [this]
      rw [this x (Nat.le_refl _)]
      simp [hx]
    · have ih := cnt_remove hx (n := n) (by omega)
      have e2 : (x == n) = false := by simp [e]
      simp [e2]
      omega
theorem cnt_congr {f g : Nat → Bool} : ∀ {n : Nat}, (∀ j, j < n → f j = g j) → cnt f n = cnt g n
  | 0, _ => rfl
  | n + 1, h => by
    simp only [cnt]
    rw [cnt_congr (n := n) fun j hj => h j (by omega), h n (by omega)]
theorem frB_and (c : Nat → Nat) (d j : Nat) : frB c (d + 1) j = (frB c d j && !(c d == j)) := by
  have h1 : ∀ e j, frB c e j = true ↔ ∀ r, r < e → c r ≠ j := fun e j => by
    have hl := pvt_le c e j
    constructor
    · intro h r hr
      exact pvt_none (by simpa [frB] using h) hr
    · intro h
      by_cases e2 : pvt c e j < e
      · exact absurd (pvt_is e2) (h _ e2)
      · simp [frB]; omega
  have h2 := h1 (d + 1) j
  have h3 := h1 d j
  rw [Bool.eq_iff_iff, h2, Bool.and_eq_true, h3]
  simp only [Bool.not_eq_true', beq_eq_false_iff_ne]
  constructor
  · intro h; exact ⟨fun r hr => h r (by omega), h d (by omega)⟩
  · rintro ⟨h, h'⟩ r hr
    by_cases e : r = d
    · subst e; exact h'
    · exact h r (by omega)
theorem frB_zero (c : Nat → Nat) (j : Nat) : frB c 0 j = true := by simp [frB, pvt, fst]
theorem frB_free {c : Nat → Nat} {d j : Nat} (h : ∀ r, r < d → c r ≠ j) : frB c d j = true := by
  induction d with
  | zero => exact frB_zero c j
  | succ d ih =>
    rw [frB_and, ih fun r hr => h r (by omega)]
    have := h d (by omega)
    simpa using this
/-- free places and places of ones -/
theorem cnt_free {n : Nat} {c : Nat → Nat} : ∀ {d : Nat}, (∀ r, r < d → c r < n) → (∀ r s, r < s → s < d → c r < c s) → cnt (frB c d) n + d = n
  | 0, _, _ => by
    rw [cnt_congr (g := fun _ => true) fun j _ => frB_zero c j]
    have := (sel_all (p := fun _ => true) (fun _ => rfl) n).1
    omega
  | d + 1, h1, h2 => by
    have ih := cnt_free (d := d) (fun r hr => h1 r (by omega)) fun r s hr hs => h2 r s hr (by omega)
    have hx : frB c d (c d) = true := frB_free fun r hr => by have := h2 r d hr (by omega); omega
    have h3 := cnt_remove hx (h1 d (by omega))
    rw [cnt_congr (g := fun j => frB c d j && !(c d == j)) fun j _ => frB_and c d j]
    omega
/-- the kernel has as many rows as places are free -/
theorem ker_count {p : Int} (hp : primeB p = true) {n : Nat} {Q : (Nat → Nat → Int) × Nat} (hQ : ∃ c, Red p n Q.2 Q.1 c) : (kerS p n Q).2 + Q.2 = n := by
  have hb := primeB_bd hp
  obtain ⟨c0, hc0⟩ := hQ
  have hl : ∀ r, r < Q.2 → ldd n (Q.1 r) = c0 r := fun r hr => hc0.ldd hr
  have hcf := cnt_free (n := n) (c := fun r => ldd n (Q.1 r)) (d := Q.2) (fun r hr => by show ldd n (Q.1 r) < n; rw [hl r hr]; exact hc0.piv r hr) (fun r s hr hs => by show ldd n (Q.1 r) < ldd n (Q.1 s); rw [hl r (by omega), hl s hs]; exact hc0.inc r s hr hs)
  have hin := kerT_in (p := p) (by omega) n Q.2 Q.1 (fun r => ldd n (Q.1 r)) (cnt (frB (fun r => ldd n (Q.1 r)) Q.2) n)
  have h1 := bSt_of hp hin
  have h2 := (bSt_in (p := p) (by omega) hin n).2.1
  have h3 : cnt (frB (fun r => ldd n (Q.1 r)) Q.2) n ≤ (kerS p n Q).2 := by
    refine own_count hp (f := fun s => sel (frB (fun r => ldd n (Q.1 r)) Q.2) n s) h1.inp (fun s hs => (sel_lt hs).1) (fun r s hr hs => ?_) fun r hr => h1.of _ ⟨r, hr, rfl⟩
    have hfr := (sel_lt hs).2
    have hpv : pvt (fun r => ldd n (Q.1 r)) Q.2 (sel (frB (fun r => ldd n (Q.1 r)) Q.2) n s) = Q.2 := by simpa [frB] using hfr
    refine Cg.of_eq ?_
    unfold kerT kvF dltU
    by_cases e : s = r
    · subst e; rw [if_pos rfl, if_pos rfl]
    · have hne : sel (frB (fun r => ldd n (Q.1 r)) Q.2) n s ≠ sel (frB (fun r => ldd n (Q.1 r)) Q.2) n r := by
        rcases Nat.lt_trichotomy s r with e2 | e2 | e2
        · have := sel_inc e2 hr; omega
        · exact absurd e2 e
        · have := sel_inc e2 hs; omega
      rw [if_neg hne, if_neg e, hpv, if_neg (Nat.lt_irrefl _)]
  have h4 : (kerS p n Q).2 ≤ cnt (frB (fun r => ldd n (Q.1 r)) Q.2) n := h2
  omega

end Go.Proofs.Ytnnacligfoonbaa
