/-
  Rows modulo p: what they make, reduced rows, and that reduced rows that make the same are the same. No program is in sight. No condition.
-/
import Derived.Test.YtnkflgigbielgaaQNJ
import Derived.Test.YtnkflgigbielgaaQ13
set_option linter.unusedVariables false
set_option linter.unusedSimpArgs false
namespace Go.Proofs.Ytnkflgigbielgaa

/-- the same modulo p -/
def Cg (p a b : Int) : Prop := a % p = b % p
theorem Cg.rfl' (p a : Int) : Cg p a a := rfl
theorem Cg.symm {p a b : Int} (h : Cg p a b) : Cg p b a := Eq.symm h
theorem Cg.trans {p a b c : Int} (h : Cg p a b) (h2 : Cg p b c) : Cg p a c := Eq.trans h h2
theorem Cg.of_eq {p a b : Int} (h : a = b) : Cg p a b := by rw [h]; rfl
theorem Cg.ex {p a b : Int} (h : Cg p a b) : ∃ t, a = b + p * t := by
  have h1 := Int.emod_add_mul_ediv a p
  have h2 := Int.emod_add_mul_ediv b p
  unfold Cg at h
  refine ⟨a / p - b / p, ?_⟩
  rw [Int.mul_sub]; omega
theorem Cg.of_ex {p a b t : Int} (h : a = b + p * t) : Cg p a b := by
  unfold Cg; rw [h, Int.add_mul_emod_self_left]
theorem Cg.add {p a b c d : Int} (h : Cg p a b) (h2 : Cg p c d) : Cg p (a + c) (b + d) := by
  obtain ⟨t, e⟩ := h.ex
  obtain ⟨s, e2⟩ := h2.ex
  exact Cg.of_ex (t := t + s) (by rw [Int.mul_add]; omega)
theorem Cg.sub {p a b c d : Int} (h : Cg p a b) (h2 : Cg p c d) : Cg p (a - c) (b - d) := by
  obtain ⟨t, e⟩ := h.ex
  obtain ⟨s, e2⟩ := h2.ex
  exact Cg.of_ex (t := t - s) (by rw [Int.mul_sub]; omega)
theorem Cg.neg {p a b : Int} (h : Cg p a b) : Cg p (-a) (-b) := by
  obtain ⟨t, e⟩ := h.ex
  exact Cg.of_ex (t := -t) (by rw [Int.mul_neg]; omega)
theorem Cg.mul {p a b c d : Int} (h : Cg p a b) (h2 : Cg p c d) : Cg p (a * c) (b * d) := by
  obtain ⟨t, rfl⟩ := h.ex
  obtain ⟨s, rfl⟩ := h2.ex
  exact Cg.of_ex (t := t * d + b * s + t * (p * s)) (by grind)
theorem Cg.mod (p a : Int) : Cg p (a % p) a := Int.emod_emod_of_dvd a (Int.dvd_refl p)
theorem Cg.mod' (p a : Int) : Cg p a (a % p) := (Cg.mod p a).symm
theorem Cg.eq {p a b : Int} (h : Cg p a b) (ha : 0 ≤ a ∧ a < p) (hb : 0 ≤ b ∧ b < p) : a = b := by
  have h' : a % p = b % p := h
  rwa [Int.emod_eq_of_lt ha.1 ha.2, Int.emod_eq_of_lt hb.1 hb.2] at h'
theorem Cg.zero {p a : Int} (h : Cg p a 0) : a % p = 0 := by
  have h' : a % p = 0 % p := h
  rwa [Int.zero_emod] at h'
theorem Cg.of_zero {p a : Int} (h : a % p = 0) : Cg p a 0 := by
  show a % p = 0 % p
  rw [h, Int.zero_emod]
theorem Cg.eq0 {p a : Int} (h : Cg p a 0) (ha : 0 ≤ a ∧ a < p) : a = 0 := h.eq ha ⟨Int.le_refl _, by omega⟩

/-- sums of multiples of rows -/
def lc (a : Nat → Int) (T : Nat → Nat → Int) (j : Nat) : Nat → Int
  | 0 => 0
  | d + 1 => lc a T j d + a d * T d j
theorem lc_zero {a : Nat → Int} {T : Nat → Nat → Int} {p : Int} {j : Nat} : ∀ {d : Nat}, (∀ r, r < d → Cg p (a r * T r j) 0) → Cg p (lc a T j d) 0
  | 0, _ => Cg.rfl' _ _
  | d + 1, h => by
    have := (lc_zero (d := d) fun r hr => h r (by omega)).add (h d (by omega))
    simpa [lc] using this
theorem lc_one {a : Nat → Int} {T : Nat → Nat → Int} {p : Int} {j s : Nat} : ∀ {d : Nat}, s < d → (∀ r, r < d → r ≠ s → Cg p (a r * T r j) 0) → Cg p (lc a T j d) (a s * T s j)
  | 0, hs, _ => absurd hs (Nat.not_lt_zero _)
  | d + 1, hs, h => by
    by_cases e : s = d
    · subst e
      have := (lc_zero (d := s) fun r hr => h r (by omega) (by omega)).add (Cg.rfl' p (a s * T s j))
      simpa [lc] using this
    · have := (lc_one (d := d) (by omega) fun r hr hn => h r (by omega) hn).add (h d (by omega) (by omega))
      simpa [lc] using this
theorem lc_congr {a b : Nat → Int} {T : Nat → Nat → Int} {p : Int} {j : Nat} : ∀ {d : Nat}, (∀ r, r < d → Cg p (a r) (b r)) → Cg p (lc a T j d) (lc b T j d)
  | 0, _ => Cg.rfl' _ _
  | d + 1, h => (lc_congr (d := d) fun r hr => h r (by omega)).add ((h d (by omega)).mul (Cg.rfl' _ _))
theorem lc_add (a b : Nat → Int) (k : Int) (T : Nat → Nat → Int) (j : Nat) : ∀ d : Nat, lc (fun r => a r + k * b r) T j d = lc a T j d + k * lc b T j d
  | 0 => by simp [lc]
  | d + 1 => by
    simp only [lc]
    rw [lc_add a b k T j d]; grind
theorem lc_rows {a : Nat → Int} {T T' : Nat → Nat → Int} {j : Nat} : ∀ {d : Nat}, (∀ r, r < d → T r j = T' r j) → lc a T j d = lc a T' j d
  | 0, _ => rfl
  | d + 1, h => by
    simp only [lc]
    rw [lc_rows (d := d) fun r hr => h r (by omega), h d (by omega)]

/-- what lists make: sums of multiples, modulo p, of n numbers -/
inductive Spn (p : Int) (n : Nat) (S : (Nat → Int) → Prop) : (Nat → Int) → Prop
  | nil (v : Nat → Int) (h : ∀ j, j < n → Cg p (v j) 0) : Spn p n S v
  | add (u v w : Nat → Int) (k : Int) (hu : S u) (hv : Spn p n S v) (h : ∀ j, j < n → Cg p (w j) (v j + k * u j)) : Spn p n S w
theorem Spn.congr {p : Int} {n : Nat} {S : (Nat → Int) → Prop} {v w : Nat → Int} (h : Spn p n S v) (e : ∀ j, j < n → Cg p (w j) (v j)) : Spn p n S w := by
  cases h with
  | nil _ h => exact .nil _ fun j hj => (e j hj).trans (h j hj)
  | add u v' _ k hu hv h => exact .add u v' w k hu hv fun j hj => (e j hj).trans (h j hj)
theorem Spn.gen {p : Int} {n : Nat} {S : (Nat → Int) → Prop} {u : Nat → Int} (h : S u) : Spn p n S u :=
  .add u (fun _ => 0) u 1 h (.nil _ fun _ _ => Cg.rfl' _ _) fun j _ => Cg.of_eq (by simp)
theorem Spn.plus {p : Int} {n : Nat} {S : (Nat → Int) → Prop} {u v : Nat → Int} (k : Int) (hu : Spn p n S u) (hv : Spn p n S v) : Spn p n S fun j => u j + k * v j := by
  induction hv with
  | nil v h => exact hu.congr fun j hj => by simpa using (Cg.rfl' p (u j)).add ((Cg.rfl' p k).mul (h j hj))
  | add u' v' w' k' h1 h2 h3 ih => exact .add u' _ _ (k * k') h1 ih fun j hj => ((Cg.rfl' p (u j)).add ((Cg.rfl' p k).mul (h3 j hj))).trans (Cg.of_eq (by grind))
theorem Spn.comb {p : Int} {n : Nat} {S : (Nat → Int) → Prop} {u v w : Nat → Int} (k : Int) (hu : Spn p n S u) (hv : Spn p n S v) (h : ∀ j, j < n → Cg p (w j) (u j + k * v j)) : Spn p n S w := (hu.plus k hv).congr h
theorem Spn.zero (p : Int) (n : Nat) (S : (Nat → Int) → Prop) : Spn p n S fun _ => 0 := .nil _ fun _ _ => Cg.rfl' _ _
theorem Spn.scale {p : Int} {n : Nat} {S : (Nat → Int) → Prop} {v w : Nat → Int} (k : Int) (hv : Spn p n S v) (h : ∀ j, j < n → Cg p (w j) (k * v j)) : Spn p n S w :=
  (Spn.zero p n S).comb k hv fun j hj => (h j hj).trans (Cg.of_eq (by simp))
theorem Spn.mono {p : Int} {n : Nat} {S S' : (Nat → Int) → Prop} (hs : ∀ u, S u → Spn p n S' u) {v : Nat → Int} (h : Spn p n S v) : Spn p n S' v := by
  induction h with
  | nil v h => exact .nil v h
  | add u v w k hu hv h ih => exact ih.comb k (hs u hu) h
/-- the first G rows -/
def RowS (G : Nat) (T : Nat → Nat → Int) (u : Nat → Int) : Prop := ∃ r, r < G ∧ u = T r
theorem Spn.row {p : Int} {n G : Nat} {T : Nat → Nat → Int} {r : Nat} (h : r < G) : Spn p n (RowS G T) (T r) := .gen ⟨r, h, rfl⟩
theorem Spn.rows {p : Int} {n G : Nat} {T : Nat → Nat → Int} {S : (Nat → Int) → Prop} (h : ∀ r, r < G → Spn p n S (T r)) {v : Nat → Int} (hv : Spn p n (RowS G T) v) : Spn p n S v :=
  hv.mono fun u hu => by obtain ⟨r, hr, rfl⟩ := hu; exact h r hr

/-- reduced rows: the places of the ones are c -/
structure Red (p : Int) (n d : Nat) (T : Nat → Nat → Int) (c : Nat → Nat) : Prop where
  inp : RowsIn p d n T
  piv : ∀ r, r < d → c r < n
  inc : ∀ r s, r < s → s < d → c r < c s
  one : ∀ r, r < d → T r (c r) = 1
  oth : ∀ r s, r < d → s < d → r ≠ s → T s (c r) = 0
  lead : ∀ r j, r < d → j < c r → T r j = 0
theorem Red.rep {p : Int} {n d : Nat} {T : Nat → Nat → Int} {c : Nat → Nat} (h : Red p n d T c) {v : Nat → Int} (hv : Spn p n (RowS d T) v) : ∀ j, j < n → Cg p (v j) (lc (fun r => v (c r)) T j d) := by
  induction hv with
  | nil v hz => exact fun j hj => (hz j hj).trans (lc_zero fun r hr => by simpa using (hz _ (h.piv r hr)).mul (Cg.rfl' p (T r j))).symm
  | add u v w k hu hv hw ih =>
    intro j hj
    obtain ⟨s, hs, rfl⟩ := hu
    have e1 : Cg p (lc (fun r => w (c r)) T j d) (lc (fun r => v (c r) + k * T s (c r)) T j d) := lc_congr fun r hr => hw _ (h.piv r hr)
    rw [lc_add (fun r => v (c r)) (fun r => T s (c r)) k T j d] at e1
    have e2 : Cg p (lc (fun r => T s (c r)) T j d) (T s j) := (lc_one hs fun r hr hn => Cg.of_eq (by rw [h.oth r s hr hs hn, Int.zero_mul])).trans (Cg.of_eq (by rw [h.one s hs, Int.one_mul]))
    exact (hw j hj).trans (((ih j hj).add ((Cg.rfl' p k).mul e2.symm)).trans e1.symm)
theorem Red.lead_of {p : Int} {n d : Nat} {T : Nat → Nat → Int} {c : Nat → Nat} (h : Red p n d T c) {v : Nat → Int} (hv : Spn p n (RowS d T) v) {j : Nat} (hj : j < n) (h0 : ∀ i, i < j → Cg p (v i) 0) (h1 : ¬ Cg p (v j) 0) : ∃ r, r < d ∧ c r = j := by
  by_cases hex : ∃ r, r < d ∧ c r = j
  · exact hex
  · refine absurd ((h.rep hv j hj).trans (lc_zero fun r hr => ?_)) h1
    by_cases e : c r < j
    · simpa using (h0 _ e).mul (Cg.rfl' p (T r j))
    · have : c r ≠ j := fun e => hex ⟨r, hr, e⟩
      exact Cg.of_eq (by rw [h.lead r j hr (by omega), Int.mul_zero])
theorem Red.zero_of {p : Int} {n d : Nat} {T : Nat → Nat → Int} {c : Nat → Nat} (h : Red p n d T c) {v : Nat → Int} (hv : Spn p n (RowS d T) v) (h0 : ∀ r, r < d → Cg p (v (c r)) 0) : ∀ j, j < n → Cg p (v j) 0 := fun j hj =>
  (h.rep hv j hj).trans (lc_zero fun r hr => by simpa using (h0 r hr).mul (Cg.rfl' p (T r j)))
theorem not_one {p : Int} (hp : 2 ≤ p) : ¬ Cg p 1 0 := fun h => by
  have := h.eq ⟨by omega, by omega⟩ ⟨by omega, by omega⟩; omega
theorem Red.has {p : Int} (hp : 2 ≤ p) {n d d' : Nat} {T T' : Nat → Nat → Int} {c c' : Nat → Nat} (h : Red p n d T c) (h' : Red p n d' T' c') (hs : ∀ r, r < d → Spn p n (RowS d' T') (T r)) {r : Nat} (hr : r < d) : ∃ q, q < d' ∧ c' q = c r :=
  h'.lead_of (hs r hr) (h.piv r hr) (fun i hi => Cg.of_eq (h.lead r i hr hi)) (by rw [h.one r hr]; exact not_one hp)
theorem inc_same {d d' : Nat} {c c' : Nat → Nat} (h1 : ∀ r s, r < s → s < d → c r < c s) (h2 : ∀ r s, r < s → s < d' → c' r < c' s) (h3 : ∀ r, r < d → ∃ q, q < d' ∧ c' q = c r) (h4 : ∀ r, r < d' → ∃ q, q < d ∧ c q = c' r) : ∀ r, r < d → r < d' ∧ c r = c' r := by
  intro r
  induction r using Nat.strongRecOn with
  | _ r ih =>
    intro hr
    obtain ⟨q, hq, e⟩ := h3 r hr
    by_cases e1 : q < r
    · have := ih q e1 (by omega)
      have := h1 q r e1 hr
      omega
    · by_cases e2 : r < q
      · have h5 := h2 r q e2 hq
        obtain ⟨s, hs, e3⟩ := h4 r (by omega)
        have e4 : s < r := by
          by_cases e5 : s < r
          · exact e5
          · by_cases e6 : s = r
            · subst e6; omega
            · have := h1 r s (by omega) hs; omega
        have e7 := ih s e4 hs
        have := h2 s r e4 (by omega)
        omega
      · obtain rfl : q = r := by omega
        exact ⟨hq, e.symm⟩
/-- reduced rows that make the same are the same -/
theorem Red.same {p : Int} (hp : 2 ≤ p) {n d d' : Nat} {T T' : Nat → Nat → Int} {c c' : Nat → Nat} (h : Red p n d T c) (h' : Red p n d' T' c') (hs : ∀ r, r < d → Spn p n (RowS d' T') (T r)) (hs' : ∀ r, r < d' → Spn p n (RowS d T) (T' r)) : d = d' ∧ (∀ r, r < d → c r = c' r) ∧ ∀ r j, r < d → j < n → T r j = T' r j := by
  have q1 := inc_same h.inc h'.inc (fun r hr => h.has hp h' hs hr) (fun r hr => h'.has hp h hs' hr)
  have q2 := inc_same h'.inc h.inc (fun r hr => h'.has hp h hs' hr) (fun r hr => h.has hp h' hs hr)
  have hd : d = d' := by
    by_cases e : d < d'
    · have := q2 d e; omega
    · by_cases e2 : d' < d
      · have := q1 d' e2; omega
      · omega
  subst hd
  refine ⟨rfl, fun r hr => (q1 r hr).2, fun r j hr hj => ?_⟩
  have e := h.rep (hs' r hr) j hj
  have e2 : Cg p (lc (fun s => T' r (c s)) T j d) (T r j) := (lc_one hr fun s hs1 hn => Cg.of_eq (by rw [(q1 s hs1).2, h'.oth s r hs1 hr hn, Int.zero_mul])).trans (Cg.of_eq (by rw [(q1 r hr).2, h'.one r hr, Int.one_mul]))
  exact ((e.trans e2).eq (h'.inp r hr j hj) (h.inp r hr j hj)).symm
/-- as many reduced rows, and one makes the others: they make the same -/
theorem Red.all_of_count {p : Int} (hp : 2 ≤ p) {n d : Nat} {T T' : Nat → Nat → Int} {c c' : Nat → Nat} (h : Red p n d T c) (h' : Red p n d T' c') (hs : ∀ r, r < d → Spn p n (RowS d T') (T r)) {v : Nat → Int} (hv : Spn p n (RowS d T') v) : Spn p n (RowS d T) v := by
  have hc : ∀ r, r < d → c r = c' r := by
    have : ∀ r, r < d → c' r ≤ c r ∧ ∃ q, r ≤ q ∧ q < d ∧ c r = c' q := by
      intro r
      induction r with
      | zero =>
        intro hr
        obtain ⟨q, hq, e⟩ := h.has hp h' hs hr
        refine ⟨?_, q, Nat.zero_le _, hq, e.symm⟩
        by_cases e2 : q = 0
        · subst e2; omega
        · have := h'.inc 0 q (by omega) hq; omega
      | succ r ih =>
        intro hr
        obtain ⟨q0, h1, h2, h3⟩ := (ih (by omega)).2
        obtain ⟨q, hq, e⟩ := h.has hp h' hs hr
        have h4 := h.inc r (r + 1) (by omega) hr
        have h5 : q0 < q := by
          by_cases e5 : q0 < q
          · exact e5
          · by_cases e6 : q = q0
            · subst e6; omega
            · have := h'.inc q q0 (by omega) h2; omega
        refine ⟨?_, q, by omega, hq, e.symm⟩
        by_cases e2 : q = r + 1
        · subst e2; omega
        · have := h'.inc (r + 1) q (by omega) hq; omega
    have key : ∀ k r, r + k + 1 = d → c r = c' r := by
      intro k
      induction k with
      | zero =>
        intro r hr
        obtain ⟨q, h1, h2, h3⟩ := (this r (by omega)).2
        obtain rfl : q = r := by omega
        exact h3
      | succ k ih =>
        intro r hr
        obtain ⟨q, h1, h2, h3⟩ := (this r (by omega)).2
        by_cases e : q = r
        · subst e; exact h3
        · have e1 := ih (r + 1) (by omega)
          have h4 := h.inc r (r + 1) (by omega) (by omega)
          by_cases e2 : q = r + 1
          · subst e2; omega
          · have := h'.inc (r + 1) q (by omega) h2; omega
    exact fun r hr => key (d - 1 - r) r (by omega)
  have hT : ∀ r, r < d → Spn p n (RowS d T) (T' r) := fun r hr => by
    have hz : ∀ j, j < n → Cg p (T' r j + (-1) * T r j) 0 := h'.zero_of ((Spn.row hr).plus (-1) (hs r hr)) fun s hs1 => Cg.of_eq (by
      by_cases e : s = r
      · subst e; rw [h'.one s hs1, ← hc s hs1, h.one s hs1]; omega
      · rw [h'.oth s r hs1 hr e, ← hc s hs1, h.oth s r hs1 hr e]; omega)
    exact (Spn.row hr).congr fun j hj => by
      have := (hz j hj).add (Cg.rfl' p (T r j))
      have e : T' r j + -1 * T r j + T r j = T' r j := by omega
      rw [e, Int.zero_add] at this
      exact this
  exact hv.rows hT

end Go.Proofs.Ytnkflgigbielgaa

/-
  The elimination makes reduced rows that make the same. No program is in sight. No condition.
-/
set_option linter.unusedVariables false
set_option linter.unusedSimpArgs false
namespace Go.Proofs.Ytnkflgigbielgaa

theorem fnd_none (f : Nat → Bool) : ∀ (d i : Nat), fnd f i d = i + d → ∀ j, i ≤ j → j < i + d → f j = false
  | 0, i, _, j, h1, h2 => by omega
  | d + 1, i, h, j, h1, h2 => by
    unfold fnd at h
    split at h
    · omega
    · rename_i hf
      by_cases e : j = i
      · subst e; simpa using hf
      · exact fnd_none f d (i + 1) (by omega) j (by omega) (by omega)

/-- what holds after k columns -/
structure BI (p : Int) (G n k : Nat) (T0 T : Nat → Nat → Int) (d : Nat) (c : Nat → Nat) : Prop where
  inp : RowsIn p G n T
  le : d ≤ G
  piv : ∀ r, r < d → c r < k
  inc : ∀ r s, r < s → s < d → c r < c s
  one : ∀ r, r < d → T r (c r) = 1
  oth : ∀ r s, r < d → s < G → r ≠ s → T s (c r) = 0
  lead : ∀ r j, r < d → j < c r → T r j = 0
  rest : ∀ r j, d ≤ r → r < G → j < k → T r j = 0
  sp1 : ∀ r, r < G → Spn p n (RowS G T0) (T r)
  sp2 : ∀ r, r < G → Spn p n (RowS G T) (T0 r)

theorem elimB_step {p : Int} (hp : primeB p = true) {G n k : Nat} {T0 T : Nat → Nat → Int} {d : Nat} {c : Nat → Nat} (h : BI p G n k T0 T d c) (hk : k < n) {i : Nat} (h1 : d ≤ i) (h2 : i < G) (h3 : T i k ≠ 0) :
    BI p G n (k + 1) T0 (bStep.elimB p (swp T d i) d k) (d + 1) (fun r => if r = d then k else c r) := by
  have hp0 : 0 < p := by have := primeB_bd hp; omega
  have hS1 : ∀ r, r < d → swp T d i r = T r := fun r hr => by unfold swp; rw [if_neg (by omega), if_neg (by omega)]
  have hS2 : ∀ r, d ≤ r → r < G → ∃ q, d ≤ q ∧ q < G ∧ swp T d i r = T q := fun r hr hG => by
    unfold swp
    split
    · exact ⟨i, h1, h2, rfl⟩
    · split
      · exact ⟨d, Nat.le_refl _, by omega, rfl⟩
      · exact ⟨r, hr, hG, rfl⟩
  have hSd : swp T d i d = T i := swp_left T d i
  have hSin : RowsIn p G n (swp T d i) := h.inp.swp (by omega) h2
  have hTS : ∀ r, r < G → ∃ q, q < G ∧ T r = swp T d i q := fun r hr => by
    unfold swp
    by_cases e : r = i
    · exact ⟨d, by omega, by rw [if_pos rfl, e]⟩
    · by_cases e2 : r = d
      · exact ⟨i, h2, by by_cases e3 : i = d <;> simp [e2, e3]⟩
      · exact ⟨r, hr, by rw [if_neg e2, if_neg e]⟩
  generalize hS : swp T d i = S at hS1 hS2 hSd hSin hTS
  have hdk : S d k = T i k := by rw [hSd]
  have hb := h.inp i h2 k hk
  obtain ⟨v1, v2, v3⟩ := invM_spec hp (a := S d k) (by rw [hdk]; omega) (by rw [hdk]; omega)
  obtain ⟨u, hu⟩ : ∃ u, invM p (S d k) = u := ⟨_, rfl⟩
  obtain ⟨R, hR⟩ : ∃ R : Nat → Int, (fun j => (S d j * u) % p) = R := ⟨_, rfl⟩
  have hRj : ∀ j, R j = (S d j * u) % p := fun j => by rw [← hR]
  have hEd : bStep.elimB p S d k d = R := by unfold bStep.elimB; rw [if_pos rfl, hu]; exact hR
  have hEr : ∀ r, r ≠ d → bStep.elimB p S d k r = elm p (S r) R (-S r k) := fun r hr => by unfold bStep.elimB; rw [if_neg hr, hu, hR]
  rw [hu] at v1 v2 v3
  have hRk : R k = 1 := by rw [hRj]; exact v3
  have hR0 : ∀ j, j < k → R j = 0 := fun j hj => by
    rw [hRj, hSd, h.rest i j h1 h2 hj, Int.zero_mul, Int.zero_emod]
  have hE0 : ∀ r j, r ≠ d → r < G → j < k → bStep.elimB p S d k r j = S r j := fun r j hr hG hj => by
    rw [hEr r hr]; unfold elm
    have := hSin r hG j (by omega)
    rw [hR0 j hj, Int.mul_zero, Int.add_zero, Int.emod_eq_of_lt this.1 this.2]
  have hEk : ∀ r, r ≠ d → bStep.elimB p S d k r k = 0 := fun r hr => by
    rw [hEr r hr]; unfold elm
    rw [hRk, Int.mul_one, Int.add_right_neg, Int.zero_emod]
  have hEin : RowsIn p G n (bStep.elimB p S d k) := fun r hr => by
    by_cases e : r = d
    · subst e; rw [hEd, ← hR]; exact fun j _ => mod_bd _ _ hp0
    · rw [hEr r e]; exact elm_in hp0 _ _ _ _
  have hSsp : ∀ r, r < G → Spn p n (RowS G T0) (S r) := fun r hr => by
    by_cases e : r < d
    · rw [hS1 r e]; exact h.sp1 r hr
    · obtain ⟨q, _, hq, e2⟩ := hS2 r (by omega) hr
      rw [e2]; exact h.sp1 q hq
  have hRsp : Spn p n (RowS G T0) R := (hSsp d (by omega)).scale u fun j hj => by rw [hRj]; exact (Cg.mod p _).trans (Cg.of_eq (Int.mul_comm _ _))
  have hRs2 : Spn p n (RowS G (bStep.elimB p S d k)) R := by
    have := Spn.row (p := p) (n := n) (T := bStep.elimB p S d k) (show d < G by omega)
    rwa [hEd] at this
  have hSs2 : ∀ r, r < G → Spn p n (RowS G (bStep.elimB p S d k)) (S r) := fun r hr => by
    by_cases e : r = d
    · subst e
      refine hRs2.scale (S r k) fun j hj => ?_
      rw [hRj]
      have e1 : Cg p (S r k * (S r j * u % p)) (S r k * (S r j * u)) := (Cg.rfl' p _).mul (Cg.mod p _)
      have e2 : S r k * (S r j * u) = S r k * u * S r j := by grind
      have e3 : Cg p (S r k * u) 1 := by show _ % p = 1 % p; rw [v3, Int.emod_eq_of_lt (by omega) (by have := primeB_bd hp; omega)]
      have e4 := e3.mul (Cg.rfl' p (S r j))
      rw [Int.one_mul] at e4
      rw [e2] at e1
      exact (e1.trans e4).symm
    · refine (Spn.row hr).comb (S r k) hRs2 fun j hj => ?_
      rw [hEr r e]; unfold elm
      have e1 := (Cg.mod p (S r j + -S r k * R j)).add (Cg.rfl' p (S r k * R j))
      have e2 : S r j + -S r k * R j + S r k * R j = S r j := by rw [Int.neg_mul]; omega
      rw [e2] at e1
      exact e1.symm
  refine ⟨hEin, by omega, fun r hr => ?_, fun r s hrs hs => ?_, fun r hr => ?_, fun r s hr hs hne => ?_, fun r j hr hj => ?_, fun r j hr hG hj => ?_, fun r hr => ?_, fun r hr => ?_⟩
  · show (if r = d then k else c r) < k + 1
    split
    · omega
    · have := h.piv r (by omega); omega
  · show (if r = d then k else c r) < if s = d then k else c s
    rw [if_neg (show r ≠ d by omega)]
    split
    · exact h.piv r (by omega)
    · exact h.inc r s hrs (by omega)
  · show bStep.elimB p S d k r (if r = d then k else c r) = 1
    by_cases e : r = d
    · subst e; rw [if_pos rfl, hEd]; exact hRk
    · rw [if_neg e, hE0 r _ e (by have := h.le; omega) (h.piv r (by omega)), hS1 r (by omega)]
      exact h.one r (by omega)
  · show bStep.elimB p S d k s (if r = d then k else c r) = 0
    by_cases e : r = d
    · rw [if_pos e]; exact hEk s (by omega)
    · have hc := h.piv r (by omega)
      rw [if_neg e]
      by_cases e2 : s = d
      · subst e2; rw [hEd]; exact hR0 _ hc
      · rw [hE0 s _ e2 hs hc]
        by_cases e3 : s < d
        · rw [hS1 s e3]; exact h.oth r s (by omega) hs hne
        · obtain ⟨q, q1, q2, e4⟩ := hS2 s (by omega) hs
          rw [e4]; exact h.rest q _ q1 q2 hc
  · by_cases e : r = d
    · subst e
      rw [hEd]
      exact hR0 j (by simpa using hj)
    · have hj' : j < c r := by simpa [e] using hj
      have hc := h.piv r (by omega)
      rw [hE0 r j e (by have := h.le; omega) (by omega), hS1 r (by omega)]
      exact h.lead r j (by omega) hj'
  · have e : r ≠ d := by omega
    by_cases e2 : j = k
    · subst e2; exact hEk r e
    · rw [hE0 r j e hG (by omega)]
      obtain ⟨q, q1, q2, e4⟩ := hS2 r (by omega) hG
      rw [e4]; exact h.rest q j q1 q2 (by omega)
  · by_cases e : r = d
    · subst e; rw [hEd]; exact hRsp
    · rw [hEr r e]
      exact (hSsp r hr).comb (-S r k) hRsp fun j hj => Cg.mod p _
  · exact (h.sp2 r hr).rows fun q hq => by
      obtain ⟨q2, h4, e⟩ := hTS q hq
      rw [e]; exact hSs2 q2 h4

theorem bSt_BI {p : Int} (hp : primeB p = true) {G n : Nat} {T : Nat → Nat → Int} (h : RowsIn p G n T) : ∀ k, k ≤ n → ∃ c, BI p G n k T (bSt p G T k).1 (bSt p G T k).2 c
  | 0, _ => ⟨fun _ => 0, h, Nat.zero_le _, fun r hr => absurd hr (Nat.not_lt_zero _), fun r s _ hs => absurd hs (Nat.not_lt_zero _), fun r hr => absurd hr (Nat.not_lt_zero _), fun r s hr => absurd hr (Nat.not_lt_zero _), fun r j hr => absurd hr (Nat.not_lt_zero _), fun r j _ _ hj => absurd hj (Nat.not_lt_zero _), fun r hr => Spn.row hr, fun r hr => Spn.row hr⟩
  | k + 1, hk => by
    obtain ⟨c, ih⟩ := bSt_BI hp h k (by omega)
    show ∃ c, BI p G n (k + 1) T (bStep p G k (bSt p G T k)).1 (bStep p G k (bSt p G T k)).2 c
    generalize bSt p G T k = St at ih ⊢
    obtain ⟨S, d⟩ := St
    have ih : BI p G n k T S d c := ih
    have hle := ih.le
    have hb := fnd_bd (fun r => S r k != 0) (G - d) d
    by_cases hf : fnd (fun r => S r k != 0) d (G - d) = G
    · have e : bStep p G k (S, d) = (S, d) := by unfold bStep; exact if_pos hf
      rw [e]
      refine ⟨c, ih.inp, ih.le, fun r hr => by have := ih.piv r hr; omega, ih.inc, ih.one, ih.oth, ih.lead, fun r j hr hG hj => ?_, ih.sp1, ih.sp2⟩
      by_cases e2 : j = k
      · subst e2
        have := fnd_none (fun r => S r j != 0) (G - d) d (by omega) r hr (by omega)
        simpa using this
      · exact ih.rest r j hr hG (by omega)
    · have e : bStep p G k (S, d) = (bStep.elimB p (swp S d (fnd (fun r => S r k != 0) d (G - d))) d k, d + 1) := by unfold bStep; exact if_neg hf
      rw [e]
      have h3 := fnd_at (fun r => S r k != 0) (G - d) d (by omega)
      exact ⟨_, elimB_step hp ih (by omega) hb.1 (by omega) (by simpa using h3)⟩

/-- the reduced rows of the elimination -/
theorem bSt_red {p : Int} (hp : primeB p = true) {G n : Nat} {T : Nat → Nat → Int} (h : RowsIn p G n T) : ∃ c, Red p n (bSt p G T n).2 (bSt p G T n).1 c ∧ (∀ r, r < (bSt p G T n).2 → Spn p n (RowS G T) ((bSt p G T n).1 r)) ∧ ∀ r, r < G → Spn p n (RowS (bSt p G T n).2 (bSt p G T n).1) (T r) := by
  obtain ⟨c, hB⟩ := bSt_BI hp h n (Nat.le_refl _)
  refine ⟨c, ⟨fun r hr => hB.inp r (by have := hB.le; omega), hB.piv, hB.inc, hB.one, fun r s hr hs => hB.oth r s hr (by have := hB.le; omega), hB.lead⟩, fun r hr => hB.sp1 r (by have := hB.le; omega), fun r hr => (hB.sp2 r hr).rows fun q hq => ?_⟩
  by_cases e : q < (bSt p G T n).2
  · exact Spn.row e
  · exact .nil _ fun j hj => Cg.of_eq (hB.rest q j (by omega) hq hj)

end Go.Proofs.Ytnkflgigbielgaa

/-
  Reduced rows with one more list put in: reduced again, and they make what the rows and the list make. No program is in sight. No condition.
-/
set_option linter.unusedVariables false
set_option linter.unusedSimpArgs false
namespace Go.Proofs.Ytnkflgigbielgaa

/-- the first place with a number -/
def ldd (n : Nat) (v : Nat → Int) : Nat := fst (fun j => v j != 0) n
theorem ldd_at {n k : Nat} {v : Nat → Int} (hk : k < n) (h : ∀ j, j < k → v j = 0) (e : v k ≠ 0) : ldd n v = k := fst_at hk (fun j hj => by simp [h j hj]) (by simpa using e)
theorem fst_le (p : Nat → Bool) : ∀ n, fst p n ≤ n
  | 0 => Nat.le_refl _
  | n + 1 => by
    have := fst_le p n
    simp only [fst]
    repeat' split
    all_goals omega
theorem fst_before (p : Nat → Bool) : ∀ n j, j < fst p n → p j = false
  | 0, j, h => by simp [fst] at h
  | n + 1, j, h => by
    have hl := fst_le p n
    simp only [fst] at h
    split at h
    · exact fst_before p n j h
    · rename_i h1
      split at h
      · exact fst_before p n j (by omega)
      · rename_i h2
        by_cases e : j = n
        · subst e; simpa using h2
        · exact fst_before p n j (by omega)
theorem fst_is (p : Nat → Bool) : ∀ n, fst p n < n → p (fst p n) = true
  | 0, h => absurd h (Nat.not_lt_zero _)
  | n + 1, h => by
    simp only [fst] at h ⊢
    split
    · exact fst_is p n (by assumption)
    · rename_i h1
      split
      · assumption
      · rename_i h2
        rw [if_neg h1, if_neg h2] at h
        omega
theorem ldd_le (n : Nat) (v : Nat → Int) : ldd n v ≤ n := fst_le _ _
theorem ldd_before {n : Nat} {v : Nat → Int} {j : Nat} (h : j < ldd n v) : v j = 0 := by simpa using fst_before _ _ _ h
theorem ldd_is {n : Nat} {v : Nat → Int} (h : ldd n v < n) : v (ldd n v) ≠ 0 := by
  have := fst_is _ _ h
  simpa [ldd] using this
theorem Red.ldd {p : Int} {n d : Nat} {T : Nat → Nat → Int} {c : Nat → Nat} (h : Red p n d T c) {r : Nat} (hr : r < d) : Go.Proofs.Ytnkflgigbielgaa.ldd n (T r) = c r :=
  ldd_at (h.piv r hr) (fun j hj => h.lead r j hr hj) (by rw [h.one r hr]; omega)

/-- a list less multiples of the first rows -/
def rsF (p : Int) (T : Nat → Nat → Int) (c : Nat → Nat) (v : Nat → Int) : Nat → Nat → Int
  | 0 => v
  | i + 1 => elm p (rsF p T c v i) (T i) (-(rsF p T c v i (c i)))
/-- rows, or one list -/
def RowV (d : Nat) (T : Nat → Nat → Int) (v u : Nat → Int) : Prop := RowS d T u ∨ u = v
theorem Spn.rowV {p : Int} {n d : Nat} {T : Nat → Nat → Int} {v : Nat → Int} {r : Nat} (h : r < d) : Spn p n (RowV d T v) (T r) := .gen (Or.inl ⟨r, h, rfl⟩)
theorem Spn.theV {p : Int} {n d : Nat} {T : Nat → Nat → Int} {v : Nat → Int} : Spn p n (RowV d T v) v := .gen (Or.inr rfl)
structure RsOk (p : Int) (n d : Nat) (T : Nat → Nat → Int) (c : Nat → Nat) (v R : Nat → Int) (i : Nat) : Prop where
  inp : InP p n R
  done : ∀ r, r < i → R (c r) = 0
  sp1 : Spn p n (RowV d T v) R
  sp2 : Spn p n (RowV d T R) v
theorem rsF_ok {p : Int} (hp : 0 < p) {n d : Nat} {T : Nat → Nat → Int} {c : Nat → Nat} (h : Red p n d T c) {v : Nat → Int} (hv : InP p n v) : ∀ i, i ≤ d → RsOk p n d T c v (rsF p T c v i) i
  | 0, _ => ⟨hv, fun r hr => absurd hr (Nat.not_lt_zero _), .theV, .theV⟩
  | i + 1, hi => by
    have ih := rsF_ok hp h hv i (by omega)
    show RsOk p n d T c v (elm p (rsF p T c v i) (T i) (-(rsF p T c v i (c i)))) (i + 1)
    generalize rsF p T c v i = R at ih ⊢
    refine ⟨elm_in hp _ _ _ _, fun r hr => ?_, ih.sp1.comb (-(R (c i))) (.rowV (by omega)) fun j hj => Cg.mod p _, ?_⟩
    · unfold elm
      by_cases e : r = i
      · subst e; rw [h.one r (by omega), Int.mul_one, Int.add_right_neg, Int.zero_emod]
      · have hc := h.piv r (by omega)
        have := ih.inp (c r) hc
        rw [h.oth r i (by omega) (by omega) e, Int.mul_zero, Int.add_zero, Int.emod_eq_of_lt this.1 this.2]
        exact ih.done r (by omega)
    · refine ih.sp2.mono fun u hu => ?_
      rcases hu with hu | rfl
      · exact .gen (Or.inl hu)
      · refine Spn.theV.comb (u (c i)) (.rowV (show i < d by omega)) fun j hj => ?_
        unfold elm
        have e1 := (Cg.mod p (u j + -u (c i) * T i j)).add (Cg.rfl' p (u (c i) * T i j))
        have e2 : u j + -u (c i) * T i j + u (c i) * T i j = u j := by rw [Int.neg_mul]; omega
        rw [e2] at e1
        exact e1.symm

/-- a row put in at place q -/
def ins {α : Type} (q : Nat) (x : α) (f : Nat → α) (r : Nat) : α := if r < q then f r else if r = q then x else f (r - 1)
/-- what is left of a list, made to begin with 1 -/
def nrm (p : Int) (n : Nat) (R : Nat → Int) (j : Nat) : Int := (invM p (R (ldd n R)) * R j) % p
/-- reduced rows with one more list -/
def putS (p : Int) (n : Nat) (v : Nat → Int) (S : (Nat → Nat → Int) × Nat) : (Nat → Nat → Int) × Nat :=
  if ldd n (rsF p S.1 (fun i => ldd n (S.1 i)) v S.2) = n then S else
    (ins (fst (fun i => decide (ldd n (rsF p S.1 (fun i => ldd n (S.1 i)) v S.2) < ldd n (S.1 i))) S.2) (nrm p n (rsF p S.1 (fun i => ldd n (S.1 i)) v S.2))
      (fun i => elm p (S.1 i) (nrm p n (rsF p S.1 (fun i => ldd n (S.1 i)) v S.2)) (-(S.1 i (ldd n (rsF p S.1 (fun i => ldd n (S.1 i)) v S.2))))), S.2 + 1)

theorem rsF_congr {p : Int} {T : Nat → Nat → Int} {c c' : Nat → Nat} {v : Nat → Int} : ∀ {d : Nat}, (∀ r, r < d → c r = c' r) → rsF p T c v d = rsF p T c' v d
  | 0, _ => rfl
  | d + 1, h => by
    unfold rsF
    rw [rsF_congr (d := d) fun r hr => h r (by omega), h d (by omega)]

/-- rows that are reduced and make what S makes -/
structure RedOf (p : Int) (n : Nat) (S : (Nat → Int) → Prop) (Q : (Nat → Nat → Int) × Nat) : Prop where
  red : ∃ c, Red p n Q.2 Q.1 c
  to : ∀ r, r < Q.2 → Spn p n S (Q.1 r)
  of : ∀ u, S u → Spn p n (RowS Q.2 Q.1) u
theorem RedOf.same {p : Int} (hp : 2 ≤ p) {n : Nat} {S : (Nat → Int) → Prop} {Q Q' : (Nat → Nat → Int) × Nat} (h : RedOf p n S Q) (h' : RedOf p n S Q') : Q.2 = Q'.2 ∧ ∀ r j, r < Q.2 → j < n → Q.1 r j = Q'.1 r j := by
  obtain ⟨c, hc⟩ := h.red
  obtain ⟨c', hc'⟩ := h'.red
  have := hc.same hp hc' (fun r hr => (h.to r hr).mono h'.of) (fun r hr => (h'.to r hr).mono h.of)
  exact ⟨this.1, this.2.2⟩
theorem RedOf.turn {p : Int} {n : Nat} {S S' : (Nat → Int) → Prop} {Q : (Nat → Nat → Int) × Nat} (h : RedOf p n S Q) (h1 : ∀ u, S u → Spn p n S' u) (h2 : ∀ u, S' u → Spn p n S u) : RedOf p n S' Q :=
  ⟨h.red, fun r hr => (h.to r hr).mono h1, fun u hu => (h2 u hu).mono h.of⟩
theorem bSt_of {p : Int} (hp : primeB p = true) {G n : Nat} {T : Nat → Nat → Int} (h : RowsIn p G n T) : RedOf p n (RowS G T) (bSt p G T n) := by
  obtain ⟨c, h1, h2, h3⟩ := bSt_red hp h
  exact ⟨⟨c, h1⟩, h2, fun u hu => by obtain ⟨r, hr, rfl⟩ := hu; exact h3 r hr⟩
theorem RedOf.nil (p : Int) (n : Nat) (T : Nat → Nat → Int) : RedOf p n (fun _ => False) (T, 0) :=
  ⟨⟨fun _ => 0, ⟨fun r hr => absurd hr (Nat.not_lt_zero _), fun r hr => absurd hr (Nat.not_lt_zero _), fun r s _ hs => absurd hs (Nat.not_lt_zero _), fun r hr => absurd hr (Nat.not_lt_zero _), fun r s hr => absurd hr (Nat.not_lt_zero _), fun r j hr => absurd hr (Nat.not_lt_zero _)⟩⟩, fun r hr => absurd hr (Nat.not_lt_zero _), fun u hu => hu.elim⟩

theorem Spn.sumV {p : Int} {n d : Nat} {T : Nat → Nat → Int} {v : Nat → Int} {S : (Nat → Int) → Prop} (h1 : ∀ r, r < d → Spn p n S (T r)) (h2 : Spn p n S v) {u : Nat → Int} (h : Spn p n (RowV d T v) u) : Spn p n S u :=
  h.mono fun w hw => by
    rcases hw with ⟨r, hr, rfl⟩ | rfl
    · exact h1 r hr
    · exact h2

theorem put_red {p : Int} (hp : primeB p = true) {n d : Nat} {T : Nat → Nat → Int} {c : Nat → Nat} (h : Red p n d T c) {v : Nat → Int} (hv : InP p n v) : RedOf p n (RowV d T v) (putS p n v (T, d)) := by
  have hp0 : 0 < p := by have := primeB_bd hp; omega
  have hk := rsF_ok hp0 h hv d (Nat.le_refl _)
  have hcg : rsF p T (fun i => ldd n (T i)) v d = rsF p T c v d := rsF_congr fun r hr => h.ldd hr
  unfold putS
  simp only [hcg]
  generalize rsF p T c v d = R at hk ⊢
  by_cases ha : ldd n R = n
  · rw [if_pos ha]
    have hz : Spn p n (RowS d T) R := .nil _ fun j hj => Cg.of_eq (ldd_before (by rw [ha]; exact hj))
    refine ⟨⟨c, h⟩, fun r hr => .rowV hr, fun u hu => ?_⟩
    show Spn p n (RowS d T) u
    rcases hu with hu | rfl
    · exact .gen hu
    · exact Spn.sumV (fun r hr => .row hr) hz hk.sp2
  · rw [if_neg ha]
    have han : ldd n R < n := by have := ldd_le n R; omega
    have hR0 : ∀ j, j < ldd n R → R j = 0 := fun j hj => ldd_before hj
    have hRa := ldd_is han
    have hrb := hk.inp (ldd n R) han
    obtain ⟨v1, v2, v3⟩ := invM_spec hp (a := R (ldd n R)) (by omega) (by omega)
    have hN : ∀ j, nrm p n R j = (invM p (R (ldd n R)) * R j) % p := fun j => rfl
    obtain ⟨a, haa⟩ : ∃ a, ldd n R = a := ⟨_, rfl⟩
    obtain ⟨u, hu⟩ : ∃ u, invM p (R a) = u := ⟨_, rfl⟩
    rw [haa] at han hR0 hRa v1 v2 v3 ⊢
    simp only [haa, hu] at hN
    rw [hu] at v1 v2 v3
    generalize nrm p n R = N at hN ⊢
    have hN0 : ∀ j, j < a → N j = 0 := fun j hj => by rw [hN, hR0 j hj, Int.mul_zero, Int.zero_emod]
    have hNa : N a = 1 := by rw [hN, Int.mul_comm]; exact v3
    have hNc : ∀ r, r < d → N (c r) = 0 := fun r hr => by rw [hN, hk.done r hr, Int.mul_zero, Int.zero_emod]
    have hNin : InP p n N := fun j hj => by rw [hN]; exact mod_bd _ _ hp0
    have hca : ∀ r, r < d → c r ≠ a := fun r hr e => by
      have e1 := hNc r hr
      rw [e] at e1; omega
    have hq := fst_le (fun i => decide (a < ldd n (T i))) d
    have hq1 : ∀ r, r < fst (fun i => decide (a < ldd n (T i))) d → c r < a := fun r hr => by
      have h1 := fst_before _ _ _ hr
      have h2 := h.ldd (show r < d by omega)
      have h3 := hca r (by omega)
      simp only [decide_eq_false_iff_not, h2] at h1
      omega
    have hq2 : ∀ r, fst (fun i => decide (a < ldd n (T i))) d ≤ r → r < d → a < c r := fun r hr hd => by
      have h1 := fst_is _ _ (show fst (fun i => decide (a < ldd n (T i))) d < d by omega)
      have h2 := h.ldd (show fst (fun i => decide (a < ldd n (T i))) d < d by omega)
      simp only [decide_eq_true_eq, h2] at h1
      by_cases e : r = fst (fun i => decide (a < ldd n (T i))) d
      · rw [e]; exact h1
      · have := h.inc _ r (show fst (fun i => decide (a < ldd n (T i))) d < r by omega) hd; omega
    generalize fst (fun i => decide (a < ldd n (T i))) d = q at hq hq1 hq2 ⊢
    obtain ⟨E, hE⟩ : ∃ E : Nat → Nat → Int, (fun i => elm p (T i) N (-(T i a))) = E := ⟨_, rfl⟩
    have hEj : ∀ i j, E i j = (T i j + -(T i a) * N j) % p := fun i j => by rw [← hE]; rfl
    rw [hE]
    have hE1 : ∀ i, i < d → E i (c i) = 1 := fun i hi => by
      rw [hEj, hNc i hi, Int.mul_zero, Int.add_zero, h.one i hi, Int.emod_eq_of_lt (by omega) (by have := primeB_bd hp; omega)]
    have hE2 : ∀ r i, r < d → i < d → r ≠ i → E i (c r) = 0 := fun r i hr hi hne => by
      rw [hEj, hNc r hr, Int.mul_zero, Int.add_zero, h.oth r i hr hi hne, Int.zero_emod]
    have hEa : ∀ i, i < d → E i a = 0 := fun i hi => by rw [hEj, hNa, Int.mul_one, Int.add_right_neg, Int.zero_emod]
    have hEl : ∀ i j, i < d → j < c i → E i j = 0 := fun i j hi hj => by
      rw [hEj, h.lead i j hi hj]
      by_cases e : j < a
      · rw [hN0 j e, Int.mul_zero, Int.add_zero, Int.zero_emod]
      · rw [h.lead i a hi (by omega), Int.neg_zero, Int.zero_mul, Int.add_zero, Int.zero_emod]
    have hEin : ∀ i, InP p n (E i) := fun i j _ => by rw [hEj]; exact mod_bd _ _ hp0
    have hb : ∀ r, r < q → ins q a c r = c r ∧ ins q N E r = E r := fun r hr => ⟨by unfold ins; rw [if_pos hr], by unfold ins; rw [if_pos hr]⟩
    have hm : ins q a c q = a ∧ ins q N E q = N := ⟨by unfold ins; rw [if_neg (Nat.lt_irrefl _), if_pos rfl], by unfold ins; rw [if_neg (Nat.lt_irrefl _), if_pos rfl]⟩
    have he : ∀ r, q < r → ins q a c r = c (r - 1) ∧ ins q N E r = E (r - 1) := fun r hr => ⟨by unfold ins; rw [if_neg (by omega), if_neg (by omega)], by unfold ins; rw [if_neg (by omega), if_neg (by omega)]⟩
    have hNs : Spn p n (RowV d T v) N := hk.sp1.scale u fun j hj => by rw [hN]; exact Cg.mod p _
    have hEs : ∀ i, i < d → Spn p n (RowV d T v) (E i) := fun i hi => (Spn.rowV hi).comb (-(T i a)) hNs fun j hj => by rw [hEj]; exact Cg.mod p _
    have hIE : ∀ i, i < d → Spn p n (RowS (d + 1) (ins q N E)) (E i) := fun i hi => by
      by_cases e : i < q
      · rw [← (hb i e).2]; exact .row (by omega)
      · have := Spn.row (p := p) (n := n) (T := ins q N E) (show i + 1 < d + 1 by omega)
        rwa [(he (i + 1) (by omega)).2, Nat.add_sub_cancel] at this
    have hIN : Spn p n (RowS (d + 1) (ins q N E)) N := by
      have := Spn.row (p := p) (n := n) (T := ins q N E) (show q < d + 1 by omega)
      rwa [hm.2] at this
    have hIT : ∀ i, i < d → Spn p n (RowS (d + 1) (ins q N E)) (T i) := fun i hi => (hIE i hi).comb (T i a) hIN fun j hj => by
      rw [hEj]
      have e1 := (Cg.mod p (T i j + -T i a * N j)).add (Cg.rfl' p (T i a * N j))
      have e2 : T i j + -T i a * N j + T i a * N j = T i j := by rw [Int.neg_mul]; omega
      rw [e2] at e1
      exact e1.symm
    have hIR : Spn p n (RowS (d + 1) (ins q N E)) R := hIN.scale (R a) fun j hj => by
      rw [hN]
      have e1 : Cg p (R a * (u * R j % p)) (R a * (u * R j)) := (Cg.rfl' p _).mul (Cg.mod p _)
      have e2 : R a * (u * R j) = R a * u * R j := by grind
      have e3 : Cg p (R a * u) 1 := by show _ % p = 1 % p; rw [v3, Int.emod_eq_of_lt (by omega) (by have := primeB_bd hp; omega)]
      have e4 := e3.mul (Cg.rfl' p (R j))
      rw [Int.one_mul] at e4
      rw [e2] at e1
      exact (e1.trans e4).symm
    have hTo : ∀ r, r < d + 1 → Spn p n (RowV d T v) (ins q N E r) := fun r hr => by
      rcases Nat.lt_trichotomy r q with e | e | e
      · rw [(hb r e).2]; exact hEs r (by omega)
      · rw [e, hm.2]; exact hNs
      · rw [(he r e).2]; exact hEs _ (by omega)
    have hOf : ∀ w, RowV d T v w → Spn p n (RowS (d + 1) (ins q N E)) w := fun w hw => by
      rcases hw with ⟨r, hr, rfl⟩ | rfl
      · exact hIT r hr
      · exact Spn.sumV hIT hIR hk.sp2
    have hgoal : Red p n (d + 1) (ins q N E) (ins q a c) → RedOf p n (RowV d T v) (ins q N E, d + 1) := fun hr => ⟨⟨_, hr⟩, hTo, hOf⟩
    refine hgoal ⟨fun r hr => ?_, fun r hr => ?_, fun r s hrs hs => ?_, fun r hr => ?_, fun r s hr hs hne => ?_, fun r j hr hj => ?_⟩
    · rcases Nat.lt_trichotomy r q with e | e | e
      · rw [(hb r e).2]; exact hEin _
      · rw [e, hm.2]; exact hNin
      · rw [(he r e).2]; exact hEin _
    · have hr : r < d + 1 := hr
      rcases Nat.lt_trichotomy r q with e | e | e
      · rw [(hb r e).1]; exact h.piv r (by omega)
      · rw [e, hm.1]; exact han
      · rw [(he r e).1]; exact h.piv _ (by omega)
    · have hs : s < d + 1 := hs
      rcases Nat.lt_trichotomy r q with e | e | e
      · rw [(hb r e).1]
        rcases Nat.lt_trichotomy s q with e2 | e2 | e2
        · rw [(hb s e2).1]; exact h.inc r s hrs (by omega)
        · rw [e2, hm.1]; exact hq1 r e
        · rw [(he s e2).1]
          have h1 := hq1 r e
          have h2 := hq2 (s - 1) (by omega) (by omega)
          omega
      · rw [e, hm.1, (he s (by omega)).1]
        exact hq2 _ (by omega) (by omega)
      · rw [(he r e).1, (he s (by omega)).1]
        exact h.inc _ _ (by omega) (by omega)
    · have hr : r < d + 1 := hr
      rcases Nat.lt_trichotomy r q with e | e | e
      · rw [(hb r e).1, (hb r e).2]; exact hE1 r (by omega)
      · rw [e, hm.1, hm.2]; exact hNa
      · rw [(he r e).1, (he r e).2]; exact hE1 _ (by omega)
    · have hr : r < d + 1 := hr
      have hs : s < d + 1 := hs
      have e1 : ∀ i, i < d → ins q a c r ≠ c i → (ins q a c r = a ∨ ∃ k, k < d ∧ k ≠ i ∧ ins q a c r = c k) := fun i hi hn => by
        rcases Nat.lt_trichotomy r q with e | e | e
        · exact Or.inr ⟨r, by omega, fun e2 => hn (by rw [(hb r e).1, e2]), (hb r e).1⟩
        · exact Or.inl (by rw [e, hm.1])
        · exact Or.inr ⟨r - 1, by omega, fun e2 => hn (by rw [(he r e).1, e2]), (he r e).1⟩
      have e2 : ∀ i, i < d → ins q a c r ≠ c i → E i (ins q a c r) = 0 := fun i hi hn => by
        rcases e1 i hi hn with e | ⟨k, k1, k2, e⟩
        · rw [e]; exact hEa i hi
        · rw [e]; exact hE2 k i k1 hi k2
      have inj : ∀ i k, i < d → k < d → c i = c k → i = k := fun i k hi hk2 e => by
        rcases Nat.lt_trichotomy i k with e2 | e2 | e2
        · have := h.inc i k e2 hk2; omega
        · exact e2
        · have := h.inc k i e2 hi; omega
      rcases Nat.lt_trichotomy s q with e | e | e
      · rw [(hb s e).2]
        refine e2 s (by omega) fun e3 => ?_
        rcases Nat.lt_trichotomy r q with e4 | e4 | e4
        · rw [(hb r e4).1] at e3; exact hne (inj _ _ (by omega) (by omega) e3)
        · rw [e4, hm.1] at e3; exact hca s (by omega) e3.symm
        · rw [(he r e4).1] at e3; have := inj _ _ (by omega) (by omega) e3; omega
      · rw [e, hm.2]
        rcases Nat.lt_trichotomy r q with e4 | e4 | e4
        · rw [(hb r e4).1]; exact hNc r (by omega)
        · omega
        · rw [(he r e4).1]; exact hNc _ (by omega)
      · rw [(he s e).2]
        refine e2 (s - 1) (by omega) fun e3 => ?_
        rcases Nat.lt_trichotomy r q with e4 | e4 | e4
        · rw [(hb r e4).1] at e3; have := inj _ _ (by omega) (by omega) e3; omega
        · rw [e4, hm.1] at e3; exact hca (s - 1) (by omega) e3.symm
        · rw [(he r e4).1] at e3; have := inj _ _ (by omega) (by omega) e3; omega
    · have hr : r < d + 1 := hr
      rcases Nat.lt_trichotomy r q with e | e | e
      · rw [(hb r e).1] at hj; rw [(hb r e).2]; exact hEl r j (by omega) hj
      · rw [e, hm.1] at hj; rw [e, hm.2]; exact hN0 j hj
      · rw [(he r e).1] at hj; rw [(he r e).2]; exact hEl _ j (by omega) hj

/-- all lists of a table, put in one by one -/
def putA (p : Int) (n : Nat) (T : Nat → Nat → Int) : Nat → (Nat → Nat → Int) × Nat
  | 0 => (fun _ _ => 0, 0)
  | k + 1 => putS p n (T k) (putA p n T k)
theorem RedOf.put {p : Int} (hp : primeB p = true) {n : Nat} {S : (Nat → Int) → Prop} {Q : (Nat → Nat → Int) × Nat} (h : RedOf p n S Q) {v : Nat → Int} (hv : InP p n v) : RedOf p n (fun u => S u ∨ u = v) (putS p n v Q) := by
  obtain ⟨c, hc⟩ := h.red
  obtain ⟨T, d⟩ := Q
  refine (put_red hp hc hv).turn (fun u hu => ?_) fun u hu => ?_
  · rcases hu with ⟨r, hr, rfl⟩ | rfl
    · exact (h.to r hr).mono fun w hw => .gen (Or.inl hw)
    · exact .gen (Or.inr rfl)
  · rcases hu with hu | rfl
    · exact (h.of u hu).mono fun w hw => .gen (Or.inl hw)
    · exact .gen (Or.inr rfl)
theorem putA_of {p : Int} (hp : primeB p = true) {n : Nat} {T : Nat → Nat → Int} : ∀ {G : Nat}, RowsIn p G n T → RedOf p n (RowS G T) (putA p n T G)
  | 0, _ => (RedOf.nil p n (fun _ _ => 0)).turn (fun u hu => hu.elim) fun u hu => by obtain ⟨r, hr, _⟩ := hu; exact absurd hr (Nat.not_lt_zero _)
  | G + 1, h => by
    refine ((putA_of hp (G := G) fun r hr => h r (by omega)).put hp (h G (by omega))).turn (fun u hu => ?_) fun u hu => ?_
    · rcases hu with ⟨r, hr, rfl⟩ | rfl
      · exact .row (by omega)
      · exact .row (by omega)
    · obtain ⟨r, hr, rfl⟩ := hu
      by_cases e : r = G
      · subst e; exact .gen (Or.inr rfl)
      · exact .gen (Or.inl ⟨r, by omega, rfl⟩)
theorem RedOf.inp {p : Int} {n : Nat} {S : (Nat → Int) → Prop} {Q : (Nat → Nat → Int) × Nat} (h : RedOf p n S Q) : RowsIn p Q.2 n Q.1 := by
  obtain ⟨c, hc⟩ := h.red
  exact hc.inp
theorem Red.le {p : Int} {n d : Nat} {T : Nat → Nat → Int} {c : Nat → Nat} (h : Red p n d T c) : d ≤ n := by
  have : ∀ r, r < d → r ≤ c r := by
    intro r
    induction r with
    | zero => intro _; omega
    | succ r ih => intro hr; have := ih (by omega); have := h.inc r (r + 1) (by omega) hr; omega
  by_cases e : d = 0
  · omega
  · have h1 := this (d - 1) (by omega); have h2 := h.piv (d - 1) (by omega); omega
theorem RedOf.le {p : Int} {n : Nat} {S : (Nat → Int) → Prop} {Q : (Nat → Nat → Int) × Nat} (h : RedOf p n S Q) : Q.2 ≤ n := by
  obtain ⟨c, hc⟩ := h.red
  exact hc.le

end Go.Proofs.Ytnkflgigbielgaa

/-
  The lists whose products with reduced rows are nought: one for each free place. No program is in sight. No condition.
-/
set_option linter.unusedVariables false
set_option linter.unusedSimpArgs false
namespace Go.Proofs.Ytnkflgigbielgaa

/-- the row that has its one at place j; d if there is none -/
def pvt (c : Nat → Nat) (d j : Nat) : Nat := fst (fun r => c r == j) d
theorem pvt_le (c : Nat → Nat) (d j : Nat) : pvt c d j ≤ d := fst_le _ _
theorem pvt_is {c : Nat → Nat} {d j : Nat} (h : pvt c d j < d) : c (pvt c d j) = j := by
  have := fst_is _ _ h
  simpa [pvt] using this
theorem pvt_none {c : Nat → Nat} {d j : Nat} (h : pvt c d j = d) {r : Nat} (hr : r < d) : c r ≠ j := by
  have := fst_before (fun r => c r == j) d r (by unfold pvt at h; omega)
  simpa using this
theorem pvt_at {c : Nat → Nat} {d r : Nat} (hr : r < d) (hinj : ∀ s, s < r → c s ≠ c r) : pvt c d (c r) = r := fst_at hr (fun s hs => by simpa using hinj s hs) (by simp)
/-- is the place free? -/
def frB (c : Nat → Nat) (d j : Nat) : Bool := pvt c d j == d
/-- the list of a free place -/
def kvF (p : Int) (d : Nat) (T : Nat → Nat → Int) (c : Nat → Nat) (f j : Nat) : Int := if j = f then 1 else if pvt c d j < d then (-(T (pvt c d j) f)) % p else 0
/-- the same, with the first k rows done -/
def kvK (p : Int) (T : Nat → Nat → Int) (c : Nat → Nat) (f : Nat) : Nat → Nat → Int
  | 0, j => if j = f then 1 else 0
  | k + 1, j => if j = c k then (-(T k f)) % p else kvK p T c f k j
theorem kvK_free {p : Int} {T : Nat → Nat → Int} {c : Nat → Nat} {f j : Nat} : ∀ {d : Nat}, (∀ r, r < d → c r ≠ j) → kvK p T c f d j = if j = f then 1 else 0
  | 0, _ => rfl
  | d + 1, h => by
    unfold kvK
    rw [if_neg fun e => h d (by omega) e.symm]
    exact kvK_free fun r hr => h r (by omega)
theorem kvK_at {p : Int} {T : Nat → Nat → Int} {c : Nat → Nat} {f r : Nat} : ∀ {d : Nat}, r < d → (∀ s, s < d → s ≠ r → c s ≠ c r) → kvK p T c f d (c r) = (-(T r f)) % p
  | 0, h, _ => absurd h (Nat.not_lt_zero _)
  | d + 1, h, hi => by
    unfold kvK
    by_cases e : r = d
    · subst e; rw [if_pos rfl]
    · rw [if_neg fun e2 => hi d (by omega) (fun e3 => e e3.symm) e2.symm]
      exact kvK_at (by omega) fun s hs => hi s (by omega)
theorem Red.inj {p : Int} {n d : Nat} {T : Nat → Nat → Int} {c : Nat → Nat} (h : Red p n d T c) {i k : Nat} (hi : i < d) (hk : k < d) (hne : i ≠ k) : c i ≠ c k := by
  rcases Nat.lt_trichotomy i k with e | e | e
  · have := h.inc i k e hk; omega
  · exact absurd e hne
  · have := h.inc k i e hi; omega
theorem kvK_eq {p : Int} {n d : Nat} {T : Nat → Nat → Int} {c : Nat → Nat} (h : Red p n d T c) {f : Nat} (hf : frB c d f = true) (j : Nat) : kvK p T c f d j = kvF p d T c f j := by
  have hf' : pvt c d f = d := by simpa [frB] using hf
  unfold kvF
  have hl := pvt_le c d j
  by_cases e : pvt c d j < d
  · have e2 := pvt_is e
    have hne : j ≠ f := fun e3 => by rw [e3] at e; omega
    rw [if_neg hne, if_pos e]
    have := kvK_at (p := p) (T := T) (f := f) e (fun s hs hn => h.inj hs e hn)
    rwa [e2] at this
  · rw [if_neg e]
    exact kvK_free fun r hr => pvt_none (by omega) hr
theorem kvF_in {p : Int} (hp : 2 ≤ p) (d : Nat) (T : Nat → Nat → Int) (c : Nat → Nat) (f n : Nat) : InP p n (kvF p d T c f) := fun j _ => by
  unfold kvF
  split
  · omega
  · split
    · exact mod_bd _ _ (by omega)
    · omega
/-- the lists of all free places -/
def kerT (p : Int) (n d : Nat) (T : Nat → Nat → Int) (c : Nat → Nat) (i : Nat) : Nat → Int := kvF p d T c (sel (frB c d) n i)
theorem kerT_in {p : Int} (hp : 2 ≤ p) (n d : Nat) (T : Nat → Nat → Int) (c : Nat → Nat) (G : Nat) : RowsIn p G n (kerT p n d T c) := fun i _ => kvF_in hp d T c _ n
theorem fst_congr {f g : Nat → Bool} : ∀ {n : Nat}, (∀ k, k < n → f k = g k) → fst f n = fst g n
  | 0, _ => rfl
  | n + 1, h => by
    have ih := fst_congr (n := n) fun k hk => h k (by omega)
    have e := h n (by omega)
    simp only [fst, ih, e]
theorem kvF_congr {p : Int} {d n : Nat} {T T' : Nat → Nat → Int} {c c' : Nat → Nat} (hc : ∀ r, r < d → c r = c' r) (hT : ∀ r j, r < d → j < n → T r j = T' r j) {f : Nat} (hf : f < n) (j : Nat) : kvF p d T c f j = kvF p d T' c' f j := by
  have e : pvt c d j = pvt c' d j := by
    unfold pvt
    exact fst_congr fun r hr => by show (c r == j) = (c' r == j); rw [hc r hr]
  unfold kvF
  rw [e]
  split
  · rfl
  · split
    · rw [hT _ f (by assumption) hf]
    · rfl
theorem frB_congr {d : Nat} {c c' : Nat → Nat} (hc : ∀ r, r < d → c r = c' r) (j : Nat) : frB c d j = frB c' d j := by
  unfold frB pvt
  rw [fst_congr fun r hr => by show (c r == j) = (c' r == j); rw [hc r hr]]
theorem sel_lt {p : Nat → Bool} : ∀ {n i : Nat}, i < cnt p n → sel p n i < n ∧ p (sel p n i) = true
  | 0, i, h => by simp [cnt] at h
  | n + 1, i, h => by
    by_cases e : i < cnt p n
    · rw [sel_old e]
      have := sel_lt e
      exact ⟨by omega, this.2⟩
    · cases hp : p n
      · simp [cnt, hp] at h; omega
      · have : i = cnt p n := by simp [cnt, hp] at h; omega
        subst this
        rw [sel_new hp]
        exact ⟨by omega, hp⟩
theorem sel_all {p : Nat → Bool} (h : ∀ j, p j = true) : ∀ n, cnt p n = n ∧ ∀ i, i < n → sel p n i = i
  | 0 => ⟨rfl, fun i hi => absurd hi (Nat.not_lt_zero _)⟩
  | n + 1 => by
    have ih := sel_all h n
    refine ⟨by simp [cnt, h n, ih.1], fun i hi => ?_⟩
    by_cases e : i = n
    · subst e
      have := sel_new (h i)
      rwa [ih.1] at this
    · rw [sel_old (by rw [ih.1]; omega)]
      exact ih.2 i (by omega)

/-- the kernel of reduced rows, reduced -/
def kerS (p : Int) (n : Nat) (Q : (Nat → Nat → Int) × Nat) : (Nat → Nat → Int) × Nat :=
  bSt p (cnt (frB (fun r => ldd n (Q.1 r)) Q.2) n) (kerT p n Q.2 Q.1 (fun r => ldd n (Q.1 r))) n
/-- the places of the unit -/
def dltU (i j : Nat) : Int := if j = i then 1 else 0
theorem dltU_red {p : Int} (hp : 2 ≤ p) (n : Nat) : Red p n n dltU (fun r => r) :=
  ⟨fun r _ j _ => by unfold dltU; split <;> omega, fun r hr => hr, fun r s h _ => h, fun r _ => by simp [dltU], fun r s _ _ h => by simp [dltU, h], fun r j _ hj => by unfold dltU; rw [if_neg]; show j ≠ r; have : j < r := hj; omega⟩
theorem kerS_none {p : Int} (hp : primeB p = true) (n : Nat) (T : Nat → Nat → Int) : (kerS p n (T, 0)).2 = n ∧ ∀ r j, r < n → j < n → (kerS p n (T, 0)).1 r j = dltU r j := by
  have hp2 : 2 ≤ p := by have := primeB_bd hp; omega
  have hf : ∀ j, frB (fun r => ldd n (T r)) 0 j = true := fun j => by simp [frB, pvt, fst]
  obtain ⟨s1, s2⟩ := sel_all hf n
  have hK : ∀ r j, r < n → kerT p n 0 T (fun r => ldd n (T r)) r j = dltU r j := fun r j hr => by
    unfold kerT kvF dltU
    rw [s2 r hr]
    split
    · rfl
    · rw [if_neg (Nat.not_lt_zero _)]
  have h1 : RedOf p n (RowS n (kerT p n 0 T (fun r => ldd n (T r)))) (bSt p n (kerT p n 0 T (fun r => ldd n (T r))) n) := bSt_of hp (kerT_in hp2 n 0 T _ n)
  have h2 : RedOf p n (RowS n (kerT p n 0 T (fun r => ldd n (T r)))) (dltU, n) := by
    refine ⟨⟨_, dltU_red hp2 n⟩, fun r hr => (Spn.row hr).congr fun j hj => Cg.of_eq (hK r j hr).symm, fun u hu => ?_⟩
    obtain ⟨r, hr, rfl⟩ := hu
    exact (Spn.row (T := dltU) hr).congr fun j hj => Cg.of_eq (hK r j hr)
  have := h1.same hp2 h2
  unfold kerS
  simp only [s1]
  exact ⟨this.1, fun r j hr hj => this.2 r j (by rw [this.1]; exact hr) hj⟩

end Go.Proofs.Ytnkflgigbielgaa
