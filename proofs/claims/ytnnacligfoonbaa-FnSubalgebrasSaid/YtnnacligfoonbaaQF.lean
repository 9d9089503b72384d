/-
  The least space with some elements that is closed under products: its reduced rows exist, and rows that make some of it, have the elements and all products, are these. No program is in sight. No condition.
-/
import Derived.Test.YtnnacligfoonbaaQAJ
import Derived.Test.YtnnacligfoonbaaQC
set_option linter.unusedVariables false
set_option linter.unusedSimpArgs false
namespace Go.Proofs.Ytnnacligfoonbaa

/-- reduced rows that are made by others are not more -/
theorem Red.count_le {p : Int} (hp : 2 ≤ p) {n d d' : Nat} {T T' : Nat → Nat → Int} {c c' : Nat → Nat} (h : Red p n d T c) (h' : Red p n d' T' c') (hs : ∀ r, r < d → Spn p n (RowS d' T') (T r)) : d ≤ d' := by
  have : ∀ r, r < d → ∃ q, r ≤ q ∧ q < d' ∧ c r = c' q := by
    intro r
    induction r with
    | zero =>
      intro hr
      obtain ⟨q, hq, e⟩ := h.has hp h' hs hr
      exact ⟨q, Nat.zero_le _, hq, e.symm⟩
    | succ r ih =>
      intro hr
      obtain ⟨q0, h1, h2, h3⟩ := ih (by omega)
      obtain ⟨q, hq, e⟩ := h.has hp h' hs hr
      have h4 := h.inc r (r + 1) (by omega) hr
      have h5 : q0 < q := by
        by_cases e5 : q0 < q
        · exact e5
        · by_cases e6 : q = q0
          · subst e6; omega
          · have := h'.inc q q0 (by omega) h2; omega
      exact ⟨q, by omega, hq, e.symm⟩
  by_cases e : d = 0
  · omega
  · obtain ⟨q, h1, h2, _⟩ := this (d - 1) (by omega); omega

/-- a list put in: nothing turns, or there is one row more -/
theorem putS_cases (p : Int) (n : Nat) (v : Nat → Int) (Q : (Nat → Nat → Int) × Nat) : putS p n v Q = Q ∨ (putS p n v Q).2 = Q.2 + 1 := by
  unfold putS
  split
  · exact Or.inl rfl
  · exact Or.inr rfl

/-- what some lists make has reduced rows -/
theorem red_exists {p : Int} (hp : primeB p = true) {n : Nat} {S : (Nat → Int) → Prop} (hS : ∀ u, S u → InP p n u) : ∃ Q, RedOf p n S Q := by
  have key : ∀ (k d : Nat) (T : Nat → Nat → Int), (∃ c, Red p n d T c) → (∀ r, r < d → Spn p n S (T r)) → n - d ≤ k → ∃ Q, RedOf p n S Q := by
    intro k
    induction k with
    | zero =>
      intro d T ⟨c, hc⟩ hT hk
      by_cases h : ∀ u, S u → Spn p n (RowS d T) u
      · exact ⟨(T, d), ⟨c, hc⟩, hT, h⟩
      · obtain ⟨u, hu⟩ := Classical.not_forall.1 h
        obtain ⟨hu1, hu2⟩ := Classical.not_imp.1 hu
        have hput := put_red hp hc (hS u hu1)
        rcases putS_cases p n u (T, d) with e | e
        · rw [e] at hput; exact absurd (hput.of u (Or.inr rfl)) hu2
        · have h1 := hput.le
          have : (putS p n u (T, d)).2 = d + 1 := e
          omega
    | succ k ih =>
      intro d T ⟨c, hc⟩ hT hk
      by_cases h : ∀ u, S u → Spn p n (RowS d T) u
      · exact ⟨(T, d), ⟨c, hc⟩, hT, h⟩
      · obtain ⟨u, hu⟩ := Classical.not_forall.1 h
        obtain ⟨hu1, hu2⟩ := Classical.not_imp.1 hu
        have hput := put_red hp hc (hS u hu1)
        rcases putS_cases p n u (T, d) with e | e
        · rw [e] at hput; exact absurd (hput.of u (Or.inr rfl)) hu2
        · have e : (putS p n u (T, d)).2 = d + 1 := e
          exact ih _ _ hput.red (fun r hr => Spn.sumV hT (.gen hu1) (hput.to r hr)) (by omega)
  exact key n 0 (fun _ _ => 0) (RedOf.nil p n _).red (fun r hr => absurd hr (Nat.not_lt_zero _)) (by omega)

/-- sums, multiples and products of some elements -/
inductive Cls (p : Int) (s : Nat → Int) (n : Nat) (S : (Nat → Int) → Prop) : (Nat → Int) → Prop
  | gen (u : Nat → Int) (h : S u) : Cls p s n S u
  | nil (v : Nat → Int) (h : ∀ j, j < 2 ^ n → Cg p (v j) 0) : Cls p s n S v
  | add (u v w : Nat → Int) (k : Int) (hu : Cls p s n S u) (hv : Cls p s n S v) (h : ∀ j, j < 2 ^ n → Cg p (w j) (v j + k * u j)) : Cls p s n S w
  | mul (u v : Nat → Int) (hu : Cls p s n S u) (hv : Cls p s n S v) : Cls p s n S (mulF p s n u v)
theorem Cls.of_span {p : Int} {s : Nat → Int} {n : Nat} {S : (Nat → Int) → Prop} {v : Nat → Int} (h : Spn p (2 ^ n) (Cls p s n S) v) : Cls p s n S v := by
  induction h with
  | nil v h => exact .nil v h
  | add u v w k hu _ h ih => exact .add u v w k hu ih h
theorem Cls.congr {p : Int} {s : Nat → Int} {n : Nat} {S : (Nat → Int) → Prop} {u v : Nat → Int} (h : Cls p s n S u) (e : ∀ j, j < 2 ^ n → Cg p (v j) (u j)) : Cls p s n S v :=
  .add u (fun _ => 0) v 1 h (.nil _ fun _ _ => Cg.rfl' _ _) fun j hj => (e j hj).trans (Cg.of_eq (by simp))

theorem Lin.maps {p : Int} {n : Nat} {A : (Nat → Int) → Nat → Int} (h : Lin p n A) {S S' : (Nat → Int) → Prop} (h0 : ∀ u, S u → Spn p n S' (A u)) {v : Nat → Int} (hv : Spn p n S v) : Spn p n S' (A v) := by
  induction hv with
  | nil v hz => exact .nil _ (h.nil hz)
  | add u v w k hu _ hw ih =>
    refine ih.comb k (h0 u hu) fun j hj => ?_
    exact ((h.cg (Y := lin v k u) hw).trans (h.add v k u)) j hj
theorem mul_span {p : Int} {s : Nat → Int} {n : Nat} {S S' : (Nat → Int) → Prop} (h : ∀ u v, S u → S v → Spn p (2 ^ n) S' (mulF p s n u v)) {u v : Nat → Int} (hu : Spn p (2 ^ n) S u) (hv : Spn p (2 ^ n) S v) : Spn p (2 ^ n) S' (mulF p s n u v) :=
  (Lin.mulL p s n v).maps (A := fun X => mulF p s n X v) (fun u hu => (Lin.mulR p s n u).maps (A := fun X => mulF p s n u X) (fun v hv => h u v hu hv) hv) hu
theorem Cls.span {p : Int} {s : Nat → Int} {n : Nat} {S S' : (Nat → Int) → Prop} (h : ∀ u, S u → Spn p (2 ^ n) S' u) (hm : ∀ u v, S' u → S' v → Spn p (2 ^ n) S' (mulF p s n u v)) {v : Nat → Int} (hv : Cls p s n S v) : Spn p (2 ^ n) S' v := by
  induction hv with
  | gen u hu => exact h u hu
  | nil v hv => exact .nil v hv
  | add u v w k _ _ hw ih1 ih2 => exact ih2.comb k ih1 hw
  | mul u v _ _ ih1 ih2 => exact mul_span hm ih1 ih2

theorem cls_exists {p : Int} (hp : primeB p = true) (s : Nat → Int) (n : Nat) (S : (Nat → Int) → Prop) : ∃ Q, RedOf p (2 ^ n) (Cls p s n S) Q := by
  have hb := primeB_bd hp
  obtain ⟨Q, hQ⟩ := red_exists hp (n := 2 ^ n) (S := fun u => Cls p s n S u ∧ InP p (2 ^ n) u) fun u h => h.2
  refine ⟨Q, hQ.turn (fun u hu => .gen hu.1) fun u hu => ?_⟩
  have h1 : Spn p (2 ^ n) (fun u => Cls p s n S u ∧ InP p (2 ^ n) u) (fun j => u j % p) := .gen ⟨hu.congr fun j hj => Cg.mod p _, fun j hj => mod_bd _ _ (by omega)⟩
  exact h1.congr fun j hj => Cg.mod' p _

/-- the elements and the unit -/
def Gn (m : Nat) (T : Nat → Nat → Int) : (Nat → Int) → Prop := RowV m T (dltU 0)
/-- the reduced rows of the least subalgebra -/
noncomputable def subQ (p : Int) (s : Nat → Int) (n m : Nat) (T : Nat → Nat → Int) : (Nat → Nat → Int) × Nat :=
  open Classical in if h : ∃ Q, RedOf p (2 ^ n) (Cls p s n (Gn m T)) Q then Classical.choose h else (fun _ _ => 0, 0)
theorem subQ_of {p : Int} (hp : primeB p = true) (s : Nat → Int) (n m : Nat) (T : Nat → Nat → Int) : RedOf p (2 ^ n) (Cls p s n (Gn m T)) (subQ p s n m T) := by
  have h := cls_exists hp s n (Gn m T)
  unfold subQ
  rw [dif_pos h]
  exact Classical.choose_spec h

/-- rows on the way: reduced, they make some of it, they have the elements -/
structure SubI (p : Int) (s : Nat → Int) (n : Nat) (S : (Nat → Int) → Prop) (Q : (Nat → Nat → Int) × Nat) : Prop where
  red : ∃ c, Red p (2 ^ n) Q.2 Q.1 c
  to : ∀ r, r < Q.2 → Cls p s n S (Q.1 r)
  of : ∀ u, S u → Spn p (2 ^ n) (RowS Q.2 Q.1) u
theorem SubI.start {p : Int} {s : Nat → Int} {n : Nat} {S S' : (Nat → Int) → Prop} {Q : (Nat → Nat → Int) × Nat} (h : RedOf p (2 ^ n) S' Q) (h1 : ∀ u, S u → S' u) (h2 : ∀ u, S' u → S u) : SubI p s n S Q :=
  ⟨h.red, fun r hr => Cls.of_span ((h.to r hr).mono fun u hu => .gen (.gen u (h2 u hu))), fun u hu => h.of u (h1 u hu)⟩
theorem SubI.le {p : Int} {s : Nat → Int} {n : Nat} {S : (Nat → Int) → Prop} {Q : (Nat → Nat → Int) × Nat} (h : SubI p s n S Q) : Q.2 ≤ 2 ^ n := by
  obtain ⟨c, hc⟩ := h.red
  exact hc.le
theorem SubI.inp {p : Int} {s : Nat → Int} {n : Nat} {S : (Nat → Int) → Prop} {Q : (Nat → Nat → Int) × Nat} (h : SubI p s n S Q) : RowsIn p Q.2 (2 ^ n) Q.1 := by
  obtain ⟨c, hc⟩ := h.red
  exact hc.inp
/-- all products are there -/
def Clo (p : Int) (s : Nat → Int) (n : Nat) (Q : (Nat → Nat → Int) × Nat) : Prop := ∀ i k, i < Q.2 → k < Q.2 → Spn p (2 ^ n) (RowS Q.2 Q.1) (mulF p s n (Q.1 i) (Q.1 k))
theorem SubI.done {p : Int} {s : Nat → Int} {n : Nat} {S : (Nat → Int) → Prop} {Q : (Nat → Nat → Int) × Nat} (h : SubI p s n S Q) (hc : Clo p s n Q) : RedOf p (2 ^ n) (Cls p s n S) Q :=
  ⟨h.red, fun r hr => .gen (h.to r hr), fun u hu => hu.span h.of fun u v hu hv => by
    obtain ⟨i, hi, rfl⟩ := hu
    obtain ⟨k, hk, rfl⟩ := hv
    exact hc i k hi hk⟩
theorem SubI.same {p : Int} (hp : primeB p = true) {s : Nat → Int} {n m : Nat} {T : Nat → Nat → Int} {Q : (Nat → Nat → Int) × Nat} (h : SubI p s n (Gn m T) Q) (hc : Clo p s n Q) :
    Q.2 = (subQ p s n m T).2 ∧ ∀ r j, r < Q.2 → j < 2 ^ n → Q.1 r j = (subQ p s n m T).1 r j :=
  (h.done hc).same (by have := primeB_bd hp; omega) (subQ_of hp s n m T)

/-- rows and all their products -/
def morT (p : Int) (s : Nat → Int) (n : Nat) (Q : (Nat → Nat → Int) × Nat) (r : Nat) : Nat → Int :=
  if r < Q.2 then Q.1 r else mulF p s n (Q.1 ((r - Q.2) / Q.2)) (Q.1 ((r - Q.2) % Q.2))
theorem morT_in {p : Int} (hp : 0 < p) {s : Nat → Int} {n : Nat} {Q : (Nat → Nat → Int) × Nat} (h : RowsIn p Q.2 (2 ^ n) Q.1) (G : Nat) : RowsIn p G (2 ^ n) (morT p s n Q) := fun r hr => by
  unfold morT
  split
  · exact h r (by assumption)
  · exact mulF_in hp _ _ _ _ _
theorem morT_old {p : Int} {s : Nat → Int} {n : Nat} {Q : (Nat → Nat → Int) × Nat} {r : Nat} (h : r < Q.2) : morT p s n Q r = Q.1 r := by unfold morT; rw [if_pos h]
theorem morT_new {p : Int} {s : Nat → Int} {n : Nat} {Q : (Nat → Nat → Int) × Nat} {i k : Nat} (hk : k < Q.2) : morT p s n Q (Q.2 + (i * Q.2 + k)) = mulF p s n (Q.1 i) (Q.1 k) := by
  unfold morT
  rw [if_neg (by omega), Nat.add_sub_cancel_left]
  rw [Nat.mul_comm i Q.2, Nat.mul_add_div (by omega), Nat.div_eq_of_lt hk, Nat.add_zero, Nat.mul_add_mod, Nat.mod_eq_of_lt hk]
theorem pair_lt {i k d : Nat} (hi : i < d) (hk : k < d) : i * d + k < d * d := by
  have := Nat.mul_le_mul_right d (show i + 1 ≤ d by omega)
  rw [Nat.succ_mul] at this
  omega
theorem SubI.step {p : Int} (hp : primeB p = true) {s : Nat → Int} {n : Nat} {S : (Nat → Int) → Prop} {Q : (Nat → Nat → Int) × Nat} (h : SubI p s n S Q) :
    SubI p s n S (bSt p (Q.2 + Q.2 * Q.2) (morT p s n Q) (2 ^ n)) ∧ Q.2 ≤ (bSt p (Q.2 + Q.2 * Q.2) (morT p s n Q) (2 ^ n)).2 ∧
    ((bSt p (Q.2 + Q.2 * Q.2) (morT p s n Q) (2 ^ n)).2 = Q.2 → Clo p s n Q) := by
  have hb := primeB_bd hp
  obtain ⟨c, hc⟩ := h.red
  have hR := bSt_of hp (morT_in (p := p) (by omega) (s := s) h.inp (Q.2 + Q.2 * Q.2))
  obtain ⟨c', hc'⟩ := hR.red
  have hin : ∀ r, r < Q.2 → Spn p (2 ^ n) (RowS (bSt p (Q.2 + Q.2 * Q.2) (morT p s n Q) (2 ^ n)).2 (bSt p (Q.2 + Q.2 * Q.2) (morT p s n Q) (2 ^ n)).1) (Q.1 r) := fun r hr =>
    hR.of _ ⟨r, by omega, (morT_old hr).symm⟩
  refine ⟨⟨hR.red, fun r hr => Cls.of_span ((hR.to r hr).mono fun u hu => ?_), fun u hu => (h.of u hu).mono fun v hv => ?_⟩, hc.count_le (by omega) hc' hin, fun e => ?_⟩
  · obtain ⟨q, hq, rfl⟩ := hu
    refine .gen ?_
    unfold morT
    split
    · exact h.to q (by assumption)
    · have hd : 0 < Q.2 := by
        by_cases e : Q.2 = 0
        · rw [e] at hq; simp at hq
        · omega
      exact .mul _ _ (h.to _ (Nat.div_lt_of_lt_mul (by omega))) (h.to _ (Nat.mod_lt _ hd))
  · obtain ⟨r, hr, rfl⟩ := hv
    exact hin r hr
  · intro i k hi hk
    have h1 := hR.of (mulF p s n (Q.1 i) (Q.1 k)) ⟨Q.2 + (i * Q.2 + k), by have := pair_lt hi hk; omega, (morT_new hk).symm⟩
    generalize bSt p (Q.2 + Q.2 * Q.2) (morT p s n Q) (2 ^ n) = Q' at hc' hin e h1
    obtain ⟨T', d'⟩ := Q'
    have e : d' = Q.2 := e
    subst e
    exact hc.all_of_count (by omega) hc' hin h1

/-- one product put in -/
theorem SubI.put {p : Int} (hp : primeB p = true) {s : Nat → Int} {n : Nat} {S : (Nat → Int) → Prop} {Q : (Nat → Nat → Int) × Nat} (h : SubI p s n S Q) {i k : Nat} (hi : i < Q.2) (hk : k < Q.2) :
    ((putS p (2 ^ n) (mulF p s n (Q.1 i) (Q.1 k)) Q).2 = Q.2 → Spn p (2 ^ n) (RowS Q.2 Q.1) (mulF p s n (Q.1 i) (Q.1 k))) ∧
    (Q.2 < (putS p (2 ^ n) (mulF p s n (Q.1 i) (Q.1 k)) Q).2 → SubI p s n S (putS p (2 ^ n) (mulF p s n (Q.1 i) (Q.1 k)) Q)) ∧
    Q.2 ≤ (putS p (2 ^ n) (mulF p s n (Q.1 i) (Q.1 k)) Q).2 := by
  have hb := primeB_bd hp
  obtain ⟨c, hc⟩ := h.red
  have hput := put_red hp hc (mulF_in (p := p) (by omega) s n (Q.1 i) (Q.1 k) (2 ^ n))
  have hput : RedOf p (2 ^ n) (RowV Q.2 Q.1 (mulF p s n (Q.1 i) (Q.1 k))) (putS p (2 ^ n) (mulF p s n (Q.1 i) (Q.1 k)) Q) := hput
  refine ⟨fun e => ?_, fun _ => ⟨hput.red, fun r hr => Cls.of_span ((hput.to r hr).mono fun u hu => ?_), fun u hu => (h.of u hu).mono fun v hv => hput.of v (Or.inl hv)⟩, ?_⟩
  · rcases putS_cases p (2 ^ n) (mulF p s n (Q.1 i) (Q.1 k)) Q with e2 | e2
    · rw [e2] at hput; exact hput.of _ (Or.inr rfl)
    · omega
  · rcases hu with ⟨r, hr, rfl⟩ | rfl
    · exact .gen (h.to r hr)
    · exact .gen (.mul _ _ (h.to i hi) (h.to k hk))
  · rcases putS_cases p (2 ^ n) (mulF p s n (Q.1 i) (Q.1 k)) Q with e2 | e2
    · rw [e2]; exact Nat.le_refl _
    · omega

end Go.Proofs.Ytnnacligfoonbaa
