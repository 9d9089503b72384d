/-
  Elimination: the first row with a number, rows that change places, a multiple of a row added. No program is in sight. No condition.
-/
import Derived.Test.YtdehfpnlehbdjaaQS
import Derived.Test.YtdehfpnlehbdjaaQP
set_option linter.unusedVariables false
set_option linter.unusedSimpArgs false
namespace Go.Proofs.Ytdehfpnlehbdjaa

/-- the first index from i, within d steps, at which f holds; i + d if there is none -/
def fnd (f : Nat → Bool) : Nat → Nat → Nat
  | i, 0 => i
  | i, d + 1 => if f i then i else fnd f (i + 1) d
theorem fnd_yes {f : Nat → Bool} {i d : Nat} (h : f i = true) (hd : 0 < d) : fnd f i d = i := by
  obtain ⟨e, rfl⟩ : ∃ e, d = e + 1 := ⟨d - 1, by omega⟩
  simp [fnd, h]
theorem fnd_no {f : Nat → Bool} {i d : Nat} (h : f i = false) (hd : 0 < d) : fnd f i d = fnd f (i + 1) (d - 1) := by
  obtain ⟨e, rfl⟩ : ∃ e, d = e + 1 := ⟨d - 1, by omega⟩
  simp [fnd, h]
theorem fnd_bd (f : Nat → Bool) : ∀ (d i : Nat), i ≤ fnd f i d ∧ fnd f i d ≤ i + d
  | 0, i => by simp [fnd]
  | d + 1, i => by
    unfold fnd
    split
    · omega
    · have := fnd_bd f d (i + 1); omega
theorem fnd_at (f : Nat → Bool) : ∀ (d i : Nat), fnd f i d < i + d → f (fnd f i d) = true
  | 0, i, h => by simp [fnd] at h
  | d + 1, i, h => by
    unfold fnd at h ⊢
    split
    · assumption
    · rename_i hf
      rw [if_neg hf] at h
      exact fnd_at f d (i + 1) (by omega)
theorem fnd_congr {f g : Nat → Bool} : ∀ {d i : Nat}, (∀ j, i ≤ j → j < i + d → f j = g j) → fnd f i d = fnd g i d
  | 0, i, _ => rfl
  | d + 1, i, h => by
    unfold fnd
    rw [h i (Nat.le_refl _) (by omega), fnd_congr fun j h1 h2 => h j (by omega) (by omega)]

/-- two places change -/
def swp {α : Type} (T : Nat → α) (a b r : Nat) : α := if r = a then T b else if r = b then T a else T r
/-- one place is set -/
def put {α : Type} (T : Nat → α) (a : Nat) (x : α) (r : Nat) : α := if r = a then x else T r
theorem swp_self {α : Type} (T : Nat → α) (a : Nat) : swp T a a = T := by
  funext r; unfold swp
  by_cases e : r = a
  · subst e; simp
  · simp [e]
theorem swp_left {α : Type} (T : Nat → α) (a b : Nat) : swp T a b a = T b := by simp [swp]
theorem put_self {α : Type} (T : Nat → α) (a : Nat) (x : α) : put T a x a = x := by simp [put]
theorem put_other {α : Type} (T : Nat → α) {a r : Nat} (x : α) (h : r ≠ a) : put T a x r = T r := by simp [put, h]
/-- a row, and a multiple of another -/
def elm (p : Int) (X Y : Nat → Int) (k : Int) (j : Nat) : Int := (X j + k * Y j) % p
theorem elm_in {p : Int} (hp : 0 < p) (X Y : Nat → Int) (k : Int) (n : Nat) : InP p n (elm p X Y k) := fun j _ => mod_bd _ _ hp
theorem elm_zero {p : Int} {n : Nat} {X Y : Nat → Int} (h : InP p n X) {j : Nat} (hj : j < n) : elm p X Y (-0) j = X j := by
  have := h j hj
  unfold elm
  rw [Int.neg_zero, Int.zero_mul, Int.add_zero, Int.emod_eq_of_lt this.1 this.2]
/-- the reference's factor does the same -/
theorem elm_mod (p : Int) (X Y : Nat → Int) {a b : Int} (h : a % p = b % p) (j : Nat) : elm p X Y a j = elm p X Y b j := by
  unfold elm
  have e1 : (X j + a * Y j) % p = (X j + a % p * Y j) % p := by
    rw [Int.add_emod, Int.mul_emod, ← Int.emod_emod_of_dvd a (Int.dvd_refl p), ← Int.mul_emod, ← Int.add_emod]
    simp [Int.add_emod, Int.mul_emod]
  have e2 : (X j + b * Y j) % p = (X j + b % p * Y j) % p := by
    simp [Int.add_emod, Int.mul_emod]
  rw [e1, e2, h]
theorem fac_mod (p a f : Int) : ((p - a) * f % p) % p = (-a * f) % p := by
  rw [Int.emod_emod_of_dvd _ (Int.dvd_refl p)]
  have e : (p - a) * f = -a * f + p * f := by grind
  rw [e, Int.add_mul_emod_self_left]
theorem fac_mod1 (p a : Int) : ((p - a) % p) % p = (-a) % p := by
  rw [Int.emod_emod_of_dvd _ (Int.dvd_refl p)]
  have e : p - a = -a + p * 1 := by omega
  rw [e, Int.add_mul_emod_self_left]

/-- rows of n numbers of the field -/
def RowsIn (p : Int) (G n : Nat) (T : Nat → Nat → Int) : Prop := ∀ i, i < G → InP p n (T i)
theorem RowsIn.swp {p : Int} {G n : Nat} {T : Nat → Nat → Int} (h : RowsIn p G n T) {a b : Nat} (ha : a < G) (hb : b < G) : RowsIn p G n (swp T a b) := fun i hi => by
  unfold Go.Proofs.Ytdehfpnlehbdjaa.swp
  split
  · exact h b hb
  · split
    · exact h a ha
    · exact h i hi

/-- the rows behind row i, each less its multiple of row i -/
def elimD (p : Int) (T : Nat → Nat → Int) (i r : Nat) : Nat → Int := if i < r then elm p (T r) (T i) (-T r i * invM p (T i i)) else T r
theorem elimD_in {p : Int} (hp : 0 < p) {G n : Nat} {T : Nat → Nat → Int} (h : RowsIn p G n T) (i : Nat) : RowsIn p G n (elimD p T i) := fun r hr => by
  unfold elimD
  split
  · exact elm_in hp _ _ _ _
  · exact h r hr
/-- the determinant, from row i on -/
def detR (p : Int) (G : Nat) : Nat → Nat → (Nat → Nat → Int) → Int → Int
  | 0, _, _, o => o
  | f + 1, i, T, o =>
    if fnd (fun r => T r i != 0) i (G - i) = G then 0 else
      detR p G f (i + 1) (elimD p (swp T i (fnd (fun r => T r i != 0) i (G - i))) i) (((if fnd (fun r => T r i != 0) i (G - i) = i then o else (-o) % p) * swp T i (fnd (fun r => T r i != 0) i (G - i)) i i) % p)
theorem elimD_congr {p : Int} {G n : Nat} {T T' : Nat → Nat → Int} {i : Nat} (hi : i < G) (hin : i < n) (h : ∀ r j, r < G → j < n → T r j = T' r j) : ∀ r j, r < G → j < n → elimD p T i r j = elimD p T' i r j := fun r j hr hj => by
  unfold elimD
  split
  · unfold elm; rw [h r j hr hj, h i j hi hj, h r i hr hin, h i i hi hin]
  · exact h r j hr hj
theorem swp_congr {G n : Nat} {T T' : Nat → Nat → Int} {a b : Nat} (ha : a < G) (hb : b < G) (h : ∀ r j, r < G → j < n → T r j = T' r j) : ∀ r j, r < G → j < n → swp T a b r j = swp T' a b r j := fun r j hr hj => by
  unfold swp
  split
  · exact h b j hb hj
  · split
    · exact h a j ha hj
    · exact h r j hr hj
theorem detR_congr {p : Int} {G n : Nat} (hGn : G ≤ n) : ∀ (f i : Nat) {T T' : Nat → Nat → Int} (o : Int), i + f ≤ G → (∀ r j, r < G → j < n → T r j = T' r j) → detR p G f i T o = detR p G f i T' o
  | 0, _, _, _, _, _, _ => rfl
  | f + 1, i, T, T', o, hif, h => by
    unfold detR
    have e : fnd (fun r => T r i != 0) i (G - i) = fnd (fun r => T' r i != 0) i (G - i) := fnd_congr fun r h1 h2 => by show (T r i != 0) = (T' r i != 0); rw [h r i (by omega) (by omega)]
    rw [e]
    have hb := fnd_bd (fun r => T' r i != 0) (G - i) i
    obtain ⟨k, hk⟩ : ∃ k, fnd (fun r => T' r i != 0) i (G - i) = k := ⟨_, rfl⟩
    rw [hk] at hb ⊢
    by_cases hkG : k = G
    · rw [if_pos hkG, if_pos hkG]
    · rw [if_neg hkG, if_neg hkG]
      have hs := swp_congr (n := n) (a := i) (b := k) (by omega) (by omega) h
      rw [hs i i (by omega) (by omega)]
      exact detR_congr hGn f (i + 1) _ (by omega) (elimD_congr (by omega) (by omega) hs)

/-- one column of the elimination: the rows, and how many are done -/
def bStep (p : Int) (G k : Nat) (S : (Nat → Nat → Int) × Nat) : (Nat → Nat → Int) × Nat :=
  if fnd (fun r => S.1 r k != 0) S.2 (G - S.2) = G then S else
    (elimB p (swp S.1 S.2 (fnd (fun r => S.1 r k != 0) S.2 (G - S.2))) S.2 k, S.2 + 1)
where
  /-- row d is made to have 1 at place k, the others nought there -/
  elimB (p : Int) (T : Nat → Nat → Int) (d k r : Nat) : Nat → Int :=
    if r = d then fun j => (T d j * invM p (T d k)) % p else elm p (T r) (fun j => (T d j * invM p (T d k)) % p) (-T r k)
/-- the state after k columns -/
def bSt (p : Int) (G : Nat) (T : Nat → Nat → Int) : Nat → (Nat → Nat → Int) × Nat
  | 0 => (T, 0)
  | k + 1 => bStep p G k (bSt p G T k)
theorem bSt_in {p : Int} (hp : 0 < p) {G n : Nat} {T : Nat → Nat → Int} (h : RowsIn p G n T) : ∀ k, RowsIn p G n (bSt p G T k).1 ∧ (bSt p G T k).2 ≤ G ∧ (bSt p G T k).2 ≤ k
  | 0 => ⟨h, Nat.zero_le _, Nat.le_refl _⟩
  | k + 1 => by
    have ih := bSt_in hp h k
    show RowsIn p G n (bStep p G k (bSt p G T k)).1 ∧ (bStep p G k (bSt p G T k)).2 ≤ G ∧ (bStep p G k (bSt p G T k)).2 ≤ k + 1
    unfold bStep
    have hb := fnd_bd (fun r => (bSt p G T k).1 r k != 0) (G - (bSt p G T k).2) (bSt p G T k).2
    split
    · exact ⟨ih.1, ih.2.1, by omega⟩
    · refine ⟨fun r hr => ?_, by show _ + 1 ≤ G; omega, by show _ + 1 ≤ k + 1; omega⟩
      show InP p n (bStep.elimB p _ _ k r)
      unfold bStep.elimB
      split
      · exact fun j _ => mod_bd _ _ hp
      · exact elm_in hp _ _ _ _
theorem bSt_full {p : Int} {G : Nat} {T : Nat → Nat → Int} {k : Nat} (h : (bSt p G T k).2 = G) : ∀ d, bSt p G T (k + d) = bSt p G T k
  | 0 => rfl
  | d + 1 => by
    show bStep p G (k + d) (bSt p G T (k + d)) = _
    rw [bSt_full h d]
    unfold bStep
    rw [h, Nat.sub_self]; exact if_pos rfl

end Go.Proofs.Ytdehfpnlehbdjaa
