/-
  What a table of a loop is, in plain mathematics, and small facts on it. No program is in sight. No condition.
-/
import Derived.Test.YtnkflgigbielgaaRows
set_option linter.unusedVariables false
set_option linter.unusedSimpArgs false
namespace Go.Proofs.Ytnkflgigbielgaa

/-- A table of G rows (row i has L i places) is that of a loop. -/
structure LoopOk (G : Nat) (L : Nat → Nat) (T : Nat → Nat → Int) : Prop where
  pos : 1 ≤ G
  max : G ≤ 128
  len : ∀ i, i < G → L i = G
  unit : ∀ i : Nat, i < G → T 0 i = i ∧ T i 0 = i
  range : ∀ i j, i < G → j < G → 0 ≤ T i j ∧ T i j < G
  row : ∀ i j k, i < G → j < k → k < G → T i j ≠ T i k
  col : ∀ i j k, i < G → j < k → k < G → T j i ≠ T k i

open Classical in
noncomputable def loopB (G : Nat) (L : Nat → Nat) (T : Nat → Nat → Int) : Bool := decide (LoopOk G L T)
theorem loopB_true {G : Nat} {L : Nat → Nat} {T : Nat → Nat → Int} (h : LoopOk G L T) : loopB G L T = true := by
  unfold loopB; exact @decide_eq_true _ (Classical.propDecidable _) h
theorem loopB_false {G : Nat} {L : Nat → Nat} {T : Nat → Nat → Int} (h : ¬ LoopOk G L T) : loopB G L T = false := by
  unfold loopB; exact @decide_eq_false _ (Classical.propDecidable _) h
theorem loopB_ok {G : Nat} {L : Nat → Nat} {T : Nat → Nat → Int} (h : loopB G L T = true) : LoopOk G L T := by
  unfold loopB at h; exact @of_decide_eq_true _ (Classical.propDecidable _) h

def inB (n low high : Int) : Bool := decide (low ≤ n ∧ n ≤ high)

/-- Is x among f 0, .., f (k - 1)? -/
def seen (f : Nat → Int) : Nat → Int → Bool
  | 0, _ => false
  | k + 1, x => seen f k x || (f k == x)
theorem seen_iff (f : Nat → Int) (k : Nat) (x : Int) : seen f k x = true ↔ ∃ j, j < k ∧ f j = x := by
  induction k with
  | zero => simp [seen]
  | succ k ih =>
    simp only [seen, Bool.or_eq_true, ih, beq_iff_eq]
    constructor
    · rintro (⟨j, hj, e⟩ | e)
      · exact ⟨j, by omega, e⟩
      · exact ⟨k, by omega, e⟩
    · rintro ⟨j, hj, e⟩
      by_cases h : j = k
      · subst h; exact .inr e
      · exact .inl ⟨j, by omega, e⟩
theorem seen_false {f : Nat → Int} {k : Nat} {x : Int} (h : seen f k x = false) : ∀ j, j < k → f j ≠ x := fun j hj e => by
  have := (seen_iff f k x).2 ⟨j, hj, e⟩; rw [h] at this; cases this
theorem seen_succ (f : Nat → Int) (k : Nat) (x : Int) : seen f (k + 1) x = if x = f k then true else seen f k x := by
  by_cases h : x = f k
  · subst h; simp [seen]
  · have : (f k == x) = false := beq_eq_false_iff_ne.2 (fun e => h e.symm)
    simp [seen, h, this]

/-- row x and column x, as far as place k -/
structure LineOk (G : Nat) (T : Nat → Nat → Int) (x k : Nat) : Prop where
  range : ∀ j, j < k → (0 ≤ T x j ∧ T x j < G) ∧ 0 ≤ T j x ∧ T j x < G
  row : ∀ i j, i < j → j < k → T x i ≠ T x j
  col : ∀ i j, i < j → j < k → T i x ≠ T j x

theorem LineOk.zero (G : Nat) (T : Nat → Nat → Int) (x : Nat) : LineOk G T x 0 := ⟨fun j hj => absurd hj (Nat.not_lt_zero _), fun i j _ hj => absurd hj (Nat.not_lt_zero _), fun i j _ hj => absurd hj (Nat.not_lt_zero _)⟩
theorem LineOk.succ {G : Nat} {T : Nat → Nat → Int} {x k : Nat} (h : LineOk G T x k) (h1 : 0 ≤ T x k ∧ T x k < G) (h2 : 0 ≤ T k x ∧ T k x < G) (h3 : ∀ j, j < k → T x j ≠ T x k) (h4 : ∀ j, j < k → T j x ≠ T k x) : LineOk G T x (k + 1) := by
  refine ⟨fun j hj => ?_, fun i j hij hj => ?_, fun i j hij hj => ?_⟩
  · by_cases e : j = k
    · subst e; exact ⟨h1, h2⟩
    · exact h.range j (by omega)
  · by_cases e : j = k
    · subst e; exact h3 i hij
    · exact h.row i j hij (by omega)
  · by_cases e : j = k
    · subst e; exact h4 i hij
    · exact h.col i j hij (by omega)

theorem LoopOk.of_lines {G : Nat} {L : Nat → Nat} {T : Nat → Nat → Int} (h1 : 1 ≤ G) (h2 : G ≤ 128) (h3 : ∀ i, i < G → L i = G) (h : ∀ x : Nat, x < G → LineOk G T x G ∧ T 0 x = x ∧ T x 0 = x) : LoopOk G L T :=
  ⟨h1, h2, h3, fun i hi => (h i hi).2, fun i j hi hj => ((h i hi).1.range j hj).1, fun i j k hi hj hk => (h i hi).1.row j k hj hk, fun i j k hi hj hk => (h i hi).1.col j k hj hk⟩

theorem LoopOk.nat {G : Nat} {L : Nat → Nat} {T : Nat → Nat → Int} (h : LoopOk G L T) {i j : Nat} (hi : i < G) (hj : j < G) : ∃ p : Nat, T i j = p ∧ p < G := by
  have := h.range i j hi hj
  exact ⟨(T i j).toNat, by omega, by omega⟩

/-- The table's numbers, as natural numbers below G (whatever the table). -/
def NT (G : Nat) (T : Nat → Nat → Int) (i j : Nat) : Nat := (T i j).toNat % G
theorem NT_lt {G : Nat} (h : 1 ≤ G) (T : Nat → Nat → Int) (i j : Nat) : NT G T i j < G := Nat.mod_lt _ h
theorem LoopOk.nt {G : Nat} {L : Nat → Nat} {T : Nat → Nat → Int} (h : LoopOk G L T) {i j : Nat} (hi : i < G) (hj : j < G) : T i j = (NT G T i j : Nat) := by
  have := h.range i j hi hj
  unfold NT
  rw [Nat.mod_eq_of_lt (by omega)]; omega

def assB (N : Nat → Nat → Nat) (x y z : Nat) : Bool := (N (N x y) z : Int) == (N x (N y z) : Int)
def comB (N : Nat → Nat → Nat) (x y : Nat) : Bool := (N x y : Int) == (N y x : Int)
def mouB (N : Nat → Nat → Nat) (x y z : Nat) : Bool := (N (N x (N y z)) x : Int) == (N (N x y) (N z x) : Int)

/-- How many k below n there are with p k. -/
def cnt (p : Nat → Bool) : Nat → Nat
  | 0 => 0
  | k + 1 => cnt p k + if p k then 1 else 0
theorem cnt_le (p : Nat → Bool) (n : Nat) : cnt p n ≤ n := by
  induction n with
  | zero => exact Nat.le_refl _
  | succ n ih => simp only [cnt]; split <;> omega
theorem cnt_full (p : Nat → Bool) (n : Nat) : cnt p n = n ↔ ∀ k, k < n → p k = true := by
  induction n with
  | zero => simp [cnt]
  | succ n ih =>
    have := cnt_le p n
    simp only [cnt]
    constructor
    · intro h k hk
      by_cases hp : p n = true
      · rw [if_pos hp] at h
        by_cases e : k = n
        · subst e; exact hp
        · exact ih.1 (by omega) k (by omega)
      · rw [if_neg hp] at h; omega
    · intro h
      rw [if_pos (h n (by omega)), ih.2 fun k hk => h k (by omega)]

/-- The sum of f below n. -/
def sumN (f : Nat → Nat) : Nat → Nat
  | 0 => 0
  | k + 1 => sumN f k + f k
theorem sumN_le {f : Nat → Nat} {m : Nat} (h : ∀ k, f k ≤ m) (n : Nat) : sumN f n ≤ n * m := by
  induction n with
  | zero => simp [sumN]
  | succ n ih => simp only [sumN]; have := h n; rw [Nat.succ_mul]; omega
theorem sumN_full {f : Nat → Nat} {m : Nat} (h : ∀ k, f k ≤ m) (n : Nat) : sumN f n = n * m ↔ ∀ k, k < n → f k = m := by
  induction n with
  | zero => simp [sumN]
  | succ n ih =>
    have h1 := sumN_le h n
    have h2 := h n
    simp only [sumN, Nat.succ_mul]
    constructor
    · intro e k hk
      by_cases e2 : k = n
      · subst e2; omega
      · exact ih.1 (by omega) k (by omega)
    · intro hf
      rw [ih.2 fun k hk => hf k (by omega), hf n (by omega)]

def cnt2 (G : Nat) (p : Nat → Nat → Bool) : Nat → Nat := sumN fun x => cnt (p x) G
def cnt3 (G : Nat) (p : Nat → Nat → Nat → Bool) : Nat → Nat := sumN fun x => cnt2 G (p x) G
theorem cnt2_le (G : Nat) (p : Nat → Nat → Bool) (n : Nat) : cnt2 G p n ≤ n * G := sumN_le (fun _ => cnt_le _ _) n
theorem cnt3_le (G : Nat) (p : Nat → Nat → Nat → Bool) (n : Nat) : cnt3 G p n ≤ n * (G * G) := sumN_le (fun _ => cnt2_le _ _ _) n
theorem cnt2_full (G : Nat) (p : Nat → Nat → Bool) : cnt2 G p G = G * G ↔ ∀ x y, x < G → y < G → p x y = true := by
  unfold cnt2
  rw [sumN_full (fun _ => cnt_le _ _)]
  exact ⟨fun h x y hx hy => (cnt_full _ _).1 (h x hx) y hy, fun h x hx => (cnt_full _ _).2 fun y hy => h x y hx hy⟩
theorem cnt3_full (G : Nat) (p : Nat → Nat → Nat → Bool) : cnt3 G p G = G * (G * G) ↔ ∀ x y z, x < G → y < G → z < G → p x y z = true := by
  unfold cnt3
  rw [sumN_full (fun _ => cnt2_le _ _ _)]
  exact ⟨fun h x y z hx hy hz => (cnt2_full _ _).1 (h x hx) y z hy hz, fun h x hx => (cnt2_full _ _).2 fun y z hy hz => h x y z hx hy hz⟩

/-- Is p true of all triples below G? -/
def all3 (G : Nat) (p : Nat → Nat → Nat → Bool) : Bool := decide (cnt3 G p G = G * (G * G))
theorem all3_true {G : Nat} {p : Nat → Nat → Nat → Bool} (h : ∀ x y z, x < G → y < G → z < G → p x y z = true) : all3 G p = true := decide_eq_true ((cnt3_full _ _).2 h)
theorem all3_false {G : Nat} {p : Nat → Nat → Nat → Bool} {x y z : Nat} (hx : x < G) (hy : y < G) (hz : z < G) (h : p x y z = false) : all3 G p = false :=
  decide_eq_false fun e => by rw [(cnt3_full _ _).1 e x y z hx hy hz] at h; cases h

/-- The first place of x among f 0, .., f (n - 1); -1 if there is none. -/
def idx (f : Nat → Int) (x : Int) : Nat → Int
  | 0 => -1
  | k + 1 => if 0 ≤ idx f x k then idx f x k else if f k = x then k else -1
theorem idx_none {f : Nat → Int} {x : Int} {n : Nat} (h : ∀ j, j < n → f j ≠ x) : idx f x n = -1 := by
  induction n with
  | zero => rfl
  | succ n ih => simp only [idx]; rw [ih fun j hj => h j (by omega)]; simp [h n (by omega)]
theorem idx_stay {f : Nat → Int} {x : Int} {k : Nat} (h : 0 ≤ idx f x k) (d : Nat) : idx f x (k + d) = idx f x k := by
  induction d with
  | zero => rfl
  | succ d ih => rw [show k + (d + 1) = (k + d) + 1 from rfl]; simp only [idx]; rw [ih]; simp [h]
theorem idx_at {f : Nat → Int} {x : Int} {k n : Nat} (hk : k < n) (h : ∀ j, j < k → f j ≠ x) (e : f k = x) : idx f x n = k := by
  have h1 : idx f x (k + 1) = k := by simp only [idx]; rw [idx_none h]; simp [e]
  have h2 := idx_stay (f := f) (x := x) (k := k + 1) (by rw [h1]; omega) (n - (k + 1))
  rw [show k + 1 + (n - (k + 1)) = n by omega] at h2
  rw [h2, h1]

/-- The power of x in a table, k times. -/
def powN (N : Nat → Nat → Nat) (x : Nat) : Nat → Nat
  | 0 => x
  | k + 1 => N (powN N x k) x

/-- The numbers below n with p, in order: how many, and the i-th. -/
def sel (p : Nat → Bool) : Nat → Nat → Nat
  | 0, _ => 0
  | k + 1, i => if p k && cnt p k == i then k else sel p k i
theorem sel_old {p : Nat → Bool} {k i : Nat} (h : i < cnt p k) : sel p (k + 1) i = sel p k i := by
  simp only [sel]; rw [if_neg (by simp; intro _; omega)]
theorem sel_new {p : Nat → Bool} {k : Nat} (h : p k = true) : sel p (k + 1) (cnt p k) = k := by simp [sel, h]

def nucB (N : Nat → Nat → Nat) (x y z : Nat) : Bool := assB N x y z && assB N y x z && assB N y z x
/-- Is p true of all pairs below G? -/
def all2 (G : Nat) (p : Nat → Nat → Bool) : Bool := decide (cnt2 G p G = G * G)
theorem all2_true {G : Nat} {p : Nat → Nat → Bool} (h : ∀ x y, x < G → y < G → p x y = true) : all2 G p = true := decide_eq_true ((cnt2_full _ _).2 h)
theorem all2_false {G : Nat} {p : Nat → Nat → Bool} {x y : Nat} (hx : x < G) (hy : y < G) (h : p x y = false) : all2 G p = false :=
  decide_eq_false fun e => by rw [(cnt2_full _ _).1 e x y hx hy] at h; cases h

/-- The least k below n with p k; n if there is none. -/
def fst (p : Nat → Bool) : Nat → Nat
  | 0 => 0
  | k + 1 => if fst p k < k then fst p k else if p k then k else k + 1
theorem fst_none {p : Nat → Bool} {n : Nat} (h : ∀ k, k < n → p k = false) : fst p n = n := by
  induction n with
  | zero => rfl
  | succ n ih => simp only [fst]; rw [ih fun k hk => h k (by omega)]; simp [h n (by omega)]
theorem fst_stay {p : Nat → Bool} {k : Nat} (h : fst p k < k) (d : Nat) : fst p (k + d) = fst p k := by
  induction d with
  | zero => rfl
  | succ d ih => rw [show k + (d + 1) = (k + d) + 1 from rfl]; simp only [fst]; rw [ih, if_pos (by omega)]
theorem fst_at {p : Nat → Bool} {k n : Nat} (hk : k < n) (h : ∀ j, j < k → p j = false) (e : p k = true) : fst p n = k := by
  have h1 : fst p (k + 1) = k := by simp only [fst]; rw [fst_none h]; simp [e]
  have h2 := fst_stay (p := p) (k := k + 1) (by rw [h1]; omega) (n - (k + 1))
  rw [show k + 1 + (n - (k + 1)) = n by omega] at h2
  rw [h2, h1]
theorem fst_more {p : Nat → Bool} {n : Nat} (h : ∃ k, k < n ∧ p k = true) (d : Nat) : fst p n < n ∧ fst p (n + d) = fst p n := by
  have h1 : fst p n < n := by
    rcases Nat.lt_or_ge (fst p n) n with h1 | h1
    · exact h1
    · exfalso
      obtain ⟨k, hk, e⟩ := h
      have : ∀ m, (∃ k, k < m ∧ p k = true) → fst p m < m := by
        intro m
        induction m with
        | zero => rintro ⟨k, hk, _⟩; omega
        | succ m ih =>
          rintro ⟨k, hk, e⟩
          simp only [fst]
          by_cases hm : fst p m < m
          · rw [if_pos hm]; omega
          · rw [if_neg hm]
            by_cases e2 : k = m
            · subst e2; rw [if_pos e]; omega
            · exact absurd (ih ⟨k, by omega, e⟩) hm
      have := this n ⟨k, hk, e⟩
      omega
  exact ⟨h1, fst_stay h1 d⟩

/-- n + 1 numbers below n are not all different. -/
theorem pigeon : ∀ (n : Nat) (f : Nat → Nat), (∀ i, i ≤ n → f i < n) → ∃ i j, i < j ∧ j ≤ n ∧ f i = f j
  | 0, f, h => absurd (h 0 (Nat.le_refl _)) (Nat.not_lt_zero _)
  | n + 1, f, h => by
    by_cases hex : ∃ i, i < n + 1 ∧ f i = f (n + 1)
    · obtain ⟨i, hi, e⟩ := hex
      exact ⟨i, n + 1, hi, Nat.le_refl _, e⟩
    · have hne : ∀ i, i < n + 1 → f i ≠ f (n + 1) := fun i hi e => hex ⟨i, hi, e⟩
      obtain ⟨i, j, hij, hj, e⟩ := pigeon n (fun i => if f (n + 1) < f i then f i - 1 else f i) (fun i hi => by
        have h1 := h i (by omega)
        have h2 := h (n + 1) (Nat.le_refl _)
        have h3 := hne i (by omega)
        show (if f (n + 1) < f i then f i - 1 else f i) < n
        split <;> omega)
      have h3 := hne i (by omega)
      have h4 := hne j (by omega)
      refine ⟨i, j, hij, by omega, ?_⟩
      split at e <;> split at e <;> omega

theorem LoopOk.nt_inj {G : Nat} {L : Nat → Nat} {T : Nat → Nat → Int} (h : LoopOk G L T) {x i j : Nat} (hx : x < G) (hi : i < G) (hj : j < G) (e : NT G T i x = NT G T j x) : i = j := by
  have h1 := h.nt hi hx
  have h2 := h.nt hj hx
  rcases Nat.lt_trichotomy i j with h3 | h3 | h3
  · exact absurd (by rw [h1, h2, e]) (h.col x i j hx h3 hj)
  · exact h3
  · exact absurd (by rw [h1, h2, e]) (h.col x j i hx h3 hi)

/-- In a loop some power of x, with an exponent from 1 to G, is 0. -/
theorem LoopOk.power {G : Nat} {L : Nat → Nat} {T : Nat → Nat → Int} (h : LoopOk G L T) {x : Nat} (hx : x < G) : ∃ k, k < G ∧ (powN (NT G T) x k == 0) = true := by
  have hpos := h.pos
  -- a 0 = 0, a (k + 1) = a k x
  let a : Nat → Nat := fun k => match k with | 0 => 0 | k + 1 => powN (NT G T) x k
  have ha : ∀ k, a k < G := fun k => by
    cases k with
    | zero => exact hpos
    | succ k => cases k with
      | zero => exact hx
      | succ k => exact NT_lt hpos _ _ _
  have hs : ∀ k, a (k + 1) = NT G T (a k) x := fun k => by
    cases k with
    | zero =>
      show x = NT G T 0 x
      have h1 := (h.unit x hx).1
      have h2 := h.nt (i := 0) (j := x) (by omega) hx
      omega
    | succ k => rfl
  obtain ⟨i, j, hij, hj, e⟩ := pigeon G a fun k _ => ha k
  have back : ∀ i, ∀ d, a i = a (i + d) → a 0 = a d := by
    intro i
    induction i with
    | zero => intro d e; rwa [Nat.zero_add] at e
    | succ i ih =>
      intro d e
      refine ih d ?_
      rw [show i + 1 + d = (i + d) + 1 by omega, hs, hs] at e
      exact h.nt_inj hx (ha _) (ha _) e
  have e2 := back i (j - i) (by rw [show i + (j - i) = j by omega]; exact e)
  refine ⟨j - i - 1, by omega, ?_⟩
  have e3 : a (j - i) = powN (NT G T) x (j - i - 1) := by
    rw [show j - i = (j - i - 1) + 1 by omega]; rfl
  have e4 : a 0 = 0 := rfl
  simp only [beq_iff_eq]
  omega

end Go.Proofs.Ytnkflgigbielgaa
