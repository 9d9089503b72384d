/-
  The kernel of reduced rows: how many rows it has, and that they are all solutions. No program is in sight. No condition.
-/
import Derived.Test.YtnkflgigbielgaaQJ
import Derived.Test.YtnkflgigbielgaaQK
set_option linter.unusedVariables false
set_option linter.unusedSimpArgs false
namespace Go.Proofs.Ytnkflgigbielgaa

/-- reduced rows that are made by others are not more -/
theorem Red.count_le {p : Int} (hp : 2 ≤ p) {n d d' : Nat} {T T' : Nat → Nat → Int} {c c' : Nat → Nat} (h : Red p n d T c) (h' : Red p n d' T' c') (hs : ∀ r, r < d → Spn p n (RowS d' T') (T r)) : d ≤ d' := by
  have : ∀ r, r < d → ∃ q, r ≤ q ∧ q < d' ∧ c r = c' q := by
    intro r
    induction r with
    | zero =>
      intro hr
      obtain ⟨q, hq, e⟩ := h.has hp h' hs hr
      exact ⟨q, Nat.zero_le _, hq, e.symm⟩
    | succ r ih =>
      intro hr
      obtain ⟨q0, h1, h2, h3⟩ := ih (by omega)
      obtain ⟨q, hq, e⟩ := h.has hp h' hs hr
      have h4 := h.inc r (r + 1) (by omega) hr
      have h5 : q0 < q := by
        by_cases e5 : q0 < q
        · exact e5
        · by_cases e6 : q = q0
          · subst e6; omega
          · have := h'.inc q q0 (by omega) h2; omega
      exact ⟨q, by omega, hq, e.symm⟩
  by_cases e : d = 0
  · omega
  · obtain ⟨q, h1, h2, _⟩ := this (d - 1) (by omega); omega

/-- lists read at some places alone -/
theorem Spn.restrict {p : Int} {n m d : Nat} {W : Nat → Nat → Int} {f : Nat → Nat} (hf : ∀ s, s < m → f s < n) {u : Nat → Int} (h : Spn p n (RowS d W) u) : Spn p m (RowS d fun i s => W i (f s)) fun s => u (f s) := by
  induction h with
  | nil v h => exact .nil _ fun s hs => h _ (hf s hs)
  | add u v w k hu _ h ih =>
    obtain ⟨r, hr, rfl⟩ := hu
    exact ih.comb k (.gen ⟨r, hr, rfl⟩) fun s hs => h _ (hf s hs)
/-- lists with a place of their own each are not more than the rows that make them -/
theorem own_count {p : Int} (hp : primeB p = true) {n m d : Nat} {W U : Nat → Nat → Int} {f : Nat → Nat} (hW : RowsIn p d n W) (hf : ∀ s, s < m → f s < n) (hU : ∀ r s, r < m → s < m → Cg p (U r (f s)) (dltU r s)) (h : ∀ r, r < m → Spn p n (RowS d W) (U r)) : m ≤ d := by
  have hb := primeB_bd hp
  have hin : RowsIn p d m fun i s => W i (f s) := fun i hi s hs => hW i hi _ (hf s hs)
  have h1 := bSt_of hp hin
  obtain ⟨c, hc⟩ := h1.red
  have h2 := (dltU_red (p := p) (by omega) m).count_le (by omega) hc fun r hr => by
    refine (((h r hr).restrict hf).congr fun s hs => (hU r s hr hs).symm).mono fun u hu => h1.of u hu
  exact Nat.le_trans h2 (bSt_in (p := p) (by omega) hin m).2.1

theorem sel_inc {p : Nat → Bool} : ∀ {n i j : Nat}, i < j → j < cnt p n → sel p n i < sel p n j
  | 0, i, j, _, h => by simp [cnt] at h
  | n + 1, i, j, hij, h => by
    by_cases e : j < cnt p n
    · rw [sel_old e, sel_old (show i < cnt p n by omega)]; exact sel_inc hij e
    · cases hp : p n
      · simp [cnt, hp] at h; omega
      · have : j = cnt p n := by simp [cnt, hp] at h; omega
        subst this
        rw [sel_new hp, sel_old hij]
        exact (sel_lt hij).1
theorem cnt_remove {p : Nat → Bool} {x : Nat} (hx : p x = true) : ∀ {n : Nat}, x < n → cnt (fun j => p j && !(x == j)) n + 1 = cnt p n
  | 0, h => absurd h (Nat.not_lt_zero _)
  | n + 1, h => by
    simp only [cnt]
    by_cases e : x = n
    · subst e
      have : ∀ m, m ≤ x → cnt (fun j => p j && !(x == j)) m = cnt p m := by
        intro m
        induction m with
        | zero => intro _; rfl
        | succ m ih =>
          intro hm
          simp only [cnt]
          rw [ih (by omega)]
          have : (x == m) = false := by simp; omega
          simp [this]
      rw [this x (Nat.le_refl _)]
      simp [hx]
    · have ih := cnt_remove hx (n := n) (by omega)
      have e2 : (x == n) = false := by simp [e]
      simp [e2]
      omega
theorem cnt_congr {f g : Nat → Bool} : ∀ {n : Nat}, (∀ j, j < n → f j = g j) → cnt f n = cnt g n
  | 0, _ => rfl
  | n + 1, h => by
    simp only [cnt]
    rw [cnt_congr (n := n) fun j hj => h j (by omega), h n (by omega)]
theorem frB_and (c : Nat → Nat) (d j : Nat) : frB c (d + 1) j = (frB c d j && !(c d == j)) := by
  have h1 : ∀ e j, frB c e j = true ↔ ∀ r, r < e → c r ≠ j := fun e j => by
    have hl := pvt_le c e j
    constructor
    · intro h r hr
      exact pvt_none (by simpa [frB] using h) hr
    · intro h
      by_cases e2 : pvt c e j < e
      · exact absurd (pvt_is e2) (h _ e2)
      · simp [frB]; omega
  have h2 := h1 (d + 1) j
  have h3 := h1 d j
  rw [Bool.eq_iff_iff, h2, Bool.and_eq_true, h3]
  simp only [Bool.not_eq_true', beq_eq_false_iff_ne]
  constructor
  · intro h; exact ⟨fun r hr => h r (by omega), h d (by omega)⟩
  · rintro ⟨h, h'⟩ r hr
    by_cases e : r = d
    · subst e; exact h'
    · exact h r (by omega)
theorem frB_zero (c : Nat → Nat) (j : Nat) : frB c 0 j = true := by simp [frB, pvt, fst]
theorem frB_free {c : Nat → Nat} {d j : Nat} (h : ∀ r, r < d → c r ≠ j) : frB c d j = true := by
  induction d with
  | zero => exact frB_zero c j
  | succ d ih =>
    rw [frB_and, ih fun r hr => h r (by omega)]
    have := h d (by omega)
    simpa using this
/-- free places and places of ones -/
theorem cnt_free {n : Nat} {c : Nat → Nat} : ∀ {d : Nat}, (∀ r, r < d → c r < n) → (∀ r s, r < s → s < d → c r < c s) → cnt (frB c d) n + d = n
  | 0, _, _ => by
    rw [cnt_congr (g := fun _ => true) fun j _ => frB_zero c j]
    have := (sel_all (p := fun _ => true) (fun _ => rfl) n).1
    omega
  | d + 1, h1, h2 => by
    have ih := cnt_free (d := d) (fun r hr => h1 r (by omega)) fun r s hr hs => h2 r s hr (by omega)
    have hx : frB c d (c d) = true := frB_free fun r hr => by have := h2 r d hr (by omega); omega
    have h3 := cnt_remove hx (h1 d (by omega))
    rw [cnt_congr (g := fun j => frB c d j && !(c d == j)) fun j _ => frB_and c d j]
    omega
/-- the kernel has as many rows as places are free -/
theorem ker_count {p : Int} (hp : primeB p = true) {n : Nat} {Q : (Nat → Nat → Int) × Nat} (hQ : ∃ c, Red p n Q.2 Q.1 c) : (kerS p n Q).2 + Q.2 = n := by
  have hb := primeB_bd hp
  obtain ⟨c0, hc0⟩ := hQ
  have hl : ∀ r, r < Q.2 → ldd n (Q.1 r) = c0 r := fun r hr => hc0.ldd hr
  have hcf := cnt_free (n := n) (c := fun r => ldd n (Q.1 r)) (d := Q.2) (fun r hr => by show ldd n (Q.1 r) < n; rw [hl r hr]; exact hc0.piv r hr) (fun r s hr hs => by show ldd n (Q.1 r) < ldd n (Q.1 s); rw [hl r (by omega), hl s hs]; exact hc0.inc r s hr hs)
  have hin := kerT_in (p := p) (by omega) n Q.2 Q.1 (fun r => ldd n (Q.1 r)) (cnt (frB (fun r => ldd n (Q.1 r)) Q.2) n)
  have h1 := bSt_of hp hin
  have h2 := (bSt_in (p := p) (by omega) hin n).2.1
  have h3 : cnt (frB (fun r => ldd n (Q.1 r)) Q.2) n ≤ (kerS p n Q).2 := by
    refine own_count hp (f := fun s => sel (frB (fun r => ldd n (Q.1 r)) Q.2) n s) h1.inp (fun s hs => (sel_lt hs).1) (fun r s hr hs => ?_) fun r hr => h1.of _ ⟨r, hr, rfl⟩
    have hfr := (sel_lt hs).2
    have hpv : pvt (fun r => ldd n (Q.1 r)) Q.2 (sel (frB (fun r => ldd n (Q.1 r)) Q.2) n s) = Q.2 := by simpa [frB] using hfr
    refine Cg.of_eq ?_
    unfold kerT kvF dltU
    by_cases e : s = r
    · subst e; rw [if_pos rfl, if_pos rfl]
    · have hne : sel (frB (fun r => ldd n (Q.1 r)) Q.2) n s ≠ sel (frB (fun r => ldd n (Q.1 r)) Q.2) n r := by
        rcases Nat.lt_trichotomy s r with e2 | e2 | e2
        · have := sel_inc e2 hr; omega
        · exact absurd e2 e
        · have := sel_inc e2 hs; omega
      rw [if_neg hne, if_neg e, hpv, if_neg (Nat.lt_irrefl _)]
  have h4 : (kerS p n Q).2 ≤ cnt (frB (fun r => ldd n (Q.1 r)) Q.2) n := h2
  omega

/-- the sum of the products -/
def dotF (n : Nat) (u v : Nat → Int) : Int := sumF (fun j => u j * v j) n
theorem dot_cg {p : Int} {n : Nat} {u u' v v' : Nat → Int} (h : ∀ j, j < n → Cg p (u j) (u' j)) (h2 : ∀ j, j < n → Cg p (v j) (v' j)) : Cg p (dotF n u v) (dotF n u' v') :=
  sumF_mod fun i hi => (h i hi).mul (h2 i hi)
theorem dot_add (n : Nat) (u : Nat → Int) (k : Int) (v w : Nat → Int) : dotF n (fun j => u j + k * v j) w = dotF n u w + k * dotF n v w := by
  unfold dotF
  rw [sumF_mul, ← sumF_plus]
  exact sumF_congr fun i _ => by grind
theorem dot_zero (n : Nat) (w : Nat → Int) : dotF n (fun _ => 0) w = 0 := by
  unfold dotF
  rw [sumF_congr (g := fun _ => 0) fun i _ => Int.zero_mul _, sumF_zero]
theorem dot_comm (n : Nat) (u v : Nat → Int) : dotF n u v = dotF n v u := sumF_congr fun i _ => Int.mul_comm _ _
theorem dot_span {p : Int} {n : Nat} {S : (Nat → Int) → Prop} {w : Nat → Int} (h : ∀ u, S u → Cg p (dotF n u w) 0) {v : Nat → Int} (hv : Spn p n S v) : Cg p (dotF n v w) 0 := by
  induction hv with
  | nil v hz => exact (dot_cg (u' := fun _ => 0) (v' := w) hz fun _ _ => Cg.rfl' _ _).trans (Cg.of_eq (dot_zero _ _))
  | add u v x k hu hv hw ih =>
    refine (dot_cg (v' := w) hw fun _ _ => Cg.rfl' _ _).trans ?_
    rw [dot_add]
    have := ih.add ((Cg.rfl' p k).mul (h u hu))
    simpa using this
/-- a sum over the places that are chosen -/
theorem sumF_sel (P : Nat → Bool) (g : Nat → Int) : ∀ n, sumF (fun i => g (sel P n i)) (cnt P n) = sumF (fun j => if P j then g j else 0) n
  | 0 => rfl
  | n + 1 => by
    have ih := sumF_sel P g n
    have h1 : sumF (fun i => g (sel P (n + 1) i)) (cnt P n) = sumF (fun i => g (sel P n i)) (cnt P n) := sumF_congr fun i hi => by rw [sel_old hi]
    show _ = sumF _ n + (if P n then g n else 0)
    rw [← ih]
    cases hp : P n
    · have e : cnt P (n + 1) = cnt P n := by simp [cnt, hp]
      rw [e, h1]; simp
    · have e : cnt P (n + 1) = cnt P n + 1 := by simp [cnt, hp]
      rw [e]
      show sumF _ (cnt P n) + g (sel P (n + 1) (cnt P n)) = _
      rw [h1, sel_new hp]; simp
theorem Spn.lcs {p : Int} {n d : Nat} {T : Nat → Nat → Int} (a : Nat → Int) : ∀ e, e ≤ d → Spn p n (RowS d T) fun j => sumF (fun r => a r * T r j) e
  | 0, _ => .nil _ fun j _ => Cg.rfl' _ _
  | e + 1, h => (Spn.lcs a e (by omega)).comb (a e) (Spn.row (r := e) h) fun j _ => Cg.rfl' _ _

theorem kvF_dot {p : Int} {n d : Nat} {T : Nat → Nat → Int} {c : Nat → Nat} (h : Red p n d T c) {f : Nat} (hf : f < n) (hfr : frB c d f = true) {r : Nat} (hr : r < d) : Cg p (dotF n (T r) (kvF p d T c f)) 0 := by
  have hpf : pvt c d f = d := by simpa [frB] using hfr
  have hne : c r ≠ f := pvt_none hpf hr
  have key : ∀ j, j < n → Cg p (T r j * kvF p d T c f j) ((if j = f then T r j else 0) + (if j = c r then -(T r f) else 0)) := fun j hj => by
    unfold kvF
    by_cases e : j = f
    · subst e
      rw [if_pos rfl, if_pos rfl, if_neg (Ne.symm hne)]
      exact Cg.of_eq (by omega)
    · rw [if_neg e, if_neg e]
      by_cases e2 : pvt c d j < d
      · rw [if_pos e2]
        have hc := pvt_is e2
        by_cases e3 : j = c r
        · rw [if_pos e3]
          have e4 : pvt c d j = r := by rw [e3]; exact pvt_at hr fun s hs => h.inj (by omega) hr (by omega)
          rw [e4, e3, h.one r hr]
          exact ((Cg.rfl' p 1).mul (Cg.mod p _)).trans (Cg.of_eq (by omega))
        · rw [if_neg e3]
          have e4 : T r j = 0 := by
            have := h.oth (pvt c d j) r e2 hr (fun e5 => e3 (by rw [← hc, e5]))
            rwa [hc] at this
          rw [e4, Int.zero_mul]
          exact Cg.rfl' _ _
      · rw [if_neg e2]
        have hl := pvt_le c d j
        rw [if_neg (fun e3 => pvt_none (show pvt c d j = d by omega) hr e3.symm), Int.mul_zero]
        exact Cg.rfl' _ _
  refine Cg.trans (sumF_mod key) (Cg.of_eq ?_)
  rw [sumF_plus, sumF_one (T r) f hf, sumF_one (fun _ => -(T r f)) (c r) (h.piv r hr)]
  omega
/-- a list whose products with the rows are nought is made by the rows of the kernel -/
theorem ker_comb {p : Int} {n d : Nat} {T : Nat → Nat → Int} {c : Nat → Nat} (h : Red p n d T c) {v : Nat → Int} (hv : ∀ r, r < d → Cg p (dotF n (T r) v) 0) : Spn p n (RowS (cnt (frB c d) n) (kerT p n d T c)) v := by
  refine (Spn.lcs (fun i => v (sel (frB c d) n i)) (cnt (frB c d) n) (Nat.le_refl _)).congr fun j hj => ?_
  show Cg p (v j) (sumF (fun i => v (sel (frB c d) n i) * kvF p d T c (sel (frB c d) n i) j) (cnt (frB c d) n))
  rw [sumF_sel (frB c d) (fun f => v f * kvF p d T c f j) n]
  have hl := pvt_le c d j
  by_cases hp : pvt c d j < d
  · have hc := pvt_is hp
    have hnf : frB c d j = false := by simp [frB]; omega
    obtain ⟨r, hr⟩ : ∃ r, pvt c d j = r := ⟨_, rfl⟩
    rw [hr] at hp hc
    have e1 : Cg p (sumF (fun f => if frB c d f = true then v f * kvF p d T c f j else 0) n) (sumF (fun f => -1 * (if frB c d f = true then T r f * v f else 0)) n) := sumF_mod fun f hf => by
      by_cases hfr : frB c d f = true
      · rw [if_pos hfr, if_pos hfr]
        have hne : j ≠ f := fun e => by rw [e, hfr] at hnf; exact absurd hnf (by decide)
        unfold kvF
        rw [if_neg hne, hr, if_pos hp]
        exact ((Cg.rfl' p (v f)).mul (Cg.mod p _)).trans (Cg.of_eq (by grind))
      · rw [if_neg hfr, if_neg hfr]; rfl
    have e2 : dotF n (T r) v = sumF (fun f => if frB c d f = true then T r f * v f else 0) n + v j := by
      rw [← sumF_one v j hj, ← sumF_plus]
      refine sumF_congr fun f hf => ?_
      by_cases hfr : frB c d f = true
      · have hne : f ≠ j := fun e => by rw [e, hnf] at hfr; exact absurd hfr (by decide)
        rw [if_pos hfr, if_neg hne]; omega
      · rw [if_neg hfr]
        have hpf : pvt c d f < d := by
          have := pvt_le c d f
          have h3 : ¬ pvt c d f = d := by simpa [frB] using hfr
          omega
        have hcf := pvt_is hpf
        by_cases e : f = j
        · subst e
          rw [if_pos rfl]
          have h1 := h.one r hp
          rw [hc] at h1
          rw [h1]; omega
        · rw [if_neg e]
          have := h.oth (pvt c d f) r hpf hp (fun e5 => e (by rw [← hcf, e5, hc]))
          rw [hcf] at this
          rw [this]; omega
    have e3 := hv r hp
    rw [e2] at e3
    rw [← sumF_mul] at e1
    have e4 := e3.sub e1.symm
    refine Cg.trans ?_ ((Cg.rfl' p (v j)).sub (Cg.rfl' p 0) |>.trans ?_)
    · exact Cg.of_eq (by omega)
    · have e5 := (Cg.rfl' p (v j)).sub e3
      refine Cg.trans ?_ e1.symm
      exact ((Cg.of_eq (show v j - 0 = v j - 0 from rfl)).trans (e5.symm)).trans (Cg.of_eq (by omega))
  · have hpd : pvt c d j = d := by omega
    have hfr : frB c d j = true := by simp [frB, hpd]
    refine Cg.of_eq ?_
    rw [← sumF_one v j hj]
    refine (sumF_congr fun f hf => ?_)
    unfold kvF
    rw [if_neg hp]
    by_cases e : f = j
    · subst e; rw [if_pos rfl, if_pos hfr, if_pos rfl]; omega
    · rw [if_neg e, if_neg (Ne.symm e)]; simp
theorem red_ldds {p : Int} {n d : Nat} {T : Nat → Nat → Int} {c : Nat → Nat} (h : Red p n d T c) : Red p n d T fun r => ldd n (T r) :=
  ⟨h.inp, fun r hr => by show ldd n (T r) < n; rw [h.ldd hr]; exact h.piv r hr, fun r s hr hs => by show ldd n (T r) < ldd n (T s); rw [h.ldd hs, h.ldd (Nat.lt_trans hr hs)]; exact h.inc r s hr hs,
    fun r hr => by show T r (ldd n (T r)) = 1; rw [h.ldd hr]; exact h.one r hr, fun r s hr hs hn => by show T s (ldd n (T r)) = 0; rw [h.ldd hr]; exact h.oth r s hr hs hn, fun r j hr hj => h.lead r j hr (by have hj : j < ldd n (T r) := hj; rw [h.ldd hr] at hj; exact hj)⟩
/-- the rows of a kernel: their products with what the rows make are nought, and each list of that kind is made by them -/
theorem ker_of {p : Int} (hp : primeB p = true) {n : Nat} {S : (Nat → Int) → Prop} {Q : (Nat → Nat → Int) × Nat} (hQ : RedOf p n S Q) :
    (∀ v, (∀ u, S u → Cg p (dotF n u v) 0) → Spn p n (RowS (kerS p n Q).2 (kerS p n Q).1) v) ∧ (∀ i, i < (kerS p n Q).2 → ∀ u, S u → Cg p (dotF n u ((kerS p n Q).1 i)) 0) ∧ ∃ c, Red p n (kerS p n Q).2 (kerS p n Q).1 c := by
  have hb := primeB_bd hp
  obtain ⟨c0, hc0⟩ := hQ.red
  have hr := red_ldds hc0
  have hk : RedOf p n (RowS _ _) (kerS p n Q) := bSt_of hp (kerT_in (p := p) (by omega) n Q.2 Q.1 (fun r => ldd n (Q.1 r)) (cnt (frB (fun r => ldd n (Q.1 r)) Q.2) n))
  refine ⟨fun v hv => ?_, fun i hi u hu => ?_, hk.red⟩
  · refine (ker_comb hr fun r hr' => dot_span (fun u hu => hv u hu) (hQ.to r hr')).mono fun u hu => hk.of u hu
  · refine dot_span (fun u hu => ?_) (hQ.of u hu)
    obtain ⟨r, hr', rfl⟩ := hu
    rw [dot_comm]
    refine dot_span (fun u hu => ?_) (hk.to i hi)
    obtain ⟨q, hq, rfl⟩ := hu
    rw [dot_comm]
    exact kvF_dot hr (sel_lt hq).1 (sel_lt hq).2 hr'

/-- a diagonal leads reduced rows into what others make: they are not more -/
theorem diag_count {p : Int} (hp : primeB p = true) {n d d' : Nat} {T T' : Nat → Nat → Int} {c c' : Nat → Nat} {D : Nat → Int} (hD : ∀ j, j < n → ¬ Cg p (D j) 0) (h : Red p n d T c) (h' : Red p n d' T' c') (hs : ∀ r, r < d → Spn p n (RowS d' T') fun j => D j * T r j) : d ≤ d' := by
  have hb := primeB_bd hp
  have hI : ∀ r, r < d → (D (c r) % p * invM p (D (c r) % p)) % p = 1 := fun r hr => by
    have h1 := mod_bd (D (c r)) p (by omega)
    have h2 : D (c r) % p ≠ 0 := fun e => hD _ (h.piv r hr) (Cg.of_zero e)
    exact (invM_spec hp (by omega) h1.2).2.2
  have h2 : Red p n d (fun r j => (invM p (D (c r) % p) * (D j * T r j)) % p) c :=
    ⟨fun r hr j hj => mod_bd _ _ (by omega), h.piv, h.inc, fun r hr => by
        show (invM p (D (c r) % p) * (D (c r) * T r (c r))) % p = 1
        rw [h.one r hr, Int.mul_one, Int.mul_comm, ← mod_mul_mod]; exact hI r hr,
      fun r s hr hs hn => by show (invM p (D (c s) % p) * (D (c r) * T s (c r))) % p = 0; rw [h.oth r s hr hs hn]; simp,
      fun r j hr hj => by show (invM p (D (c r) % p) * (D j * T r j)) % p = 0; rw [h.lead r j hr hj]; simp⟩
  exact h2.count_le (by omega) h' fun r hr => (hs r hr).scale (invM p (D (c r) % p)) fun j hj => Cg.mod p _

end Go.Proofs.Ytnkflgigbielgaa
