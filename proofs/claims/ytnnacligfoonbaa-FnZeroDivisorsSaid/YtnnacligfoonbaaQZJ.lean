/-
  The rows of a kernel are the lists whose products with the rows are nought; how many rows there are when a diagonal leads one list of rows to the other. No program is in sight. No condition.
-/
import Derived.Test.YtnnacligfoonbaaQH
import Derived.Test.YtnnacligfoonbaaQK
import Derived.Test.YtnnacligfoonbaaQDJ
import Derived.Test.YtnnacligfoonbaaQNc
import Derived.Test.YtnnacligfoonbaaD42
import Derived.Test.YtnnacligfoonbaaD15
set_option linter.unusedVariables false
set_option linter.unusedSimpArgs false
namespace Go.Proofs.Ytnnacligfoonbaa

/-- the sum of the products -/
def dotF (n : Nat) (u v : Nat → Int) : Int := sumF (fun j => u j * v j) n
theorem dot_cg {p : Int} {n : Nat} {u u' v v' : Nat → Int} (h : ∀ j, j < n → Cg p (u j) (u' j)) (h2 : ∀ j, j < n → Cg p (v j) (v' j)) : Cg p (dotF n u v) (dotF n u' v') :=
  sumF_mod fun i hi => (h i hi).mul (h2 i hi)
theorem dot_add (n : Nat) (u : Nat → Int) (k : Int) (v w : Nat → Int) : dotF n (fun j => u j + k * v j) w = dotF n u w + k * dotF n v w := by
  unfold dotF
  rw [sumF_mul, ← sumF_plus]
  exact sumF_congr fun i _ => by grind
theorem dot_zero (n : Nat) (w : Nat → Int) : dotF n (fun _ => 0) w = 0 := by
  unfold dotF
  rw [sumF_congr (g := fun _ => 0) fun i _ => Int.zero_mul _, sumF_zero]
theorem dot_comm (n : Nat) (u v : Nat → Int) : dotF n u v = dotF n v u := sumF_congr fun i _ => Int.mul_comm _ _
theorem dot_span {p : Int} {n : Nat} {S : (Nat → Int) → Prop} {w : Nat → Int} (h : ∀ u, S u → Cg p (dotF n u w) 0) {v : Nat → Int} (hv : Spn p n S v) : Cg p (dotF n v w) 0 := by
  induction hv with
  | nil v hz => exact (dot_cg (u' := fun _ => 0) (v' := w) hz fun _ _ => Cg.rfl' _ _).trans (Cg.of_eq (dot_zero _ _))
  | add u v x k hu hv hw ih =>
    refine (dot_cg (v' := w) hw fun _ _ => Cg.rfl' _ _).trans ?_
    rw [dot_add]
    have := ih.add ((Cg.rfl' p k).mul (h u hu))
    simpa using this
/-- a sum over the places that are chosen -/
theorem sumF_sel (P : Nat → Bool) (g : Nat → Int) : ∀ n, sumF (fun i => g (sel P n i)) (cnt P n) = sumF (fun j => if P j then g j else 0) n
  | 0 => rfl
  | n + 1 => by
    have ih := sumF_sel P g n
    have h1 : sumF (fun i => g (sel P (n + 1) i)) (cnt P n) = sumF (fun i => g (sel P n i)) (cnt P n) := sumF_congr fun i hi => by rw [sel_old hi]
    show _ = sumF _ n + (if P n then g n else 0)
    rw [← ih]
    cases hp : P n
    · have e : cnt P (n + 1) = cnt P n := by simp [cnt, hp]
      rw [e, h1]; simp
    · have e : cnt P (n + 1) = cnt P n + 1 := by simp [cnt, hp]
      rw [e]
      show sumF _ (cnt P n) + g (sel P (n + 1) (cnt P n)) = _
      rw [h1, sel_new hp]; simp
theorem Spn.lcs {p : Int} {n d : Nat} {T : Nat → Nat → Int} (a : Nat → Int) : ∀ e, e ≤ d → Spn p n (RowS d T) fun j => sumF (fun r => a r * T r j) e
  | 0, _ => .nil _ fun j _ => Cg.rfl' _ _
  | e + 1, h => (Spn.lcs a e (by omega)).comb (a e) (Spn.row (r := e) h) fun j _ => Cg.rfl' _ _

theorem kvF_dot {p : Int} {n d : Nat} {T : Nat → Nat → Int} {c : Nat → Nat} (h : Red p n d T c) {f : Nat} (hf : f < n) (hfr : frB c d f = true) {r : Nat} (hr : r < d) : Cg p (dotF n (T r) (kvF p d T c f)) 0 := by
  have hpf : pvt c d f = d := by simpa [frB] using hfr
  have hne : c r ≠ f := pvt_none hpf hr
  have key : ∀ j, j < n → Cg p (T r j * kvF p d T c f j) ((if j = f then T r j else 0) + (if j = c r then -(T r f) else 0)) := fun j hj => by
    unfold kvF
    by_cases e : j = f
    · subst e
      rw [if_pos rfl, if_pos rfl, if_neg (Ne.symm hne)]
      exact Cg.of_eq (by omega)
    · rw [if_neg e, if_neg e]
      by_cases e2 : pvt c d j < d
      · rw [if_pos e2]
        have hc := pvt_is e2
        by_cases e3 : j = c r
        · rw [if_pos e3]
          have e4 : pvt c d j = r := by rw [e3]; exact pvt_at hr fun s hs => h.inj (by omega) hr (by omega)
          rw [e4, e3, h.one r hr]
          exact ((Cg.rfl' p 1).mul (Cg.mod p _)).trans (Cg.of_eq (by omega))
        · rw [if_neg e3]
          have e4 : T r j = 0 := by
            have := h.oth (pvt c d j) r e2 hr (fun e5 => e3 (by rw [← hc, e5]))
            rwa [hc] at this
          rw [e4, Int.zero_mul]
          exact Cg.rfl' _ _
      · rw [if_neg e2]
        have hl := pvt_le c d j
        rw [if_neg (fun e3 => pvt_none (show pvt c d j = d by omega) hr e3.symm), Int.mul_zero]
        exact Cg.rfl' _ _
  refine Cg.trans (sumF_mod key) (Cg.of_eq ?_)
  rw [sumF_plus, sumF_one (T r) f hf, sumF_one (fun _ => -(T r f)) (c r) (h.piv r hr)]
  omega
/-- a list whose products with the rows are nought is made by the rows of the kernel -/
theorem ker_comb {p : Int} {n d : Nat} {T : Nat → Nat → Int} {c : Nat → Nat} (h : Red p n d T c) {v : Nat → Int} (hv : ∀ r, r < d → Cg p (dotF n (T r) v) 0) : Spn p n (RowS (cnt (frB c d) n) (kerT p n d T c)) v := by
  refine (Spn.lcs (fun i => v (sel (frB c d) n i)) (cnt (frB c d) n) (Nat.le_refl _)).congr fun j hj => ?_
  show Cg p (v j) (sumF (fun i => v (sel (frB c d) n i) * kvF p d T c (sel (frB c d) n i) j) (cnt (frB c d) n))
  rw [sumF_sel (frB c d) (fun f => v f * kvF p d T c f j) n]
  have hl := pvt_le c d j
  by_cases hp : pvt c d j < d
  · have hc := pvt_is hp
    have hnf : frB c d j = false := by simp [frB]; omega
    obtain ⟨r, hr⟩ : ∃ r, pvt c d j = r := ⟨_, rfl⟩
    rw [hr] at hp hc
    have e1 : Cg p (sumF (fun f => if frB c d f = true then v f * kvF p d T c f j else 0) n) (sumF (fun f => -1 * (if frB c d f = true then T r f * v f else 0)) n) := sumF_mod fun f hf => by
      by_cases hfr : frB c d f = true
      · rw [if_pos hfr, if_pos hfr]
        have hne : j ≠ f := fun e => by rw [e, hfr] at hnf; exact absurd hnf (by decide)
        unfold kvF
        rw [if_neg hne, hr, if_pos hp]
        exact ((Cg.rfl' p (v f)).mul (Cg.mod p _)).trans (Cg.of_eq (by grind))
      · rw [if_neg hfr, if_neg hfr]; rfl
    have e2 : dotF n (T r) v = sumF (fun f => if frB c d f = true then T r f * v f else 0) n + v j := by
      rw [← sumF_one v j hj, ← sumF_plus]
      refine sumF_congr fun f hf => ?_
      by_cases hfr : frB c d f = true
      · have hne : f ≠ j := fun e => by rw [e, hnf] at hfr; exact absurd hfr (by decide)
        rw [if_pos hfr, if_neg hne]; omega
      · rw [if_neg hfr]
        have hpf : pvt c d f < d := by
          have := pvt_le c d f
          have h3 : ¬ pvt c d f = d := by simpa [frB] using hfr
          omega
        have hcf := pvt_is hpf
        by_cases e : f = j
        · subst e
          rw [if_pos rfl]
          have h1 := h.one r hp
          rw [hc] at h1
          rw [h1]; omega
        · rw [if_neg e]
          have := h.oth (pvt c d f) r hpf hp (fun e5 => e (by rw [← hcf, e5, hc]))
          rw [hcf] at this
          rw [this]; omega
    have e3 := hv r hp
    rw [e2] at e3
    rw [← sumF_mul] at e1
    have e4 := e3.sub e1.symm
    refine Cg.trans ?_ ((Cg.rfl' p (v j)).sub (Cg.rfl' p 0) |>.trans ?_)
    · exact Cg.of_eq (by omega)
    · have e5 := (Cg.rfl' p (v j)).sub e3
      refine Cg.trans ?_ e1.symm
      exact ((Cg.of_eq (show v j - 0 = v j - 0 from rfl)).trans (e5.symm)).trans (Cg.of_eq (by omega))
  · have hpd : pvt c d j = d := by omega
    have hfr : frB c d j = true := by simp [frB, hpd]
    refine Cg.of_eq ?_
    rw [← sumF_one v j hj]
    refine (sumF_congr fun f hf => ?_)
    unfold kvF
    rw [if_neg hp]
    by_cases e : f = j
    · subst e; rw [if_pos rfl, if_pos hfr, if_pos rfl]; omega
    · rw [if_neg e, if_neg (Ne.symm e)]; simp
theorem red_ldds {p : Int} {n d : Nat} {T : Nat → Nat → Int} {c : Nat → Nat} (h : Red p n d T c) : Red p n d T fun r => ldd n (T r) :=
  ⟨h.inp, fun r hr => by show ldd n (T r) < n; rw [h.ldd hr]; exact h.piv r hr, fun r s hr hs => by show ldd n (T r) < ldd n (T s); rw [h.ldd hs, h.ldd (Nat.lt_trans hr hs)]; exact h.inc r s hr hs,
    fun r hr => by show T r (ldd n (T r)) = 1; rw [h.ldd hr]; exact h.one r hr, fun r s hr hs hn => by show T s (ldd n (T r)) = 0; rw [h.ldd hr]; exact h.oth r s hr hs hn, fun r j hr hj => h.lead r j hr (by have hj : j < ldd n (T r) := hj; rw [h.ldd hr] at hj; exact hj)⟩
/-- the rows of a kernel: their products with what the rows make are nought, and each list of that kind is made by them -/
theorem ker_of {p : Int} (hp : primeB p = true) {n : Nat} {S : (Nat → Int) → Prop} {Q : (Nat → Nat → Int) × Nat} (hQ : RedOf p n S Q) :
    (∀ v, (∀ u, S u → Cg p (dotF n u v) 0) → Spn p n (RowS (kerS p n Q).2 (kerS p n Q).1) v) ∧ (∀ i, i < (kerS p n Q).2 → ∀ u, S u → Cg p (dotF n u ((kerS p n Q).1 i)) 0) ∧ ∃ c, Red p n (kerS p n Q).2 (kerS p n Q).1 c := by
  have hb := primeB_bd hp
  obtain ⟨c0, hc0⟩ := hQ.red
  have hr := red_ldds hc0
  have hk : RedOf p n (RowS _ _) (kerS p n Q) := bSt_of hp (kerT_in (p := p) (by omega) n Q.2 Q.1 (fun r => ldd n (Q.1 r)) (cnt (frB (fun r => ldd n (Q.1 r)) Q.2) n))
  refine ⟨fun v hv => ?_, fun i hi u hu => ?_, hk.red⟩
  · refine (ker_comb hr fun r hr' => dot_span (fun u hu => hv u hu) (hQ.to r hr')).mono fun u hu => hk.of u hu
  · refine dot_span (fun u hu => ?_) (hQ.of u hu)
    obtain ⟨r, hr', rfl⟩ := hu
    rw [dot_comm]
    refine dot_span (fun u hu => ?_) (hk.to i hi)
    obtain ⟨q, hq, rfl⟩ := hu
    rw [dot_comm]
    exact kvF_dot hr (sel_lt hq).1 (sel_lt hq).2 hr'

/-- a diagonal leads reduced rows into what others make: they are not more -/
theorem diag_count {p : Int} (hp : primeB p = true) {n d d' : Nat} {T T' : Nat → Nat → Int} {c c' : Nat → Nat} {D : Nat → Int} (hD : ∀ j, j < n → ¬ Cg p (D j) 0) (h : Red p n d T c) (h' : Red p n d' T' c') (hs : ∀ r, r < d → Spn p n (RowS d' T') fun j => D j * T r j) : d ≤ d' := by
  have hb := primeB_bd hp
  have hI : ∀ r, r < d → (D (c r) % p * invM p (D (c r) % p)) % p = 1 := fun r hr => by
    have h1 := mod_bd (D (c r)) p (by omega)
    have h2 : D (c r) % p ≠ 0 := fun e => hD _ (h.piv r hr) (Cg.of_zero e)
    exact (invM_spec hp (by omega) h1.2).2.2
  have h2 : Red p n d (fun r j => (invM p (D (c r) % p) * (D j * T r j)) % p) c :=
    ⟨fun r hr j hj => mod_bd _ _ (by omega), h.piv, h.inc, fun r hr => by
        show (invM p (D (c r) % p) * (D (c r) * T r (c r))) % p = 1
        rw [h.one r hr, Int.mul_one, Int.mul_comm, ← mod_mul_mod]; exact hI r hr,
      fun r s hr hs hn => by show (invM p (D (c s) % p) * (D (c r) * T s (c r))) % p = 0; rw [h.oth r s hr hs hn]; simp,
      fun r j hr hj => by show (invM p (D (c r) % p) * (D j * T r j)) % p = 0; rw [h.lead r j hr hj]; simp⟩
  exact h2.count_le (by omega) h' fun r hr => (hs r hr).scale (invM p (D (c r) % p)) fun j hj => Cg.mod p _

end Go.Proofs.Ytnnacligfoonbaa

/-
  What an element annihilates, for at most three steps: nought if its norm is not nought, and half of the places otherwise. No program is in sight. No condition.
-/
set_option linter.unusedVariables false
set_option linter.unusedSimpArgs false
namespace Go.Proofs.Ytnnacligfoonbaa

theorem scR {p : Int} {s : Nat → Int} (n : Nat) (b : Int) (X Y : Nat → Int) : CgV p (2 ^ n) (mulF p s n X fun j => b * Y j) fun j => b * mulF p s n X Y j :=
  (mul_cg n (fun j _ => Cg.of_eq (Int.one_mul _).symm) (CgV.rfl' _ _ _)).trans ((mulF_scale n 1 b X Y).trans fun j _ => Cg.of_eq (by rw [Int.one_mul]))
theorem zxx {p : Int} (hp : primeB p = true) {s : Nat → Int} {n : Nat} (hn : n ≤ 3) (Z X : Nat → Int) : CgV p (2 ^ n) (mulF p s n (mulF p s n Z X) (conjF p X)) fun j => normF p s n X * Z j := by
  have a1 : CgV p (2 ^ n) (asF p s n Z X (conjF p X)) fun _ => 0 := by
    have c4 := conj_tr p (2 ^ n) X
    refine ((as_lin3 p s n Z X).cg c4).trans (((as_lin3 p s n Z X).add _ _ _).trans fun j hj => ?_)
    have h1 : Cg p (asF p s n Z X (dltC (2 * X 0) 0) j) 0 := by
      refine (Cg.mod p _).trans ?_
      have g1 := mul_cR (p := p) (s := s) n (2 * X 0) (mulF p s n Z X) j hj
      have g2 := ((mul_cg (p := p) (s := s) n (CgV.rfl' _ _ Z) (mul_cR (s := s) n (2 * X 0) X)).trans (scR n (2 * X 0) Z X)) j hj
      refine (g1.add ((Cg.rfl' p (-1)).mul g2)).trans (Cg.of_eq ?_)
      grind
    have h2 := as_yxx (s := s) hp hn X Z j hj
    have := h1.add ((Cg.rfl' p (-1)).mul h2)
    simpa [lin] using this
  exact (as_eq a1).trans ((mul_cg n (CgV.rfl' _ _ _) (mul_conj n X).1).trans (mul_cR n _ Z))
theorem pow0 (n : Nat) : 0 < 2 ^ n := Nat.pow_pos (by decide)
theorem norm_conj {p : Int} {s : Nat → Int} (n : Nat) (X : Nat → Int) : Cg p (normF p s n (conjF p X)) (normF p s n X) :=
  (mul_cg n (CgV.rfl' p _ (conjF p X)) (conj_conj p (2 ^ n) X) 0 (pow0 n)).trans ((mul_conj n X).2 0 (pow0 n))
theorem zcx {p : Int} (hp : primeB p = true) {s : Nat → Int} {n : Nat} (hn : n ≤ 3) (Z X : Nat → Int) : CgV p (2 ^ n) (mulF p s n (mulF p s n Z (conjF p X)) X) fun j => normF p s n X * Z j :=
  (mul_cg n (CgV.rfl' _ _ _) (conj_conj p (2 ^ n) X).symm).trans ((zxx hp hn Z (conjF p X)).trans fun j _ => (norm_conj n X).mul (Cg.rfl' _ _))

/-! ### what stands between two elements -/
def trF (p : Int) (s : Nat → Int) (n : Nat) (X A : Nat → Int) : Int := mulF p s n X (conjF p A) 0 + mulF p s n A (conjF p X) 0
theorem four {p : Int} {s : Nat → Int} (n : Nat) (P Q X A : Nat → Int) : CgV p (2 ^ n) (mulF p s n (lin P 1 Q) (lin X 1 A)) (lin (lin (mulF p s n P X) 1 (mulF p s n P A)) 1 (lin (mulF p s n Q X) 1 (mulF p s n Q A))) :=
  (mul_lin n 1 P Q (lin X 1 A)).1.trans (lin_cg 1 (mul_lin n 1 X A P).2 (mul_lin n 1 X A Q).2)
theorem conj_plus (p : Int) (n : Nat) (X A : Nat → Int) : CgV p n (conjF p (lin X 1 A)) (lin (conjF p X) 1 (conjF p A)) := conj_lin p X A 1 n
theorem norm_plus {p : Int} {s : Nat → Int} (n : Nat) (X A : Nat → Int) : Cg p (normF p s n (lin X 1 A)) (normF p s n X + trF p s n X A + normF p s n A) := by
  refine (mul_cg n (CgV.rfl' p _ (lin X 1 A)) (conj_plus p (2 ^ n) X A) 0 (pow0 n)).trans ((four n X A (conjF p X) (conjF p A) 0 (pow0 n)).trans (Cg.of_eq ?_))
  show (normF p s n X + 1 * mulF p s n X (conjF p A) 0) + 1 * (mulF p s n A (conjF p X) 0 + 1 * normF p s n A) = _
  unfold trF; omega
theorem polar {p : Int} (hp : primeB p = true) {s : Nat → Int} {n : Nat} (hn : n ≤ 3) (Z X A : Nat → Int) :
    CgV p (2 ^ n) (lin (mulF p s n (mulF p s n Z (conjF p X)) A) 1 (mulF p s n (mulF p s n Z (conjF p A)) X)) fun j => trF p s n X A * Z j := fun j hj => by
  have h1 := zcx (s := s) hp hn Z (lin X 1 A) j hj
  have h2 : CgV p (2 ^ n) (mulF p s n (mulF p s n Z (conjF p (lin X 1 A))) (lin X 1 A)) (mulF p s n (lin (mulF p s n Z (conjF p X)) 1 (mulF p s n Z (conjF p A))) (lin X 1 A)) :=
    mul_cg n ((mul_cg n (CgV.rfl' _ _ _) (conj_plus p (2 ^ n) X A)).trans (mul_lin n 1 (conjF p X) (conjF p A) Z).2) (CgV.rfl' _ _ _)
  have h3 := four (p := p) (s := s) n (mulF p s n Z (conjF p X)) (mulF p s n Z (conjF p A)) X A j hj
  have h4 := ((h2 j hj).trans h3).symm.trans (h1.trans ((norm_plus n X A).mul (Cg.rfl' p (Z j))))
  have h5 := zcx (s := s) hp hn Z X j hj
  have h6 := zcx (s := s) hp hn Z A j hj
  have h7 := (h4.sub h5).sub h6
  refine Cg.trans (Cg.of_eq ?_) (h7.trans (Cg.of_eq ?_))
  · simp only [lin]; omega
  · grind

/-! ### the rows of the matrix -/
theorem nz_neg {p : Int} (hp : primeB p = true) : ¬ Cg p (-1) 0 := fun h => by
  have hb := primeB_bd hp
  exact not_one (p := p) (by omega) (by simpa using h.neg)
theorem cF_nz {p : Int} (hp : primeB p = true) {s : Nat → Int} : ∀ (n : Nat), (∀ t, t < n → ¬ Cg p (s t) 0) → ∀ i, ¬ Cg p (cF s n i) 0
  | 0, _, _ => by have hb := primeB_bd hp; exact not_one (by omega)
  | n + 1, h, i => by
    have hb := primeB_bd hp
    have ih := cF_nz hp n fun t ht => h t (by omega)
    unfold cF
    split
    · exact ih i
    · refine nz_mul hp (nz_mul hp (h n (by omega)) (ih _)) ?_
      split
      · exact not_one (by omega)
      · exact nz_neg hp
theorem cs_nz {p : Int} (hp : primeB p = true) (i : Nat) : ¬ Cg p (cs i) 0 := by
  have hb := primeB_bd hp
  unfold cs; split
  · exact not_one (by omega)
  · exact nz_neg hp
theorem real_cg (p : Int) (s : Nat → Int) (n : Nat) (X Y : Nat → Int) : Cg p (mulF p s n X Y 0) (sumF (fun i => cF s n i * (X i * Y i)) (2 ^ n)) := by
  rw [real_mul]; exact Cg.mod p _
theorem at_dlt {p : Int} {s : Nat → Int} {n i : Nat} (hi : i < 2 ^ n) (Y : Nat → Int) : Cg p (mulF p s n Y (dltU i) 0) (cF s n i * Y i) := by
  refine (real_cg p s n Y (dltU i)).trans (Cg.of_eq ?_)
  rw [← sumF_one (fun k => cF s n k * Y k) i hi]
  refine sumF_congr fun k hk => ?_
  unfold dltU; split <;> simp
theorem at_dltL {p : Int} {s : Nat → Int} {n i : Nat} (hi : i < 2 ^ n) (Y : Nat → Int) : Cg p (mulF p s n (dltU i) Y 0) (cF s n i * Y i) := by
  refine (real_cg p s n (dltU i) Y).trans (Cg.of_eq ?_)
  rw [← sumF_one (fun k => cF s n k * Y k) i hi]
  refine sumF_congr fun k hk => ?_
  unfold dltU; split <;> simp
theorem row_is {p : Int} {s : Nat → Int} {n i j : Nat} (hn : n ≤ 4) (hi : i < 2 ^ n) (hj : j < 2 ^ n) (X : Nat → Int) : Cg p (cF s n i * mulF p s n X (dltU j) i) (cF s n j * mulF p s n (dltU i) X j) :=
  (at_dlt hi _).symm.trans ((cyc_turn (s := s) hn X (dltU j) (dltU i)).trans ((cyc_turn (s := s) hn (dltU j) (dltU i) X).trans (at_dlt hj _)))
theorem conj_cs (p : Int) (n : Nat) (X : Nat → Int) : CgV p n (conjF p X) fun j => cs j * X j := fun j hj => by
  unfold conjF cs
  by_cases e : j = 0
  · subst e; rw [if_pos rfl]; exact Cg.of_eq (by simp)
  · rw [if_neg e]; refine (Cg.mod p _).trans (Cg.of_eq ?_); show -X j = (if j = 0 then 1 else -1) * X j; rw [if_neg e]; omega
theorem cs_sq (j : Nat) : cs j * cs j = 1 := by unfold cs; split <;> rfl
theorem tr_dlt {p : Int} {s : Nat → Int} {n i : Nat} (hi : i < 2 ^ n) (X : Nat → Int) : Cg p (trF p s n X (dltU i)) (2 * (cF s n i * (cs i * X i))) := by
  have h1 : Cg p (mulF p s n X (conjF p (dltU i)) 0) (cs i * (cF s n i * X i)) := by
    refine (mul_cg n (CgV.rfl' p _ X) (conj_dltU p i (2 ^ n)) 0 (pow0 n)).trans ?_
    rw [dltC_scale]
    exact (scR n (cs i) X (dltU i) 0 (pow0 n)).trans ((Cg.rfl' p _).mul (at_dlt hi X))
  have h2 : Cg p (mulF p s n (dltU i) (conjF p X) 0) (cF s n i * (cs i * X i)) := (at_dltL hi _).trans ((Cg.rfl' p _).mul (conj_cs p (2 ^ n) X i hi))
  exact (h1.add h2).trans (Cg.of_eq (by grind))
theorem conj_nil {p : Int} {n : Nat} {X : Nat → Int} (h : CgV p n X fun _ => 0) : CgV p n (conjF p X) fun _ => 0 :=
  (conj_cs p n X).trans fun j hj => ((Cg.rfl' p (cs j)).mul (h j hj)).trans (Cg.of_eq (Int.mul_zero _))
theorem nil_conj {p : Int} {n : Nat} {X : Nat → Int} (h : CgV p n (conjF p X) fun _ => 0) : CgV p n X fun _ => 0 :=
  (conj_conj p n X).symm.trans (conj_nil h)
/-- the right multiples of an element of norm nought lead to what it annihilates -/
theorem ann_row {p : Int} (hp : primeB p = true) {s : Nat → Int} {n : Nat} (hn : n ≤ 3) {X : Nat → Int} (h0 : Cg p (normF p s n X) 0) (E : Nat → Int) : CgV p (2 ^ n) (mulF p s n X (conjF p (mulF p s n E X))) fun _ => 0 := by
  refine nil_conj ?_
  refine (conj_mul n X _).trans ((mul_cg n (conj_conj p (2 ^ n) _) (CgV.rfl' _ _ _)).trans ((zxx hp hn E X).trans fun j _ => ?_))
  exact (h0.mul (Cg.rfl' p _)).trans (Cg.of_eq (Int.zero_mul _))
/-- what is annihilated is a right multiple, up to conjugation -/
theorem ann_back {p : Int} (hp : primeB p = true) {s : Nat → Int} {n : Nat} (hn : n ≤ 3) {X u : Nat → Int} (hu : CgV p (2 ^ n) (mulF p s n X u) fun _ => 0) (A : Nat → Int) : CgV p (2 ^ n) (mulF p s n (mulF p s n (conjF p u) (conjF p A)) X) fun j => trF p s n X A * conjF p u j := fun j hj => by
  have h1 : CgV p (2 ^ n) (mulF p s n (conjF p u) (conjF p X)) fun _ => 0 := (conj_mul n X u).symm.trans (conj_nil hu)
  have h2 := mulF_nil (p := p) (s := s) n (X := mulF p s n (conjF p u) (conjF p X)) (Y := A) (Or.inl h1) j hj
  have h3 := polar (s := s) hp hn (conjF p u) X A j hj
  have h4 := h3.sub h2
  refine Cg.trans (Cg.of_eq ?_) (h4.trans (Cg.of_eq (Int.sub_zero _)))
  simp only [lin]; omega
theorem ann_zero {p : Int} (hp : primeB p = true) {s : Nat → Int} {n : Nat} (hn : n ≤ 3) {X u : Nat → Int} (hu : CgV p (2 ^ n) (mulF p s n X u) fun _ => 0) (h0 : ¬ Cg p (normF p s n X) 0) : CgV p (2 ^ n) u fun _ => 0 := by
  have h1 : CgV p (2 ^ n) (mulF p s n (conjF p u) (conjF p X)) fun _ => 0 := (conj_mul n X u).symm.trans (conj_nil hu)
  refine nil_conj fun j hj => ?_
  have h2 := mulF_nil (p := p) (s := s) n (X := mulF p s n (conjF p u) (conjF p X)) (Y := X) (Or.inl h1) j hj
  have h3 := (zcx (s := s) hp hn (conjF p u) X j hj).symm.trans h2
  by_cases e : Cg p (conjF p u j) 0
  · exact e
  · exact absurd h3 (nz_mul hp h0 e)

/-! ### a linear map, by its matrix -/
theorem Lin.dot {p : Int} {n : Nat} {A : (Nat → Int) → Nat → Int} (h : Lin p n A) (v : Nat → Int) : CgV p n (A v) fun i => dotF n (fun j => A (dltU j) i) v := by
  have key : ∀ m, m ≤ n → CgV p n (A fun j => if j < m then v j else 0) fun i => sumF (fun j => A (dltU j) i * v j) m := by
    intro m
    induction m with
    | zero => intro _; exact h.nil fun j _ => Cg.of_eq (if_neg (Nat.not_lt_zero _))
    | succ m ih =>
      intro hm
      refine (h.cg (Y := lin (fun j => if j < m then v j else 0) (v m) (dltU m)) fun j hj => Cg.of_eq ?_).trans ((h.add _ _ _).trans fun i hi => ?_)
      · show (if j < m + 1 then v j else 0) = (if j < m then v j else 0) + v m * if j = m then 1 else 0
        by_cases e : j = m
        · subst e; rw [if_pos (by omega), if_neg (by omega), if_pos rfl]; omega
        · rw [if_neg e, Int.mul_zero, Int.add_zero]
          by_cases e2 : j < m
          · rw [if_pos e2, if_pos (by omega)]
          · rw [if_neg e2, if_neg (by omega)]
      · show Cg p (A (fun j => if j < m then v j else 0) i + v m * A (dltU m) i) (sumF (fun j => A (dltU j) i * v j) m + A (dltU m) i * v m)
        exact (ih (by omega) i hi).add (Cg.of_eq (Int.mul_comm _ _))
  refine (h.cg fun j hj => ?_).trans (key n (Nat.le_refl _))
  rw [if_pos hj]; exact Cg.rfl' _ _
theorem Lin.diag (p : Int) (n : Nat) (D : Nat → Int) : Lin p n fun X j => D j * X j :=
  ⟨fun h j hj => (Cg.rfl' p (D j)).mul (h j hj), fun X k Y j hj => Cg.of_eq (by simp only [lin]; grind)⟩

/-- the matrix of the product from the left -/
def lMat (p : Int) (s : Nat → Int) (n : Nat) (X : Nat → Int) (i j : Nat) : Int := mulF p s n X (dltU j) i
theorem lMat_in {p : Int} (hp : 0 < p) (s : Nat → Int) (n : Nat) (X : Nat → Int) : RowsIn p (2 ^ n) (2 ^ n) (lMat p s n X) := fun i hi j hj => mulF_in hp s n X (dltU j) (2 ^ n) i hi
theorem ann_dot {p : Int} {s : Nat → Int} {n : Nat} {X v : Nat → Int} : (∀ u, RowS (2 ^ n) (lMat p s n X) u → Cg p (dotF (2 ^ n) u v) 0) ↔ CgV p (2 ^ n) (mulF p s n X v) fun _ => 0 := by
  have h := (Lin.mulR p s n X).dot v
  constructor
  · exact fun h1 i hi => (h i hi).trans (h1 _ ⟨i, hi, rfl⟩)
  · rintro h1 u ⟨i, hi, rfl⟩
    exact (h i hi).symm.trans (h1 i hi)
/-- the annihilator, for at most three steps -/
theorem ann_size {p : Int} (hp : primeB p = true) {s : Nat → Int} {n : Nat} (hn : n ≤ 3) (hs : ∀ t, t < n → ¬ Cg p (s t) 0) {X : Nat → Int} {d : Nat} (hd : d = (kerS p (2 ^ n) (bSt p (2 ^ n) (lMat p s n X) (2 ^ n))).2) :
    (¬ Cg p (normF p s n X) 0 → d = 0) ∧ (Cg p (normF p s n X) 0 → (∃ i, i < 2 ^ n ∧ ¬ Cg p (X i) 0) → 2 * d = 2 ^ n) := by
  have hb := primeB_bd hp
  have hQ := bSt_of hp (lMat_in (p := p) (by omega) s n X)
  obtain ⟨k1, k2, c, hc⟩ := ker_of hp hQ
  have hcnt := ker_count hp hQ.red
  obtain ⟨cq, hcq⟩ := hQ.red
  obtain ⟨K, hK⟩ : ∃ K, kerS p (2 ^ n) (bSt p (2 ^ n) (lMat p s n X) (2 ^ n)) = K := ⟨_, rfl⟩
  obtain ⟨Q, hQQ⟩ : ∃ Q, bSt p (2 ^ n) (lMat p s n X) (2 ^ n) = Q := ⟨_, rfl⟩
  rw [hK] at k1 k2 hc hcnt hd
  rw [hQQ] at hQ hcnt hcq
  subst hd
  have hsol : ∀ i, i < K.2 → CgV p (2 ^ n) (mulF p s n X (K.1 i)) fun _ => 0 := fun i hi => ann_dot.1 (k2 i hi)
  refine ⟨fun h0 => ?_, fun h0 ⟨i, hi, hxi⟩ => ?_⟩
  · refine Nat.eq_zero_of_not_pos fun hpos => ?_
    have h1 := ann_zero hp hn (hsol 0 hpos) h0 (c 0) (hc.piv 0 hpos)
    rw [hc.one 0 hpos] at h1
    exact not_one (p := p) (by omega) h1
  · have hcz := cF_nz hp (s := s) n hs
    -- the annihilated lead into the rows
    have e1 : K.2 ≤ Q.2 := by
      refine diag_count hp (D := fun j => cF s n j * cs j) (fun j _ => nz_mul hp (hcz j) (cs_nz hp j)) hc hcq fun r hr => ?_
      have hb1 := ann_back hp hn (hsol r hr) (dltU i)
      have ht : ¬ Cg p (trF p s n X (dltU i)) 0 := fun e => by
        have := (tr_dlt (p := p) (s := s) hi X).symm.trans e
        exact nz_mul hp (nz_two hp (Or.inl rfl)) (nz_mul hp (hcz i) (nz_mul hp (cs_nz hp i) hxi)) this
      obtain ⟨W, hW⟩ : ∃ W, mulF p s n (conjF p (K.1 r)) (conjF p (dltU i)) = W := ⟨_, rfl⟩
      obtain ⟨t, ht0⟩ : ∃ t, trF p s n X (dltU i) = t := ⟨_, rfl⟩
      rw [hW, ht0] at hb1
      rw [ht0] at ht
      have h1 : Spn p (2 ^ n) (RowS (2 ^ n) (lMat p s n X)) fun j => cF s n j * mulF p s n W X j := by
        refine ((Lin.diag p (2 ^ n) (cF s n)).comp (Lin.mulL p s n X)).maps (S := RowS (2 ^ n) dltU) (fun u hu => ?_) (units_all W)
        obtain ⟨k, hk, rfl⟩ := hu
        exact (Spn.row (T := lMat p s n X) hk).scale (cF s n k) fun j hj => (row_is (s := s) (by omega) hk hj X).symm
      have hm := mod_bd t p (by omega)
      have hm2 : t % p ≠ 0 := fun e => ht (Cg.of_zero e)
      obtain ⟨v1, v2, v3⟩ := invM_spec hp (a := t % p) (by omega) hm.2
      obtain ⟨V, hV⟩ : ∃ V, invM p (t % p) = V := ⟨_, rfl⟩
      rw [hV] at v3
      have hVt : Cg p (V * t) 1 := by
        have : Cg p (t % p * V) 1 := by show _ % p = 1 % p; rw [v3, Int.emod_eq_of_lt (by omega) (by omega)]
        exact (Cg.of_eq (Int.mul_comm _ _)).trans (((Cg.mod' p t).mul (Cg.rfl' p V)).trans this)
      refine ((h1.scale (w := fun j => cF s n j * cs j * K.1 r j) V fun j hj => ?_)).mono fun u hu => hQ.of u hu
      have h2 := hb1 j hj
      have h3 := conj_cs p (2 ^ n) (K.1 r) j hj
      refine Cg.symm (((Cg.rfl' p V).mul ((Cg.rfl' p (cF s n j)).mul (h2.trans ((Cg.rfl' p t).mul h3)))).trans ?_)
      refine (Cg.of_eq (show V * (cF s n j * (t * (cs j * K.1 r j))) = V * t * (cF s n j * cs j * K.1 r j) by grind)).trans ((hVt.mul (Cg.rfl' p _)).trans (Cg.of_eq (Int.one_mul _)))
    -- the rows lead into what is annihilated
    have e2 : Q.2 ≤ K.2 := by
      have hI : ∀ j, ∃ v, Cg p (v * (cF s n j)) 1 := fun j => by
        have hm := mod_bd (cF s n j) p (by omega)
        have hm2 : cF s n j % p ≠ 0 := fun e => hcz j (Cg.of_zero e)
        obtain ⟨v1, v2, v3⟩ := invM_spec hp (a := cF s n j % p) (by omega) hm.2
        refine ⟨invM p (cF s n j % p), ?_⟩
        have : Cg p (cF s n j % p * invM p (cF s n j % p)) 1 := by show _ % p = 1 % p; rw [v3, Int.emod_eq_of_lt (by omega) (by omega)]
        exact (Cg.of_eq (Int.mul_comm _ _)).trans (((Cg.mod' p _).mul (Cg.rfl' p _)).trans this)
      obtain ⟨V, hV⟩ : ∃ V : Nat → Int, ∀ j, Cg p (V j * cF s n j) 1 := ⟨fun j => Classical.choose (hI j), fun j => Classical.choose_spec (hI j)⟩
      have hVz : ∀ j, ¬ Cg p (V j) 0 := fun j e => by
        have := (e.mul (Cg.rfl' p (cF s n j))).symm.trans (hV j)
        rw [Int.zero_mul] at this
        exact not_one (p := p) (by omega) this.symm
      refine diag_count hp (D := fun j => V j * cs j) (fun j _ => nz_mul hp (hVz j) (cs_nz hp j)) hcq hc fun r hr => ?_
      refine (Lin.diag p (2 ^ n) fun j => V j * cs j).maps (S := RowS (2 ^ n) (lMat p s n X)) (fun u hu => ?_) (hQ.to r hr)
      obtain ⟨k, hk, rfl⟩ := hu
      have h1 := k1 (conjF p (mulF p s n (dltU k) X)) (ann_dot.2 (ann_row hp hn h0 (dltU k)))
      refine h1.scale (V k) fun j hj => ?_
      have h2 := row_is (p := p) (s := s) (by omega) hk hj X
      have h3 := conj_cs p (2 ^ n) (mulF p s n (dltU k) X) j hj
      have h4 : Cg p (lMat p s n X k j) (V k * (cF s n j * mulF p s n (dltU k) X j)) :=
        (Cg.of_eq (Int.one_mul _).symm).trans (((hV k).symm.mul (Cg.rfl' p _)).trans ((Cg.of_eq (Int.mul_assoc _ _ _)).trans ((Cg.rfl' p (V k)).mul h2)))
      refine ((Cg.rfl' p (V j * cs j)).mul h4).trans (Cg.trans ?_ ((Cg.rfl' p (V k)).mul h3).symm)
      refine (Cg.of_eq (show V j * cs j * (V k * (cF s n j * mulF p s n (dltU k) X j)) = V j * cF s n j * (V k * (cs j * mulF p s n (dltU k) X j)) by grind)).trans (((hV j).mul (Cg.rfl' p _)).trans (Cg.of_eq (Int.one_mul _)))
    omega

end Go.Proofs.Ytnnacligfoonbaa

/-
  A doubling has only nought with the norm nought exactly if it is a division doubling. No program is in sight. No condition.
-/
set_option linter.unusedVariables false
set_option linter.unusedSimpArgs false
namespace Go.Proofs.Ytnnacligfoonbaa

theorem backK_gather {P : Nat} (hP : 0 < P) (c : Nat → Int) (lo m : Nat) {k : Nat} (hk : k < P) : backK P c lo (m + 1) k = sumF (fun a => backK P c (lo + 1) m (((k : Int) - c lo * a * a) % P).toNat) P := stepK_gather hP (c lo) _ hk
theorem backK_term {P : Nat} (hP : 0 < P) (c : Nat → Int) (lo m : Nat) {k a : Nat} (hk : k < P) (ha : a < P) : backK P c (lo + 1) m (((k : Int) - c lo * a * a) % P).toNat ≤ backK P c lo (m + 1) k := by
  have lt : ∀ x : Int, (x % P).toNat < P := fun x => by have := mod_bd x P (by omega); omega
  rw [backK_gather hP c lo m hk]
  exact sumF_le_one (f := fun a => backK P c (lo + 1) m (((k : Int) - c lo * a * a) % P).toNat) (fun j hj => (backK_bd hP c _ _ _ (lt _)).1) ha
theorem backK_nil {P : Nat} (hP : 0 < P) (c : Nat → Int) : ∀ (m lo : Nat), 1 ≤ backK P c lo m 0
  | 0, lo => by simp [backK]
  | m + 1, lo => by
    have h := backK_term hP c lo m hP hP
    have ih := backK_nil hP c m (lo + 1)
    simp at h
    omega
theorem two_squares : ∀ p ∈ [3, 5, 7, 11, 13], ∀ a ∈ List.range p, a ≠ 0 → ∀ b ∈ List.range p, b ≠ 0 → ∃ x ∈ List.range p, ∃ y ∈ List.range p, (((((p : Nat) : Int) - 1 - (((p : Nat) : Int) - (a : Nat)) * (x : Nat) * (x : Nat)) % (p : Nat)) - (((p : Nat) : Int) - (b : Nat)) * (y : Nat) * (y : Nat)) % (p : Nat) = 0 := by decide +kernel
theorem one_none : ∀ p ∈ [3, 5, 7, 11, 13], sumF (fun a => if ((((0 : Nat) : Int) - 1 * (a : Nat) * (a : Nat)) % (p : Nat)).toNat = 0 then 1 else 0) p = 1 := by decide +kernel
theorem one_step : ∀ p ∈ [3, 5, 7, 11, 13], ∀ s ∈ List.range p, s ≠ 0 →
    (sumF (fun a => sumF (fun b => if ((((((((0 : Nat) : Int) - 1 * (a : Nat) * (a : Nat)) % (p : Nat)).toNat : Nat) : Int) - (((p : Nat) : Int) - (s : Nat)) * (b : Nat) * (b : Nat)) % (p : Nat)).toNat = 0 then 1 else 0) p) p == 1) = !(decide (fst (fun x => ((x : Int) * (x : Int)) % ((p : Nat) : Int) == ((s : Nat) : Int)) p < p)) := by decide +kernel
theorem dg_first {p : Int} {s : Nat → Int} (n : Nat) : dgF p s n 0 = 1 := by
  induction n with
  | zero => rfl
  | succ n ih => unfold dgF; rw [if_pos (Nat.pow_pos (by decide))]; exact ih
theorem dg_pow {p : Int} {s : Nat → Int} {t : Nat} (h1 : 1 ≤ s t) (h2 : s t ≤ p - 1) : ∀ n, t < n → dgF p s n (2 ^ t) = p - s t
  | 0, h => absurd h (Nat.not_lt_zero _)
  | n + 1, h => by
    unfold dgF
    by_cases e : t = n
    · subst e
      rw [if_neg (Nat.lt_irrefl _), Nat.sub_self, dg_first, Int.mul_one]
      exact Int.emod_eq_of_lt (by omega) (by omega)
    · rw [if_pos (Nat.pow_lt_pow_right (by decide) (by omega))]
      exact dg_pow h1 h2 n (by omega)
theorem div_count {p : Int} (hp : primeB p = true) {n : Nat} {s : Nat → Int} (hs : ∀ t, t < n → 1 ≤ s t ∧ s t ≤ p - 1) : (cntV p n s 0 == 1) = divB p n s := by
  have hc := primeB_cases hp
  obtain ⟨P, rfl⟩ := Int.eq_ofNat_of_zero_le (show 0 ≤ p by omega)
  have hP : P ∈ [3, 5, 7, 11, 13] := by simp; omega
  have hP0 : 0 < P := by omega
  unfold cntV divB
  rw [show ((P : Nat) : Int).toNat = P from Int.toNat_natCast P]
  show (backK P (dgF (P : Int) s n) 0 (2 ^ n) 0 == 1) = _
  have h0 : dgF (P : Int) s n 0 = 1 := dg_first n
  by_cases e0 : n = 0
  · subst e0
    rw [if_pos rfl, show 2 ^ 0 = 0 + 1 from rfl, backK_gather hP0 _ _ _ hP0, h0]
    have h := one_none P hP
    rw [show (sumF (fun a => backK P (dgF (P : Int) s 0) (0 + 1) 0 ((((0 : Nat) : Int) - 1 * (a : Nat) * (a : Nat)) % (P : Nat)).toNat) P) = 1 from h]
    rfl
  · rw [if_neg e0]
    have h1 := hs 0 (by omega)
    have hd1 : dgF (P : Int) s n 1 = P - s 0 := dg_pow (t := 0) h1.1 h1.2 n (by omega)
    by_cases e1 : n = 1
    · subst e1
      rw [if_pos rfl]
      obtain ⟨S, hS⟩ := Int.eq_ofNat_of_zero_le (show 0 ≤ s 0 by omega)
      have h := one_step P hP S (by simp; omega) (by omega)
      rw [show 2 ^ 1 = 0 + 1 + 1 from rfl, backK_gather hP0 _ _ _ hP0, h0]
      have lt : ∀ x : Int, (x % P).toNat < P := fun x => by have := mod_bd x P (by omega); omega
      rw [sumF_congr (g := fun a => sumF (fun b => if ((((((((0 : Nat) : Int) - 1 * (a : Nat) * (a : Nat)) % (P : Nat)).toNat : Nat) : Int) - (((P : Nat) : Int) - (S : Nat)) * (b : Nat) * (b : Nat)) % (P : Nat)).toNat = 0 then 1 else 0) P) fun a ha => ?_]
      · rw [h, hS]; rfl
      · rw [backK_gather hP0 _ _ _ (lt _)]
        show sumF (fun b => backK P _ _ 0 ((((((((0 : Nat) : Int) - 1 * (a : Nat) * (a : Nat)) % (P : Nat)).toNat : Nat) : Int) - dgF (P : Int) s 1 1 * (b : Nat) * (b : Nat)) % (P : Nat)).toNat) P = _
        rw [hd1, hS]
        rfl
    · rw [if_neg e1]
      have h2 := hs 1 (by omega)
      have hd2 : dgF (P : Int) s n 2 = P - s 1 := dg_pow (t := 1) h2.1 h2.2 n (by omega)
      obtain ⟨S, hS⟩ := Int.eq_ofNat_of_zero_le (show 0 ≤ s 0 by omega)
      obtain ⟨S', hS'⟩ := Int.eq_ofNat_of_zero_le (show 0 ≤ s 1 by omega)
      obtain ⟨x, hx, y, hy, hxy⟩ := two_squares P hP S (by simp; omega) (by omega) S' (by simp; omega) (by omega)
      have hx : x < P := List.mem_range.1 hx
      have hy : y < P := List.mem_range.1 hy
      obtain ⟨m, hm⟩ : ∃ m, 2 ^ n = m + 1 + 1 + 1 := by
        have : 2 ^ 2 ≤ 2 ^ n := Nat.pow_le_pow_right (by decide) (by omega)
        exact ⟨2 ^ n - 3, by omega⟩
      have lt : ∀ x : Int, (x % P).toNat < P := fun x => by have := mod_bd x P (by omega); omega
      have nn : ∀ x : Int, (((x % P).toNat : Nat) : Int) = x % P := fun x => by have := mod_bd x P (by omega); omega
      -- the multiples of 1 at the first place: nought and one
      have t1 : 1 ≤ backK P (dgF (P : Int) s n) 1 (m + 1 + 1) ((((0 : Nat) : Int) - 1 * (1 : Nat) * (1 : Nat)) % (P : Nat)).toNat := by
        have a1 := backK_term hP0 (dgF (P : Int) s n) 1 (m + 1) (lt (((0 : Nat) : Int) - 1 * (1 : Nat) * (1 : Nat))) hx
        rw [nn, hd1, hS] at a1
        have a2 := backK_term hP0 (dgF (P : Int) s n) 2 m (lt ((((0 : Nat) : Int) - 1 * (1 : Nat) * (1 : Nat)) % (P : Nat) - ((P : Int) - (S : Int)) * (x : Nat) * (x : Nat))) hy
        rw [nn, hd2, hS'] at a2
        have e : (((((0 : Nat) : Int) - 1 * (1 : Nat) * (1 : Nat)) % (P : Nat) - ((P : Int) - (S : Int)) * (x : Nat) * (x : Nat)) % (P : Nat) - ((P : Int) - (S' : Int)) * (y : Nat) * (y : Nat)) % (P : Nat) = 0 := by
          have e2 : (((0 : Nat) : Int) - 1 * (1 : Nat) * (1 : Nat)) % (P : Nat) = (P : Int) - 1 := by
            rw [show (((0 : Nat) : Int) - 1 * (1 : Nat) * (1 : Nat)) = ((P : Int) - 1) + P * (-1) by omega, Int.add_mul_emod_self_left]
            exact Int.emod_eq_of_lt (by omega) (by omega)
          rw [e2]; exact hxy
        rw [e] at a2
        have a3 := backK_nil hP0 (dgF (P : Int) s n) m 3
        have a3 : 1 ≤ backK P (dgF (P : Int) s n) (2 + 1) m ((0 : Int)).toNat := a3
        exact Int.le_trans a3 (Int.le_trans a2 a1)
      have t0 := backK_nil hP0 (dgF (P : Int) s n) (m + 1 + 1) 1
      have hsum : backK P (dgF (P : Int) s n) 0 (m + 1 + 1 + 1) 0 ≠ 1 := by
        rw [backK_gather hP0 _ _ _ hP0, h0]
        intro e
        have g := sumF_upTo' (f := fun a => backK P (dgF (P : Int) s n) (0 + 1) (m + 1 + 1) ((((0 : Nat) : Int) - 1 * (a : Nat) * (a : Nat)) % (P : Nat)).toNat) (show 2 ≤ P by omega) fun i _ => (backK_bd hP0 _ _ _ _ (lt _)).1
        rw [e] at g
        have g2 : backK P (dgF (P : Int) s n) (0 + 1) (m + 1 + 1) ((((0 : Nat) : Int) - 1 * (0 : Nat) * (0 : Nat)) % (P : Nat)).toNat = backK P (dgF (P : Int) s n) 1 (m + 1 + 1) 0 := by
          have : ((((0 : Nat) : Int) - 1 * (0 : Nat) * (0 : Nat)) % (P : Nat)).toNat = 0 := by simp
          rw [this]
        simp only [sumF] at g
        rw [g2] at g
        have t1' : 1 ≤ backK P (dgF (P : Int) s n) (0 + 1) (m + 1 + 1) ((((0 : Nat) : Int) - 1 * (1 : Nat) * (1 : Nat)) % (P : Nat)).toNat := t1
        omega
      rw [hm]
      simpa using hsum

end Go.Proofs.Ytnnacligfoonbaa
